/- asm: the second line. -/
import Derived.Test.YtbdkmfcgnolihaaGreatDoorRows
import Derived.WalkKit
import Derived.WalkSpells
import Derived.WalkLawsBesides
import Derived.RegionTactic
import Derived.ChangeAlike
import Derived.BigQuiet
import Derived.Deep.QuietTactic
import Derived.StillTailTactics
import Derived.IntWalk
import Derived.Handy
import Derived.Lib.Hide
import Derived.Deep.AppendLies
import Derived.Deep.RegionWith
import Derived.Test.YtbdkmfcgnolihaaGreatDoorBase
import Derived.Test.YtbdkmfcgnolihaaGreatDoorTail
import Derived.Test.YtbdkmfcgnolihaaGreatDoorArgs
import Derived.Test.YtbdkmfcgnolihaaGreatDoorAppend
import Derived.Test.YtbdkmfcgnolihaaGreatDoorOffs
import Derived.Test.YtbdkmfcgnolihaaGreatDoorStructs
import Derived.Carry
import Derived.Deep.RegionHeld3
import Derived.BigRegion
import Derived.Maps.OwnSet
import Derived.Maps.Views
import Derived.Maps.StringElems
import Derived.Test.YtbdkmfcgnolihaaGreatDoorMaps2
import Derived.Test.YtbdkmfcgnolihaaGreatDoorAJob
namespace Go.Proofs.YtbdkmfcgnolihaaGreatDoor
set_option linter.unusedSimpArgs false
set_option linter.unnecessarySimpa false
set_option linter.unusedVariables false
open Go.RowKit
theorem Tryz.sts67 : SliceTy Tryz.prog 67 90 (.agg #[.string ⟨#[]⟩, .int .i64 0, .int .i64 0, .int .i64 0]) 4 40 := ⟨Tryz.underlying67, by kernel_rfl, by kernel_rfl, by decide⟩
theorem words_tail {w w1 : World} {b : BS} {ps : List BS} (h : Blk w1 w.heap.size 9 ((b :: ps).map fun p => .string (strB p))) : StrsAt w1 (.slice (some ⟨w.heap.size, 1, none⟩) ps.length ps.length) ps := by
  refine ⟨_, _, rfl, fun i p hp => ⟨w.heap.size, 1, rfl, h.lt, ?_⟩⟩
  rw [h.cell, List.getElem?_map, Nat.add_comm 1 i, List.getElem?_cons_succ, hp]
  rfl
theorem words_tail_all {w w1 : World} {b : BS} {ps : List BS} {bs hd : BS} (hE : Env1 w1) (hps : b :: ps = pieces 32 (Lib.trimPrefix bs hd)) (hl : bs.length ≤ 900000) (hb : Blk w1 w.heap.size 9 ((b :: ps).map fun p => .string (strB p))) :
    Calls Tryz.prog 65 #[.slice (some ⟨w.heap.size, 1, none⟩) ps.length ps.length] w1 (AllPost w1.heap.size (readInts ps) w1) := by
  have h1 := trim_short (s := bs) (p := hd)
  refine all_spec hE (words_tail hb) (fun p hp => ?_) ?_
  · have := pieces_short (c := 32) (s := Lib.trimPrefix bs hd) (p := p) (by rw [← hps]; simp [hp]); omega
  · have := pieces_len 32 (Lib.trimPrefix bs hd); rw [← hps, List.length_cons] at this; omega
theorem RdAt.args' {B R : Nat} {rest : BS} {no mn : Int} {r : AR} {fv av av' wv : Value} {ps : List (FN × Value)} {l : List Int} {w w' : World} (h : RdAt B R rest no mn r fv av wv ps w) (k : Keep [R] w w')
    (hb : Blk w' R 69 [.string (strB rest), .int .i64 no, fv, .int .i64 mn, av', .int .i64 r.fuel, .int .i64 r.tasks, wv]) (ho : OwnsAt w' B 3 1 av' l.length (l.map (.int .i64))) : RdAt B R rest no mn { r with args := l } fv av' wv ps w' :=
  ⟨hb, h.fns.blk h.blk (by decide) (by decide) k, h.fs, ho, h.wants.keep k (fun g hg hx => own_apart h.wants h.blk (by decide) (by rw [← List.mem_singleton.1 hx]; exact mem_ownD.2 hg)), h.lt, Nat.le_trans h.base k.size⟩
theorem RdAt.want {B R : Nat} {rest : BS} {no mn : Int} {r : AR} {fv av wv v7 : Value} {ps : List (FN × Value)} {t : WT} {w wA w7 w' : World} (h : RdAt B R rest no mn r fv av wv ps w) (kA : Keep [] w wA) (k7 : Keep (ownBlocks wv) wA w7)
    (ho : OwnsAt w7 B 90 4 v7 (r.wants.length + 1) (r.wants.flatMap wtC ++ wtC t)) (k : Keep [R] w7 w') (hb : Blk w7 R 69 [.string (strB rest), .int .i64 no, fv, .int .i64 mn, av, .int .i64 r.fuel, .int .i64 r.tasks, wv] → Blk w' R 69 [.string (strB rest), .int .i64 no, fv, .int .i64 mn, av, .int .i64 r.fuel, .int .i64 r.tasks, v7]) :
    RdAt B R rest no mn { r with wants := r.wants ++ [t] } fv av v7 ps w' := by
  have hA := h.keep0 kA
  have hb7 : Blk w7 R 69 [.string (strB rest), .int .i64 no, fv, .int .i64 mn, av, .int .i64 r.fuel, .int .i64 r.tasks, wv] := hA.blk.keep k7 (own_apart hA.wants hA.blk (by decide))
  have hf7 := hA.fns.other hA.wants (by decide) (by decide) k7
  have ha7 := hA.args.keep k7 (own_own hA.args hA.wants (by decide))
  refine ⟨hb hb7, hf7.blk hb7 (by decide) (by decide) k, h.fs, ha7.keep k (fun g hg hx => own_apart ha7 hb7 (by decide) (by rw [← List.mem_singleton.1 hx]; exact mem_ownD.2 hg)), ?_, h.lt, Nat.le_trans hA.base (Nat.le_trans k7.size k.size)⟩
  have h9 : OwnsAt w7 B 90 4 v7 (r.wants ++ [t]).length ((r.wants ++ [t]).flatMap wtC) := by
    rw [List.length_append, List.flatMap_append]
    simpa using ho
  exact h9.keep k (fun g hg hx => own_apart h9 hb7 (by decide) (by rw [← List.mem_singleton.1 hx]; exact mem_ownD.2 hg))
theorem below_want {B R : Nat} {rest : BS} {no mn : Int} {r : AR} {fv av wv : Value} {qs : List (FN × Value)} {w0 w wA w7 w' : World} (b0 : Below R w0 w) (h : RdAt B R rest no mn r fv av wv qs w) (kA : Keep [] w wA) (k7 : Keep (ownBlocks wv) wA w7) (k : Keep [R] w7 w') : Below R w0 w' := by
  have hR : R ≤ w.heap.size := Nat.le_trans (Nat.le_of_lt h.lt) h.base
  have b1 := Keep.below b0 kA hR (by simp)
  have b2 := Keep.below b1 k7 (Nat.le_trans hR kA.size) (fun x hx => by have := own_base h.wants x hx; have := h.lt; omega)
  exact Keep.below b2 k (Nat.le_trans (Nat.le_trans hR kA.size) k7.size) (fun x hx => by rw [List.mem_singleton.1 hx]; exact Nat.le_refl _)
theorem OwnsAt.low {w : World} {B B' : Nat} {e : TypeId} {size n : Nat} {v : Value} {xs : List Value} (h : OwnsAt w B e size v n xs) (hB : B' ≤ B) : OwnsAt w B' e size v n xs := by
  obtain ⟨h1, h2⟩ := h
  refine ⟨h1, ?_⟩
  rcases h2 with h2 | ⟨g, off, cap, cur, h3, h4, h5⟩
  · exact Or.inl h2
  · exact Or.inr ⟨g, off, cap, cur, h3, Nat.le_trans hB h4, h5⟩
theorem words_nil_all {w w1 : World} {b : BS} (hE : Env1 w1) (_hb : Blk w1 w.heap.size 9 ([b].map fun p => .string (strB p))) :
    Calls Tryz.prog 65 #[.slice (some ⟨w.heap.size, 0, none⟩) 0 0] w1 (AllPost w1.heap.size (readInts []) w1) := by
  refine all_spec hE (ps := []) ?_ (by simp) (by simp)
  exact ⟨_, _, rfl, fun i p hp => by cases hp⟩
theorem cell_lt {w : World} {p : Addr} {v : Value} (h : w.cell? p = some v) : p.block < w.heap.size := by
  rcases Nat.lt_or_ge p.block w.heap.size with h1 | h1
  · exact h1
  · simp [World.cell?, Array.getElem?_eq_none h1] at h
theorem want_end {B R n : Nat} {rest : BS} {r : AR} {res : Option AR} {fv av wv v7 : Value} {qs : List (FN × Value)} {t : WT} {w w4 wA w5 : World} (hres : res = some { r with wants := r.wants ++ [t] }) (b0 : Below R w w4) (h : RdAt B R rest n 0 r fv av wv qs w4) (kA : Keep [] w4 wA) (k5 : Keep (ownBlocks wv) wA w5)
    (ho : OwnsAt w5 B 90 4 v7 (r.wants.length + 1) (r.wants.flatMap wtC ++ wtC t)) : LinePost B R rest n res w (.returned (.bool true)) (w5.setCell ⟨R, 7, none⟩ v7) := by
  have k : Keep [R] w5 (w5.setCell ⟨R, 7, none⟩ v7) := (Keep.refl _ _).setCell (by simp) _
  exact LinePost.yes hres rfl (below_want b0 h kA k5 k) (h.want kA k5 ho k (fun hb => hb.set_ 7 v7))
set_option maxHeartbeats 3200000 in
set_option maxRecDepth 100000 in
theorem main_spec {B R n : Nat} {rest : BS} {r : AR} {fv av wv : Value} {qs : List (FN × Value)} {w : World} (hE : Env1 w) (H : RdAt B R rest n 0 r fv av wv qs w) (bs : BS) (hl : bs.length ≤ 900000) (hw1 : r.wants.length ≤ 1000000) :
    Calls Tryz.prog 45 #[.pointer (some ⟨R, 0, none⟩), .string (strB bs)] w (LinePost B R rest n (mainR n (pieces 32 bs) r) w) := by
  obtain ⟨res, hres⟩ : ∃ res, res = mainR n (pieces 32 bs) r := ⟨_, rfl⟩
  rw [← hres]
  obtain ⟨b, ps, hps⟩ : ∃ b ps, b :: ps = pieces 32 (Lib.trimPrefix bs (wMain ++ [32])) := by
    obtain ⟨b, ps, e⟩ := List.exists_cons_of_ne_nil (pieces_ne 32 (Lib.trimPrefix bs (wMain ++ [32])))
    exact ⟨b, ps, e.symm⟩
  obtain ⟨bp, hbp⟩ : ∃ bp, bp = Lib.hasPrefix bs (wMain ++ [32]) := ⟨_, rfl⟩
  obtain ⟨ri, hri⟩ : ∃ ri, ri = readInts ps := ⟨_, rfl⟩
  have hw := words_spec hE.env bs (wMain ++ [32]) (by omega)
  rw [← hps, ← hbp] at hw
  have HW := Lib.hid (show Calls Tryz.prog 64 #[.string (strB bs), .string ⟨#[109, 97, 105, 110, 32]⟩] w (WordsPost (b :: ps) bp w) from hw)
  have hbl : b.length ≤ 1000000 := by
    have h1 := trim_short (s := bs) (p := wMain ++ [32])
    have := pieces_short (c := 32) (s := Lib.trimPrefix bs (wMain ++ [32])) (p := b) (by rw [← hps]; simp)
    omega
  have HT := Lib.hid (show ∀ w1, Env1 w1 → Blk w1 w.heap.size 9 ((b :: ps).map fun p => .string (strB p)) → Calls Tryz.prog 65 #[.slice (some ⟨w.heap.size, 1, none⟩) ps.length ps.length] w1 (AllPost w1.heap.size ri w1) ∧ (ps = [] → Calls Tryz.prog 65 #[.slice (some ⟨w.heap.size, 0, none⟩) 0 0] w1 (AllPost w1.heap.size ri w1)) from fun w1 h1 h2 => ⟨by rw [hri]; exact words_tail_all h1 hps hl h2, fun hnil => by subst hnil; rw [hri]; exact words_nil_all h1 h2⟩)
  have hf : bp = false → res = none := fun e => by rw [hres]; exact main_no (by rw [← hbp]; exact e)
  have ht : bp = true → res = mainR2 n b ri r := fun e => by rw [hres, hri]; exact main_yes (by rw [← hbp]; exact e) hps.symm
  have HA := Lib.hid (And.intro hE (And.intro H (And.intro hw1 (And.intro hbl (And.intro hf ht)))))
  clear hE hl H hres hw hps hbp hbl hw1 hf ht hri
  go_enter Tryz.func45, Tryz.ntmps45
  go_wp2_with fail
  refine HW.out.mono ?_
  rintro e w1 ⟨rfl, hb1, hk1, hz1⟩
  rw [List.length_cons]
  have H1 := Lib.hid (And.intro hb1 hk1)
  clear hb1 hk1 hz1
  go_wp2_with fail
  all_goals
    with_reducible first
      | refine ((HT.out _ (HA.out.1.keep H1.out.2) H1.out.1).1).mono ?_
      | refine ((HT.out _ (HA.out.1.keep H1.out.2) H1.out.1).2 (by assumption)).mono ?_
    rintro e w2 ⟨hk2, hm⟩
    have H2 := Lib.hid (H1.out.2.trans hk2 (by simp))
    have hc0 : w2.cell? ⟨w.heap.size, 0, none⟩ = some (.string (strB b)) := cell_keep0 hk2 (H1.out.1.cell 0)
    clear hk2 HT HW
    cases bp with
    | false =>
      have HN := Lib.hid (HA.out.2.2.2.2.1 rfl)
      cases ri with
      | none =>
        obtain rfl := hm
        go_wp2
        go_ret
        exact LinePost.no HN.out rfl H2.out
      | some l =>
        obtain ⟨v, rfl, ho⟩ := hm
        clear ho
        go_wp2
        go_ret
        exact LinePost.no HN.out rfl H2.out
    | true =>
      have HM := Lib.hid (HA.out.2.2.2.2.2 rfl)
      cases ri with
      | none =>
        obtain rfl := hm
        go_wp2
        go_ret
        exact LinePost.no HM.out rfl H2.out
      | some l =>
        obtain ⟨v, rfl, ho⟩ := hm
        obtain ⟨a, c, rfl⟩ := ho.shape
        have HO := Lib.hid ho
        clear ho
        go_wp2_with fail
        refine (named_spec _ b HA.out.2.2.2.1).mono ?_
        rintro e w3 ⟨rfl, hk3⟩
        have H3 := Lib.hid (And.intro hk3 (H2.out.trans hk3 (by simp)))
        have hc3 : w3.cell? ⟨w.heap.size, 0, none⟩ = some (.string (strB b)) := cell_keep0 hk3 hc0
        clear hk3 hc0
        by_cases hn : nameL b = true
        · rw [hn]
          by_cases h8 : l.length ≤ 8
          · have HN := Lib.hid (show res = some { r with args := l, wants := r.wants ++ [⟨b, n, none⟩] } by rw [HM.out]; unfold mainR2; exact if_pos ⟨hn, h8⟩)
            have h8I : (l.length : Int) ≤ 8 := by omega
            have HR3 := Lib.hid (HA.out.2.1.keep0 H3.out.2)
            have zb := HR3.out.blk
            have z4 : w3.cell? ⟨R, 4, none⟩ = some av := zb.cell 4
            have zf : ∀ i, w3.frozen? ⟨R, i, none⟩ = false := fun i => zb.frozen i
            clear hn h8 zb
            go_upto_region 6 with fail
            have k4 : Keep [R] w3 (w3.setCell ⟨R, 4, none⟩ (.slice a l.length c)) := (Keep.refl _ _).setCell (by simp) _
            have ho3 : OwnsAt w3 B 3 1 (.slice a l.length c) l.length (l.map (.int .i64)) := (HO.out.low (Nat.le_trans HA.out.2.1.base H1.out.2.size)).keep H3.out.1 (by simp)
            have H4 := Lib.hid (And.intro (HR3.out.args' k4 (HR3.out.blk.set_ 4 _) (ho3.keep k4 (fun g hg hx => own_apart ho3 HR3.out.blk (by decide) (by rw [← List.mem_singleton.1 hx]; exact mem_ownD.2 hg)))) (below_on HA.out.2.1 H3.out.2 k4))
            have hne : w.heap.size ≠ R := by have := HA.out.2.1.lt; have := HA.out.2.1.base; omega
            have hlt3 : w.heap.size < w3.heap.size := by have := H1.out.1.lt; have := H2.out.size; have := H3.out.1.size; have := (H3.out.2).size; exact Nat.lt_of_lt_of_le (cell_lt hc3) (Nat.le_refl _)
            have c4 : (w3.setCell ⟨R, 4, none⟩ (.slice a l.length c)).cell? ⟨w.heap.size, 0, none⟩ = some (.string (strB b)) := (k4.cell (p := ⟨w.heap.size, 0, none⟩) hlt3 (by simpa using hne)).trans hc3
            clear k4 ho3 hne hlt3 hc3 z4 zf HR3 HO
            generalize w3.setCell ⟨R, 4, none⟩ (.slice a l.length c) = w4 at *
            have hwl := HA.out.2.2.1
            obtain ⟨aw, cw, hwv⟩ := H4.out.1.wants.shape
            have hwv : wv = .slice aw r.wants.length cw := hwv
            subst hwv
            have zb := H4.out.1.blk
            have z1 : w4.cell? ⟨R, 1, none⟩ = some (.int .i64 n) := zb.cell 1
            have z7 : w4.cell? ⟨R, 7, none⟩ = some (.slice aw r.wants.length cw) := zb.cell 7
            have zf : ∀ i, w4.frozen? ⟨R, i, none⟩ = false := fun i => zb.frozen i
            have hRw : R < w4.heap.size := zb.lt
            have kA : Keep [] w4 ((w4.alloc (.cells #[.string (strB b), .int .i64 n, .int .i64 0, .int .i64 (-1)] 90)).drew) := ((Keep.refl [] w4).alloc _).drew
            have HX := Lib.hid (And.intro (H4.out.1.wants.keep kA (by simp)) (And.intro (src_lit w4 #[.string (strB b), .int .i64 n, .int .i64 0, .int .i64 (-1)] [.string (strB b), .int .i64 n, .int .i64 0, .int .i64 (-1)] 90 4 1 rfl rfl) (And.intro kA (zb.keep kA (by simp)))))
            clear zb kA
            go_wp2_with fail
            go_region_law (refine step_append_off rfl (.tmp 47) (.tmp 57) rfl Tryz.sts67 B (.slice aw r.wants.length cw) r.wants.length (r.wants.flatMap wtC) (by simp [Act.eval, Act.put]) HX.out.1 (.slice (some ⟨w4.heap.size, 0, none⟩) 1 1) 1 [.string (strB b), .int .i64 n, .int .i64 0, .int .i64 (-1)] (by simp [Act.eval, Act.put]) HX.out.2.1 (by simp [Value.oneCell']) (by unfold maxLen; omega) (by omega) (Nat.le_trans H4.out.1.base HX.out.2.2.1.size) ?_; intro v' w5 hown5 hk5 hat5; obtain ⟨a5, c5, rfl⟩ := hown5.shape; have hs5 := HX.out.2.2.2.keep hk5 (own_apart HX.out.1 HX.out.2.2.2 (by decide)); have y7 : w5.cell? ⟨R, 7, none⟩ = some (.slice aw r.wants.length cw) := hs5.cell 7; have yf : ∀ i, w5.frozen? ⟨R, i, none⟩ = false := fun i => hs5.frozen i; have G := Lib.hid (And.intro hown5 (And.intro hk5 hs5)); clear hown5 hk5 hat5 hs5)
            all_goals
              go_wp2
              go_ret
              exact want_end (t := ⟨b, n, none⟩) HN.out H4.out.2 H4.out.1 HX.out.2.2.1 G.out.2.1 G.out.1
          · have h8I : (8 : Int) < (l.length : Int) := by omega
            have HN := Lib.hid (show res = none by rw [HM.out]; unfold mainR2; exact if_neg (fun h => h8 h.2))
            clear hn h8
            go_wp2
            go_ret
            exact LinePost.no HN.out rfl H3.out.2
        · have hn' : nameL b = false := by simpa using hn
          rw [hn']
          have HN := Lib.hid (show res = none by rw [HM.out]; unfold mainR2; exact if_neg (fun h => hn h.1))
          clear hn hn'
          go_wp2
          go_ret
          exact LinePost.no HN.out rfl H3.out.2
end Go.Proofs.YtbdkmfcgnolihaaGreatDoor
