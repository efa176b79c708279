/- asm: a function's first line. -/
import Derived.Test.YtbdkmfcgnolihaaGreatDoorRows
import Derived.WalkKit
import Derived.WalkSpells
import Derived.WalkLawsBesides
import Derived.RegionTactic
import Derived.ChangeAlike
import Derived.BigQuiet
import Derived.Deep.QuietTactic
import Derived.StillTailTactics
import Derived.IntWalk
import Derived.Handy
import Derived.Lib.Hide
import Derived.Deep.AppendLies
import Derived.Deep.RegionWith
import Derived.Test.YtbdkmfcgnolihaaGreatDoorBase
import Derived.Test.YtbdkmfcgnolihaaGreatDoorTail
import Derived.Test.YtbdkmfcgnolihaaGreatDoorArgs
import Derived.Test.YtbdkmfcgnolihaaGreatDoorAppend
import Derived.Test.YtbdkmfcgnolihaaGreatDoorOffs
import Derived.Test.YtbdkmfcgnolihaaGreatDoorStructs
import Derived.Carry
import Derived.Deep.RegionHeld3
import Derived.BigRegion
import Derived.Maps.OwnSet
import Derived.Maps.Views
import Derived.Maps.StringElems
import Derived.Test.YtbdkmfcgnolihaaGreatDoorMaps2
import Derived.Test.YtbdkmfcgnolihaaGreatDoorAFind
namespace Go.Proofs.YtbdkmfcgnolihaaGreatDoor
set_option linter.unusedSimpArgs false
set_option linter.unnecessarySimpa false
set_option linter.unusedVariables false
open Go.RowKit
theorem Tryz.sts22 : SliceTy Tryz.prog 22 36 (.agg #[.string ⟨#[]⟩, .int .i64 0, .int .i64 0, .slice none 0 0]) 4 56 := ⟨Tryz.underlying22, by kernel_rfl, by kernel_rfl, by decide⟩
theorem findI_lt {fs : List FN} {nm : BS} : (0 ≤ findI fs nm) ↔ ¬ ∀ f ∈ fs, f.name ≠ nm := by
  unfold findI
  cases h : findF fs nm with
  | some k =>
    unfold findF at h
    rw [List.findIdx?_eq_some_iff_getElem] at h
    obtain ⟨hl, h1, _⟩ := h
    refine ⟨fun _ hall => hall _ (List.getElem_mem hl) (by simpa using h1), fun _ => ?_⟩
    show (0 : Int) ≤ (k : Int)
    omega
  | none =>
    unfold findF at h
    rw [List.findIdx?_eq_none_iff] at h
    refine ⟨fun h9 => ?_, fun h9 => absurd (fun f hf => by simpa using h f hf) h9⟩
    change (0 : Int) ≤ -1 at h9
    omega
theorem RdAt.func {B R : Nat} {rest : BS} {no mn : Int} {r : AR} {fv av wv v7 : Value} {ps : List (FN × Value)} {b : BS} {x y : Int} {w wA w7 w' : World} (h : RdAt B R rest no mn r fv av wv ps w) (kA : Keep [] w wA) (k7 : Keep (ownBlocks fv) wA w7)
    (ho : OwnsAt w7 B 36 4 v7 (ps.length + 1) (ps.flatMap fnP ++ fnC ⟨b, x, y, []⟩ (.slice none 0 0))) (k : Keep [R] w7 w') (hb : Blk w7 R 69 [.string (strB rest), .int .i64 no, fv, .int .i64 mn, av, .int .i64 r.fuel, .int .i64 r.tasks, wv] → Blk w' R 69 [.string (strB rest), .int .i64 no, v7, .int .i64 mn, av, .int .i64 r.fuel, .int .i64 r.tasks, wv]) :
    RdAt B R rest no mn { r with funcs := r.funcs ++ [⟨b, x, y, []⟩] } v7 av wv (ps ++ [(⟨b, x, y, []⟩, .slice none 0 0)]) w' := by
  have hA := h.keep0 kA
  have hb7 : Blk w7 R 69 [.string (strB rest), .int .i64 no, fv, .int .i64 mn, av, .int .i64 r.fuel, .int .i64 r.tasks, wv] := hA.blk.keep k7 (own_apart hA.fns.own hA.blk (by decide))
  have hf7 : FnsAt B w7 v7 (ps ++ [(⟨b, x, y, []⟩, .slice none 0 0)]) := hA.fns.push rfl k7 ho
  have ha7 := hA.args.keep k7 (own_own hA.args hA.fns.own (by decide))
  have hw7 := hA.wants.keep k7 (own_own hA.wants hA.fns.own (by decide))
  exact ⟨hb hb7, hf7.blk hb7 (by decide) (by decide) k, by simp [h.fs], ha7.keep k (fun g hg hx => own_apart ha7 hb7 (by decide) (by rw [← List.mem_singleton.1 hx]; exact mem_ownD.2 hg)), hw7.keep k (fun g hg hx => own_apart hw7 hb7 (by decide) (by rw [← List.mem_singleton.1 hx]; exact mem_ownD.2 hg)), h.lt, Nat.le_trans hA.base (Nat.le_trans k7.size k.size)⟩
theorem func_end {B R n : Nat} {rest : BS} {r : AR} {res : Option AR} {fv av wv v7 : Value} {qs : List (FN × Value)} {b : BS} {x y : Int} {w w4 wA w5 : World} (hres : res = some { r with funcs := r.funcs ++ [⟨b, x, y, []⟩] }) (k0 : Keep [] w w4) (h : RdAt B R rest n 0 r fv av wv qs w4) (hR : R ≤ w.heap.size) (kA : Keep [] w4 wA) (k5 : Keep (ownBlocks fv) wA w5)
    (ho : OwnsAt w5 B 36 4 v7 (qs.length + 1) (qs.flatMap fnP ++ fnC ⟨b, x, y, []⟩ (.slice none 0 0))) : LinePost B R rest n res w (.returned (.bool true)) (w5.setCell ⟨R, 2, none⟩ v7) := by
  have k : Keep [R] w5 (w5.setCell ⟨R, 2, none⟩ v7) := (Keep.refl _ _).setCell (by simp) _
  have b0 := keep_below0 k0 hR
  have hR4 : R ≤ w4.heap.size := Nat.le_trans hR k0.size
  have b1 := Keep.below b0 kA hR4 (by simp)
  have b2 := Keep.below b1 k5 (Nat.le_trans hR4 kA.size) (fun x hx => by have := own_base h.fns.own x hx; have := h.lt; omega)
  have b3 := Keep.below b2 k (Nat.le_trans (Nat.le_trans hR4 kA.size) k5.size) (fun x hx => by rw [List.mem_singleton.1 hx]; exact Nat.le_refl _)
  exact LinePost.yes hres rfl b3 (h.func kA k5 ho k (fun hb => hb.set_ 2 v7))
set_option maxHeartbeats 6400000 in
set_option maxRecDepth 100000 in
theorem function_spec {B R n : Nat} {rest : BS} {r : AR} {fv av wv : Value} {qs : List (FN × Value)} {w : World} (hE : Env1 w) (H : RdAt B R rest n 0 r fv av wv qs w) (hr : ARok r) (bs : BS) (hl : bs.length ≤ 900000) :
    Calls Tryz.prog 67 #[.pointer (some ⟨R, 0, none⟩), .string (strB bs)] w (LinePost B R rest n (funcR (pieces 32 bs) r) w) := by
  obtain ⟨res, hres⟩ : ∃ res, res = funcR (pieces 32 bs) r := ⟨_, rfl⟩
  rw [← hres]
  obtain ⟨b, ps, hps⟩ : ∃ b ps, b :: ps = pieces 32 (Lib.trimPrefix bs (wFunc ++ [32])) := by
    obtain ⟨b, ps, e⟩ := List.exists_cons_of_ne_nil (pieces_ne 32 (Lib.trimPrefix bs (wFunc ++ [32])))
    exact ⟨b, ps, e.symm⟩
  obtain ⟨bp, hbp⟩ : ∃ bp, bp = Lib.hasPrefix bs (wFunc ++ [32]) := ⟨_, rfl⟩
  obtain ⟨ri, hri⟩ : ∃ ri, ri = readInts ps := ⟨_, rfl⟩
  have hw := words_spec hE.env bs (wFunc ++ [32]) (by omega)
  rw [← hps, ← hbp] at hw
  have HW := Lib.hid (show Calls Tryz.prog 64 #[.string (strB bs), .string ⟨#[102, 117, 110, 99, 32]⟩] w (WordsPost (b :: ps) bp w) from hw)
  have hbl : b.length ≤ 1000000 := by
    have h1 := trim_short (s := bs) (p := wFunc ++ [32])
    have := pieces_short (c := 32) (s := Lib.trimPrefix bs (wFunc ++ [32])) (p := b) (by rw [← hps]; simp)
    omega
  have HT := Lib.hid (show ∀ w1, Env1 w1 → Blk w1 w.heap.size 9 ((b :: ps).map fun p => .string (strB p)) → Calls Tryz.prog 65 #[.slice (some ⟨w.heap.size, 1, none⟩) ps.length ps.length] w1 (AllPost w1.heap.size ri w1) ∧ (ps = [] → Calls Tryz.prog 65 #[.slice (some ⟨w.heap.size, 0, none⟩) 0 0] w1 (AllPost w1.heap.size ri w1)) from fun w1 h1 h2 => ⟨by rw [hri]; exact words_tail_all h1 hps hl h2, fun hnil => by subst hnil; rw [hri]; exact words_nil_all h1 h2⟩)
  have hf : bp = false → res = none := fun e => by rw [hres]; exact func_no (by rw [← hbp]; exact e)
  have ht : bp = true → res = funcR2 b ri r := fun e => by rw [hres, hri]; exact func_yes (by rw [← hbp]; exact e) hps.symm
  have hR : R ≤ w.heap.size := Nat.le_trans (Nat.le_of_lt H.lt) H.base
  have HA := Lib.hid (And.intro hE (And.intro H (And.intro hR (And.intro hbl (And.intro hf (And.intro ht hr))))))
  have hq : qs.length ≤ 32 := by have := hr.few; rw [H.fs, List.length_map] at this; exact this
  have hqI : (qs.length : Int) ≤ 32 := by omega
  obtain ⟨aq, cq, ha⟩ := H.fns.own.shape
  subst ha
  clear hE hl H hres hw hps hbp hbl hf ht hri hr hR
  go_enter Tryz.func67, Tryz.ntmps67
  go_wp2_with fail
  refine HW.out.mono ?_
  rintro e w1 ⟨rfl, hb1, hk1, hz1⟩
  rw [List.length_cons]
  have H1 := Lib.hid (And.intro hb1 hk1)
  clear hb1 hk1 hz1
  go_wp2_with fail
  all_goals
    with_reducible first
      | refine ((HT.out _ (HA.out.1.keep H1.out.2) H1.out.1).1).mono ?_
      | refine ((HT.out _ (HA.out.1.keep H1.out.2) H1.out.1).2 (by assumption)).mono ?_
    rintro e w2 ⟨hk2, hm⟩
    have H2 := Lib.hid (H1.out.2.trans hk2 (by simp))
    have hc0 : w2.cell? ⟨w.heap.size, 0, none⟩ = some (.string (strB b)) := cell_keep0 hk2 (H1.out.1.cell 0)
    clear hk2 HT HW
    cases bp with
    | false =>
      have HN := Lib.hid (HA.out.2.2.2.2.1 rfl)
      cases ri with
      | none =>
        obtain rfl := hm
        go_wp2
        go_ret
        exact LinePost.no HN.out rfl H2.out
      | some l =>
        obtain ⟨v, rfl, ho⟩ := hm
        clear ho
        go_wp2
        go_ret
        exact LinePost.no HN.out rfl H2.out
    | true =>
      have HM := Lib.hid (HA.out.2.2.2.2.2.1 rfl)
      cases ri with
      | none =>
        obtain rfl := hm
        go_wp2
        go_ret
        exact LinePost.no HM.out rfl H2.out
      | some l =>
        obtain ⟨v, rfl, ho⟩ := hm
        have HO := Lib.hid ho
        obtain ⟨a, c, rfl⟩ := ho.shape
        clear ho
        go_wp2_with fail
        refine (named_spec _ b HA.out.2.2.2.1).mono ?_
        rintro e w3 ⟨rfl, hk3⟩
        have H3 := Lib.hid (And.intro hk3 (H2.out.trans hk3 (by simp)))
        have hc3 : w3.cell? ⟨w.heap.size, 0, none⟩ = some (.string (strB b)) := cell_keep0 hk3 hc0
        clear hk3 hc0
        by_cases hn : nameL b = true
        · rw [hn]
          by_cases hl2 : l.length = 2
          · obtain ⟨x, y, rfl⟩ : ∃ x y, l = [x, y] := by
              match l with
              | [x, y] => exact ⟨x, y, rfl⟩
              | [] => simp at hl2
              | [x] => simp at hl2
              | x :: y :: z :: l => simp at hl2
            have HR3 := Lib.hid (HA.out.2.1.keep0 H3.out.2)
            have z2 : w3.cell? ⟨R, 2, none⟩ = some (.slice aq qs.length cq) := HR3.out.blk.cell 2
            by_cases h32 : qs.length = 32
            · have HN := Lib.hid (show res = none by rw [HM.out]; unfold funcR2; exact if_neg (fun h => by have := h.2.1; rw [HA.out.2.1.fs, List.length_map] at this; omega))
              have h32I : ((qs.length : Int) == 32) = true := by simp; omega
              clear hn hl2 h32 hq hqI
              go_wp2
              go_ret
              exact LinePost.no HN.out rfl H3.out.2
            · have h32I : ((qs.length : Int) == 32) = false := by simp; omega
              have hlt32 := Lib.hid (show qs.length < 32 by omega)
              clear h32 hq hqI
              go_wp2_with fail
              refine (find_spec HR3.out HA.out.2.2.2.2.2.2 b).mono ?_
              rintro e w4 ⟨rfl, hk4⟩
              have H4 := Lib.hid (H3.out.2.trans hk4 (by simp))
              have hk24 := Lib.hid (H3.out.1.trans hk4 (by simp))
              have hc4 : w4.cell? ⟨w.heap.size, 0, none⟩ = some (.string (strB b)) := cell_keep0 hk4 hc3
              by_cases hfd : ∀ f ∈ r.funcs, f.name ≠ b
              · have hlo : findI r.funcs b < 0 := by have := (findI_lt (fs := r.funcs) (nm := b)); have h9 : ¬ 0 ≤ findI r.funcs b := fun h => this.1 h hfd; omega
                have HN := Lib.hid (show res = some { r with funcs := r.funcs ++ [⟨b, x, y, []⟩] } by rw [HM.out]; unfold funcR2; exact if_pos ⟨hn, by rw [HA.out.2.1.fs, List.length_map]; exact hlt32.out, hfd⟩)
                clear hn hl2 hfd hk4 hc3
                generalize findI r.funcs b = fi at *
                obtain ⟨g, off, c', hv, d0, d1, hg⟩ := get_pair (HO.out.keep hk24.out (by simp))
                injection hv with e1 e2 e3
                subst e1
                have HR4 := Lib.hid (HA.out.2.1.keep0 H4.out)
                have zb := HR4.out.blk
                have z2 : w4.cell? ⟨R, 2, none⟩ = some (.slice aq qs.length cq) := zb.cell 2
                have zf : ∀ i, w4.frozen? ⟨R, i, none⟩ = false := fun i => zb.frozen i
                have hRw : R < w4.heap.size := zb.lt
                have kA : Keep [] w4 ((w4.alloc (.cells #[.string (strB b), .int .i64 x, .int .i64 y, .slice none 0 0] 36)).drew) := ((Keep.refl [] w4).alloc _).drew
                have HX := Lib.hid (And.intro (HR4.out.fns.own.keep kA (by simp)) (And.intro (src_lit w4 #[.string (strB b), .int .i64 x, .int .i64 y, .slice none 0 0] [.string (strB b), .int .i64 x, .int .i64 y, .slice none 0 0] 36 4 1 rfl rfl) (And.intro kA (zb.keep kA (by simp)))))
                have hq32 := hlt32.out
                clear zb kA e2 e3 hg
                go_upto_region 5 with fail
                go_wp2_with fail
                go_region_law (refine step_append_off rfl (.tmp 60) (.tmp 71) rfl Tryz.sts22 B (.slice aq qs.length cq) qs.length (qs.flatMap fnP) (by simp [Act.eval, Act.put]) HX.out.1 (.slice (some ⟨w4.heap.size, 0, none⟩) 1 1) 1 [.string (strB b), .int .i64 x, .int .i64 y, .slice none 0 0] (by simp [Act.eval, Act.put]) HX.out.2.1 (by simp [Value.oneCell']) (by unfold maxLen; omega) (by omega) (Nat.le_trans HR4.out.base HX.out.2.2.1.size) ?_; intro v' w5 hown5 hk5 hat5; obtain ⟨a5, c5, rfl⟩ := hown5.shape; have hs5 := HX.out.2.2.2.keep hk5 (own_apart HX.out.1 HX.out.2.2.2 (by decide)); have y2 : w5.cell? ⟨R, 2, none⟩ = some (.slice aq qs.length cq) := hs5.cell 2; have yf : ∀ i, w5.frozen? ⟨R, i, none⟩ = false := fun i => hs5.frozen i; have G := Lib.hid (And.intro hown5 (And.intro hk5 hs5)); clear hown5 hk5 hat5 hs5)
                all_goals
                  go_wp2
                  go_ret
                  exact func_end (b := b) (x := x) (y := y) HN.out H4.out HR4.out HA.out.2.2.1 HX.out.2.2.1 G.out.2.1 G.out.1
              · have hlo : 0 ≤ findI r.funcs b := findI_lt.2 hfd
                have HN := Lib.hid (show res = none by rw [HM.out]; unfold funcR2; exact if_neg (fun h => hfd h.2.2))
                clear hn hl2 hfd hk4 hc3
                generalize findI r.funcs b = fi at *
                go_wp2
                go_ret
                exact LinePost.no HN.out rfl H4.out
          · have hne : ((l.length : Int) == 2) = false := by simp; omega
            have HN := Lib.hid (show res = none by
              rw [HM.out]
              match l with
              | [x, y] => simp at hl2
              | [] => rfl
              | [x] => rfl
              | x :: y :: z :: l => rfl)
            clear hn
            go_wp2
            go_ret
            exact LinePost.no HN.out rfl H3.out.2
        · have hn' : nameL b = false := by simpa using hn
          rw [hn']
          have HN := Lib.hid (show res = none by
            rw [HM.out]
            unfold funcR2
            split
            · exact if_neg (fun h => hn h.1)
            · rfl)
          clear hn hn'
          go_wp2
          go_ret
          exact LinePost.no HN.out rfl H3.out.2
end Go.Proofs.YtbdkmfcgnolihaaGreatDoor
