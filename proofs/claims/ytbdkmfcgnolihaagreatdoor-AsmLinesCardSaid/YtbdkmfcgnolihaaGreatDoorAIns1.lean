/- asm: an instruction's line: a word alone, a number. -/
import Derived.Test.YtbdkmfcgnolihaaGreatDoorRows
import Derived.WalkKit
import Derived.WalkSpells
import Derived.WalkLawsBesides
import Derived.RegionTactic
import Derived.ChangeAlike
import Derived.BigQuiet
import Derived.Deep.QuietTactic
import Derived.StillTailTactics
import Derived.IntWalk
import Derived.Handy
import Derived.Lib.Hide
import Derived.Deep.AppendLies
import Derived.Deep.RegionWith
import Derived.Test.YtbdkmfcgnolihaaGreatDoorBase
import Derived.Test.YtbdkmfcgnolihaaGreatDoorTail
import Derived.Test.YtbdkmfcgnolihaaGreatDoorArgs
import Derived.Test.YtbdkmfcgnolihaaGreatDoorAppend
import Derived.Test.YtbdkmfcgnolihaaGreatDoorOffs
import Derived.Test.YtbdkmfcgnolihaaGreatDoorStructs
import Derived.Carry
import Derived.Deep.RegionHeld3
import Derived.BigRegion
import Derived.Maps.OwnSet
import Derived.Maps.Views
import Derived.Maps.StringElems
import Derived.Test.YtbdkmfcgnolihaaGreatDoorMaps2
import Derived.Deep.CutRange
import Derived.Test.YtbdkmfcgnolihaaGreatDoorAFunc
namespace Go.Proofs.YtbdkmfcgnolihaaGreatDoor
set_option linter.unusedSimpArgs false
set_option linter.unnecessarySimpa false
set_option linter.unusedVariables false
open Go.RowKit
theorem Tryz.sts34 : SliceTy Tryz.prog 34 47 (.agg #[.int .i64 0, .int .i64 0]) 2 16 := ⟨Tryz.underlying34, by kernel_rfl, by kernel_rfl, by decide⟩
theorem RdAt.code {B R k g off n cap : Nat} {rest : BS} {no mn : Int} {r : AR} {av wv v7 cv : Value} {ps : List (FN × Value)} {f : FN} {i : IN} {w wA w7 : World} (h : RdAt B R rest no mn r (.slice (some ⟨g, off, none⟩) n cap) av wv ps w) (hk : ps[k]? = some (f, cv)) (hlast : ps.length = k + 1) (kA : Keep [] w wA) (k7 : Keep (ownBlocks cv) wA w7)
    (ho : OwnsAt w7 B 47 2 v7 (f.code.length + 1) (f.code.flatMap inC ++ inC i)) (hat : v7.ownBlock = cv.ownBlock ∨ v7.ownBlock = some wA.heap.size) :
    RdAt B R rest no mn { r with funcs := addI r.funcs i } (.slice (some ⟨g, off, none⟩) n cap) av wv (ps.set k ({ f with code := f.code ++ [i] }, v7)) (w7.setCell ⟨g, off + k * 4 + 3, none⟩ v7) ∧ Keep (ownBlocks cv ++ [g]) wA (w7.setCell ⟨g, off + k * 4 + 3, none⟩ v7) := by
  have hA := h.keep0 kA
  have hcode := hA.fns.code k _ hk
  have hb7 := hA.blk.keep k7 (own_apart hcode hA.blk (by decide))
  have ha7 := hA.args.keep k7 (own_own hA.args hcode (by decide))
  have hw7 := hA.wants.keep k7 (own_own hA.wants hcode (by decide))
  have hf7 := hA.fns.own.keep k7 (own_own hA.fns.own hcode (by decide))
  have hgB : B ≤ g := (hf7.lt g rfl).1
  have kS : Keep [g] w7 (w7.setCell ⟨g, off + k * 4 + 3, none⟩ v7) := (Keep.refl _ _).setCell (by simp) _
  refine ⟨⟨hb7.keep kS (fun hx => by have := List.mem_singleton.1 hx; have := h.lt; omega), hA.fns.add hk k7 ho hat, ?_, ha7.keep kS (fun x hx hm => own_own ha7 hf7 (by decide) x hx (mem_ownD.2 (by rw [List.mem_singleton.1 hm]; rfl))), hw7.keep kS (fun x hx hm => own_own hw7 hf7 (by decide) x hx (mem_ownD.2 (by rw [List.mem_singleton.1 hm]; rfl))), h.lt, Nat.le_trans hA.base (Nat.le_trans k7.size kS.size)⟩, ?_⟩
  · have h1 : r.funcs[r.funcs.length - 1]? = some f := by rw [h.fs, List.length_map, hlast, Nat.add_sub_cancel, List.getElem?_map, hk]; rfl
    simp only
    rw [addI_set h1, h.fs, List.length_map, hlast, Nat.add_sub_cancel, List.map_set]
  · exact (k7.mono (T := ownBlocks cv ++ [g]) (fun x hx => Or.inl (by simp [hx]))).trans kS (fun x hx => Or.inl (by simp at hx; simp [hx]))
theorem ins_end {B R n k g off cap m : Nat} {rest : BS} {r : AR} {av wv v7 cv : Value} {ps : List (FN × Value)} {f : FN} {i : IN} {w0 w wA w7 : World} (b0 : Below R w0 w) (h : RdAt B R rest n 0 r (.slice (some ⟨g, off, none⟩) m cap) av wv ps w) (hk : ps[k]? = some (f, cv)) (hlast : ps.length = k + 1) (kA : Keep [] w wA) (k7 : Keep (ownBlocks cv) wA w7)
    (ho : OwnsAt w7 B 47 2 v7 (f.code.length + 1) (f.code.flatMap inC ++ inC i)) (hat : v7.ownBlock = cv.ownBlock ∨ v7.ownBlock = some wA.heap.size) :
    Ending.returned (.bool true) = .returned (.bool true) ∧ Below R w0 (w7.setCell ⟨g, off + k * 4 + 3, none⟩ v7) ∧ ∃ fv av wv ps, RdAt B R rest n 0 { r with funcs := addI r.funcs i } fv av wv ps (w7.setCell ⟨g, off + k * 4 + 3, none⟩ v7) := by
  obtain ⟨h1, h2⟩ := h.code hk hlast kA k7 ho hat
  have hR : R ≤ w.heap.size := Nat.le_trans (Nat.le_of_lt h.lt) h.base
  have hA := h.keep0 kA
  have hgB : B ≤ g := (hA.fns.own.lt g rfl).1
  refine ⟨rfl, Keep.below (Keep.below b0 kA hR (by simp)) h2 (Nat.le_trans hR kA.size) (fun x hx => ?_), _, _, _, _, h1⟩
  have := h.lt
  rcases List.mem_append.1 hx with hx | hx
  · have := own_base (hA.fns.code k _ hk) x hx; omega
  · have := List.mem_singleton.1 hx; omega
theorem keep_fn {B R k g off n cap : Nat} {rest : BS} {no mn : Int} {r : AR} {av wv cv : Value} {ps : List (FN × Value)} {f : FN} {w wA w7 : World} (h : RdAt B R rest no mn r (.slice (some ⟨g, off, none⟩) n cap) av wv ps w) (hk : ps[k]? = some (f, cv)) (kA : Keep [] w wA) (k7 : Keep (ownBlocks cv) wA w7) : w7.cell? ⟨g, off + k * 4 + 3, none⟩ = some cv := by
  have hA := h.keep0 kA
  obtain ⟨g', off', cap', hv, hg, _, _, _, _, c3, _⟩ := hA.fns.fn hk
  injection hv with e1 e2 e3
  injection e1 with e1
  injection e1 with e1 e4
  subst e1 e4
  exact (k7.cell (p := ⟨g, off + k * 4 + 3, none⟩) hg (own_own hA.fns.own (hA.fns.code k _ hk) (by decide) g rfl)).trans c3
theorem fn_cell {B R k g off n cap : Nat} {rest : BS} {no mn : Int} {r : AR} {av wv cv : Value} {ps : List (FN × Value)} {f : FN} {w : World} (h : RdAt B R rest no mn r (.slice (some ⟨g, off, none⟩) n cap) av wv ps w) (hk : ps[k]? = some (f, cv)) : w.cell? ⟨g, off + k * 4 + 3, none⟩ = some cv := by
  obtain ⟨g', off', cap', hv, hg, _, _, _, _, c3, _⟩ := h.fns.fn hk
  injection hv with e1 e2 e3
  injection e1 with e1
  injection e1 with e1 e4
  subst e1 e4
  exact c3
def PostW (B R n : Nat) (rest : BS) (fv av : Value) (r : AR) (qs : List (FN × Value)) (w0 : World) (bx : Nat) (wx : World) : Prop := ∃ wv, RdAt B R rest n 0 r fv av wv qs wx ∧ Below R w0 wx ∧ Blk wx bx 47 [.int .i64 16, .int .i64 0]
theorem opOr_some {a : BS} {op : Int} (h : opOf a = some op) : opOr a = op ∧ (opOf a).isSome = true := by unfold opOr; rw [h]; exact ⟨rfl, rfl⟩

set_option maxHeartbeats 6400000 in
set_option maxRecDepth 100000 in
theorem ins_plain {B R n k : Nat} {rest : BS} {r : AR} {fv av wv cv : Value} {qs : List (FN × Value)} {f : FN} {w : World} (hE : Env1 w) (H : RdAt B R rest n 0 r fv av wv qs w) (hr : ARok r) (hk : qs[k]? = some (f, cv)) (hlast : qs.length = k + 1) (bs : BS) (hl : bs.length ≤ 900000) (hw1 : r.wants.length ≤ 1000000)
    (hpre : Lib.hasPrefix bs [32, 32] = true) {a : BS} {op : Int} (hps : pieces 32 (Lib.trimPrefix bs [32, 32]) = [a]) (ho : opOf a = some op) (h256 : ¬ f.code.length = 256) (h256l : f.code.length ≤ 256) (hh : hasN op = false) :
    Calls Tryz.prog 68 #[.pointer (some ⟨R, 0, none⟩), .string (strB bs)] w fun e w' => e = .returned (.bool true) ∧ Below R w w' ∧ ∃ fv av wv ps, RdAt B R rest n 0 { r with funcs := addI r.funcs ⟨op, 0⟩ } fv av wv ps w' := by
  have HO := Lib.hid (opOr_some ho)
  have hw := words_spec hE.env bs [32, 32] (by omega)
  have hsh : ∀ p ∈ [a], p.length ≤ 1000000 := fun p hp => by
    have h1 := trim_short (s := bs) (p := [32, 32])
    have := pieces_short (c := 32) (s := Lib.trimPrefix bs [32, 32]) (p := p) (by rw [hps]; exact hp)
    omega
  rw [hps, hpre] at hw
  have HW := Lib.hid (show Calls Tryz.prog 64 #[.string (strB bs), .string ⟨#[32, 32]⟩] w (WordsPost [a] true w) from hw)
  obtain ⟨ac, cc, hcv⟩ := (H.fns.code k _ hk).shape
  simp only at hcv
  subst hcv
  obtain ⟨g, off, cap, hv, hg, _, _, _, _, f3, _, hgB⟩ := H.fns.fn hk
  rw [hlast] at hv
  subst hv
  have z2 : w.cell? ⟨R, 2, none⟩ = some (.slice (some ⟨g, off, none⟩) (k + 1) cap) := H.blk.cell 2
  have hk32 : k < 32 := by have := hr.few; rw [H.fs, List.length_map, hlast] at this; omega
  have hk0 : (0 : Int) ≤ (k : Int) := by omega
  have hkI : (k : Int) < 32 := by omega
  have h256B : ((f.code.length : Int) == 256) = false := by simp; omega
  have HA := Lib.hid (And.intro hE (And.intro H (And.intro hk (And.intro hlast (And.intro hw1 (And.intro hr hsh))))))
  clear hE H hl hps hpre hw hk hlast hr hw1 hgB ho hsh
  go_enter Tryz.func68, Tryz.ntmps68
  go_wp2_with fail
  refine HW.out.mono ?_
  rintro e w1 ⟨rfl, hb1, hk1, hz1⟩
  simp only [List.length_cons, List.length_nil, Nat.zero_add, Nat.reduceAdd]
  have H1 := Lib.hid hk1
  have z2a := cell_keep0 hk1 z2
  have f3a := cell_keep0 hk1 f3
  have c0a : w1.cell? ⟨w.heap.size, 0, none⟩ = some (.string (strB a)) := hb1.cell 0
  clear hb1 hk1 hz1 HW z2 f3
  go_wp2_with fail
  refine (op_spec _ a).mono ?_
  rintro e w2 ⟨rfl, hk2⟩
  rw [HO.out.1, HO.out.2]
  have H2 := Lib.hid (H1.out.trans hk2 (by simp))
  have z2b := cell_keep0 hk2 z2a
  have f3b := cell_keep0 hk2 f3a
  clear hk2 z2a f3a c0a H1
  go_wp2_with fail
  refine (hasN_spec _ op).mono ?_
  rintro e w3 ⟨rfl, rfl⟩
  rw [hh]
  have h16 : (op == 16) = false := by
    simp
    rintro rfl
    cases hh
  go_upto_region 20 with fail
  have kw : Keep [] w3 (w3.alloc (.cells #[.int .i64 op, .int .i64 0] 47)) := (Keep.refl _ _).alloc _
  have bw : Blk (w3.alloc (.cells #[.int .i64 op, .int .i64 0] 47)) w3.heap.size 47 [.int .i64 op, .int .i64 0] := Blk.new' _ _ _ _ rfl
  have b0 := bw.cell 0
  have b1 := bw.cell 1
  simp only [List.getElem?_cons_zero, List.getElem?_cons_succ] at b0 b1
  have f3x := cell_keep0 kw f3b
  have HK := Lib.hid (H2.out.trans kw (by simp))
  clear z2b f3b kw bw H2
  generalize w3.alloc (.cells #[.int .i64 op, .int .i64 0] 47) = w4 at *
  have hR4 := HA.out.2.1.keep0 HK.out
  have z3 : w4.cell? ⟨g, off + k * 4 + 3, none⟩ = some (.slice ac f.code.length cc) := f3x
  have hfo := hR4.fns.own
  rw [HA.out.2.2.2.1] at hfo
  have gf : ∀ i, w4.frozen? ⟨g, i, none⟩ = false := fun i => hfo.free i
  have kA : Keep [] w4 ((w4.alloc (.cells #[.int .i64 op, .int .i64 0] 47)).drew) := ((Keep.refl [] w4).alloc _).drew
  have hown := (hR4.fns.code k _ HA.out.2.2.1).keep kA (by simp)
  have hbs := hfo.keep kA (by simp)
  have HX := Lib.hid (And.intro hown (And.intro (src_lit w4 #[.int .i64 op, .int .i64 0] [.int .i64 op, .int .i64 0] 47 2 1 rfl rfl) (And.intro kA (And.intro hR4 (And.intro hbs (keep_below0 HK.out (Nat.le_trans (Nat.le_of_lt HA.out.2.1.lt) HA.out.2.1.base)))))))
  have hcl : f.code.length < 256 := by omega
  have hgw : g < w4.heap.size := cell_lt z3
  clear kA hown hbs hR4 hfo
  go_wp2_with fail
  go_region_law (refine step_append_off rfl (.tmp 127) (.tmp 129) rfl Tryz.sts34 B (.slice ac f.code.length cc) f.code.length (f.code.flatMap inC) (by simp [Act.eval, Act.put]) HX.out.1 (.slice (some ⟨w4.heap.size, 0, none⟩) 1 1) 1 [.int .i64 op, .int .i64 0] (by simp [Act.eval, Act.put]) HX.out.2.1 (by simp [Value.oneCell']) (by unfold maxLen; omega) (by omega) (Nat.le_trans HX.out.2.2.2.1.base HX.out.2.2.1.size) ?_; intro v' w5 hown5 hk5 hat5; obtain ⟨a5, c5, rfl⟩ := hown5.shape; have hs5 := HX.out.2.2.2.2.1.keep hk5 (own_own HX.out.2.2.2.2.1 HX.out.1 (by decide)); have y3 : w5.cell? ⟨g, off + k * 4 + 3, none⟩ = some (.slice ac f.code.length cc) := keep_fn HX.out.2.2.2.1 HA.out.2.2.1 HX.out.2.2.1 hk5; have yf : ∀ i, w5.frozen? ⟨g, i, none⟩ = false := fun i => hs5.free i; have G := Lib.hid (And.intro hown5 (And.intro hk5 hat5)); clear hown5 hk5 hat5 hs5)
  all_goals
    go_wp2
    go_ret
    exact ins_end (i := ⟨op, 0⟩) HX.out.2.2.2.2.2 HX.out.2.2.2.1 HA.out.2.2.1 HA.out.2.2.2.1 HX.out.2.2.1 G.out.2.1 G.out.1 G.out.2.2

set_option maxHeartbeats 6400000 in
set_option maxRecDepth 100000 in
theorem ins_num {B R n k : Nat} {rest : BS} {r : AR} {fv av wv cv : Value} {qs : List (FN × Value)} {f : FN} {w : World} (hE : Env1 w) (H : RdAt B R rest n 0 r fv av wv qs w) (hr : ARok r) (hk : qs[k]? = some (f, cv)) (hlast : qs.length = k + 1) (bs : BS) (hl : bs.length ≤ 900000) (hw1 : r.wants.length ≤ 1000000)
    (hpre : Lib.hasPrefix bs [32, 32] = true) {a b : BS} {op m : Int} (hps : pieces 32 (Lib.trimPrefix bs [32, 32]) = [a, b]) (ho : opOf a = some op) (h256 : ¬ f.code.length = 256) (h256l : f.code.length ≤ 256) (hh : hasN op = true) (hne16 : op ≠ 16) (hn : readInt b = some m) :
    Calls Tryz.prog 68 #[.pointer (some ⟨R, 0, none⟩), .string (strB bs)] w fun e w' => e = .returned (.bool true) ∧ Below R w w' ∧ ∃ fv av wv ps, RdAt B R rest n 0 { r with funcs := addI r.funcs ⟨op, m⟩ } fv av wv ps w' := by
  have HO := Lib.hid (opOr_some ho)
  have hw := words_spec hE.env bs [32, 32] (by omega)
  have hsh : ∀ p ∈ [a, b], p.length ≤ 1000000 := fun p hp => by
    have h1 := trim_short (s := bs) (p := [32, 32])
    have := pieces_short (c := 32) (s := Lib.trimPrefix bs [32, 32]) (p := p) (by rw [hps]; exact hp)
    omega
  rw [hps, hpre] at hw
  have HW := Lib.hid (show Calls Tryz.prog 64 #[.string (strB bs), .string ⟨#[32, 32]⟩] w (WordsPost [a, b] true w) from hw)
  obtain ⟨ac, cc, hcv⟩ := (H.fns.code k _ hk).shape
  simp only at hcv
  subst hcv
  obtain ⟨g, off, cap, hv, hg, _, _, _, _, f3, _, hgB⟩ := H.fns.fn hk
  rw [hlast] at hv
  subst hv
  have z2 : w.cell? ⟨R, 2, none⟩ = some (.slice (some ⟨g, off, none⟩) (k + 1) cap) := H.blk.cell 2
  have hk32 : k < 32 := by have := hr.few; rw [H.fs, List.length_map, hlast] at this; omega
  have hk0 : (0 : Int) ≤ (k : Int) := by omega
  have hkI : (k : Int) < 32 := by omega
  have h256B : ((f.code.length : Int) == 256) = false := by simp; omega
  have HA := Lib.hid (And.intro hE (And.intro H (And.intro hk (And.intro hlast (And.intro hw1 (And.intro hr hsh))))))
  clear hE H hl hps hpre hw hk hlast hr hw1 hgB ho hsh
  go_enter Tryz.func68, Tryz.ntmps68
  go_wp2_with fail
  refine HW.out.mono ?_
  rintro e w1 ⟨rfl, hb1, hk1, hz1⟩
  simp only [List.length_cons, List.length_nil, Nat.zero_add, Nat.reduceAdd]
  have H1 := Lib.hid hk1
  have z2a := cell_keep0 hk1 z2
  have f3a := cell_keep0 hk1 f3
  have c0a : w1.cell? ⟨w.heap.size, 0, none⟩ = some (.string (strB a)) := hb1.cell 0
  have c1a : w1.cell? ⟨w.heap.size, 1, none⟩ = some (.string (strB b)) := hb1.cell 1
  clear hb1 hk1 hz1 HW z2 f3
  go_wp2_with fail
  refine (op_spec _ a).mono ?_
  rintro e w2 ⟨rfl, hk2⟩
  rw [HO.out.1, HO.out.2]
  have H2 := Lib.hid (H1.out.trans hk2 (by simp))
  have z2b := cell_keep0 hk2 z2a
  have f3b := cell_keep0 hk2 f3a
  have c1b := cell_keep0 hk2 c1a
  clear c1a
  clear hk2 z2a f3a c0a H1
  go_wp2_with fail
  refine (hasN_spec _ op).mono ?_
  rintro e w3 ⟨rfl, rfl⟩
  rw [hh]
  have h16 : (op == 16) = false := by simpa using hne16
  go_upto_region 16 with fail
  have kw : Keep [] w3 (w3.alloc (.cells #[.int .i64 op, .int .i64 0] 47)) := (Keep.refl _ _).alloc _
  have bw : Blk (w3.alloc (.cells #[.int .i64 op, .int .i64 0] 47)) w3.heap.size 47 [.int .i64 op, .int .i64 0] := Blk.new' _ _ _ _ rfl
  have f3x := cell_keep0 kw f3b
  have c1x := cell_keep0 kw c1b
  have HK := Lib.hid (H2.out.trans kw (by simp))
  have HB := Lib.hid bw
  have hbx := Lib.hid H2.out.size
  clear z2b f3b kw bw H2 c1b
  generalize w3.alloc (.cells #[.int .i64 op, .int .i64 0] 47) = w4 at *
  generalize w3.heap.size = bx at *
  go_wp2_with fail
  refine (number_spec (HA.out.1.keep HK.out) b (HA.out.2.2.2.2.2.2 b (by simp))).mono ?_
  rintro e w5 ⟨hk5, hm⟩
  have HK5 := Lib.hid (HK.out.trans hk5 (by simp))
  have HB5 := Lib.hid (HB.out.keep hk5 (by simp))
  rw [hn] at hm
  obtain rfl := hm
  have f3y := cell_keep0 hk5 f3x
  have b1 : w5.cell? ⟨bx, 1, none⟩ = some (.int .i64 0) := HB5.out.cell 1
  have bf : ∀ i, w5.frozen? ⟨bx, i, none⟩ = false := fun i => HB5.out.frozen i
  clear hk5 f3x c1x HK HB hn hne16
  go_upto_region 20 with fail
  have kS : Keep [bx] w5 (w5.setCell ⟨bx, 1, none⟩ (.int .i64 m)) := (Keep.refl _ _).setCell (by simp) _
  have HKS := Lib.hid (HK5.out.trans kS (fun x hx => Or.inr (by rw [List.mem_singleton.1 hx]; exact hbx.out)))
  have bw : Blk (w5.setCell ⟨bx, 1, none⟩ (.int .i64 m)) bx 47 [.int .i64 op, .int .i64 m] := HB5.out.set_ 1 _
  have b0 := bw.cell 0
  have b1' := bw.cell 1
  simp only [List.getElem?_cons_zero, List.getElem?_cons_succ] at b0 b1'
  have f3x : (w5.setCell ⟨bx, 1, none⟩ (.int .i64 m)).cell? ⟨g, off + k * 4 + 3, none⟩ = some (.slice ac f.code.length cc) := (kS.cell (p := ⟨g, off + k * 4 + 3, none⟩) (cell_lt f3y) (fun hx => by have h7 : g = bx := List.mem_singleton.1 hx; have h8 := hbx.out; have h9 := hg; omega)).trans f3y
  clear kS bw b1 bf f3y HB5 HK5
  generalize w5.setCell ⟨bx, 1, none⟩ (.int .i64 m) = w6 at *
  have hR4 := HA.out.2.1.keep0 HKS.out
  have z3 : w6.cell? ⟨g, off + k * 4 + 3, none⟩ = some (.slice ac f.code.length cc) := f3x
  have hfo := hR4.fns.own
  rw [HA.out.2.2.2.1] at hfo
  have gf : ∀ i, w6.frozen? ⟨g, i, none⟩ = false := fun i => hfo.free i
  have kA : Keep [] w6 ((w6.alloc (.cells #[.int .i64 op, .int .i64 m] 47)).drew) := ((Keep.refl [] w6).alloc _).drew
  have hown := (hR4.fns.code k _ HA.out.2.2.1).keep kA (by simp)
  have hbs := hfo.keep kA (by simp)
  have HX := Lib.hid (And.intro hown (And.intro (src_lit w6 #[.int .i64 op, .int .i64 m] [.int .i64 op, .int .i64 m] 47 2 1 rfl rfl) (And.intro kA (And.intro hR4 (And.intro hbs (keep_below0 HKS.out (Nat.le_trans (Nat.le_of_lt HA.out.2.1.lt) HA.out.2.1.base)))))))
  have hcl : f.code.length < 256 := by omega
  have hgw : g < w6.heap.size := cell_lt z3
  clear kA hown hbs hR4 hfo
  go_wp2_with fail
  go_region_law (refine step_append_off rfl (.tmp 127) (.tmp 129) rfl Tryz.sts34 B (.slice ac f.code.length cc) f.code.length (f.code.flatMap inC) (by simp [Act.eval, Act.put]) HX.out.1 (.slice (some ⟨w6.heap.size, 0, none⟩) 1 1) 1 [.int .i64 op, .int .i64 m] (by simp [Act.eval, Act.put]) HX.out.2.1 (by simp [Value.oneCell']) (by unfold maxLen; omega) (by omega) (Nat.le_trans HX.out.2.2.2.1.base HX.out.2.2.1.size) ?_; intro v' w5 hown5 hk5 hat5; obtain ⟨a5, c5, rfl⟩ := hown5.shape; have hs5 := HX.out.2.2.2.2.1.keep hk5 (own_own HX.out.2.2.2.2.1 HX.out.1 (by decide)); have y3 : w5.cell? ⟨g, off + k * 4 + 3, none⟩ = some (.slice ac f.code.length cc) := keep_fn HX.out.2.2.2.1 HA.out.2.2.1 HX.out.2.2.1 hk5; have yf : ∀ i, w5.frozen? ⟨g, i, none⟩ = false := fun i => hs5.free i; have G := Lib.hid (And.intro hown5 (And.intro hk5 hat5)); clear hown5 hk5 hat5 hs5)
  all_goals
    go_wp2
    go_ret
    exact ins_end (i := ⟨op, m⟩) HX.out.2.2.2.2.2 HX.out.2.2.2.1 HA.out.2.2.1 HA.out.2.2.2.1 HX.out.2.2.1 G.out.2.1 G.out.1 G.out.2.2

set_option maxHeartbeats 6400000 in
set_option maxRecDepth 100000 in
theorem ins_num_no {B R n k : Nat} {rest : BS} {r : AR} {fv av wv cv : Value} {qs : List (FN × Value)} {f : FN} {w : World} (hE : Env1 w) (H : RdAt B R rest n 0 r fv av wv qs w) (hr : ARok r) (hk : qs[k]? = some (f, cv)) (hlast : qs.length = k + 1) (bs : BS) (hl : bs.length ≤ 900000) (hw1 : r.wants.length ≤ 1000000)
    (hpre : Lib.hasPrefix bs [32, 32] = true) {a b : BS} {op : Int} (hps : pieces 32 (Lib.trimPrefix bs [32, 32]) = [a, b]) (ho : opOf a = some op) (h256 : ¬ f.code.length = 256) (h256l : f.code.length ≤ 256) (hh : hasN op = true) (hne16 : op ≠ 16) (hn : readInt b = none) :
    Calls Tryz.prog 68 #[.pointer (some ⟨R, 0, none⟩), .string (strB bs)] w fun e w' => e = .returned (.bool false) ∧ Keep [] w w' := by
  have HO := Lib.hid (opOr_some ho)
  have hw := words_spec hE.env bs [32, 32] (by omega)
  have hsh : ∀ p ∈ [a, b], p.length ≤ 1000000 := fun p hp => by
    have h1 := trim_short (s := bs) (p := [32, 32])
    have := pieces_short (c := 32) (s := Lib.trimPrefix bs [32, 32]) (p := p) (by rw [hps]; exact hp)
    omega
  rw [hps, hpre] at hw
  have HW := Lib.hid (show Calls Tryz.prog 64 #[.string (strB bs), .string ⟨#[32, 32]⟩] w (WordsPost [a, b] true w) from hw)
  obtain ⟨ac, cc, hcv⟩ := (H.fns.code k _ hk).shape
  simp only at hcv
  subst hcv
  obtain ⟨g, off, cap, hv, hg, _, _, _, _, f3, _, hgB⟩ := H.fns.fn hk
  rw [hlast] at hv
  subst hv
  have z2 : w.cell? ⟨R, 2, none⟩ = some (.slice (some ⟨g, off, none⟩) (k + 1) cap) := H.blk.cell 2
  have hk32 : k < 32 := by have := hr.few; rw [H.fs, List.length_map, hlast] at this; omega
  have hk0 : (0 : Int) ≤ (k : Int) := by omega
  have hkI : (k : Int) < 32 := by omega
  have h256B : ((f.code.length : Int) == 256) = false := by simp; omega
  have HA := Lib.hid (And.intro hE (And.intro H (And.intro hk (And.intro hlast (And.intro hw1 (And.intro hr hsh))))))
  clear hE H hl hps hpre hw hk hlast hr hw1 hgB ho hsh
  go_enter Tryz.func68, Tryz.ntmps68
  go_wp2_with fail
  refine HW.out.mono ?_
  rintro e w1 ⟨rfl, hb1, hk1, hz1⟩
  simp only [List.length_cons, List.length_nil, Nat.zero_add, Nat.reduceAdd]
  have H1 := Lib.hid hk1
  have z2a := cell_keep0 hk1 z2
  have f3a := cell_keep0 hk1 f3
  have c0a : w1.cell? ⟨w.heap.size, 0, none⟩ = some (.string (strB a)) := hb1.cell 0
  have c1a : w1.cell? ⟨w.heap.size, 1, none⟩ = some (.string (strB b)) := hb1.cell 1
  clear hb1 hk1 hz1 HW z2 f3
  go_wp2_with fail
  refine (op_spec _ a).mono ?_
  rintro e w2 ⟨rfl, hk2⟩
  rw [HO.out.1, HO.out.2]
  have H2 := Lib.hid (H1.out.trans hk2 (by simp))
  have z2b := cell_keep0 hk2 z2a
  have f3b := cell_keep0 hk2 f3a
  have c1b := cell_keep0 hk2 c1a
  clear c1a
  clear hk2 z2a f3a c0a H1
  go_wp2_with fail
  refine (hasN_spec _ op).mono ?_
  rintro e w3 ⟨rfl, rfl⟩
  rw [hh]
  have h16 : (op == 16) = false := by simpa using hne16
  go_upto_region 16 with fail
  have kw : Keep [] w3 (w3.alloc (.cells #[.int .i64 op, .int .i64 0] 47)) := (Keep.refl _ _).alloc _
  have bw : Blk (w3.alloc (.cells #[.int .i64 op, .int .i64 0] 47)) w3.heap.size 47 [.int .i64 op, .int .i64 0] := Blk.new' _ _ _ _ rfl
  have f3x := cell_keep0 kw f3b
  have c1x := cell_keep0 kw c1b
  have HK := Lib.hid (H2.out.trans kw (by simp))
  have HB := Lib.hid bw
  have hbx := Lib.hid H2.out.size
  clear z2b f3b kw bw H2 c1b
  generalize w3.alloc (.cells #[.int .i64 op, .int .i64 0] 47) = w4 at *
  generalize w3.heap.size = bx at *
  go_wp2_with fail
  refine (number_spec (HA.out.1.keep HK.out) b (HA.out.2.2.2.2.2.2 b (by simp))).mono ?_
  rintro e w5 ⟨hk5, hm⟩
  have HK5 := Lib.hid (HK.out.trans hk5 (by simp))
  have HB5 := Lib.hid (HB.out.keep hk5 (by simp))
  rw [hn] at hm
  obtain ⟨m, rfl⟩ := hm
  clear hk5 f3x c1x HK HB hn hne16
  go_wp2
  go_ret
  exact ⟨rfl, HK5.out⟩
end Go.Proofs.YtbdkmfcgnolihaaGreatDoor
