/- fair: read. -/
import Derived.Test.YtndpbkhpllmhmaaDoorRows
import Derived.WalkKit
import Derived.WalkSpells
import Derived.WalkLawsBesides
import Derived.RegionTactic
import Derived.ChangeAlike
import Derived.BigQuiet
import Derived.Deep.QuietTactic
import Derived.StillTailTactics
import Derived.IntWalk
import Derived.Handy
import Derived.Lib.Hide
import Derived.Deep.AppendLies
import Derived.Deep.RegionWith
import Derived.Test.YtndpbkhpllmhmaaDoorMSAA
import Derived.Test.YtndpbkhpllmhmaaDoorMSAB
import Derived.Carry
import Derived.Deep.RegionHeld3
import Derived.BigRegion
import Derived.Maps.OwnSet
import Derived.Maps.Views
import Derived.Maps.StringElems
import Derived.Test.YtndpbkhpllmhmaaDoorMSAC
import Derived.Maps.RangeWalk
import Derived.Deep.LoopGhost
import Derived.Test.YtndpbkhpllmhmaaDoorMSAI
namespace Go.Proofs.YtndpbkhpllmhmaaDoor
set_option linter.unusedSimpArgs false
set_option linter.unnecessarySimpa false
set_option linter.unusedVariables false
open Go.RowKit Go.ChangeMaps Go.MapKept Go.WideShapes
open Go.WideElems (Fit rd rg pl rd_val elemAt)
open Go.Maps (Keyed IsMap Tidy)
theorem at_range {P : Program} {w1 : World} {ops : Array Oper} {rest : List Oper} {o : Oper} {a : Act} {Q : Exit → Act → World → Prop} {t : TypeId} {m : Operand} (_ : o.op = Op.range t m) (h : wpList P ops Q (o :: rest) a w1) : wpList P ops Q (o :: rest) a w1 := h
theorem at_next {P : Program} {w1 : World} {ops : Array Oper} {rest : List Oper} {o : Oper} {a : Act} {Q : Exit → Act → World → Prop} {m : Operand} (_ : o.op = Op.next m false) (h : wpList P ops Q (o :: rest) a w1) : wpList P ops Q (o :: rest) a w1 := h
theorem Keep.grown {w w' : World} (k : Keep [] w w') (row : Option Nat) : w.grownBy w' row := ⟨k.os, k.tape, k.output, k.size, fun i hi _ => k.block i hi (by simp)⟩
structure RSt (g2 gL b r : Nat) (ps : List BS) (left : Lit → Bool) (cnt : Nat) (w0 w : World) : Prop where
  z : Blk w g2 38 [.int .i64 0, .int .i64 0, .int .i64 0, .int .i64 0]
  l : Blk w gL 9 ((ps.map strB).map .string)
  rg : w.ranges (H := Unit) Tryd.prog 3 (plainElem Tryd.prog 9) b r 7 wordsD left cnt
  k : Keep [] w0 w
  n2 : w0.heap.size ≤ g2
  nL : w0.heap.size ≤ gL
  nr : w0.heap.size ≤ r
  ne1 : g2 ≠ r
  ne2 : gL ≠ r
theorem RSt.keep {g2 gL b r : Nat} {ps : List BS} {left : Lit → Bool} {cnt : Nat} {w0 w w' : World} (h : RSt g2 gL b r ps left cnt w0 w) (k : Keep [] w w') : RSt g2 gL b r ps left cnt w0 w' :=
  ⟨h.z.keep k (by simp), h.l.keep k (by simp), h.rg.kept (k.grown none) (by simp) (by simp), h.k.trans k (by simp), h.n2, h.nL, h.nr, h.ne1, h.ne2⟩
theorem set4 {w : World} {g : Nat} {t : TypeId} {a b c d : Value} (h : Blk w g t [a, b, c, d]) (x y z u : Value) :
    Blk ((((w.setCell ⟨g, 0, none⟩ x).setCell ⟨g, 1, none⟩ y).setCell ⟨g, 2, none⟩ z).setCell ⟨g, 3, none⟩ u) g t [x, y, z, u] := (((h.set_ 0 x).set_ 1 y).set_ 2 z).set_ 3 u
theorem keep4 {w : World} {g : Nat} (x y z u : Value) : Keep [g] w ((((w.setCell ⟨g, 0, none⟩ x).setCell ⟨g, 1, none⟩ y).setCell ⟨g, 2, none⟩ z).setCell ⟨g, 3, none⟩ u) :=
  ((((Keep.refl _ _).setCell (by simp) _).setCell (by simp) _).setCell (by simp) _).setCell (by simp) _
theorem RSt.next {g2 gL b r : Nat} {ps : List BS} {left left' : Lit → Bool} {cnt cnt' : Nat} {w0 w w' : World} (h : RSt g2 gL b r ps left cnt w0 w) (hr : w'.ranges (H := Unit) Tryd.prog 3 (plainElem Tryd.prog 9) b r 7 wordsD left' cnt') (hg : w.grownBy w' (some r)) : RSt g2 gL b r ps left' cnt' w0 w' := by
  have k : Keep [r] w w' := Keep.of_grown hg (fun k hk => by cases hk; simp)
  exact ⟨h.z.keep k (by simpa using h.ne1), h.l.keep k (by simpa using h.ne2), hr, h.k.trans k (fun x hx => Or.inr (by rw [show x = r by simpa using hx]; exact h.nr)), h.n2, h.nL, h.nr, h.ne1, h.ne2⟩
theorem pieces_len {c : UInt8} : ∀ {l p : BS}, p ∈ pieces c l → p.length ≤ l.length
  | [], p, h => by simp [pieces] at h; subst h; simp
  | x :: r, p, h => by
    have ih := fun {p} => pieces_len (c := c) (l := r) (p := p)
    unfold pieces at h
    split at h
    · rcases List.mem_cons.1 h with rfl | h
      · simp
      · have := ih h; simp; omega
    · cases hp : pieces c r with
      | nil => exact absurd hp (pieces_ne c r)
      | cons q qs =>
        rw [hp] at h ih
        rcases List.mem_cons.1 h with rfl | h
        · have := ih (p := q) (by simp); simp; omega
        · have := ih (p := p) (by simp [h]); simp; omega
theorem z64 : In64 0 := ⟨by decide, by decide⟩
theorem k64 {k : Int} (h1 : 1 ≤ k) (h7 : k ≤ 7) : In64 k := ⟨by omega, by omega⟩
theorem len_one {l : List BS} (h : l.length = 1) : ∃ a, l = [a] := by
  match l, h with
  | [a], _ => exact ⟨a, rfl⟩
theorem len_two {l : List BS} (h : l.length = 2) : ∃ a b, l = [a, b] := by
  match l, h with
  | [a, b], _ => exact ⟨a, b, rfl⟩
/-- while a line's numbers are read -/
structure XSt (gX gN : Nat) (x : ST) (ns : List ByteArray) (g2 gL b r : Nat) (ps : List BS) (left : Lit → Bool) (cnt : Nat) (w0 w : World) : Prop where
  x : Blk w gX 38 (stC x)
  nb : Blk w gN 9 (ns.map .string)
  st : RSt g2 gL b r ps left cnt w0 w
  nX : w0.heap.size ≤ gX
  a2 : g2 ≠ gX
  ab : b ≠ gX
  ar : r ≠ gX
section
variable {gX gN : Nat} {x : ST} {ns : List ByteArray} {g2 gL b r : Nat} {ps : List BS} {left : Lit → Bool} {cnt : Nat} {w0 w w' : World}
theorem XSt.new (h : RSt g2 gL b r ps left cnt w0 w) (hn : Blk w gN 9 (ns.map .string)) (x : ST) {cs : Array Value} (hx : cs = (stC x).toArray) : XSt w.heap.size gN x ns g2 gL b r ps left cnt w0 (w.alloc (.cells cs 38)) := by
  have k : Keep [] w (w.alloc (.cells cs 38)) := (Keep.refl _ _).alloc _
  exact ⟨Blk.new' _ _ _ _ hx, hn.keep k (by simp), h.keep k, h.k.size, Nat.ne_of_lt h.z.lt, Nat.ne_of_lt h.rg.owns.lt, Nat.ne_of_lt h.rg.lt⟩
theorem XSt.keep (h : XSt gX gN x ns g2 gL b r ps left cnt w0 w) (k : Keep [] w w') : XSt gX gN x ns g2 gL b r ps left cnt w0 w' := ⟨h.x.keep k (by simp), h.nb.keep k (by simp), h.st.keep k, h.nX, h.a2, h.ab, h.ar⟩
theorem XSt.set_ (h : XSt gX gN x ns g2 gL b r ps left cnt w0 w) (i : Nat) (v : Value) (x' : ST) (e : stC x' = (stC x).set i v) : XSt gX gN x' ns g2 gL b r ps left cnt w0 (w.setCell ⟨gX, i, none⟩ v) := by
  have k : Keep [gX] w (w.setCell ⟨gX, i, none⟩ v) := (Keep.refl _ _).setCell (by simp) _
  refine ⟨by rw [e]; exact h.x.set_ i v, h.nb.far (Ne.symm (h.x.ne_ h.nb (by decide))) _, ⟨h.st.z.far h.a2 _, h.st.l.far (Ne.symm (h.x.ne_ h.st.l (by decide))) _, h.st.rg.kept (row := some gX) ⟨k.os, k.tape, k.output, k.size, fun j hj hne => k.block j hj (by simpa using fun e => hne (by rw [e]))⟩ (by simpa using h.ab) (by simpa using h.ar), h.st.k.setCell (Or.inr h.nX) _, h.st.n2, h.st.nL, h.st.nr, h.st.ne1, h.st.ne2⟩, h.nX, h.a2, h.ab, h.ar⟩
end
def ReadPost (bs : BS) (w : World) (e : Ending) (w' : World) : Prop :=
  Keep [] w w' ∧ ((∃ s, stepC bs = some s ∧ e = .returned (.tuple #[stV s, .bool true])) ∨ (stepC bs = none ∧ ∃ s, e = .returned (.tuple #[stV s, .bool false])))
/-- what the map gives -/
theorem word_at {x : Int} {c : ByteArray} (h : ∀ zd, wordsD.atKey (.int .i64 x) zd = .lit (.string c.data.toList)) : (1 ≤ x ∧ x ≤ 7) ∧ c = strB (fullL x) := by
  by_cases hx : 1 ≤ x ∧ x ≤ 7
  · refine ⟨hx, ?_⟩
    have hd : ∀ z, wordsD.atKey (.int .i64 x) z = .lit (.string (fullL x)) := by
      rcases (show x = 1 ∨ x = 2 ∨ x = 3 ∨ x = 4 ∨ x = 5 ∨ x = 6 ∨ x = 7 by omega) with rfl | rfl | rfl | rfl | rfl | rfl | rfl <;> exact fun _ => rfl
    have h1 := h .nil
    rw [hd] at h1
    simp only [DataW.lit.injEq, Lit.string.injEq] at h1
    rw [h1, strB_of]
  · exfalso
    have hh : Maps.has wordsD (.int .i64 x) = false := by
      have e : ∀ j : Int, 1 ≤ j → j ≤ 7 → Lit.sameKey (.int .i64 j) (.int .i64 x) = false := fun j h1 h2 => Maps.sameKey_ne (by intro e; injection e with _ e; omega)
      rw [show wordsD = .map _ from rfl, Maps.has_eq]
      simp only [List.any_cons, List.any_nil, e 1 (by decide) (by decide), e 2 (by decide) (by decide), e 3 (by decide) (by decide), e 4 (by decide) (by decide), e 5 (by decide) (by decide), e 6 (by decide) (by decide), e 7 (by decide) (by decide), Bool.or_false]
    have h1 := h .nil
    rw [Maps.atKey_of_not_has hh] at h1
    cases h1
theorem strB_eq {a b : BS} {r : Bool} (h : decide (a = b) = r) : ((strB a).toList == (strB b).toList) = r := by
  rw [strB_toList, strB_toList, ← h]
  by_cases e : a = b
  · rw [decide_eq_true e]; exact beq_iff_eq.2 e
  · rw [decide_eq_false e]; exact beq_eq_false_iff_ne.2 e
theorem strB_neq {a b : BS} {r : Bool} (h : decide (a = b) = !r) : ((strB a).toList != (strB b).toList) = r := by
  unfold bne
  rw [strB_eq h, Bool.not_not]
/-- the kinds that are through -/
theorem miss_next {left : Lit → Bool} {ps : List BS} {x : Int} (h : ∀ k : Int, 1 ≤ k → k ≤ 7 → left (.int .i64 k) = false → ¬ hitK ps k) (hx : ¬ hitK ps x) (k : Int) (h1 : 1 ≤ k) (h7 : k ≤ 7) (hl : (fun z : Lit => left z && !z.sameKey (.int .i64 x)) (.int .i64 k) = false) : ¬ hitK ps k := by
  by_cases e : k = x
  · rw [e]; exact hx
  · refine h k h1 h7 ?_
    have : Lit.sameKey (.int .i64 k) (.int .i64 x) = false := Maps.sameKey_ne (by intro q; injection q with _ q; exact e q)
    simpa [this] using hl
set_option maxHeartbeats 6400000 in
set_option maxRecDepth 100000 in
theorem read_spec {w : World} (hE : Env1 w) (bs : BS) (hl : bs.length ≤ 1000000) : Calls Tryd.prog 49 #[.string (strB bs)] w (ReadPost bs w) := by
  have HE := Lib.hid hE
  have Hl := Lib.hid hl
  have kA : Keep [] w (w.alloc (.cells #[.int .i64 0, .int .i64 0, .int .i64 0, .int .i64 0] 38)) := (Keep.refl _ _).alloc _
  have bA : Blk (w.alloc (.cells #[.int .i64 0, .int .i64 0, .int .i64 0, .int .i64 0] 38)) w.heap.size 38 [.int .i64 0, .int .i64 0, .int .i64 0, .int .i64 0] := Blk.new' _ _ _ _ rfl
  have HA := Lib.hid (And.intro kA bA)
  have hsp := Lib.hid (split_spec (hE.env.keep kA) (strB bs) (by rw [strB_size]; omega))
  clear hE hl kA bA
  go_enter Tryd.func49, Tryd.ntmps49
  go_wp2_with fail
  refine hsp.out.mono ?_
  rintro e w2 ⟨rfl, hl2, hk2, hsz2⟩
  rw [strB_data] at hl2
  rw [strB_data]
  have H2 := Lib.hid (And.intro hl2 (And.intro hk2 hsz2))
  clear hsp hl2 hk2 hsz2
  go_wp2_with fail
  refine (words_spec _).mono ?_
  rintro e w3 ⟨rfl, hm3⟩
  have H3 := Lib.hid hm3
  clear hm3
  go_wp2_with (refine at_range rfl ?_; go_must (refine wpList_range_own (H := Unit) _ rfl _ 114 rfl 3 9 law3 Tryd.underlying114 (plainElem Tryd.prog 9) w2.heap.size 7 wordsD rfl H3.out.1 ?_); intro w4 hr4 hg4 hs4)
  go_frame
  have hst : RSt w.heap.size (w.heap.size + 1) w2.heap.size w3.heap.size (pieces 32 bs) (Maps.has wordsD) (Maps.size wordsD) w w4 := by
    have k34 : Keep [] w3 w4 := Keep.of_grown hg4 (fun k hk => by cases hk)
    have k24 : Keep [] w2 w4 := H3.out.2.1.trans k34 (by simp)
    have kA4 := H2.out.2.1.trans k24 (by simp)
    have s1 : (w.alloc (.cells #[.int .i64 0, .int .i64 0, .int .i64 0, .int .i64 0] 38)).heap.size = w.heap.size + 1 := by simp
    have s2 := H2.out.2.1.size
    have s3 := H3.out.2.1.size
    refine ⟨(HA.out.2.keep kA4 (by simp)), ?_, hr4, HA.out.1.trans kA4 (by simp), Nat.le_refl _, by omega, by omega, ?_, ?_⟩
    · have := H2.out.1.keep k24 (by simp)
      rw [s1] at this
      rw [List.map_map]
      exact this
    · have := HA.out.2.lt; omega
    · have := H2.out.2.2; omega
  have Hst := Lib.hid hst
  have Hp : Hid (∃ p0 pr, pieces 32 bs = p0 :: pr) := Lib.hid (by
    cases h : pieces 32 bs with
    | nil => exact absurd h (pieces_ne 32 bs)
    | cons p0 pr => exact ⟨p0, pr, rfl⟩)
  obtain ⟨p0, pr, hpp⟩ := Hp.out
  have Hpp := Lib.hid hpp
  have Hps : Hid (∀ p ∈ pieces 32 bs, p.length ≤ 1000000) := Lib.hid (fun p hp => Nat.le_trans (pieces_len hp) Hl.out)
  have hlen : (pieces 32 bs).length = pr.length + 1 := by rw [hpp]; rfl
  rw [hlen]
  generalize hgL : w.heap.size + 1 = gL at *
  generalize hg2 : w.heap.size = g2 at *
  generalize w2.heap.size = gM at *
  generalize w3.heap.size = gR at *
  clear hst hlen hpp hr4 hg4 hs4 H3 H2 HA Hp hg2 hgL
  generalize hW : w4 = wS at *
  clear hW
  go_loopw [5, 6, 7, 8, 9, 10, 11, 12] (fun _ _ _ _ _ _ _ _ wr => ∃ (left : Lit → Bool) (cnt : Nat), RSt g2 gL gM gR (pieces 32 bs) left cnt w wr ∧ ∀ k : Int, 1 ≤ k → k ≤ 7 → left (.int .i64 k) = false → ¬ hitK (pieces 32 bs) k) (fun _ _ _ _ _ _ _ _ wr => wr.rangeLeft gM gR)
  case atStart => exact ⟨_, _, Hst.out, fun k h1 h7 hf => absurd hf (by
    have : Maps.has wordsD (.int .i64 k) = true := by
      rcases (show k = 1 ∨ k = 2 ∨ k = 3 ∨ k = 4 ∨ k = 5 ∨ k = 6 ∨ k = 7 by omega) with rfl | rfl | rfl | rfl | rfl | rfl | rfl <;> decide
    rw [this]; decide)⟩
  case round =>
    clear Hst
    obtain ⟨left, cnt, hst, hmiss⟩ := hrel
    have Hst := Lib.hid hst
    have Hmiss := Lib.hid hmiss
    clear hst hmiss
    go_wp2_with (refine at_next rfl ?_; go_must (refine wpList_next_ranges_is (H := Unit) _ rfl _ rfl 3 9 .i64 law3 Tryd.underlying3 Tryd.underlying9 gM gR 7 wordsD left cnt rfl Hst.out.rg ?_ ?_))
    · intro _ hl0
      have hnone := Lib.hid (none_of_miss (fun k h1 h7 => Hmiss.out k h1 h7 (hl0 _)))
      have z0 : wr.cell? ⟨g2, 0, none⟩ = some (.int .i64 0) := Hst.out.z.cell 0
      have z1 : wr.cell? ⟨g2, 1, none⟩ = some (.int .i64 0) := Hst.out.z.cell 1
      have z2 : wr.cell? ⟨g2, 2, none⟩ = some (.int .i64 0) := Hst.out.z.cell 2
      have z3 : wr.cell? ⟨g2, 3, none⟩ = some (.int .i64 0) := Hst.out.z.cell 3
      have f0 : ∀ i, wr.frozen? ⟨g2, i, none⟩ = false := fun i => Hst.out.z.frozen i
      clear hl0
      go_wp2
      have hb := set4 Hst.out.z (.int .i64 0) (.int .i64 0) (.int .i64 0) (.int .i64 0)
      have d0 := hb.cell 0
      have d1 := hb.cell 1
      have d2 := hb.cell 2
      have d3 := hb.cell 3
      have hk := Hst.out.k.trans (keep4 (g := g2) (.int .i64 0) (.int .i64 0) (.int .i64 0) (.int .i64 0)) (fun x hx => Or.inr (by rw [show x = g2 by simpa using hx]; exact Hst.out.n2))
      exact bodyPost_ret (v := .tuple #[.agg #[.int .i64 0, .int .i64 0, .int .i64 0, .int .i64 0], .bool false]) (by simp [results, Tryd.results49, go_sem, d0, d1, d2, d3]) rfl ⟨hk, Or.inr ⟨hnone.out, ⟨0, 0, 0, 0⟩, rfl⟩⟩
    · intro x c w5 cnt5 hwx hwc hlx hat hrg5 hlt5 hg5 hs5 hen
      obtain ⟨hx, rfl⟩ := word_at hat
      have Hst5 := Lib.hid (Hst.out.next hrg5 hg5)
      have Hx := Lib.hid hx
      have Hlt := Lib.hid (And.intro hlt5 (And.intro hrg5.left_eq Hst.out.rg.left_eq))
      have hsp : Hid (Calls Tryd.prog 59 #[.string (strB (fullL x)), .string ⟨#[32]⟩] w5 (SplitPost (wordL x :: restL x) w5)) := by
        have h := split_spec (HE.out.env.keep Hst5.out.k) (strB (fullL x)) (by
          have : ∀ k, (fullL k).length ≤ 100 := by intro k; unfold fullL; repeat' split
                                                   all_goals decide
          rw [strB_size]; have := this x; omega)
        rw [strB_data, pieces_full hx.1 hx.2] at h
        exact Lib.hid h
      clear hwx hwc hlx hat hrg5 hlt5 hg5 hs5 hx
      go_wp2_with fail
      refine hsp.out.mono ?_
      rintro e w6 ⟨rfl, hl6, hk6, hs6⟩
      rw [List.length_cons]
      have Hst6 := Lib.hid (Hst5.out.keep hk6)
      have n0 : w6.cell? ⟨w5.heap.size, 0, none⟩ = some (.string (strB (wordL x))) := hl6.cell 0
      have l0 : w6.cell? ⟨gL, 0, none⟩ = some (.string (strB p0)) := by rw [Hst6.out.l.cell, Hpp.out]; rfl
      have H6 := Lib.hid (And.intro hl6 (And.intro hk6 hs6))
      clear hsp hl6 hk6 hs6 hen
      by_cases hA : wordL x = p0
      · have e1 := strB_eq (decide_eq_true hA)
        have e2 := strB_neq (r := false) (decide_eq_true hA)
        by_cases hB : (restL x).length = pr.length
        · rcases (show x = 1 ∨ x = 2 ∨ x = 3 ∨ x = 4 ∨ x = 5 ∨ x = 6 ∨ x = 7 by have := Hx.out; omega) with rfl | rfl | rfl | rfl | rfl | rfl | rfl
          · -- kind 1
            obtain ⟨p1, rfl⟩ : ∃ p1, pr = [p1] := len_one (by rw [← hB]; rfl)
            rw [show ([p1] : List BS).length + 1 = 2 from rfl, show (restL 1).length + 1 = 2 from rfl]
            have Hhit := Lib.hid (show hitK (pieces 32 bs) 1 from ⟨by rw [Hpp.out, hA]; rfl, by rw [Hpp.out]; rfl⟩)
            clear hA hB
            go_wp2_with fail
            go_quiet (fail)
            have Hst7 := Lib.hid (Hst6.out.keep ((Keep.refl [] w6).drewN nq))
            have HN7 := Lib.hid (show Blk (w6.drewN nq) w5.heap.size 9 ((([⟨#[119, 111, 114, 107]⟩, ⟨#[110]⟩] : List ByteArray)).map .string) from H6.out.1.drewN nq)
            generalize w6.drewN nq = w7 at *
            generalize w5.heap.size = gN at *
            clear n0 l0 e1 e2 H6
            have hxs : XSt w7.heap.size gN ⟨1, 0, 0, 0⟩ [⟨#[119, 111, 114, 107]⟩, ⟨#[110]⟩] g2 gL gM gR (pieces 32 bs) _ cnt5 w (w7.alloc (.cells #[.int .i64 1, .int .i64 0, .int .i64 0, .int .i64 0] 38)) := XSt.new Hst7.out HN7.out ⟨1, 0, 0, 0⟩ rfl
            have Hxs := Lib.hid hxs
            clear hxs Hst7 HN7 Hst6
            go_upto_region 9 with fail
            generalize w7.alloc (.cells #[.int .i64 1, .int .i64 0, .int .i64 0, .int .i64 0] 38) = w8 at *
            generalize w7.heap.size = gX at *
            refine wp_loop_rounds 2 ?_
            have c1 : w8.cell? ⟨gN, 1, none⟩ = some (.string ⟨#[110]⟩) := Hxs.out.nb.cell 1
            have l1 : w8.cell? ⟨gL, 1, none⟩ = some (.string (strB p1)) := by rw [Hxs.out.st.l.cell, Hpp.out]; rfl
            have x1 : w8.cell? ⟨gX, 1, none⟩ = some (.int .i64 0) := Hxs.out.x.cell 1
            have f1 : w8.frozen? ⟨gX, 1, none⟩ = false := Hxs.out.x.frozen 1
            have hat := Lib.hid (fun (w' : World) (kk : Keep [] w8 w') => atoi_spec (HE.out.keep (Hxs.out.st.k.trans kk (by simp))) p1 (Hps.out p1 (by rw [Hpp.out]; simp)))
            rw [rounds_succ]
            go_upto_region 11 with fail
            have hne1 : (⟨gX, 1, none⟩ : Addr) ≠ ⟨gL, 1, none⟩ := fun e => Hxs.out.x.ne_ Hxs.out.st.l (by decide) (congrArg Addr.block e)
            have hw1 : IntKind.i64.wrap 1 = 1 := by decide
            go_region_held3 (fun w' => w'.cell? ⟨gL, 1, none⟩ = some (.string (strB p1))) (first | exact by assumption | exact (World.cell?_setCell_other _ _ _ _ hne1).trans (by assumption) | go_keep)
              (first | (go_at_call 60; go_must (refine (field_n _ _).mono ?_; rintro e w' ⟨rfl, rfl⟩)) | (go_at_call 64; go_must (refine (hat.out _ ((Keep.refl [] _).drewN 1)).mono ?_; rintro e wa ⟨n, u1, rfl, hka, hna, hua⟩; have l2 := cell_keep0 hka.of_drew l1; have x2 := cell_keep0 hka.of_drew x1; have f2 : wa.frozen? ⟨gX, 1, none⟩ = false := (Hxs.out.keep hka.of_drew).x.frozen 1)))
            have Hxs1 := Lib.hid ((Hxs.out.keep hka.of_drew).set_ 1 (.int .i64 n) ⟨1, n, 0, 0⟩ rfl)
            have Hn1 := Lib.hid (And.intro hna hua)
            clear hka hna hua l2 x2 f2 c1 l1 x1 f1 hat hne1 hw1 Hxs
            generalize wa.setCell ⟨gX, 1, none⟩ (.int .i64 n) = w9 at *
            go_wp2_with fail
            rw [rounds_succ]
            have x0 : w9.cell? ⟨gX, 0, none⟩ = some (.int .i64 1) := Hxs1.out.x.cell 0
            have x1 : w9.cell? ⟨gX, 1, none⟩ = some (.int .i64 n) := Hxs1.out.x.cell 1
            have x2 : w9.cell? ⟨gX, 2, none⟩ = some (.int .i64 0) := Hxs1.out.x.cell 2
            have x3 : w9.cell? ⟨gX, 3, none⟩ = some (.int .i64 0) := Hxs1.out.x.cell 3
            have hIn : ST.In ⟨1, n, 0, 0⟩ := ⟨k64 (show (1 : Int) ≤ 1 by decide) (show (1 : Int) ≤ 7 by decide), Hn1.out.1, z64, z64⟩
            have hgood : goodL ⟨1, n, 0, 0⟩ = true := by simp [goodL, ownL]
            have hln := Lib.hid (line_spec w9 (HE.out.env.keep Hxs1.out.st.k) ⟨1, n, 0, 0⟩ hIn (show (1 : Int) ≤ 1 by decide) (show (1 : Int) ≤ 7 by decide))
            have hback := Lib.hid (step_back hgood hIn Hhit.out (by
              rw [Hpp.out]
              intro j p n0 hp hn0 m hm he
              cases j with
              | zero => simp [fieldsL] at hp hn0; subst hp hn0; exact Hn1.out.2 m hm he
              | succ j => simp [fieldsL] at hn0))
            clear hIn hgood
            go_wp2_with fail
            refine hln.out.mono ?_
            rintro e wl ⟨rfl, hkl⟩
            rw [show decide (ownL ⟨1, n, 0, 0⟩ = ⟨1, n, 0, 0⟩) = true from by simp [ownL]]
            have Hf := Lib.hid (Hxs1.out.keep hkl)
            have y0 : wl.cell? ⟨gX, 0, none⟩ = some (.int .i64 1) := Hf.out.x.cell 0
            have y1 : wl.cell? ⟨gX, 1, none⟩ = some (.int .i64 n) := Hf.out.x.cell 1
            have y2 : wl.cell? ⟨gX, 2, none⟩ = some (.int .i64 0) := Hf.out.x.cell 2
            have y3 : wl.cell? ⟨gX, 3, none⟩ = some (.int .i64 0) := Hf.out.x.cell 3
            have z0 : wl.cell? ⟨g2, 0, none⟩ = some (.int .i64 0) := Hf.out.st.z.cell 0
            have z1 : wl.cell? ⟨g2, 1, none⟩ = some (.int .i64 0) := Hf.out.st.z.cell 1
            have z2 : wl.cell? ⟨g2, 2, none⟩ = some (.int .i64 0) := Hf.out.st.z.cell 2
            have z3 : wl.cell? ⟨g2, 3, none⟩ = some (.int .i64 0) := Hf.out.st.z.cell 3
            have zf : ∀ i, wl.frozen? ⟨g2, i, none⟩ = false := fun i => Hf.out.st.z.frozen i
            clear x0 x1 x2 x3 hln hkl Hxs1
            have hb := set4 Hf.out.st.z (.int .i64 1) (.int .i64 n) (.int .i64 0) (.int .i64 0)
            have d0 := hb.cell 0
            have d1 := hb.cell 1
            have d2 := hb.cell 2
            have d3 := hb.cell 3
            have hk := Hf.out.st.k.trans (keep4 (g := g2) (.int .i64 1) (.int .i64 n) (.int .i64 0) (.int .i64 0)) (fun x hx => Or.inr (by rw [show x = g2 by simpa using hx]; exact Hf.out.st.n2))
            have D := Lib.hid (And.intro d0 (And.intro d1 (And.intro d2 (And.intro d3 hk))))
            clear hb d0 d1 d2 d3 hk
            by_cases hq : lineL ⟨1, n, 0, 0⟩ = bs
            · have e1 := strB_eq (decide_eq_true hq)
              have Hres := Lib.hid (hback.out.1 hq)
              clear hq hback
              go_wp2
              obtain ⟨d0, d1, d2, d3, hk⟩ := D.out
              exact bodyPost_ret (v := .tuple #[.agg #[.int .i64 1, .int .i64 n, .int .i64 0, .int .i64 0], .bool true]) (by simp [results, Tryd.results49, go_sem, d0, d1, d2, d3]) rfl ⟨hk, Or.inl ⟨_, Hres.out, rfl⟩⟩
            · have e1 := strB_eq (decide_eq_false hq)
              have Hres := Lib.hid (hback.out.2 hq)
              clear hq hback
              go_wp2
              obtain ⟨d0, d1, d2, d3, hk⟩ := D.out
              exact bodyPost_ret (v := .tuple #[.agg #[.int .i64 1, .int .i64 n, .int .i64 0, .int .i64 0], .bool false]) (by simp [results, Tryd.results49, go_sem, d0, d1, d2, d3]) rfl ⟨hk, Or.inr ⟨Hres.out, ⟨1, n, 0, 0⟩, rfl⟩⟩
          · -- kind 2
            obtain rfl : pr = [] := List.eq_nil_of_length_eq_zero (by rw [← hB]; rfl)
            rw [show ([] : List BS).length + 1 = 1 from rfl, show (restL 2).length + 1 = 1 from rfl]
            have Hhit := Lib.hid (show hitK (pieces 32 bs) 2 from ⟨by rw [Hpp.out, hA]; rfl, by rw [Hpp.out]; rfl⟩)
            clear hA hB
            go_wp2_with fail
            go_quiet (fail)
            have Hst7 := Lib.hid (Hst6.out.keep ((Keep.refl [] w6).drewN nq))
            have HN7 := Lib.hid (show Blk (w6.drewN nq) w5.heap.size 9 ((([⟨#[116, 105, 99, 107]⟩] : List ByteArray)).map .string) from H6.out.1.drewN nq)
            generalize w6.drewN nq = w7 at *
            generalize w5.heap.size = gN at *
            clear n0 l0 e1 e2 H6
            have hxs : XSt w7.heap.size gN ⟨2, 0, 0, 0⟩ [⟨#[116, 105, 99, 107]⟩] g2 gL gM gR (pieces 32 bs) _ cnt5 w (w7.alloc (.cells #[.int .i64 2, .int .i64 0, .int .i64 0, .int .i64 0] 38)) := XSt.new Hst7.out HN7.out ⟨2, 0, 0, 0⟩ rfl
            have Hxs := Lib.hid hxs
            clear hxs Hst7 HN7 Hst6
            go_upto_region 9 with fail
            generalize w7.alloc (.cells #[.int .i64 2, .int .i64 0, .int .i64 0, .int .i64 0] 38) = w8 at *
            generalize w7.heap.size = gX at *
            refine wp_loop_rounds 1 ?_
            rw [rounds_succ]
            have x0 : w8.cell? ⟨gX, 0, none⟩ = some (.int .i64 2) := Hxs.out.x.cell 0
            have x1 : w8.cell? ⟨gX, 1, none⟩ = some (.int .i64 0) := Hxs.out.x.cell 1
            have x2 : w8.cell? ⟨gX, 2, none⟩ = some (.int .i64 0) := Hxs.out.x.cell 2
            have x3 : w8.cell? ⟨gX, 3, none⟩ = some (.int .i64 0) := Hxs.out.x.cell 3
            have hIn : ST.In ⟨2, 0, 0, 0⟩ := ⟨k64 (show (1 : Int) ≤ 2 by decide) (show (2 : Int) ≤ 7 by decide), z64, z64, z64⟩
            have hgood : goodL ⟨2, 0, 0, 0⟩ = true := by simp [goodL, ownL]
            have hln := Lib.hid (line_spec w8 (HE.out.env.keep Hxs.out.st.k) ⟨2, 0, 0, 0⟩ hIn (show (1 : Int) ≤ 2 by decide) (show (2 : Int) ≤ 7 by decide))
            have hback := Lib.hid (step_back hgood hIn Hhit.out (by
              rw [Hpp.out]
              intro j p n0 hp hn0 m hm he
              simp [fieldsL] at hn0))
            clear hIn hgood
            go_wp2_with fail
            refine hln.out.mono ?_
            rintro e wl ⟨rfl, hkl⟩
            rw [show decide (ownL ⟨2, 0, 0, 0⟩ = ⟨2, 0, 0, 0⟩) = true from by simp [ownL]]
            have Hf := Lib.hid (Hxs.out.keep hkl)
            have y0 : wl.cell? ⟨gX, 0, none⟩ = some (.int .i64 2) := Hf.out.x.cell 0
            have y1 : wl.cell? ⟨gX, 1, none⟩ = some (.int .i64 0) := Hf.out.x.cell 1
            have y2 : wl.cell? ⟨gX, 2, none⟩ = some (.int .i64 0) := Hf.out.x.cell 2
            have y3 : wl.cell? ⟨gX, 3, none⟩ = some (.int .i64 0) := Hf.out.x.cell 3
            have z0 : wl.cell? ⟨g2, 0, none⟩ = some (.int .i64 0) := Hf.out.st.z.cell 0
            have z1 : wl.cell? ⟨g2, 1, none⟩ = some (.int .i64 0) := Hf.out.st.z.cell 1
            have z2 : wl.cell? ⟨g2, 2, none⟩ = some (.int .i64 0) := Hf.out.st.z.cell 2
            have z3 : wl.cell? ⟨g2, 3, none⟩ = some (.int .i64 0) := Hf.out.st.z.cell 3
            have zf : ∀ i, wl.frozen? ⟨g2, i, none⟩ = false := fun i => Hf.out.st.z.frozen i
            clear x0 x1 x2 x3 hln hkl Hxs
            have hb := set4 Hf.out.st.z (.int .i64 2) (.int .i64 0) (.int .i64 0) (.int .i64 0)
            have d0 := hb.cell 0
            have d1 := hb.cell 1
            have d2 := hb.cell 2
            have d3 := hb.cell 3
            have hk := Hf.out.st.k.trans (keep4 (g := g2) (.int .i64 2) (.int .i64 0) (.int .i64 0) (.int .i64 0)) (fun x hx => Or.inr (by rw [show x = g2 by simpa using hx]; exact Hf.out.st.n2))
            have D := Lib.hid (And.intro d0 (And.intro d1 (And.intro d2 (And.intro d3 hk))))
            clear hb d0 d1 d2 d3 hk
            by_cases hq : lineL ⟨2, 0, 0, 0⟩ = bs
            · have e1 := strB_eq (decide_eq_true hq)
              have Hres := Lib.hid (hback.out.1 hq)
              clear hq hback
              go_wp2
              obtain ⟨d0, d1, d2, d3, hk⟩ := D.out
              exact bodyPost_ret (v := .tuple #[.agg #[.int .i64 2, .int .i64 0, .int .i64 0, .int .i64 0], .bool true]) (by simp [results, Tryd.results49, go_sem, d0, d1, d2, d3]) rfl ⟨hk, Or.inl ⟨_, Hres.out, rfl⟩⟩
            · have e1 := strB_eq (decide_eq_false hq)
              have Hres := Lib.hid (hback.out.2 hq)
              clear hq hback
              go_wp2
              obtain ⟨d0, d1, d2, d3, hk⟩ := D.out
              exact bodyPost_ret (v := .tuple #[.agg #[.int .i64 2, .int .i64 0, .int .i64 0, .int .i64 0], .bool false]) (by simp [results, Tryd.results49, go_sem, d0, d1, d2, d3]) rfl ⟨hk, Or.inr ⟨Hres.out, ⟨2, 0, 0, 0⟩, rfl⟩⟩
          · -- kind 3
            obtain ⟨p1, rfl⟩ : ∃ p1, pr = [p1] := len_one (by rw [← hB]; rfl)
            rw [show ([p1] : List BS).length + 1 = 2 from rfl, show (restL 3).length + 1 = 2 from rfl]
            have Hhit := Lib.hid (show hitK (pieces 32 bs) 3 from ⟨by rw [Hpp.out, hA]; rfl, by rw [Hpp.out]; rfl⟩)
            clear hA hB
            go_wp2_with fail
            go_quiet (fail)
            have Hst7 := Lib.hid (Hst6.out.keep ((Keep.refl [] w6).drewN nq))
            have HN7 := Lib.hid (show Blk (w6.drewN nq) w5.heap.size 9 ((([⟨#[100, 101, 108, 105, 118, 101, 114]⟩, ⟨#[107]⟩] : List ByteArray)).map .string) from H6.out.1.drewN nq)
            generalize w6.drewN nq = w7 at *
            generalize w5.heap.size = gN at *
            clear n0 l0 e1 e2 H6
            have hxs : XSt w7.heap.size gN ⟨3, 0, 0, 0⟩ [⟨#[100, 101, 108, 105, 118, 101, 114]⟩, ⟨#[107]⟩] g2 gL gM gR (pieces 32 bs) _ cnt5 w (w7.alloc (.cells #[.int .i64 3, .int .i64 0, .int .i64 0, .int .i64 0] 38)) := XSt.new Hst7.out HN7.out ⟨3, 0, 0, 0⟩ rfl
            have Hxs := Lib.hid hxs
            clear hxs Hst7 HN7 Hst6
            go_upto_region 9 with fail
            generalize w7.alloc (.cells #[.int .i64 3, .int .i64 0, .int .i64 0, .int .i64 0] 38) = w8 at *
            generalize w7.heap.size = gX at *
            refine wp_loop_rounds 2 ?_
            have c1 : w8.cell? ⟨gN, 1, none⟩ = some (.string ⟨#[107]⟩) := Hxs.out.nb.cell 1
            have l1 : w8.cell? ⟨gL, 1, none⟩ = some (.string (strB p1)) := by rw [Hxs.out.st.l.cell, Hpp.out]; rfl
            have x1 : w8.cell? ⟨gX, 2, none⟩ = some (.int .i64 0) := Hxs.out.x.cell 2
            have f1 : w8.frozen? ⟨gX, 2, none⟩ = false := Hxs.out.x.frozen 2
            have hat := Lib.hid (fun (w' : World) (kk : Keep [] w8 w') => atoi_spec (HE.out.keep (Hxs.out.st.k.trans kk (by simp))) p1 (Hps.out p1 (by rw [Hpp.out]; simp)))
            rw [rounds_succ]
            go_upto_region 11 with fail
            have hne1 : (⟨gX, 2, none⟩ : Addr) ≠ ⟨gL, 1, none⟩ := fun e => Hxs.out.x.ne_ Hxs.out.st.l (by decide) (congrArg Addr.block e)
            have hw1 : IntKind.i64.wrap 1 = 1 := by decide
            go_region_held3 (fun w' => w'.cell? ⟨gL, 1, none⟩ = some (.string (strB p1))) (first | exact by assumption | exact (World.cell?_setCell_other _ _ _ _ hne1).trans (by assumption) | go_keep)
              (first | (go_at_call 60; go_must (refine (field_k _ _).mono ?_; rintro e w' ⟨rfl, rfl⟩)) | (go_at_call 64; go_must (refine (hat.out _ ((Keep.refl [] _).drewN 1)).mono ?_; rintro e wa ⟨n, u1, rfl, hka, hna, hua⟩; have l2 := cell_keep0 hka.of_drew l1; have x2 := cell_keep0 hka.of_drew x1; have f2 : wa.frozen? ⟨gX, 2, none⟩ = false := (Hxs.out.keep hka.of_drew).x.frozen 2)))
            have Hxs1 := Lib.hid ((Hxs.out.keep hka.of_drew).set_ 2 (.int .i64 n) ⟨3, 0, n, 0⟩ rfl)
            have Hn1 := Lib.hid (And.intro hna hua)
            clear hka hna hua l2 x2 f2 c1 l1 x1 f1 hat hne1 hw1 Hxs
            generalize wa.setCell ⟨gX, 2, none⟩ (.int .i64 n) = w9 at *
            go_wp2_with fail
            rw [rounds_succ]
            have x0 : w9.cell? ⟨gX, 0, none⟩ = some (.int .i64 3) := Hxs1.out.x.cell 0
            have x1 : w9.cell? ⟨gX, 1, none⟩ = some (.int .i64 0) := Hxs1.out.x.cell 1
            have x2 : w9.cell? ⟨gX, 2, none⟩ = some (.int .i64 n) := Hxs1.out.x.cell 2
            have x3 : w9.cell? ⟨gX, 3, none⟩ = some (.int .i64 0) := Hxs1.out.x.cell 3
            have hIn : ST.In ⟨3, 0, n, 0⟩ := ⟨k64 (show (1 : Int) ≤ 3 by decide) (show (3 : Int) ≤ 7 by decide), z64, Hn1.out.1, z64⟩
            have hgood : goodL ⟨3, 0, n, 0⟩ = true := by simp [goodL, ownL]
            have hln := Lib.hid (line_spec w9 (HE.out.env.keep Hxs1.out.st.k) ⟨3, 0, n, 0⟩ hIn (show (1 : Int) ≤ 3 by decide) (show (3 : Int) ≤ 7 by decide))
            have hback := Lib.hid (step_back hgood hIn Hhit.out (by
              rw [Hpp.out]
              intro j p n0 hp hn0 m hm he
              cases j with
              | zero => simp [fieldsL] at hp hn0; subst hp hn0; exact Hn1.out.2 m hm he
              | succ j => simp [fieldsL] at hn0))
            clear hIn hgood
            go_wp2_with fail
            refine hln.out.mono ?_
            rintro e wl ⟨rfl, hkl⟩
            rw [show decide (ownL ⟨3, 0, n, 0⟩ = ⟨3, 0, n, 0⟩) = true from by simp [ownL]]
            have Hf := Lib.hid (Hxs1.out.keep hkl)
            have y0 : wl.cell? ⟨gX, 0, none⟩ = some (.int .i64 3) := Hf.out.x.cell 0
            have y1 : wl.cell? ⟨gX, 1, none⟩ = some (.int .i64 0) := Hf.out.x.cell 1
            have y2 : wl.cell? ⟨gX, 2, none⟩ = some (.int .i64 n) := Hf.out.x.cell 2
            have y3 : wl.cell? ⟨gX, 3, none⟩ = some (.int .i64 0) := Hf.out.x.cell 3
            have z0 : wl.cell? ⟨g2, 0, none⟩ = some (.int .i64 0) := Hf.out.st.z.cell 0
            have z1 : wl.cell? ⟨g2, 1, none⟩ = some (.int .i64 0) := Hf.out.st.z.cell 1
            have z2 : wl.cell? ⟨g2, 2, none⟩ = some (.int .i64 0) := Hf.out.st.z.cell 2
            have z3 : wl.cell? ⟨g2, 3, none⟩ = some (.int .i64 0) := Hf.out.st.z.cell 3
            have zf : ∀ i, wl.frozen? ⟨g2, i, none⟩ = false := fun i => Hf.out.st.z.frozen i
            clear x0 x1 x2 x3 hln hkl Hxs1
            have hb := set4 Hf.out.st.z (.int .i64 3) (.int .i64 0) (.int .i64 n) (.int .i64 0)
            have d0 := hb.cell 0
            have d1 := hb.cell 1
            have d2 := hb.cell 2
            have d3 := hb.cell 3
            have hk := Hf.out.st.k.trans (keep4 (g := g2) (.int .i64 3) (.int .i64 0) (.int .i64 n) (.int .i64 0)) (fun x hx => Or.inr (by rw [show x = g2 by simpa using hx]; exact Hf.out.st.n2))
            have D := Lib.hid (And.intro d0 (And.intro d1 (And.intro d2 (And.intro d3 hk))))
            clear hb d0 d1 d2 d3 hk
            by_cases hq : lineL ⟨3, 0, n, 0⟩ = bs
            · have e1 := strB_eq (decide_eq_true hq)
              have Hres := Lib.hid (hback.out.1 hq)
              clear hq hback
              go_wp2
              obtain ⟨d0, d1, d2, d3, hk⟩ := D.out
              exact bodyPost_ret (v := .tuple #[.agg #[.int .i64 3, .int .i64 0, .int .i64 n, .int .i64 0], .bool true]) (by simp [results, Tryd.results49, go_sem, d0, d1, d2, d3]) rfl ⟨hk, Or.inl ⟨_, Hres.out, rfl⟩⟩
            · have e1 := strB_eq (decide_eq_false hq)
              have Hres := Lib.hid (hback.out.2 hq)
              clear hq hback
              go_wp2
              obtain ⟨d0, d1, d2, d3, hk⟩ := D.out
              exact bodyPost_ret (v := .tuple #[.agg #[.int .i64 3, .int .i64 0, .int .i64 n, .int .i64 0], .bool false]) (by simp [results, Tryd.results49, go_sem, d0, d1, d2, d3]) rfl ⟨hk, Or.inr ⟨Hres.out, ⟨3, 0, n, 0⟩, rfl⟩⟩
          · -- kind 4
            obtain ⟨p1, rfl⟩ : ∃ p1, pr = [p1] := len_one (by rw [← hB]; rfl)
            rw [show ([p1] : List BS).length + 1 = 2 from rfl, show (restL 4).length + 1 = 2 from rfl]
            have Hhit := Lib.hid (show hitK (pieces 32 bs) 4 from ⟨by rw [Hpp.out, hA]; rfl, by rw [Hpp.out]; rfl⟩)
            clear hA hB
            go_wp2_with fail
            go_quiet (fail)
            have Hst7 := Lib.hid (Hst6.out.keep ((Keep.refl [] w6).drewN nq))
            have HN7 := Lib.hid (show Blk (w6.drewN nq) w5.heap.size 9 ((([⟨#[100, 114, 111, 112]⟩, ⟨#[107]⟩] : List ByteArray)).map .string) from H6.out.1.drewN nq)
            generalize w6.drewN nq = w7 at *
            generalize w5.heap.size = gN at *
            clear n0 l0 e1 e2 H6
            have hxs : XSt w7.heap.size gN ⟨4, 0, 0, 0⟩ [⟨#[100, 114, 111, 112]⟩, ⟨#[107]⟩] g2 gL gM gR (pieces 32 bs) _ cnt5 w (w7.alloc (.cells #[.int .i64 4, .int .i64 0, .int .i64 0, .int .i64 0] 38)) := XSt.new Hst7.out HN7.out ⟨4, 0, 0, 0⟩ rfl
            have Hxs := Lib.hid hxs
            clear hxs Hst7 HN7 Hst6
            go_upto_region 9 with fail
            generalize w7.alloc (.cells #[.int .i64 4, .int .i64 0, .int .i64 0, .int .i64 0] 38) = w8 at *
            generalize w7.heap.size = gX at *
            refine wp_loop_rounds 2 ?_
            have c1 : w8.cell? ⟨gN, 1, none⟩ = some (.string ⟨#[107]⟩) := Hxs.out.nb.cell 1
            have l1 : w8.cell? ⟨gL, 1, none⟩ = some (.string (strB p1)) := by rw [Hxs.out.st.l.cell, Hpp.out]; rfl
            have x1 : w8.cell? ⟨gX, 2, none⟩ = some (.int .i64 0) := Hxs.out.x.cell 2
            have f1 : w8.frozen? ⟨gX, 2, none⟩ = false := Hxs.out.x.frozen 2
            have hat := Lib.hid (fun (w' : World) (kk : Keep [] w8 w') => atoi_spec (HE.out.keep (Hxs.out.st.k.trans kk (by simp))) p1 (Hps.out p1 (by rw [Hpp.out]; simp)))
            rw [rounds_succ]
            go_upto_region 11 with fail
            have hne1 : (⟨gX, 2, none⟩ : Addr) ≠ ⟨gL, 1, none⟩ := fun e => Hxs.out.x.ne_ Hxs.out.st.l (by decide) (congrArg Addr.block e)
            have hw1 : IntKind.i64.wrap 1 = 1 := by decide
            go_region_held3 (fun w' => w'.cell? ⟨gL, 1, none⟩ = some (.string (strB p1))) (first | exact by assumption | exact (World.cell?_setCell_other _ _ _ _ hne1).trans (by assumption) | go_keep)
              (first | (go_at_call 60; go_must (refine (field_k _ _).mono ?_; rintro e w' ⟨rfl, rfl⟩)) | (go_at_call 64; go_must (refine (hat.out _ ((Keep.refl [] _).drewN 1)).mono ?_; rintro e wa ⟨n, u1, rfl, hka, hna, hua⟩; have l2 := cell_keep0 hka.of_drew l1; have x2 := cell_keep0 hka.of_drew x1; have f2 : wa.frozen? ⟨gX, 2, none⟩ = false := (Hxs.out.keep hka.of_drew).x.frozen 2)))
            have Hxs1 := Lib.hid ((Hxs.out.keep hka.of_drew).set_ 2 (.int .i64 n) ⟨4, 0, n, 0⟩ rfl)
            have Hn1 := Lib.hid (And.intro hna hua)
            clear hka hna hua l2 x2 f2 c1 l1 x1 f1 hat hne1 hw1 Hxs
            generalize wa.setCell ⟨gX, 2, none⟩ (.int .i64 n) = w9 at *
            go_wp2_with fail
            rw [rounds_succ]
            have x0 : w9.cell? ⟨gX, 0, none⟩ = some (.int .i64 4) := Hxs1.out.x.cell 0
            have x1 : w9.cell? ⟨gX, 1, none⟩ = some (.int .i64 0) := Hxs1.out.x.cell 1
            have x2 : w9.cell? ⟨gX, 2, none⟩ = some (.int .i64 n) := Hxs1.out.x.cell 2
            have x3 : w9.cell? ⟨gX, 3, none⟩ = some (.int .i64 0) := Hxs1.out.x.cell 3
            have hIn : ST.In ⟨4, 0, n, 0⟩ := ⟨k64 (show (1 : Int) ≤ 4 by decide) (show (4 : Int) ≤ 7 by decide), z64, Hn1.out.1, z64⟩
            have hgood : goodL ⟨4, 0, n, 0⟩ = true := by simp [goodL, ownL]
            have hln := Lib.hid (line_spec w9 (HE.out.env.keep Hxs1.out.st.k) ⟨4, 0, n, 0⟩ hIn (show (1 : Int) ≤ 4 by decide) (show (4 : Int) ≤ 7 by decide))
            have hback := Lib.hid (step_back hgood hIn Hhit.out (by
              rw [Hpp.out]
              intro j p n0 hp hn0 m hm he
              cases j with
              | zero => simp [fieldsL] at hp hn0; subst hp hn0; exact Hn1.out.2 m hm he
              | succ j => simp [fieldsL] at hn0))
            clear hIn hgood
            go_wp2_with fail
            refine hln.out.mono ?_
            rintro e wl ⟨rfl, hkl⟩
            rw [show decide (ownL ⟨4, 0, n, 0⟩ = ⟨4, 0, n, 0⟩) = true from by simp [ownL]]
            have Hf := Lib.hid (Hxs1.out.keep hkl)
            have y0 : wl.cell? ⟨gX, 0, none⟩ = some (.int .i64 4) := Hf.out.x.cell 0
            have y1 : wl.cell? ⟨gX, 1, none⟩ = some (.int .i64 0) := Hf.out.x.cell 1
            have y2 : wl.cell? ⟨gX, 2, none⟩ = some (.int .i64 n) := Hf.out.x.cell 2
            have y3 : wl.cell? ⟨gX, 3, none⟩ = some (.int .i64 0) := Hf.out.x.cell 3
            have z0 : wl.cell? ⟨g2, 0, none⟩ = some (.int .i64 0) := Hf.out.st.z.cell 0
            have z1 : wl.cell? ⟨g2, 1, none⟩ = some (.int .i64 0) := Hf.out.st.z.cell 1
            have z2 : wl.cell? ⟨g2, 2, none⟩ = some (.int .i64 0) := Hf.out.st.z.cell 2
            have z3 : wl.cell? ⟨g2, 3, none⟩ = some (.int .i64 0) := Hf.out.st.z.cell 3
            have zf : ∀ i, wl.frozen? ⟨g2, i, none⟩ = false := fun i => Hf.out.st.z.frozen i
            clear x0 x1 x2 x3 hln hkl Hxs1
            have hb := set4 Hf.out.st.z (.int .i64 4) (.int .i64 0) (.int .i64 n) (.int .i64 0)
            have d0 := hb.cell 0
            have d1 := hb.cell 1
            have d2 := hb.cell 2
            have d3 := hb.cell 3
            have hk := Hf.out.st.k.trans (keep4 (g := g2) (.int .i64 4) (.int .i64 0) (.int .i64 n) (.int .i64 0)) (fun x hx => Or.inr (by rw [show x = g2 by simpa using hx]; exact Hf.out.st.n2))
            have D := Lib.hid (And.intro d0 (And.intro d1 (And.intro d2 (And.intro d3 hk))))
            clear hb d0 d1 d2 d3 hk
            by_cases hq : lineL ⟨4, 0, n, 0⟩ = bs
            · have e1 := strB_eq (decide_eq_true hq)
              have Hres := Lib.hid (hback.out.1 hq)
              clear hq hback
              go_wp2
              obtain ⟨d0, d1, d2, d3, hk⟩ := D.out
              exact bodyPost_ret (v := .tuple #[.agg #[.int .i64 4, .int .i64 0, .int .i64 n, .int .i64 0], .bool true]) (by simp [results, Tryd.results49, go_sem, d0, d1, d2, d3]) rfl ⟨hk, Or.inl ⟨_, Hres.out, rfl⟩⟩
            · have e1 := strB_eq (decide_eq_false hq)
              have Hres := Lib.hid (hback.out.2 hq)
              clear hq hback
              go_wp2
              obtain ⟨d0, d1, d2, d3, hk⟩ := D.out
              exact bodyPost_ret (v := .tuple #[.agg #[.int .i64 4, .int .i64 0, .int .i64 n, .int .i64 0], .bool false]) (by simp [results, Tryd.results49, go_sem, d0, d1, d2, d3]) rfl ⟨hk, Or.inr ⟨Hres.out, ⟨4, 0, n, 0⟩, rfl⟩⟩
          · -- kind 5
            obtain ⟨p1, rfl⟩ : ∃ p1, pr = [p1] := len_one (by rw [← hB]; rfl)
            rw [show ([p1] : List BS).length + 1 = 2 from rfl, show (restL 5).length + 1 = 2 from rfl]
            have Hhit := Lib.hid (show hitK (pieces 32 bs) 5 from ⟨by rw [Hpp.out, hA]; rfl, by rw [Hpp.out]; rfl⟩)
            clear hA hB
            go_wp2_with fail
            go_quiet (fail)
            have Hst7 := Lib.hid (Hst6.out.keep ((Keep.refl [] w6).drewN nq))
            have HN7 := Lib.hid (show Blk (w6.drewN nq) w5.heap.size 9 ((([⟨#[100, 117, 112]⟩, ⟨#[107]⟩] : List ByteArray)).map .string) from H6.out.1.drewN nq)
            generalize w6.drewN nq = w7 at *
            generalize w5.heap.size = gN at *
            clear n0 l0 e1 e2 H6
            have hxs : XSt w7.heap.size gN ⟨5, 0, 0, 0⟩ [⟨#[100, 117, 112]⟩, ⟨#[107]⟩] g2 gL gM gR (pieces 32 bs) _ cnt5 w (w7.alloc (.cells #[.int .i64 5, .int .i64 0, .int .i64 0, .int .i64 0] 38)) := XSt.new Hst7.out HN7.out ⟨5, 0, 0, 0⟩ rfl
            have Hxs := Lib.hid hxs
            clear hxs Hst7 HN7 Hst6
            go_upto_region 9 with fail
            generalize w7.alloc (.cells #[.int .i64 5, .int .i64 0, .int .i64 0, .int .i64 0] 38) = w8 at *
            generalize w7.heap.size = gX at *
            refine wp_loop_rounds 2 ?_
            have c1 : w8.cell? ⟨gN, 1, none⟩ = some (.string ⟨#[107]⟩) := Hxs.out.nb.cell 1
            have l1 : w8.cell? ⟨gL, 1, none⟩ = some (.string (strB p1)) := by rw [Hxs.out.st.l.cell, Hpp.out]; rfl
            have x1 : w8.cell? ⟨gX, 2, none⟩ = some (.int .i64 0) := Hxs.out.x.cell 2
            have f1 : w8.frozen? ⟨gX, 2, none⟩ = false := Hxs.out.x.frozen 2
            have hat := Lib.hid (fun (w' : World) (kk : Keep [] w8 w') => atoi_spec (HE.out.keep (Hxs.out.st.k.trans kk (by simp))) p1 (Hps.out p1 (by rw [Hpp.out]; simp)))
            rw [rounds_succ]
            go_upto_region 11 with fail
            have hne1 : (⟨gX, 2, none⟩ : Addr) ≠ ⟨gL, 1, none⟩ := fun e => Hxs.out.x.ne_ Hxs.out.st.l (by decide) (congrArg Addr.block e)
            have hw1 : IntKind.i64.wrap 1 = 1 := by decide
            go_region_held3 (fun w' => w'.cell? ⟨gL, 1, none⟩ = some (.string (strB p1))) (first | exact by assumption | exact (World.cell?_setCell_other _ _ _ _ hne1).trans (by assumption) | go_keep)
              (first | (go_at_call 60; go_must (refine (field_k _ _).mono ?_; rintro e w' ⟨rfl, rfl⟩)) | (go_at_call 64; go_must (refine (hat.out _ ((Keep.refl [] _).drewN 1)).mono ?_; rintro e wa ⟨n, u1, rfl, hka, hna, hua⟩; have l2 := cell_keep0 hka.of_drew l1; have x2 := cell_keep0 hka.of_drew x1; have f2 : wa.frozen? ⟨gX, 2, none⟩ = false := (Hxs.out.keep hka.of_drew).x.frozen 2)))
            have Hxs1 := Lib.hid ((Hxs.out.keep hka.of_drew).set_ 2 (.int .i64 n) ⟨5, 0, n, 0⟩ rfl)
            have Hn1 := Lib.hid (And.intro hna hua)
            clear hka hna hua l2 x2 f2 c1 l1 x1 f1 hat hne1 hw1 Hxs
            generalize wa.setCell ⟨gX, 2, none⟩ (.int .i64 n) = w9 at *
            go_wp2_with fail
            rw [rounds_succ]
            have x0 : w9.cell? ⟨gX, 0, none⟩ = some (.int .i64 5) := Hxs1.out.x.cell 0
            have x1 : w9.cell? ⟨gX, 1, none⟩ = some (.int .i64 0) := Hxs1.out.x.cell 1
            have x2 : w9.cell? ⟨gX, 2, none⟩ = some (.int .i64 n) := Hxs1.out.x.cell 2
            have x3 : w9.cell? ⟨gX, 3, none⟩ = some (.int .i64 0) := Hxs1.out.x.cell 3
            have hIn : ST.In ⟨5, 0, n, 0⟩ := ⟨k64 (show (1 : Int) ≤ 5 by decide) (show (5 : Int) ≤ 7 by decide), z64, Hn1.out.1, z64⟩
            have hgood : goodL ⟨5, 0, n, 0⟩ = true := by simp [goodL, ownL]
            have hln := Lib.hid (line_spec w9 (HE.out.env.keep Hxs1.out.st.k) ⟨5, 0, n, 0⟩ hIn (show (1 : Int) ≤ 5 by decide) (show (5 : Int) ≤ 7 by decide))
            have hback := Lib.hid (step_back hgood hIn Hhit.out (by
              rw [Hpp.out]
              intro j p n0 hp hn0 m hm he
              cases j with
              | zero => simp [fieldsL] at hp hn0; subst hp hn0; exact Hn1.out.2 m hm he
              | succ j => simp [fieldsL] at hn0))
            clear hIn hgood
            go_wp2_with fail
            refine hln.out.mono ?_
            rintro e wl ⟨rfl, hkl⟩
            rw [show decide (ownL ⟨5, 0, n, 0⟩ = ⟨5, 0, n, 0⟩) = true from by simp [ownL]]
            have Hf := Lib.hid (Hxs1.out.keep hkl)
            have y0 : wl.cell? ⟨gX, 0, none⟩ = some (.int .i64 5) := Hf.out.x.cell 0
            have y1 : wl.cell? ⟨gX, 1, none⟩ = some (.int .i64 0) := Hf.out.x.cell 1
            have y2 : wl.cell? ⟨gX, 2, none⟩ = some (.int .i64 n) := Hf.out.x.cell 2
            have y3 : wl.cell? ⟨gX, 3, none⟩ = some (.int .i64 0) := Hf.out.x.cell 3
            have z0 : wl.cell? ⟨g2, 0, none⟩ = some (.int .i64 0) := Hf.out.st.z.cell 0
            have z1 : wl.cell? ⟨g2, 1, none⟩ = some (.int .i64 0) := Hf.out.st.z.cell 1
            have z2 : wl.cell? ⟨g2, 2, none⟩ = some (.int .i64 0) := Hf.out.st.z.cell 2
            have z3 : wl.cell? ⟨g2, 3, none⟩ = some (.int .i64 0) := Hf.out.st.z.cell 3
            have zf : ∀ i, wl.frozen? ⟨g2, i, none⟩ = false := fun i => Hf.out.st.z.frozen i
            clear x0 x1 x2 x3 hln hkl Hxs1
            have hb := set4 Hf.out.st.z (.int .i64 5) (.int .i64 0) (.int .i64 n) (.int .i64 0)
            have d0 := hb.cell 0
            have d1 := hb.cell 1
            have d2 := hb.cell 2
            have d3 := hb.cell 3
            have hk := Hf.out.st.k.trans (keep4 (g := g2) (.int .i64 5) (.int .i64 0) (.int .i64 n) (.int .i64 0)) (fun x hx => Or.inr (by rw [show x = g2 by simpa using hx]; exact Hf.out.st.n2))
            have D := Lib.hid (And.intro d0 (And.intro d1 (And.intro d2 (And.intro d3 hk))))
            clear hb d0 d1 d2 d3 hk
            by_cases hq : lineL ⟨5, 0, n, 0⟩ = bs
            · have e1 := strB_eq (decide_eq_true hq)
              have Hres := Lib.hid (hback.out.1 hq)
              clear hq hback
              go_wp2
              obtain ⟨d0, d1, d2, d3, hk⟩ := D.out
              exact bodyPost_ret (v := .tuple #[.agg #[.int .i64 5, .int .i64 0, .int .i64 n, .int .i64 0], .bool true]) (by simp [results, Tryd.results49, go_sem, d0, d1, d2, d3]) rfl ⟨hk, Or.inl ⟨_, Hres.out, rfl⟩⟩
            · have e1 := strB_eq (decide_eq_false hq)
              have Hres := Lib.hid (hback.out.2 hq)
              clear hq hback
              go_wp2
              obtain ⟨d0, d1, d2, d3, hk⟩ := D.out
              exact bodyPost_ret (v := .tuple #[.agg #[.int .i64 5, .int .i64 0, .int .i64 n, .int .i64 0], .bool false]) (by simp [results, Tryd.results49, go_sem, d0, d1, d2, d3]) rfl ⟨hk, Or.inr ⟨Hres.out, ⟨5, 0, n, 0⟩, rfl⟩⟩
          · -- kind 6
            obtain ⟨p1, p2, rfl⟩ : ∃ p1 p2, pr = [p1, p2] := len_two (by rw [← hB]; rfl)
            rw [show ([p1, p2] : List BS).length + 1 = 3 from rfl, show (restL 6).length + 1 = 3 from rfl]
            have Hhit := Lib.hid (show hitK (pieces 32 bs) 6 from ⟨by rw [Hpp.out, hA]; rfl, by rw [Hpp.out]; rfl⟩)
            clear hA hB
            go_wp2_with fail
            go_quiet (fail)
            have Hst7 := Lib.hid (Hst6.out.keep ((Keep.refl [] w6).drewN nq))
            have HN7 := Lib.hid (show Blk (w6.drewN nq) w5.heap.size 9 ((([⟨#[102, 108, 105, 112]⟩, ⟨#[107]⟩, ⟨#[98]⟩] : List ByteArray)).map .string) from H6.out.1.drewN nq)
            generalize w6.drewN nq = w7 at *
            generalize w5.heap.size = gN at *
            clear n0 l0 e1 e2 H6
            have hxs : XSt w7.heap.size gN ⟨6, 0, 0, 0⟩ [⟨#[102, 108, 105, 112]⟩, ⟨#[107]⟩, ⟨#[98]⟩] g2 gL gM gR (pieces 32 bs) _ cnt5 w (w7.alloc (.cells #[.int .i64 6, .int .i64 0, .int .i64 0, .int .i64 0] 38)) := XSt.new Hst7.out HN7.out ⟨6, 0, 0, 0⟩ rfl
            have Hxs := Lib.hid hxs
            clear hxs Hst7 HN7 Hst6
            go_upto_region 9 with fail
            generalize w7.alloc (.cells #[.int .i64 6, .int .i64 0, .int .i64 0, .int .i64 0] 38) = w8 at *
            generalize w7.heap.size = gX at *
            refine wp_loop_rounds 3 ?_
            have c1 : w8.cell? ⟨gN, 1, none⟩ = some (.string ⟨#[107]⟩) := Hxs.out.nb.cell 1
            have l1 : w8.cell? ⟨gL, 1, none⟩ = some (.string (strB p1)) := by rw [Hxs.out.st.l.cell, Hpp.out]; rfl
            have x1 : w8.cell? ⟨gX, 2, none⟩ = some (.int .i64 0) := Hxs.out.x.cell 2
            have f1 : w8.frozen? ⟨gX, 2, none⟩ = false := Hxs.out.x.frozen 2
            have hat := Lib.hid (fun (w' : World) (kk : Keep [] w8 w') => atoi_spec (HE.out.keep (Hxs.out.st.k.trans kk (by simp))) p1 (Hps.out p1 (by rw [Hpp.out]; simp)))
            rw [rounds_succ]
            go_upto_region 11 with fail
            have hne1 : (⟨gX, 2, none⟩ : Addr) ≠ ⟨gL, 1, none⟩ := fun e => Hxs.out.x.ne_ Hxs.out.st.l (by decide) (congrArg Addr.block e)
            have hw1 : IntKind.i64.wrap 1 = 1 := by decide
            go_region_held3 (fun w' => w'.cell? ⟨gL, 1, none⟩ = some (.string (strB p1))) (first | exact by assumption | exact (World.cell?_setCell_other _ _ _ _ hne1).trans (by assumption) | go_keep)
              (first | (go_at_call 60; go_must (refine (field_k _ _).mono ?_; rintro e w' ⟨rfl, rfl⟩)) | (go_at_call 64; go_must (refine (hat.out _ ((Keep.refl [] _).drewN 1)).mono ?_; rintro e wa ⟨n, u1, rfl, hka, hna, hua⟩; have l2 := cell_keep0 hka.of_drew l1; have x2 := cell_keep0 hka.of_drew x1; have f2 : wa.frozen? ⟨gX, 2, none⟩ = false := (Hxs.out.keep hka.of_drew).x.frozen 2)))
            have Hxs1 := Lib.hid ((Hxs.out.keep hka.of_drew).set_ 2 (.int .i64 n) ⟨6, 0, n, 0⟩ rfl)
            have Hn1 := Lib.hid (And.intro hna hua)
            clear hka hna hua l2 x2 f2 c1 l1 x1 f1 hat hne1 hw1 Hxs
            generalize wa.setCell ⟨gX, 2, none⟩ (.int .i64 n) = w9 at *
            go_wp2_with fail
            have c1 : w9.cell? ⟨gN, 2, none⟩ = some (.string ⟨#[98]⟩) := Hxs1.out.nb.cell 2
            have l1 : w9.cell? ⟨gL, 2, none⟩ = some (.string (strB p2)) := by rw [Hxs1.out.st.l.cell, Hpp.out]; rfl
            have x1 : w9.cell? ⟨gX, 3, none⟩ = some (.int .i64 0) := Hxs1.out.x.cell 3
            have f1 : w9.frozen? ⟨gX, 3, none⟩ = false := Hxs1.out.x.frozen 3
            have hat := Lib.hid (fun (w' : World) (kk : Keep [] w9 w') => atoi_spec (HE.out.keep (Hxs1.out.st.k.trans kk (by simp))) p2 (Hps.out p2 (by rw [Hpp.out]; simp)))
            rw [rounds_succ]
            go_upto_region 11 with fail
            have hne1 : (⟨gX, 3, none⟩ : Addr) ≠ ⟨gL, 2, none⟩ := fun e => Hxs1.out.x.ne_ Hxs1.out.st.l (by decide) (congrArg Addr.block e)
            have hw1 : IntKind.i64.wrap 2 = 2 := by decide
            go_region_held3 (fun w' => w'.cell? ⟨gL, 2, none⟩ = some (.string (strB p2))) (first | exact by assumption | exact (World.cell?_setCell_other _ _ _ _ hne1).trans (by assumption) | go_keep)
              (first | (go_at_call 60; go_must (refine (field_b _ _).mono ?_; rintro e w' ⟨rfl, rfl⟩)) | (go_at_call 64; go_must (refine (hat.out _ ((Keep.refl [] _).drewN 1)).mono ?_; rintro e wa ⟨m, u2, rfl, hka, hna, hua⟩; have l2 := cell_keep0 hka.of_drew l1; have x2 := cell_keep0 hka.of_drew x1; have f2 : wa.frozen? ⟨gX, 3, none⟩ = false := (Hxs1.out.keep hka.of_drew).x.frozen 3)))
            have Hxs2 := Lib.hid ((Hxs1.out.keep hka.of_drew).set_ 3 (.int .i64 m) ⟨6, 0, n, m⟩ rfl)
            have Hn2 := Lib.hid (And.intro hna hua)
            clear hka hna hua l2 x2 f2 c1 l1 x1 f1 hat hne1 hw1 Hxs1
            generalize wa.setCell ⟨gX, 3, none⟩ (.int .i64 m) = w10 at *
            go_wp2_with fail
            rw [rounds_succ]
            have x0 : w10.cell? ⟨gX, 0, none⟩ = some (.int .i64 6) := Hxs2.out.x.cell 0
            have x1 : w10.cell? ⟨gX, 1, none⟩ = some (.int .i64 0) := Hxs2.out.x.cell 1
            have x2 : w10.cell? ⟨gX, 2, none⟩ = some (.int .i64 n) := Hxs2.out.x.cell 2
            have x3 : w10.cell? ⟨gX, 3, none⟩ = some (.int .i64 m) := Hxs2.out.x.cell 3
            have hIn : ST.In ⟨6, 0, n, m⟩ := ⟨k64 (show (1 : Int) ≤ 6 by decide) (show (6 : Int) ≤ 7 by decide), z64, Hn1.out.1, Hn2.out.1⟩
            have hgood : goodL ⟨6, 0, n, m⟩ = true := by simp [goodL, ownL]
            have hln := Lib.hid (line_spec w10 (HE.out.env.keep Hxs2.out.st.k) ⟨6, 0, n, m⟩ hIn (show (1 : Int) ≤ 6 by decide) (show (6 : Int) ≤ 7 by decide))
            have hback := Lib.hid (step_back hgood hIn Hhit.out (by
              rw [Hpp.out]
              intro j p n0 hp hn0 m hm he
              match j with
              | 0 => simp [fieldsL] at hp hn0; subst hp hn0; exact Hn1.out.2 m hm he
              | 1 => simp [fieldsL] at hp hn0; subst hp hn0; exact Hn2.out.2 m hm he
              | j + 2 => simp [fieldsL] at hn0))
            clear hIn hgood
            go_wp2_with fail
            refine hln.out.mono ?_
            rintro e wl ⟨rfl, hkl⟩
            rw [show decide (ownL ⟨6, 0, n, m⟩ = ⟨6, 0, n, m⟩) = true from by simp [ownL]]
            have Hf := Lib.hid (Hxs2.out.keep hkl)
            have y0 : wl.cell? ⟨gX, 0, none⟩ = some (.int .i64 6) := Hf.out.x.cell 0
            have y1 : wl.cell? ⟨gX, 1, none⟩ = some (.int .i64 0) := Hf.out.x.cell 1
            have y2 : wl.cell? ⟨gX, 2, none⟩ = some (.int .i64 n) := Hf.out.x.cell 2
            have y3 : wl.cell? ⟨gX, 3, none⟩ = some (.int .i64 m) := Hf.out.x.cell 3
            have z0 : wl.cell? ⟨g2, 0, none⟩ = some (.int .i64 0) := Hf.out.st.z.cell 0
            have z1 : wl.cell? ⟨g2, 1, none⟩ = some (.int .i64 0) := Hf.out.st.z.cell 1
            have z2 : wl.cell? ⟨g2, 2, none⟩ = some (.int .i64 0) := Hf.out.st.z.cell 2
            have z3 : wl.cell? ⟨g2, 3, none⟩ = some (.int .i64 0) := Hf.out.st.z.cell 3
            have zf : ∀ i, wl.frozen? ⟨g2, i, none⟩ = false := fun i => Hf.out.st.z.frozen i
            clear x0 x1 x2 x3 hln hkl Hxs2
            have hb := set4 Hf.out.st.z (.int .i64 6) (.int .i64 0) (.int .i64 n) (.int .i64 m)
            have d0 := hb.cell 0
            have d1 := hb.cell 1
            have d2 := hb.cell 2
            have d3 := hb.cell 3
            have hk := Hf.out.st.k.trans (keep4 (g := g2) (.int .i64 6) (.int .i64 0) (.int .i64 n) (.int .i64 m)) (fun x hx => Or.inr (by rw [show x = g2 by simpa using hx]; exact Hf.out.st.n2))
            have D := Lib.hid (And.intro d0 (And.intro d1 (And.intro d2 (And.intro d3 hk))))
            clear hb d0 d1 d2 d3 hk
            by_cases hq : lineL ⟨6, 0, n, m⟩ = bs
            · have e1 := strB_eq (decide_eq_true hq)
              have Hres := Lib.hid (hback.out.1 hq)
              clear hq hback
              go_wp2
              obtain ⟨d0, d1, d2, d3, hk⟩ := D.out
              exact bodyPost_ret (v := .tuple #[.agg #[.int .i64 6, .int .i64 0, .int .i64 n, .int .i64 m], .bool true]) (by simp [results, Tryd.results49, go_sem, d0, d1, d2, d3]) rfl ⟨hk, Or.inl ⟨_, Hres.out, rfl⟩⟩
            · have e1 := strB_eq (decide_eq_false hq)
              have Hres := Lib.hid (hback.out.2 hq)
              clear hq hback
              go_wp2
              obtain ⟨d0, d1, d2, d3, hk⟩ := D.out
              exact bodyPost_ret (v := .tuple #[.agg #[.int .i64 6, .int .i64 0, .int .i64 n, .int .i64 m], .bool false]) (by simp [results, Tryd.results49, go_sem, d0, d1, d2, d3]) rfl ⟨hk, Or.inr ⟨Hres.out, ⟨6, 0, n, m⟩, rfl⟩⟩
          · -- kind 7
            obtain ⟨p1, rfl⟩ : ∃ p1, pr = [p1] := len_one (by rw [← hB]; rfl)
            rw [show ([p1] : List BS).length + 1 = 2 from rfl, show (restL 7).length + 1 = 2 from rfl]
            have Hhit := Lib.hid (show hitK (pieces 32 bs) 7 from ⟨by rw [Hpp.out, hA]; rfl, by rw [Hpp.out]; rfl⟩)
            clear hA hB
            go_wp2_with fail
            go_quiet (fail)
            have Hst7 := Lib.hid (Hst6.out.keep ((Keep.refl [] w6).drewN nq))
            have HN7 := Lib.hid (show Blk (w6.drewN nq) w5.heap.size 9 ((([⟨#[99, 114, 97, 115, 104]⟩, ⟨#[110]⟩] : List ByteArray)).map .string) from H6.out.1.drewN nq)
            generalize w6.drewN nq = w7 at *
            generalize w5.heap.size = gN at *
            clear n0 l0 e1 e2 H6
            have hxs : XSt w7.heap.size gN ⟨7, 0, 0, 0⟩ [⟨#[99, 114, 97, 115, 104]⟩, ⟨#[110]⟩] g2 gL gM gR (pieces 32 bs) _ cnt5 w (w7.alloc (.cells #[.int .i64 7, .int .i64 0, .int .i64 0, .int .i64 0] 38)) := XSt.new Hst7.out HN7.out ⟨7, 0, 0, 0⟩ rfl
            have Hxs := Lib.hid hxs
            clear hxs Hst7 HN7 Hst6
            go_upto_region 9 with fail
            generalize w7.alloc (.cells #[.int .i64 7, .int .i64 0, .int .i64 0, .int .i64 0] 38) = w8 at *
            generalize w7.heap.size = gX at *
            refine wp_loop_rounds 2 ?_
            have c1 : w8.cell? ⟨gN, 1, none⟩ = some (.string ⟨#[110]⟩) := Hxs.out.nb.cell 1
            have l1 : w8.cell? ⟨gL, 1, none⟩ = some (.string (strB p1)) := by rw [Hxs.out.st.l.cell, Hpp.out]; rfl
            have x1 : w8.cell? ⟨gX, 1, none⟩ = some (.int .i64 0) := Hxs.out.x.cell 1
            have f1 : w8.frozen? ⟨gX, 1, none⟩ = false := Hxs.out.x.frozen 1
            have hat := Lib.hid (fun (w' : World) (kk : Keep [] w8 w') => atoi_spec (HE.out.keep (Hxs.out.st.k.trans kk (by simp))) p1 (Hps.out p1 (by rw [Hpp.out]; simp)))
            rw [rounds_succ]
            go_upto_region 11 with fail
            have hne1 : (⟨gX, 1, none⟩ : Addr) ≠ ⟨gL, 1, none⟩ := fun e => Hxs.out.x.ne_ Hxs.out.st.l (by decide) (congrArg Addr.block e)
            have hw1 : IntKind.i64.wrap 1 = 1 := by decide
            go_region_held3 (fun w' => w'.cell? ⟨gL, 1, none⟩ = some (.string (strB p1))) (first | exact by assumption | exact (World.cell?_setCell_other _ _ _ _ hne1).trans (by assumption) | go_keep)
              (first | (go_at_call 60; go_must (refine (field_n _ _).mono ?_; rintro e w' ⟨rfl, rfl⟩)) | (go_at_call 64; go_must (refine (hat.out _ ((Keep.refl [] _).drewN 1)).mono ?_; rintro e wa ⟨n, u1, rfl, hka, hna, hua⟩; have l2 := cell_keep0 hka.of_drew l1; have x2 := cell_keep0 hka.of_drew x1; have f2 : wa.frozen? ⟨gX, 1, none⟩ = false := (Hxs.out.keep hka.of_drew).x.frozen 1)))
            have Hxs1 := Lib.hid ((Hxs.out.keep hka.of_drew).set_ 1 (.int .i64 n) ⟨7, n, 0, 0⟩ rfl)
            have Hn1 := Lib.hid (And.intro hna hua)
            clear hka hna hua l2 x2 f2 c1 l1 x1 f1 hat hne1 hw1 Hxs
            generalize wa.setCell ⟨gX, 1, none⟩ (.int .i64 n) = w9 at *
            go_wp2_with fail
            rw [rounds_succ]
            have x0 : w9.cell? ⟨gX, 0, none⟩ = some (.int .i64 7) := Hxs1.out.x.cell 0
            have x1 : w9.cell? ⟨gX, 1, none⟩ = some (.int .i64 n) := Hxs1.out.x.cell 1
            have x2 : w9.cell? ⟨gX, 2, none⟩ = some (.int .i64 0) := Hxs1.out.x.cell 2
            have x3 : w9.cell? ⟨gX, 3, none⟩ = some (.int .i64 0) := Hxs1.out.x.cell 3
            have hIn : ST.In ⟨7, n, 0, 0⟩ := ⟨k64 (show (1 : Int) ≤ 7 by decide) (show (7 : Int) ≤ 7 by decide), Hn1.out.1, z64, z64⟩
            have hgood : goodL ⟨7, n, 0, 0⟩ = true := by simp [goodL, ownL]
            have hln := Lib.hid (line_spec w9 (HE.out.env.keep Hxs1.out.st.k) ⟨7, n, 0, 0⟩ hIn (show (1 : Int) ≤ 7 by decide) (show (7 : Int) ≤ 7 by decide))
            have hback := Lib.hid (step_back hgood hIn Hhit.out (by
              rw [Hpp.out]
              intro j p n0 hp hn0 m hm he
              cases j with
              | zero => simp [fieldsL] at hp hn0; subst hp hn0; exact Hn1.out.2 m hm he
              | succ j => simp [fieldsL] at hn0))
            clear hIn hgood
            go_wp2_with fail
            refine hln.out.mono ?_
            rintro e wl ⟨rfl, hkl⟩
            rw [show decide (ownL ⟨7, n, 0, 0⟩ = ⟨7, n, 0, 0⟩) = true from by simp [ownL]]
            have Hf := Lib.hid (Hxs1.out.keep hkl)
            have y0 : wl.cell? ⟨gX, 0, none⟩ = some (.int .i64 7) := Hf.out.x.cell 0
            have y1 : wl.cell? ⟨gX, 1, none⟩ = some (.int .i64 n) := Hf.out.x.cell 1
            have y2 : wl.cell? ⟨gX, 2, none⟩ = some (.int .i64 0) := Hf.out.x.cell 2
            have y3 : wl.cell? ⟨gX, 3, none⟩ = some (.int .i64 0) := Hf.out.x.cell 3
            have z0 : wl.cell? ⟨g2, 0, none⟩ = some (.int .i64 0) := Hf.out.st.z.cell 0
            have z1 : wl.cell? ⟨g2, 1, none⟩ = some (.int .i64 0) := Hf.out.st.z.cell 1
            have z2 : wl.cell? ⟨g2, 2, none⟩ = some (.int .i64 0) := Hf.out.st.z.cell 2
            have z3 : wl.cell? ⟨g2, 3, none⟩ = some (.int .i64 0) := Hf.out.st.z.cell 3
            have zf : ∀ i, wl.frozen? ⟨g2, i, none⟩ = false := fun i => Hf.out.st.z.frozen i
            clear x0 x1 x2 x3 hln hkl Hxs1
            have hb := set4 Hf.out.st.z (.int .i64 7) (.int .i64 n) (.int .i64 0) (.int .i64 0)
            have d0 := hb.cell 0
            have d1 := hb.cell 1
            have d2 := hb.cell 2
            have d3 := hb.cell 3
            have hk := Hf.out.st.k.trans (keep4 (g := g2) (.int .i64 7) (.int .i64 n) (.int .i64 0) (.int .i64 0)) (fun x hx => Or.inr (by rw [show x = g2 by simpa using hx]; exact Hf.out.st.n2))
            have D := Lib.hid (And.intro d0 (And.intro d1 (And.intro d2 (And.intro d3 hk))))
            clear hb d0 d1 d2 d3 hk
            by_cases hq : lineL ⟨7, n, 0, 0⟩ = bs
            · have e1 := strB_eq (decide_eq_true hq)
              have Hres := Lib.hid (hback.out.1 hq)
              clear hq hback
              go_wp2
              obtain ⟨d0, d1, d2, d3, hk⟩ := D.out
              exact bodyPost_ret (v := .tuple #[.agg #[.int .i64 7, .int .i64 n, .int .i64 0, .int .i64 0], .bool true]) (by simp [results, Tryd.results49, go_sem, d0, d1, d2, d3]) rfl ⟨hk, Or.inl ⟨_, Hres.out, rfl⟩⟩
            · have e1 := strB_eq (decide_eq_false hq)
              have Hres := Lib.hid (hback.out.2 hq)
              clear hq hback
              go_wp2
              obtain ⟨d0, d1, d2, d3, hk⟩ := D.out
              exact bodyPost_ret (v := .tuple #[.agg #[.int .i64 7, .int .i64 n, .int .i64 0, .int .i64 0], .bool false]) (by simp [results, Tryd.results49, go_sem, d0, d1, d2, d3]) rfl ⟨hk, Or.inr ⟨Hres.out, ⟨7, n, 0, 0⟩, rfl⟩⟩
        · have e3 : (((restL x).length + 1 : Nat) : Int) ≠ ((pr.length + 1 : Nat) : Int) := by omega
          have e4 : ((((restL x).length : Int) + 1) != ((pr.length : Int) + 1)) = true := by simp; omega
          have Hm := Lib.hid (show ¬ hitK (pieces 32 bs) x from fun h => by have h2 := h.2; rw [Hpp.out] at h2; simp at h2; omega)
          clear hA hB e3
          go_wp2_with fail
          go_quiet (fail)
          clear n0 l0 e1 e2 e4
          go_wp2_with fail
          go_roundw
          case rel => exact ⟨_, cnt5, Hst6.out.keep ((Keep.refl [] _).drewN _), miss_next Hmiss.out Hm.out⟩
          case measure =>
            have h1 := (Hst6.out.keep ((Keep.refl [] _).drewN nq)).rg.left_eq
            have h2 := Hlt.out
            rw [h1, h2.2.2]
            exact h2.1
      · have e1 := strB_eq (decide_eq_false hA)
        have e2 := strB_neq (r := true) (decide_eq_false hA)
        have Hm := Lib.hid (show ¬ hitK (pieces 32 bs) x from fun h => by have h1 := h.1; rw [Hpp.out] at h1; simp at h1; exact hA h1.symm)
        clear hA
        go_wp2_with fail
        go_quiet (fail)
        clear n0 l0 e1 e2
        go_wp2_with fail
        go_roundw
        case rel => exact ⟨_, cnt5, Hst6.out.keep ((Keep.refl [] _).drewN _), miss_next Hmiss.out Hm.out⟩
        case measure =>
          have h1 := (Hst6.out.keep ((Keep.refl [] _).drewN nq)).rg.left_eq
          have h2 := Hlt.out
          rw [h1, h2.2.2]
          exact h2.1
end Go.Proofs.YtndpbkhpllmhmaaDoor
