/- The reference's deques. -/
import Derived.Test.YtkeaekckblpfjaaRows
import Derived.WalkKit
import Derived.WalkSpells
import Derived.WalkLawsBesides
import Derived.RegionTactic
import Derived.ChangeAlike
import Derived.BigQuiet
import Derived.Deep.QuietTactic
import Derived.StillTailTactics
import Derived.IntWalk
import Derived.Handy
import Derived.Lib.Hide
import Derived.Deep.AppendLies
import Derived.Deep.RegionWith
import Derived.Test.YtkeaekckblpfjaaBase
import Derived.Test.YtkeaekckblpfjaaTail
import Derived.Test.YtkeaekckblpfjaaRing
import Derived.Test.YtkeaekckblpfjaaGrown
import Derived.Test.YtkeaekckblpfjaaArgs
import Derived.Test.YtkeaekckblpfjaaAppend
import Derived.Test.YtkeaekckblpfjaaRingMore
import Derived.Test.YtkeaekckblpfjaaDeque
import Derived.Test.YtkeaekckblpfjaaDequePop
import Derived.Test.YtkeaekckblpfjaaDequeObj
import Derived.Test.YtkeaekckblpfjaaDequeStep
import Derived.Test.YtkeaekckblpfjaaDequeStep2
import Derived.Test.YtkeaekckblpfjaaDequeItems
namespace Go.Proofs.Ytkeaekckblpfjaa
open Go.RowKit

/-! ### What the reference's deque is in memory -/
def rcall : Option DCall → List Int
  | none => [0, 0, 0, 0, 0, 0, 0]
  | some c => [c.kind, c.item, c.step, c.b, c.t, c.v, if c.won then 1 else 0]
@[simp] theorem rcall_length (o : Option DCall) : (rcall o).length = 7 := by cases o <;> rfl
theorem flat_get : ∀ (l : List (Option DCall)) (n : Nat) (o : Option DCall) (j : Nat), l[n]? = some o → j < 7 → (l.flatMap rcall)[n * 7 + j]? = (rcall o)[j]?
  | [], n, o, j, h, _ => by simp at h
  | a :: l, 0, o, j, h, hj => by
    simp only [List.getElem?_cons_zero, Option.some.injEq] at h
    subst h
    rw [List.flatMap_cons, Nat.zero_mul, Nat.zero_add, List.getElem?_append_left (by rw [rcall_length]; omega)]
  | a :: l, n + 1, o, j, h, hj => by
    rw [List.getElem?_cons_succ] at h
    rw [List.flatMap_cons, List.getElem?_append_right (by rw [rcall_length]; omega), rcall_length, show (n + 1) * 7 + j - 7 = n * 7 + j by omega]
    exact flat_get l n o j h hj
theorem flat_set : ∀ (l : List (Option DCall)) (n : Nat) (o o' : Option DCall) (j : Nat) (x : Int), l[n]? = some o → j < 7 → rcall o' = (rcall o).set j x → (l.flatMap rcall).set (n * 7 + j) x = (l.set n o').flatMap rcall
  | [], n, o, o', j, x, h, _, _ => by simp at h
  | a :: l, 0, o, o', j, x, h, hj, hr => by
    simp only [List.getElem?_cons_zero, Option.some.injEq] at h
    subst h
    rw [List.flatMap_cons, List.set_cons_zero, List.flatMap_cons, Nat.zero_mul, Nat.zero_add, List.set_append_left _ _ (by rw [rcall_length]; omega), hr]
  | a :: l, n + 1, o, o', j, x, h, hj, hr => by
    rw [List.getElem?_cons_succ] at h
    rw [List.flatMap_cons, List.set_cons_succ, List.flatMap_cons, List.set_append_right _ _ (by rw [rcall_length]; omega), rcall_length, show (n + 1) * 7 + j - 7 = n * 7 + j by omega, flat_set l n o o' j x h hj hr]
def rhead (pr : Nat) (q : DQ) : List Value := .int .i64 q.top :: .int .i64 q.bottom :: .pointer (some ⟨pr, 0, none⟩) :: (q.calls.flatMap rcall).map (.int .i64)
structure RDequeIn (w : World) (pd pr br : Nat) (q : DQ) : Prop where
  head : Blk w pd 77 (rhead pr q)
  ring : RingAt 36 w pr br q.ring
  clen : q.calls.length = 16
  kinds : ∀ (n : Nat) (c : DCall), q.calls[n]? = some (some c) → c.kind = 1 ∨ c.kind = 2 ∨ c.kind = 3
theorem RDequeIn.keep {w w' : World} {pd pr br : Nat} {q : DQ} {S : List Nat} (h : RDequeIn w pd pr br q) (hk : Keep S w w') (h1 : pd ∉ S) (h2 : pr ∉ S) (h3 : br ∉ S) : RDequeIn w' pd pr br q :=
  ⟨h.head.keep hk h1, h.ring.keep hk h2 h3, h.clen, h.kinds⟩
theorem RDequeIn.drewN {w : World} {pd pr br : Nat} {q : DQ} (h : RDequeIn w pd pr br q) (n : Nat) : RDequeIn (w.drewN n) pd pr br q := ⟨h.head.drewN n, h.ring.drewN n, h.clen, h.kinds⟩
theorem RDequeIn.field {w : World} {pd pr br : Nat} {q : DQ} (h : RDequeIn w pd pr br q) {n : Nat} {o : Option DCall} (ho : q.calls[n]? = some o) {j : Nat} (hj : j < 7) : w.cell? ⟨pd, 3 + n * 7 + j, none⟩ = ((rcall o)[j]?).map (.int .i64) := by
  rw [h.head.cell]
  unfold rhead
  rw [show 3 + n * 7 + j = (n * 7 + j) + 1 + 1 + 1 by omega]
  simp only [List.getElem?_cons_succ, List.getElem?_map, flat_get _ _ _ _ ho hj]
theorem rhead_set {w : World} {pd pr n : Nat} {T B : Int} {ring : List Int} {l : List (Option DCall)} {o o' : Option DCall} (h : Blk w pd 77 (rhead pr ⟨T, B, ring, l⟩)) (ho : l[n]? = some o) (j : Nat) (hj : j < 7) (x : Int) (hr : rcall o' = (rcall o).set j x) :
    Blk (w.setCell ⟨pd, 3 + n * 7 + j, none⟩ (.int .i64 x)) pd 77 (rhead pr ⟨T, B, ring, l.set n o'⟩) := by
  have h1 := h.set_ (3 + n * 7 + j) (.int .i64 x)
  have e : (rhead pr ⟨T, B, ring, l⟩).set (3 + n * 7 + j) (.int .i64 x) = rhead pr ⟨T, B, ring, l.set n o'⟩ := by
    unfold rhead
    rw [show 3 + n * 7 + j = (n * 7 + j) + 1 + 1 + 1 by omega]
    simp only [List.set_cons_succ]
    rw [← flat_set l n o o' j x ho hj hr, List.map_set]
  rw [e] at h1
  exact h1
theorem rhead_top {w : World} {pd pr : Nat} {T B : Int} {ring : List Int} {l : List (Option DCall)} (h : Blk w pd 77 (rhead pr ⟨T, B, ring, l⟩)) (x : Int) : Blk (w.setCell ⟨pd, 0, none⟩ (.int .i64 x)) pd 77 (rhead pr ⟨x, B, ring, l⟩) := h.set_ 0 _
theorem rhead_bot {w : World} {pd pr : Nat} {T B : Int} {ring : List Int} {l : List (Option DCall)} (h : Blk w pd 77 (rhead pr ⟨T, B, ring, l⟩)) (x : Int) : Blk (w.setCell ⟨pd, 1, none⟩ (.int .i64 x)) pd 77 (rhead pr ⟨T, x, ring, l⟩) := h.set_ 1 _
theorem rhead_ring {w : World} {pd pr : Nat} {T B : Int} {ring ring' : List Int} {l : List (Option DCall)} (h : Blk w pd 77 (rhead pr ⟨T, B, ring, l⟩)) (p : Nat) : Blk (w.setCell ⟨pd, 2, none⟩ (.pointer (some ⟨p, 0, none⟩))) pd 77 (rhead p ⟨T, B, ring', l⟩) := h.set_ 2 _
theorem rhead_set7 {w : World} {pd pr n : Nat} {T B : Int} {ring : List Int} {l : List (Option DCall)} {o : Option DCall} (h : Blk w pd 77 (rhead pr ⟨T, B, ring, l⟩)) (ho : l[n]? = some o) (o' : Option DCall) (x0 x1 x2 x3 x4 x5 x6 : Int) (hr : rcall o' = [x0, x1, x2, x3, x4, x5, x6]) :
    Blk (((((((w.setCell ⟨pd, 3 + n * 7, none⟩ (.int .i64 x0)).setCell ⟨pd, 3 + n * 7 + 1, none⟩ (.int .i64 x1)).setCell ⟨pd, 3 + n * 7 + 2, none⟩ (.int .i64 x2)).setCell ⟨pd, 3 + n * 7 + 3, none⟩ (.int .i64 x3)).setCell
      ⟨pd, 3 + n * 7 + 4, none⟩ (.int .i64 x4)).setCell ⟨pd, 3 + n * 7 + 5, none⟩ (.int .i64 x5)).setCell ⟨pd, 3 + n * 7 + 6, none⟩ (.int .i64 x6)) pd 77 (rhead pr ⟨T, B, ring, l.set n o'⟩) := by
  have hn : n < l.length := by
    rcases Nat.lt_or_ge n l.length with h | h
    · exact h
    · rw [List.getElem?_eq_none h] at ho; cases ho
  obtain ⟨c, hc⟩ : ∃ c, rcall o = rcall (some c) := by
    cases o with
    | none => exact ⟨⟨0, 0, 0, false, 0, 0, 0⟩, rfl⟩
    | some c => exact ⟨c, rfl⟩
  have s0 := rhead_set h ho (o' := some { c with kind := x0 }) 0 (by omega) x0 (by rw [hc]; rfl)
  have s1 := rhead_set s0 (List.getElem?_set_self hn) (o' := some { c with kind := x0, item := x1 }) 1 (by omega) x1 rfl
  rw [List.set_set] at s1
  have s2 := rhead_set s1 (List.getElem?_set_self hn) (o' := some { c with kind := x0, item := x1, step := x2 }) 2 (by omega) x2 rfl
  rw [List.set_set] at s2
  have s3 := rhead_set s2 (List.getElem?_set_self hn) (o' := some { c with kind := x0, item := x1, step := x2, b := x3 }) 3 (by omega) x3 rfl
  rw [List.set_set] at s3
  have s4 := rhead_set s3 (List.getElem?_set_self hn) (o' := some { c with kind := x0, item := x1, step := x2, b := x3, t := x4 }) 4 (by omega) x4 rfl
  rw [List.set_set] at s4
  have s5 := rhead_set s4 (List.getElem?_set_self hn) (o' := some { c with kind := x0, item := x1, step := x2, b := x3, t := x4, v := x5 }) 5 (by omega) x5 rfl
  rw [List.set_set] at s5
  have s6 := rhead_set s5 (List.getElem?_set_self hn) (o' := o') 6 (by omega) x6 (by rw [hr]; rfl)
  rw [List.set_set] at s6
  exact s6
theorem ring7 {w : World} {pd pr br n : Nat} {ring : List Int} {cs : List Value} (h : RingAt 36 w pr br ring) (hd : Blk w pd 77 cs) {v0 v1 v2 v3 v4 v5 v6 : Value} :
    RingAt 36 (((((((w.setCell ⟨pd, 3 + n * 7, none⟩ v0).setCell ⟨pd, 3 + n * 7 + 1, none⟩ v1).setCell ⟨pd, 3 + n * 7 + 2, none⟩ v2).setCell ⟨pd, 3 + n * 7 + 3, none⟩ v3).setCell
      ⟨pd, 3 + n * 7 + 4, none⟩ v4).setCell ⟨pd, 3 + n * 7 + 5, none⟩ v5).setCell ⟨pd, 3 + n * 7 + 6, none⟩ v6) pr br ring := by
  have p1 : pr ≠ pd := h.head.ne_ hd (by decide)
  have p2 : br ≠ pd := h.body.ne_ hd (by decide)
  exact ((((((h.far p1 p2 _).far p1 p2 _).far p1 p2 _).far p1 p2 _).far p1 p2 _).far p1 p2 _).far p1 p2 _
theorem keep7 (w : World) (pd br : Nat) (a0 a1 a2 a3 a4 a5 a6 : Nat) (v0 v1 v2 v3 v4 v5 v6 : Value) :
    Keep [pd, br] w (((((((w.setCell ⟨pd, a0, none⟩ v0).setCell ⟨pd, a1, none⟩ v1).setCell ⟨pd, a2, none⟩ v2).setCell ⟨pd, a3, none⟩ v3).setCell ⟨pd, a4, none⟩ v4).setCell ⟨pd, a5, none⟩ v5).setCell ⟨pd, a6, none⟩ v6) :=
  (((((((Keep.refl _ _).setCell (by simp) _).setCell (by simp) _).setCell (by simp) _).setCell (by simp) _).setCell (by simp) _).setCell (by simp) _).setCell (by simp) _
theorem kinds_set {l : List (Option DCall)} {n : Nat} {o : Option DCall} (h : ∀ (n : Nat) (c : DCall), l[n]? = some (some c) → c.kind = 1 ∨ c.kind = 2 ∨ c.kind = 3) (ho : ∀ c, o = some c → c.kind = 1 ∨ c.kind = 2 ∨ c.kind = 3) :
    ∀ (m : Nat) (c : DCall), (l.set n o)[m]? = some (some c) → c.kind = 1 ∨ c.kind = 2 ∨ c.kind = 3 := by
  intro m c hc
  rcases List.mem_or_eq_of_mem_set (List.mem_of_getElem? hc) with h1 | h1
  · obtain ⟨i, hi, he⟩ := List.mem_iff_getElem.1 h1
    exact h i c (by rw [List.getElem?_eq_getElem hi, he])
  · exact ho c h1.symm
/-- what a call of a method leaves -/
def RPost (pd pr br : Nat) (w : World) (v : Value) (q' : DQ) (e : Ending) (w' : World) : Prop :=
  e = .returned v ∧ ∃ pr' br', RDequeIn w' pd pr' br' q' ∧ Keep [pd, br] w w' ∧ (pr' = pr ∨ w.heap.size ≤ pr') ∧ (br' = br ∨ w.heap.size ≤ br')
theorem rbusyB_none {q : DQ} {n : Nat} (hc : q.calls[n]? = some none) : busyB q n = false := by unfold busyB; simp [hc]
theorem rbusyB_some {q : DQ} {n : Nat} {c : DCall} (hn : n < 16) (hc : q.calls[n]? = some (some c)) : busyB q n = true := by unfold busyB; rw [isB_true hn]; simp [hc]
set_option maxHeartbeats 1000000 in
theorem rbusy_spec {w : World} {pd pr br : Nat} {q : DQ} (who : Int) (h : RDequeIn w pd pr br q) :
    Calls Try.prog 32 #[.pointer (some ⟨pd, 0, none⟩), .int .i64 who] w fun e w' => e = .returned (.bool (busyB q who)) ∧ ∃ n, w' = w.drewN n := by
  by_cases hw : 0 ≤ who ∧ who < 16
  · obtain ⟨h0, h1⟩ := hw
    obtain ⟨n, rfl⟩ := Int.eq_ofNat_of_zero_le h0
    have hn : n < 16 := by omega
    have hl := h.clen
    cases ho : q.calls[n]? with
    | none => rw [List.getElem?_eq_none_iff] at ho; omega
    | some o =>
      have hcell := h.field ho (j := 0) (by omega)
      cases o with
      | none =>
        rw [rbusyB_none ho]
        have hc' : w.cell? ⟨pd, 3 + n * 7, none⟩ = some (.int .i64 0) := hcell
        clear hcell ho
        go_enter Try.func32, Try.ntmps32
        go_wp2
        go_ret
        exact ⟨rfl, 0, rfl⟩
      | some c =>
        rw [rbusyB_some hn ho]
        have hc' : w.cell? ⟨pd, 3 + n * 7, none⟩ = some (.int .i64 c.kind) := hcell
        have hk : (c.kind != 0) = true := by have := h.kinds n c ho; simp; omega
        clear hcell ho
        go_enter Try.func32, Try.ntmps32
        go_wp2
        go_ret
        exact ⟨rfl, 0, rfl⟩
  · have hb : busyB q who = false := by unfold busyB; rw [show isB who = false by unfold isB; simp; omega]; rfl
    rw [hb]
    have hc : who < 0 ∨ (0 ≤ who ∧ 16 ≤ who) := by omega
    clear hb hw
    rcases hc with hc | ⟨hc, hc2⟩
    all_goals
      go_enter Try.func32, Try.ntmps32
      go_wp2
      go_ret
      exact ⟨rfl, 0, rfl⟩
theorem mayBegin_no {who kind : Int} (h : mayBegin who kind = false) :
    who < 0 ∨ (0 ≤ who ∧ 15 < who) ∨ ((0 ≤ who ∧ who ≤ 15) ∧ kind < 1) ∨ ((0 ≤ who ∧ who ≤ 15) ∧ 1 ≤ kind ∧ 3 < kind) ∨ (who = 0 ∧ kind = 3) ∨ ((0 < who ∧ who ≤ 15) ∧ (kind = 1 ∨ kind = 2)) := by
  unfold mayBegin at h
  by_cases hw : 0 ≤ who ∧ who < 16
  · rw [show isB who = true by unfold isB; simpa using hw] at h
    by_cases h0 : who = 0
    · subst h0
      simp at h
      omega
    · rw [if_neg h0] at h
      simp at h
      omega
  · omega
theorem mayBegin_yes {who kind : Int} (h : mayBegin who kind = true) : (0 ≤ who ∧ who < 16) ∧ ((who ≤ 0 ∧ (kind = 1 ∨ kind = 2)) ∨ (0 < who ∧ kind = 3)) := by
  unfold mayBegin at h
  rw [Bool.and_eq_true] at h
  obtain ⟨h1, h2⟩ := h
  have h1' : 0 ≤ who ∧ who < 16 := by unfold isB at h1; simpa using h1
  refine ⟨h1', ?_⟩
  by_cases h0 : who = 0
  · rw [if_pos h0] at h2
    exact Or.inl ⟨by omega, by simpa using h2⟩
  · rw [if_neg h0] at h2
    exact Or.inr ⟨by omega, by simpa using h2⟩
set_option maxHeartbeats 1000000 in
theorem rbegin_spec {w : World} {pd pr br : Nat} {q : DQ} (who kind item : Int) (h : RDequeIn w pd pr br q) :
    Calls Try.prog 30 #[.pointer (some ⟨pd, 0, none⟩), .int .i64 who, .int .i64 kind, .int .i64 item] w (RPost pd pr br w (.int .i64 (dqBegin q who kind item).2) (dqBegin q who kind item).1) := by
  by_cases hm : mayBegin who kind = false
  · rw [begin_bad hm]
    have hc := mayBegin_no hm
    have Hp : Hid (RPost pd pr br w (.int .i64 1) q (.returned (.int .i64 1)) w) := Lib.hid ⟨rfl, pr, br, h, Keep.refl _ _, Or.inl rfl, Or.inl rfl⟩
    clear hm h
    rcases hc with h1 | ⟨h1, h2⟩ | ⟨⟨h1, h2⟩, h3⟩ | ⟨⟨h1, h2⟩, h3, h4⟩ | ⟨rfl, rfl⟩ | ⟨⟨h1, h2⟩, rfl | rfl⟩
    all_goals
      go_enter Try.func30, Try.ntmps30
      go_wp2
      go_ret
      exact Hp.out
  · have hm' : mayBegin who kind = true := by simpa using hm
    have hk := mayBegin_yes hm'
    obtain ⟨hw, hk⟩ := hk
    obtain ⟨n, rfl⟩ := Int.eq_ofNat_of_zero_le hw.1
    have hn : n < 16 := by omega
    have hl := h.clen
    have hz0 : (n : Int) ≤ 15 := by omega
    cases ho : q.calls[n]? with
    | none => rw [List.getElem?_eq_none_iff] at ho; omega
    | some o =>
      have hcell := h.field ho (j := 0) (by omega)
      have hfr : ∀ i, w.frozen? ⟨pd, i, none⟩ = false := fun i => h.head.frozen i
      cases o with
      | some c =>
        have hr : dqBegin q n kind item = (q, 31) := by unfold dqBegin; rw [if_neg hm, if_pos (rbusyB_some hn ho)]
        rw [hr]
        have hc' : w.cell? ⟨pd, 3 + n * 7, none⟩ = some (.int .i64 c.kind) := hcell
        have hk0 : (c.kind != 0) = true := by have := h.kinds n c ho; simp; omega
        have Hp : Hid (RPost pd pr br w (.int .i64 31) q (.returned (.int .i64 31)) w) := Lib.hid ⟨rfl, pr, br, h, Keep.refl _ _, Or.inl rfl, Or.inl rfl⟩
        clear hm hm' hr hcell ho h hfr hl hn hw
        have hk' : (decide (0 < n) = false ∧ (kind = 1 ∨ kind = 2)) ∨ (decide (0 < n) = true ∧ kind = 3) := by simp; omega
        clear hk
        rcases hk' with ⟨hn0, rfl | rfl⟩ | ⟨hn0, rfl⟩
        all_goals
          go_enter Try.func30, Try.ntmps30
          go_wp2
          go_ret
          exact Hp.out
      | none =>
        have hr : dqBegin q n kind item = (⟨q.top, q.bottom, q.ring, q.calls.set n (some (newCall kind item))⟩, 0) := by unfold dqBegin; rw [if_neg hm, if_neg (by rw [rbusyB_none ho]; simp)]; rfl
        rw [hr]
        have hc' : w.cell? ⟨pd, 3 + n * 7, none⟩ = some (.int .i64 0) := hcell
        have H := Lib.hid h
        have Ho := Lib.hid ho
        have e1 : w.cell? ⟨pd, 3 + n * 7 + 1, none⟩ = some (.int .i64 0) := h.field ho (j := 1) (by omega)
        have e2 : w.cell? ⟨pd, 3 + n * 7 + 2, none⟩ = some (.int .i64 0) := h.field ho (j := 2) (by omega)
        have e3 : w.cell? ⟨pd, 3 + n * 7 + 3, none⟩ = some (.int .i64 0) := h.field ho (j := 3) (by omega)
        have e4 : w.cell? ⟨pd, 3 + n * 7 + 4, none⟩ = some (.int .i64 0) := h.field ho (j := 4) (by omega)
        have e5 : w.cell? ⟨pd, 3 + n * 7 + 5, none⟩ = some (.int .i64 0) := h.field ho (j := 5) (by omega)
        have e6 : w.cell? ⟨pd, 3 + n * 7 + 6, none⟩ = some (.int .i64 0) := h.field ho (j := 6) (by omega)
        have hk' : (decide (0 < n) = false ∧ (kind = 1 ∨ kind = 2)) ∨ (decide (0 < n) = true ∧ kind = 3) := by simp; omega
        clear hk hm hm' hr hcell ho h hl hn hw
        rcases hk' with ⟨hn0, rfl | rfl⟩ | ⟨hn0, rfl⟩
        all_goals
          go_enter Try.func30, Try.ntmps30
          go_wp2
          go_ret
          exact ⟨rfl, pr, br, ⟨rhead_set7 H.out.head Ho.out (some _) _ _ _ _ _ _ _ rfl, ring7 H.out.ring H.out.head, by simpa using H.out.clen, kinds_set H.out.kinds (by simp [newCall])⟩, keep7 w pd br _ _ _ _ _ _ _ _ _ _ _ _ _ _, Or.inl rfl, Or.inl rfl⟩
end Go.Proofs.Ytkeaekckblpfjaa
