/- Deques as objects: Begin, Busy. -/
import Derived.Test.YtkeaekckblpfjaaRows
import Derived.WalkKit
import Derived.WalkSpells
import Derived.WalkLawsBesides
import Derived.RegionTactic
import Derived.ChangeAlike
import Derived.BigQuiet
import Derived.Deep.QuietTactic
import Derived.StillTailTactics
import Derived.IntWalk
import Derived.Handy
import Derived.Lib.Hide
import Derived.Deep.AppendLies
import Derived.Deep.RegionWith
import Derived.Test.YtkeaekckblpfjaaBase
import Derived.Test.YtkeaekckblpfjaaTail
import Derived.Test.YtkeaekckblpfjaaRing
import Derived.Test.YtkeaekckblpfjaaGrown
import Derived.Test.YtkeaekckblpfjaaArgs
import Derived.Test.YtkeaekckblpfjaaAppend
import Derived.Test.YtkeaekckblpfjaaRingMore
import Derived.Test.YtkeaekckblpfjaaDeque
import Derived.Test.YtkeaekckblpfjaaDequePop
namespace Go.Proofs.Ytkeaekckblpfjaa
open Go.RowKit


/-! ### The object -/
structure DQ where
  top : Int
  bottom : Int
  ring : List Int
  calls : List (Option DCall)
def ptrV (o : Option Nat) : Value := .pointer (o.map fun g => ⟨g, 0, none⟩)
def CallAt (w : World) : Option Nat → Option DCall → Prop
  | some g, some c => Blk w g 71 (callCells c)
  | none, none => True
  | _, _ => False
/-- the deque in memory, its blocks named -/
structure DequeIn (w : World) (pd pr br : Nat) (pcs : List (Option Nat)) (q : DQ) : Prop where
  head : Blk w pd 67 (.int .i64 q.top :: .int .i64 q.bottom :: .pointer (some ⟨pr, 0, none⟩) :: pcs.map ptrV)
  ring : RingAt 62 w pr br q.ring
  len : pcs.length = 16
  clen : q.calls.length = 16
  calls : ∀ (i : Nat) (o : Option Nat) (c : Option DCall), pcs[i]? = some o → q.calls[i]? = some c → CallAt w o c
  inj : ∀ (i j g : Nat), pcs[i]? = some (some g) → pcs[j]? = some (some g) → i = j
def foot (pd pr br : Nat) (pcs : List (Option Nat)) : List Nat := pd :: pr :: br :: pcs.filterMap id
/-- the deque in memory, its blocks F -/
def DequeAt (w : World) (pd : Nat) (F : List Nat) (q : DQ) : Prop := ∃ pr br pcs, DequeIn w pd pr br pcs q ∧ F = foot pd pr br pcs
theorem mem_foot {pd pr br : Nat} {pcs : List (Option Nat)} {i g : Nat} (h : pcs[i]? = some (some g)) : g ∈ foot pd pr br pcs := by
  simp only [foot, List.mem_cons, List.mem_filterMap]
  exact Or.inr (Or.inr (Or.inr ⟨some g, List.mem_of_getElem? h, rfl⟩))
theorem CallAt.keep {w w' : World} {S : List Nat} (hk : Keep S w w') : ∀ {o : Option Nat} {c : Option DCall}, CallAt w o c → (∀ g, o = some g → g ∉ S) → CallAt w' o c
  | some g, some _, h, hn => Blk.keep (g := g) h hk (hn g rfl)
  | none, none, _, _ => trivial
  | some _, none, h, _ => h
  | none, some _, h, _ => h
theorem DequeIn.keep {w w' : World} {pd pr br : Nat} {pcs : List (Option Nat)} {q : DQ} {S : List Nat} (h : DequeIn w pd pr br pcs q) (hk : Keep S w w') (hn : ∀ x ∈ foot pd pr br pcs, x ∉ S) : DequeIn w' pd pr br pcs q :=
  ⟨h.head.keep hk (hn _ (by simp [foot])), h.ring.keep hk (hn _ (by simp [foot])) (hn _ (by simp [foot])), h.len, h.clen,
   fun i o c ho hc => (h.calls i o c ho hc).keep hk (fun g hg => hn g (mem_foot (by rw [ho, hg]))), h.inj⟩
theorem DequeAt.keep {w w' : World} {pd : Nat} {F : List Nat} {q : DQ} {S : List Nat} (h : DequeAt w pd F q) (hk : Keep S w w') (hn : ∀ x ∈ F, x ∉ S) : DequeAt w' pd F q := by
  obtain ⟨pr, br, pcs, hi, rfl⟩ := h
  exact ⟨pr, br, pcs, hi.keep hk hn, rfl⟩
theorem DequeAt.drewN {w : World} {pd : Nat} {F : List Nat} {q : DQ} (h : DequeAt w pd F q) (n : Nat) : DequeAt (w.drewN n) pd F q := h.keep ((Keep.refl [] w).drewN n) (by simp)
theorem DequeAt.lt {w : World} {pd : Nat} {F : List Nat} {q : DQ} (h : DequeAt w pd F q) : ∀ x ∈ F, x < w.heap.size := by
  obtain ⟨pr, br, pcs, hi, rfl⟩ := h
  intro x hx
  simp only [foot, List.mem_cons, List.mem_filterMap] at hx
  rcases hx with rfl | rfl | rfl | ⟨o, ho, hg⟩
  · exact hi.head.lt
  · exact hi.ring.head.lt
  · exact hi.ring.body.lt
  · simp at hg
    subst hg
    obtain ⟨i, hi', he⟩ := List.mem_iff_getElem.1 ho
    have h1 : pcs[i]? = some (some x) := by rw [List.getElem?_eq_getElem hi', he]
    have hlen := hi.len
    have hclen := hi.clen
    have h2 := hi.calls i _ _ h1 (List.getElem?_eq_getElem (by omega))
    cases hc : q.calls[i]'(by omega) with
    | none => rw [hc] at h2; exact h2.elim
    | some c => rw [hc] at h2; exact Blk.lt h2
/-- what a call of a method leaves: the answer, the deque turned into q', its blocks, nothing else turned -/
def DqPost (pd : Nat) (F : List Nat) (w : World) (v : Value) (q' : DQ) (e : Ending) (w' : World) : Prop :=
  e = .returned v ∧ ∃ F', DequeAt w' pd F' q' ∧ Keep F w w' ∧ ∀ x ∈ F', x ∈ F ∨ w.heap.size ≤ x

/-! ### is, Busy -/
def isB (who : Int) : Bool := decide (0 ≤ who ∧ who < 16)
set_option maxHeartbeats 1000000 in
theorem is_spec (w : World) (who : Int) : Calls Try.prog 38 #[.int .i64 who] w fun e w' => e = .returned (.bool (isB who)) ∧ ∃ n, w' = w.drewN n := by
  by_cases h0 : who < 0
  · have hb : isB who = false := by unfold isB; simp; omega
    rw [hb]
    go_enter Try.func38, Try.ntmps38
    go_wp2
    go_ret
    exact ⟨rfl, 0, rfl⟩
  · by_cases h1 : who < 16
    · have hb : isB who = true := by unfold isB; simp; omega
      rw [hb]
      go_enter Try.func38, Try.ntmps38
      go_wp2
      go_ret
      exact ⟨rfl, 0, rfl⟩
    · have hb : isB who = false := by unfold isB; simp; omega
      rw [hb]
      go_enter Try.func38, Try.ntmps38
      go_wp2
      go_ret
      exact ⟨rfl, 0, rfl⟩
def busyB (q : DQ) (who : Int) : Bool := isB who && (q.calls.getD who.toNat none).isSome
theorem isB_true {n : Nat} (h : n < 16) : isB n = true := by unfold isB; simp; omega
theorem DequeIn.callCell {w : World} {pd pr br : Nat} {pcs : List (Option Nat)} {q : DQ} (h : DequeIn w pd pr br pcs q) {n : Nat} (hn : n < 16) :
    ∃ o c, pcs[n]? = some o ∧ q.calls[n]? = some c ∧ CallAt w o c ∧ w.cell? ⟨pd, 3 + n, none⟩ = some (ptrV o) := by
  have h1 := h.len
  have h2 := h.clen
  refine ⟨_, _, List.getElem?_eq_getElem (by omega), List.getElem?_eq_getElem (by omega), h.calls n _ _ (List.getElem?_eq_getElem (by omega)) (List.getElem?_eq_getElem (by omega)), ?_⟩
  rw [h.head.cell, show 3 + n = n + 1 + 1 + 1 by omega]
  simp only [List.getElem?_cons_succ, List.getElem?_map, List.getElem?_eq_getElem (show n < pcs.length by omega)]
  rfl
set_option maxHeartbeats 1000000 in
theorem busy_spec {w : World} {pd : Nat} {F : List Nat} {q : DQ} (who : Int) (h : DequeAt w pd F q) :
    Calls Try.prog 27 #[.pointer (some ⟨pd, 0, none⟩), .int .i64 who] w fun e w' => e = .returned (.bool (busyB q who)) ∧ ∃ n, w' = w.drewN n := by
  by_cases hw : 0 ≤ who ∧ who < 16
  · obtain ⟨h0, h1⟩ := hw
    obtain ⟨n, rfl⟩ := Int.eq_ofNat_of_zero_le h0
    have hn : n < 16 := by omega
    obtain ⟨pr, br, pcs, hi, rfl⟩ := h
    obtain ⟨o, c, ho, hc, hat, hcell⟩ := hi.callCell hn
    have hb : busyB q n = c.isSome := by unfold busyB; rw [isB_true hn]; simp [hc]
    have his := fun w => is_spec w n
    rw [isB_true hn] at his
    have His := Lib.hid his
    rw [hb]
    clear his hb ho hc hi
    cases o with
    | none =>
      cases c with
      | some c => exact hat.elim
      | none =>
        have hcell' : w.cell? ⟨pd, 3 + n, none⟩ = some (.pointer none) := hcell
        clear hcell
        go_enter Try.func27, Try.ntmps27
        go_wp2_with fail
        refine (His.out _).mono ?_
        rintro e w1 ⟨rfl, k, rfl⟩
        go_wp2
        go_ret
        exact ⟨rfl, _, rfl⟩
    | some g =>
      cases c with
      | none => exact hat.elim
      | some c =>
        have hcell' : w.cell? ⟨pd, 3 + n, none⟩ = some (.pointer (some ⟨g, 0, none⟩)) := hcell
        clear hcell
        go_enter Try.func27, Try.ntmps27
        go_wp2_with fail
        refine (His.out _).mono ?_
        rintro e w1 ⟨rfl, k, rfl⟩
        go_wp2
        go_ret
        exact ⟨rfl, _, rfl⟩
  · have hi : isB who = false := by unfold isB; simp; omega
    have hb : busyB q who = false := by unfold busyB; rw [hi]; rfl
    have his := fun w => is_spec w who
    rw [hi] at his
    have His := Lib.hid his
    rw [hb]
    clear his hb hi
    go_enter Try.func27, Try.ntmps27
    go_wp2_with fail
    refine (His.out _).mono ?_
    rintro e w1 ⟨rfl, k, rfl⟩
    go_wp2
    go_ret
    exact ⟨rfl, _, rfl⟩
end Go.Proofs.Ytkeaekckblpfjaa
