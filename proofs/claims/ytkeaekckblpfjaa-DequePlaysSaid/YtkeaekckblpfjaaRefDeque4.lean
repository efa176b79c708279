/- The reference's deques: Step, Items. -/
import Derived.Test.YtkeaekckblpfjaaRows
import Derived.WalkKit
import Derived.WalkSpells
import Derived.WalkLawsBesides
import Derived.RegionTactic
import Derived.ChangeAlike
import Derived.BigQuiet
import Derived.Deep.QuietTactic
import Derived.StillTailTactics
import Derived.IntWalk
import Derived.Handy
import Derived.Lib.Hide
import Derived.Deep.AppendLies
import Derived.Deep.RegionWith
import Derived.Test.YtkeaekckblpfjaaBase
import Derived.Test.YtkeaekckblpfjaaTail
import Derived.Test.YtkeaekckblpfjaaRing
import Derived.Test.YtkeaekckblpfjaaGrown
import Derived.Test.YtkeaekckblpfjaaArgs
import Derived.Test.YtkeaekckblpfjaaAppend
import Derived.Test.YtkeaekckblpfjaaRingMore
import Derived.Test.YtkeaekckblpfjaaDeque
import Derived.Test.YtkeaekckblpfjaaDequePop
import Derived.Test.YtkeaekckblpfjaaDequeObj
import Derived.Test.YtkeaekckblpfjaaDequeStep
import Derived.Test.YtkeaekckblpfjaaDequeStep2
import Derived.Test.YtkeaekckblpfjaaDequeItems
import Derived.Test.YtkeaekckblpfjaaRefDeque
import Derived.Test.YtkeaekckblpfjaaRefDeque2
import Derived.Test.YtkeaekckblpfjaaRefDeque3
namespace Go.Proofs.Ytkeaekckblpfjaa
open Go.RowKit

/-- a call has won at its fourth step at the earliest -/
def WonOk (q : DQ) : Prop := ∀ (n : Nat) (c : DCall), q.calls[n]? = some (some c) → c.step ≤ 3 → c.won = false
theorem WonOk.new : WonOk dqNew := by
  intro n c hc
  have h : (List.replicate 16 (none : Option DCall))[n]? = some (some c) := hc
  rw [List.getElem?_replicate] at h
  split at h <;> cases h
theorem WonOk.set {l : List (Option DCall)} {n : Nat} {o : Option DCall} (h : ∀ (n : Nat) (c : DCall), l[n]? = some (some c) → c.step ≤ 3 → c.won = false) (ho : ∀ c, o = some c → c.step ≤ 3 → c.won = false) :
    ∀ (m : Nat) (c : DCall), (l.set n o)[m]? = some (some c) → c.step ≤ 3 → c.won = false := by
  intro m c hc
  rcases List.mem_or_eq_of_mem_set (List.mem_of_getElem? hc) with h1 | h1
  · obtain ⟨i, hi, he⟩ := List.mem_iff_getElem.1 h1
    exact h i c (by rw [List.getElem?_eq_getElem hi, he])
  · exact ho c h1.symm
theorem WonOk.begin {q : DQ} (h : WonOk q) (who kind item : Int) : WonOk (dqBegin q who kind item).1 := by
  unfold dqBegin
  split
  · exact h
  · split
    · exact h
    · exact WonOk.set h (fun c hc _ => by cases hc; rfl)
theorem stepKind_won (kind T B : Int) (ring : List Int) (c : DCall) (h : c.step ≤ 3) : (stepKind kind T B ring c).c.won = c.won := by
  unfold stepKind
  split
  · unfold stepPush
    repeat' split
    all_goals rfl
  · split
    · unfold stepPop
      repeat' split
      all_goals first | rfl | omega
    · unfold stepSteal
      repeat' split
      all_goals rfl
theorem stepKind_same (kind T B : Int) (ring : List Int) (c : DCall) : (stepKind kind T B ring c).c.step = c.step ∧ (stepKind kind T B ring c).c.kind = c.kind := by
  unfold stepKind
  split
  · unfold stepPush
    repeat' split
    all_goals exact ⟨rfl, rfl⟩
  · split
    · unfold stepPop
      repeat' split
      all_goals exact ⟨rfl, rfl⟩
    · unfold stepSteal
      repeat' split
      all_goals exact ⟨rfl, rfl⟩
theorem WonOk.step {q : DQ} (h : WonOk q) (who : Int) : WonOk (dqStep q who).1 := by
  unfold dqStep
  split
  · split
    · exact h
    · rename_i c hc
      refine WonOk.set h (fun c' hc' hs => ?_)
      split at hc'
      · cases hc'
        have hk := stepKind_same c.kind q.top q.bottom q.ring { c with step := c.step + 1 }
        rw [hk.1] at hs
        rw [stepKind_won _ _ _ _ _ hs]
        have hx : q.calls[who.toNat]? = some (some c) := by
          rw [List.getD_eq_getElem?_getD] at hc
          cases hx : q.calls[who.toNat]? with
          | none => rw [hx] at hc; cases hc
          | some y => rw [hx] at hc; exact congrArg some hc
        exact h _ c hx (by simp only at hs; omega)
      · cases hc'
  · exact h
set_option maxHeartbeats 4000000 in
set_option maxRecDepth 100000 in
theorem ritems_spec {w : World} {pd pr br : Nat} {q : DQ} (h : RDequeIn w pd pr br q) (hs : SmallTB q) : Calls Try.prog 35 #[.pointer (some ⟨pd, 0, none⟩)] w (OwnPost (itemsOf q) w) := by
  obtain ⟨s1, s2, s3, s4⟩ := hs
  have c0 : w.cell? ⟨pd, 0, none⟩ = some (.int .i64 q.top) := h.head.cell 0
  have Hd := Lib.hid h
  clear h
  obtain ⟨N, hN⟩ : ∃ N : Nat, N = (q.bottom - q.top).toNat := ⟨_, rfl⟩
  go_enter Try.func35, Try.ntmps35
  go_wp2
  clear c0
  go_loopw [3, 4] (fun v3 v4 wr => ∃ k : Nat, k ≤ N ∧ v4 = .int .i64 (q.top + k) ∧ wr.ownsRow w.heap.size 3 1 v3 k ((itemsN q k).map (.int .i64)) ∧ Keep [] w wr) (fun _ v4 _ => (q.top + N - intOf v4).toNat)
  case atStart => exact ⟨0, by omega, by simp, World.ownsRow_nil _ _ _ _, Keep.refl _ _⟩
  case round =>
    obtain ⟨k, hk, rfl, hown, hkeep⟩ := hrel
    have hdr := Hd.out.keep hkeep (by simp) (by simp) (by simp)
    have c1 : wr.cell? ⟨pd, 1, none⟩ = some (.int .i64 q.bottom) := hdr.head.cell 1
    have c2 : wr.cell? ⟨pd, 2, none⟩ = some (.pointer (some ⟨pr, 0, none⟩)) := hdr.head.cell 2
    obtain ⟨a, cap, rfl⟩ := own_shape hown
    by_cases hlt : q.top + k < q.bottom
    · have hr := hdr.ring
      clear hdr
      go_wp2_with fail
      refine (rget_spec _ hr).mono ?_
      rintro e w1 ⟨rfl, n, rfl⟩
      have hk2 : Keep [] wr ((wr.drewN n).alloc (.cells #[.int .i64 (ringGet q.ring (q.top + k))] 3)) := ((Keep.refl _ _).drewN n).alloc _
      have hown2 := ownsRow_keep hown hk2 (by simp)
      have hsrc := SrcOf.of_ints (ints_lit1 (wr.drewN n) (ringGet q.ring (q.top + k)))
      have hkeep2 := hkeep.trans hk2 (by simp)
      clear hown hk2 hr c1 c2
      go_wp2_with (at_builtin; refine wpList_append_src rfl _ _ rfl Try.ints29 w.heap.size _ k _ rfl hown2 _ 1 _ rfl hsrc (by simp [Value.oneCell']) (by unfold maxLen; omega) (by omega) (by have := hkeep2.size; omega) ?_)
      intro v' w2 hown3 hk3 hblk
      have hkeep3 : Keep [] w w2 := hkeep2.trans hk3 (fun x hx => Or.inr (by
        have : (Value.slice a k cap).ownBlock = some x := by simpa [ownBlocks] using hx
        exact (hown2.lt x this).1))
      obtain ⟨a', cap', rfl⟩ := own_shape hown3
      clear hsrc hown2 hk3 hblk
      go_wp2
      go_roundw
      case rel => exact ⟨k + 1, by omega, by go_num, by rw [itemsN_succ]; simpa using hown3, hkeep3⟩
      case measure => simp [intOf]; omega
    · have hkN : k = N := by omega
      subst hkN
      have hfin : wr.ownsRow w.heap.size 3 1 (.slice a k cap) (itemsOf q).length ((itemsOf q).map (.int .i64)) := by
        unfold itemsOf
        rw [← hN, itemsN_length]
        exact hown
      clear hdr hown hN
      go_wp2
      go_ret
      exact ⟨_, rfl, hfin, hkeep⟩
end Go.Proofs.Ytkeaekckblpfjaa
