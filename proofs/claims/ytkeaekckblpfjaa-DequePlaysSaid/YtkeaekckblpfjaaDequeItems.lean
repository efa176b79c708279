/- Deques: Items, through, alive. -/
import Derived.Test.YtkeaekckblpfjaaRows
import Derived.WalkKit
import Derived.WalkSpells
import Derived.WalkLawsBesides
import Derived.RegionTactic
import Derived.ChangeAlike
import Derived.BigQuiet
import Derived.Deep.QuietTactic
import Derived.StillTailTactics
import Derived.IntWalk
import Derived.Handy
import Derived.Lib.Hide
import Derived.Deep.AppendLies
import Derived.Deep.RegionWith
import Derived.Test.YtkeaekckblpfjaaBase
import Derived.Test.YtkeaekckblpfjaaTail
import Derived.Test.YtkeaekckblpfjaaRing
import Derived.Test.YtkeaekckblpfjaaGrown
import Derived.Test.YtkeaekckblpfjaaSizes
import Derived.Test.YtkeaekckblpfjaaArgs
import Derived.Test.YtkeaekckblpfjaaAppend
import Derived.Test.YtkeaekckblpfjaaRingMore
import Derived.Test.YtkeaekckblpfjaaDeque
import Derived.Test.YtkeaekckblpfjaaDequePop
import Derived.Test.YtkeaekckblpfjaaDequeObj
import Derived.Test.YtkeaekckblpfjaaDequeStep
import Derived.Test.YtkeaekckblpfjaaDequeStep2
namespace Go.Proofs.Ytkeaekckblpfjaa
open Go.RowKit


/-- 'it answers a slice of its own that reads l' -/
def OwnPost (l : List Int) (w : World) (e : Ending) (w' : World) : Prop :=
  ∃ v, e = .returned v ∧ w'.ownsRow w.heap.size 3 1 v l.length (l.map (.int .i64)) ∧ Keep [] w w'
def itemsN (q : DQ) (k : Nat) : List Int := (List.range k).map fun j => ringGet q.ring (q.top + (j : Nat))
def itemsOf (q : DQ) : List Int := itemsN q (q.bottom - q.top).toNat
theorem itemsN_succ (q : DQ) (k : Nat) : itemsN q (k + 1) = itemsN q k ++ [ringGet q.ring (q.top + k)] := by simp [itemsN, List.range_succ]
@[simp] theorem itemsN_length (q : DQ) (k : Nat) : (itemsN q k).length = k := by simp [itemsN]
def SmallTB (q : DQ) : Prop := -1000000000 ≤ q.top ∧ q.top ≤ 1000000000 ∧ -1000000000 ≤ q.bottom ∧ q.bottom ≤ 1000000000
theorem DequeIn.ringCell {w : World} {pd pr br : Nat} {pcs : List (Option Nat)} {q : DQ} (h : DequeIn w pd pr br pcs q) : w.cell? ⟨pd, 2, none⟩ = some (.pointer (some ⟨pr, 0, none⟩)) := h.head.cell 2
theorem ints_lit1 (w : World) (x : Int) : IntsOf (w.alloc (.cells #[.int .i64 x] 3)) (.slice (some ⟨w.heap.size, 0, none⟩) 1 1) [x] := by
  refine ⟨_, _, rfl, fun _ => ⟨w.heap.size, 0, rfl, by simp, fun k y hy => ?_⟩⟩
  match k, hy with
  | 0, hy => cases hy; exact (Blk.new w 3 [.int .i64 x]).cell 0
  | k + 1, hy => simp at hy
set_option maxHeartbeats 4000000 in
theorem items_spec {w : World} {pd : Nat} {F : List Nat} {q : DQ} (h : DequeAt w pd F q) (hs : SmallTB q) : Calls Try.prog 34 #[.pointer (some ⟨pd, 0, none⟩)] w (OwnPost (itemsOf q) w) := by
  obtain ⟨pr, br, pcs, hd, rfl⟩ := h
  obtain ⟨s1, s2, s3, s4⟩ := hs
  have c0 : w.cell? ⟨pd, 0, none⟩ = some (.int .i64 q.top) := hd.head.cell 0
  have Hd := Lib.hid hd
  clear hd
  obtain ⟨N, hN⟩ : ∃ N : Nat, N = (q.bottom - q.top).toNat := ⟨_, rfl⟩
  go_enter Try.func34, Try.ntmps34
  go_wp2
  clear c0
  go_loopw [3, 4] (fun v3 v4 wr => ∃ k : Nat, k ≤ N ∧ v4 = .int .i64 (q.top + k) ∧ wr.ownsRow w.heap.size 3 1 v3 k ((itemsN q k).map (.int .i64)) ∧ Keep [] w wr) (fun _ v4 _ => (q.top + N - intOf v4).toNat)
  case atStart => exact ⟨0, by omega, by simp, World.ownsRow_nil _ _ _ _, Keep.refl _ _⟩
  case round =>
    obtain ⟨k, hk, rfl, hown, hkeep⟩ := hrel
    have hdr := Hd.out.keep hkeep (by simp)
    have c1 : wr.cell? ⟨pd, 1, none⟩ = some (.int .i64 q.bottom) := hdr.head.cell 1
    have c2 := hdr.ringCell
    obtain ⟨a, cap, rfl⟩ := own_shape hown
    by_cases hlt : q.top + k < q.bottom
    · have hr := hdr.ring
      clear hdr
      go_wp2_with fail
      refine (get_spec _ hr).mono ?_
      rintro e w1 ⟨rfl, n, rfl⟩
      have hk2 : Keep [] wr ((wr.drewN n).alloc (.cells #[.int .i64 (ringGet q.ring (q.top + k))] 3)) := ((Keep.refl _ _).drewN n).alloc _
      have hown2 := ownsRow_keep hown hk2 (by simp)
      have hsrc := SrcOf.of_ints (ints_lit1 (wr.drewN n) (ringGet q.ring (q.top + k)))
      have hkeep2 := hkeep.trans hk2 (by simp)
      clear hown hk2 hr c1 c2
      go_wp2_with (at_builtin; refine wpList_append_src rfl _ _ rfl Try.ints29 w.heap.size _ k _ rfl hown2 _ 1 _ rfl hsrc (by simp [Value.oneCell']) (by unfold maxLen; omega) (by omega) (by have := hkeep2.size; omega) ?_)
      intro v' w2 hown3 hk3 hblk
      have hkeep3 : Keep [] w w2 := hkeep2.trans hk3 (fun x hx => Or.inr (by
        have : (Value.slice a k cap).ownBlock = some x := by simpa [ownBlocks] using hx
        exact (hown2.lt x this).1))
      obtain ⟨a', cap', rfl⟩ := own_shape hown3
      clear hsrc hown2 hk3 hblk
      go_wp2
      go_roundw
      case rel => exact ⟨k + 1, by omega, by go_num, by rw [itemsN_succ]; simpa using hown3, hkeep3⟩
      case measure => simp [intOf]; omega
    · have hkN : k = N := by omega
      subst hkN
      have hfin : wr.ownsRow w.heap.size 3 1 (.slice a k cap) (itemsOf q).length ((itemsOf q).map (.int .i64)) := by
        unfold itemsOf
        rw [← hN, itemsN_length]
        exact hown
      clear hdr hown hN
      go_wp2
      go_ret
      exact ⟨_, rfl, hfin, hkeep⟩
end Go.Proofs.Ytkeaekckblpfjaa
