/- The law CodeWays, walked: one walk for each kind of instruction. Printed by genways.py. -/
import Derived.Test.YtbdkmfcgnolihaaRows
import Derived.WalkKit
import Derived.WalkSpells
import Derived.WalkLawsBesides
import Derived.RegionTactic
import Derived.ChangeAlike
import Derived.BigQuiet
import Derived.Deep.QuietTactic
import Derived.StillTailTactics
import Derived.IntWalk
import Derived.Handy
import Derived.Lib.Hide
import Derived.Deep.AppendLies
import Derived.Deep.RegionWith
import Derived.Deep.RegionHeld3
import Derived.Test.YtbdkmfcgnolihaaBase
import Derived.Test.YtbdkmfcgnolihaaTail
import Derived.Test.YtbdkmfcgnolihaaArgs
import Derived.Test.YtbdkmfcgnolihaaAppend
import Derived.Test.YtbdkmfcgnolihaaWords
import Derived.Test.YtbdkmfcgnolihaaWordsLaw
import Derived.Test.YtbdkmfcgnolihaaStack
import Derived.Test.YtbdkmfcgnolihaaRefWords
import Derived.Test.YtbdkmfcgnolihaaTellsLaw
namespace Go.Proofs.Ytbdkmfcgnolihaa
open Go.RowKit

def ZF : List Value := [.string ⟨#[]⟩, .int .i64 3, .int .i64 0, .slice none 0 0, .string ⟨#[]⟩, .int .i64 8, .int .i64 0, .slice none 0 0]
theorem funcs38 {w : World} {g : Nat} (h : Blk w g 31 ZF) : FuncsOf w (.slice (some ⟨g, 0, none⟩) 2 2) [3, 8] := by
  refine ⟨_, _, rfl, fun _ => ⟨g, 0, rfl, h.lt, fun k x hx => ?_⟩⟩
  match k, hx with
  | 0, hx => cases hx; exact h.cell 1
  | 1, hx => cases hx; exact h.cell 5
  | k + 2, hx => simp at hx
def WaysPost (w : World) (e : Ending) (w' : World) : Prop := e = .returned (.bool true) ∧ Keep [] w w'

set_option maxHeartbeats 4000000 in
set_option maxRecDepth 100000 in
theorem ways_jump (w : World) (n at_ : Int) (g1 : 0 ≤ at_) (g2 : at_ ≤ 1000) (g3 : 0 ≤ n) (g4 : n ≤ 1000)  :
    Calls Try.prog 4 #[.int .i64 14, .int .i64 n, .int .i64 at_] w (WaysPost w) := by
  have hway : nextOf 14 n at_ = [n] := by unfold nextOf; simp
  have HW := Lib.hid hway
  have hne : (nameOf 14).toList.isEmpty = false := notEmpty (idxOf_nameOf 14 (by omega)).2
  clear hway
  go_enter Try.func4, Try.ntmps4
  go_wp2_with fail
  refine (alive3 _).mono ?_
  rintro e w1 ⟨rfl, hk1⟩
  go_wp2_with fail
  have hA := (Blk.new w1 28 [.int .i64 14, .int .i64 n]).alloc (.cells ZF.toArray 31)
  have hF := Blk.new (w1.alloc (.cells #[.int .i64 14, .int .i64 n] 28)) 31 ZF
  rw [show (w1.alloc (.cells #[.int .i64 14, .int .i64 n] 28)).heap.size = w1.heap.size + 1 from by simp] at hF
  have hkA := (hk1.alloc (.cells #[.int .i64 14, .int .i64 n] 28)).alloc (.cells ZF.toArray 31)
  refine (next_spec _ 14 n at_ (by omega) (by omega)).mono ?_
  rintro e w2 ⟨v2, rfl, hown2, hk2⟩
  rw [HW.out] at hown2
  have hA2 := hA.keep hk2 (by simp)
  have hF2 := hF.keep hk2 (by simp)
  have hI2 := ints_of_own hown2
  have hkB := hkA.trans hk2 (by simp)
  clear hk1 hk2 hkA hA hF hown2
  have hV3 : IntsOf (w2.alloc (.cells #[.int .i64 (n)] 3)) (.slice (some ⟨w2.heap.size, 0, none⟩) 1 1) [n] := ints_of_own (own_lit (w0 := w2) (w := w2) [n] (Keep.refl [] w2) #[.int .i64 (n)] rfl (by simp))
  have hI3 := hI2.keep0 ((Keep.refl [] w2).alloc (.cells #[.int .i64 (n)] 3))
  have hA3 := hA2.alloc (.cells #[.int .i64 (n)] 3)
  have hF3 := hF2.alloc (.cells #[.int .i64 (n)] 3)
  have hkC := hkB.alloc (.cells #[.int .i64 (n)] 3)
  have hA2' := hA2
  clear hI2 hA2 hF2 hkB
  have e0 : w2.cell? ⟨w1.heap.size, 0, none⟩ = some (.int .i64 14) := hA2'.cell 0
  have e1 : w2.cell? ⟨w1.heap.size, 1, none⟩ = some (.int .i64 n) := hA2'.cell 1
  have hlt : w1.heap.size < w2.heap.size := hA2'.lt
  go_wp2_with fail
  clear e0 e1 hlt hA2'
  refine (pops_spec _ _ _ _ _ (funcs38 hF3)).mono ?_
  rintro e w4 ⟨rfl, hk4⟩
  rw [show popsOf 14 n [3, 8] = 0 from rfl]
  have hA4 := hA3.keep hk4 (by simp)
  have hF4 := hF3.keep hk4 (by simp)
  have hV4 := hV3.keep0 hk4
  have hI4 := hI3.keep0 hk4
  have hkD := hkC.trans hk4 (by simp)
  clear hA3 hF3 hV3 hI3 hkC hk4
  have e0 : w4.cell? ⟨w1.heap.size, 0, none⟩ = some (.int .i64 14) := hA4.cell 0
  have e1 : w4.cell? ⟨w1.heap.size, 1, none⟩ = some (.int .i64 n) := hA4.cell 1
  go_wp2_with fail
  refine (pushes_spec _ _ _).mono ?_
  rintro e w5 ⟨rfl, hk5⟩
  rw [show pushesOf 14 = 0 from rfl]
  have hF5 := hF4.keep hk5 (by simp)
  have hV5 := hV4.keep0 hk5
  have hI5 := hI4.keep0 hk5
  have hkE := hkD.trans hk5 (by simp)
  clear hA4 hF4 hV4 hI4 hkD hk5 e0 e1
  have f1 : w5.cell? ⟨w1.heap.size + 1, 1, none⟩ = some (.int .i64 3) := hF5.cell 1
  have f5 : w5.cell? ⟨w1.heap.size + 1, 5, none⟩ = some (.int .i64 8) := hF5.cell 5
  go_wp2_with fail
  refine (same_true _ _ _ _ hI5 hV5 (by simp)).mono ?_
  rintro e w6 ⟨rfl, q, rfl⟩
  go_wp2_with fail
  refine (name_spec _ _).mono ?_
  rintro e w7 ⟨rfl, hk7⟩
  go_wp2
  go_ret
  exact ⟨rfl, (hkE.drewN q).trans hk7 (by simp)⟩

set_option maxHeartbeats 4000000 in
set_option maxRecDepth 100000 in
theorem ways_zero (w : World) (n at_ : Int) (g1 : 0 ≤ at_) (g2 : at_ ≤ 1000) (g3 : 0 ≤ n) (g4 : n ≤ 1000) (hz : (n != at_ + 1) = true) :
    Calls Try.prog 4 #[.int .i64 15, .int .i64 n, .int .i64 at_] w (WaysPost w) := by
  have hway : nextOf 15 n at_ = [at_ + 1, n] := by unfold nextOf; simp; simpa using hz
  have HW := Lib.hid hway
  have hne : (nameOf 15).toList.isEmpty = false := notEmpty (idxOf_nameOf 15 (by omega)).2
  clear hway
  go_enter Try.func4, Try.ntmps4
  go_wp2_with fail
  refine (alive3 _).mono ?_
  rintro e w1 ⟨rfl, hk1⟩
  go_wp2_with fail
  have hA := (Blk.new w1 28 [.int .i64 15, .int .i64 n]).alloc (.cells ZF.toArray 31)
  have hF := Blk.new (w1.alloc (.cells #[.int .i64 15, .int .i64 n] 28)) 31 ZF
  rw [show (w1.alloc (.cells #[.int .i64 15, .int .i64 n] 28)).heap.size = w1.heap.size + 1 from by simp] at hF
  have hkA := (hk1.alloc (.cells #[.int .i64 15, .int .i64 n] 28)).alloc (.cells ZF.toArray 31)
  refine (next_spec _ 15 n at_ (by omega) (by omega)).mono ?_
  rintro e w2 ⟨v2, rfl, hown2, hk2⟩
  rw [HW.out] at hown2
  have hA2 := hA.keep hk2 (by simp)
  have hF2 := hF.keep hk2 (by simp)
  have hI2 := ints_of_own hown2
  have hkB := hkA.trans hk2 (by simp)
  clear hk1 hk2 hkA hA hF hown2
  have hV3 : IntsOf (w2.alloc (.cells #[.int .i64 (at_ + 1), .int .i64 (n)] 3)) (.slice (some ⟨w2.heap.size, 0, none⟩) 2 2) [at_ + 1, n] := ints_of_own (own_lit (w0 := w2) (w := w2) [at_ + 1, n] (Keep.refl [] w2) #[.int .i64 (at_ + 1), .int .i64 (n)] rfl (by simp))
  have hI3 := hI2.keep0 ((Keep.refl [] w2).alloc (.cells #[.int .i64 (at_ + 1), .int .i64 (n)] 3))
  have hA3 := hA2.alloc (.cells #[.int .i64 (at_ + 1), .int .i64 (n)] 3)
  have hF3 := hF2.alloc (.cells #[.int .i64 (at_ + 1), .int .i64 (n)] 3)
  have hkC := hkB.alloc (.cells #[.int .i64 (at_ + 1), .int .i64 (n)] 3)
  have hA2' := hA2
  clear hI2 hA2 hF2 hkB
  have e0 : w2.cell? ⟨w1.heap.size, 0, none⟩ = some (.int .i64 15) := hA2'.cell 0
  have e1 : w2.cell? ⟨w1.heap.size, 1, none⟩ = some (.int .i64 n) := hA2'.cell 1
  have hlt : w1.heap.size < w2.heap.size := hA2'.lt
  go_wp2_with fail
  clear e0 e1 hlt hA2'
  refine (pops_spec _ _ _ _ _ (funcs38 hF3)).mono ?_
  rintro e w4 ⟨rfl, hk4⟩
  rw [show popsOf 15 n [3, 8] = 1 from rfl]
  have hA4 := hA3.keep hk4 (by simp)
  have hF4 := hF3.keep hk4 (by simp)
  have hV4 := hV3.keep0 hk4
  have hI4 := hI3.keep0 hk4
  have hkD := hkC.trans hk4 (by simp)
  clear hA3 hF3 hV3 hI3 hkC hk4
  have e0 : w4.cell? ⟨w1.heap.size, 0, none⟩ = some (.int .i64 15) := hA4.cell 0
  have e1 : w4.cell? ⟨w1.heap.size, 1, none⟩ = some (.int .i64 n) := hA4.cell 1
  go_wp2_with fail
  refine (pushes_spec _ _ _).mono ?_
  rintro e w5 ⟨rfl, hk5⟩
  rw [show pushesOf 15 = 0 from rfl]
  have hF5 := hF4.keep hk5 (by simp)
  have hV5 := hV4.keep0 hk5
  have hI5 := hI4.keep0 hk5
  have hkE := hkD.trans hk5 (by simp)
  clear hA4 hF4 hV4 hI4 hkD hk5 e0 e1
  have f1 : w5.cell? ⟨w1.heap.size + 1, 1, none⟩ = some (.int .i64 3) := hF5.cell 1
  have f5 : w5.cell? ⟨w1.heap.size + 1, 5, none⟩ = some (.int .i64 8) := hF5.cell 5
  go_wp2_with fail
  refine (same_true _ _ _ _ hI5 hV5 (by simp)).mono ?_
  rintro e w6 ⟨rfl, q, rfl⟩
  go_wp2_with fail
  refine (name_spec _ _).mono ?_
  rintro e w7 ⟨rfl, hk7⟩
  go_wp2
  go_ret
  exact ⟨rfl, (hkE.drewN q).trans hk7 (by simp)⟩

set_option maxHeartbeats 4000000 in
set_option maxRecDepth 100000 in
theorem ways_zeroNext (w : World) (at_ : Int) (g1 : 0 ≤ at_) (g2 : at_ ≤ 999)  :
    Calls Try.prog 4 #[.int .i64 15, .int .i64 (at_ + 1), .int .i64 at_] w (WaysPost w) := by
  have hway : nextOf 15 (at_ + 1) at_ = [at_ + 1] := by unfold nextOf; simp
  have HW := Lib.hid hway
  have hne : (nameOf 15).toList.isEmpty = false := notEmpty (idxOf_nameOf 15 (by omega)).2
  clear hway
  go_enter Try.func4, Try.ntmps4
  go_wp2_with fail
  refine (alive3 _).mono ?_
  rintro e w1 ⟨rfl, hk1⟩
  go_wp2_with fail
  have hA := (Blk.new w1 28 [.int .i64 15, .int .i64 (at_ + 1)]).alloc (.cells ZF.toArray 31)
  have hF := Blk.new (w1.alloc (.cells #[.int .i64 15, .int .i64 (at_ + 1)] 28)) 31 ZF
  rw [show (w1.alloc (.cells #[.int .i64 15, .int .i64 (at_ + 1)] 28)).heap.size = w1.heap.size + 1 from by simp] at hF
  have hkA := (hk1.alloc (.cells #[.int .i64 15, .int .i64 (at_ + 1)] 28)).alloc (.cells ZF.toArray 31)
  refine (next_spec _ 15 (at_ + 1) at_ (by omega) (by omega)).mono ?_
  rintro e w2 ⟨v2, rfl, hown2, hk2⟩
  rw [HW.out] at hown2
  have hA2 := hA.keep hk2 (by simp)
  have hF2 := hF.keep hk2 (by simp)
  have hI2 := ints_of_own hown2
  have hkB := hkA.trans hk2 (by simp)
  clear hk1 hk2 hkA hA hF hown2
  have hV3 : IntsOf (w2.alloc (.cells #[.int .i64 (at_ + 1)] 3)) (.slice (some ⟨w2.heap.size, 0, none⟩) 1 1) [at_ + 1] := ints_of_own (own_lit (w0 := w2) (w := w2) [at_ + 1] (Keep.refl [] w2) #[.int .i64 (at_ + 1)] rfl (by simp))
  have hI3 := hI2.keep0 ((Keep.refl [] w2).alloc (.cells #[.int .i64 (at_ + 1)] 3))
  have hA3 := hA2.alloc (.cells #[.int .i64 (at_ + 1)] 3)
  have hF3 := hF2.alloc (.cells #[.int .i64 (at_ + 1)] 3)
  have hkC := hkB.alloc (.cells #[.int .i64 (at_ + 1)] 3)
  have hA2' := hA2
  clear hI2 hA2 hF2 hkB
  have e0 : w2.cell? ⟨w1.heap.size, 0, none⟩ = some (.int .i64 15) := hA2'.cell 0
  have e1 : w2.cell? ⟨w1.heap.size, 1, none⟩ = some (.int .i64 (at_ + 1)) := hA2'.cell 1
  have hlt : w1.heap.size < w2.heap.size := hA2'.lt
  go_wp2_with fail
  clear e0 e1 hlt hA2'
  refine (pops_spec _ _ _ _ _ (funcs38 hF3)).mono ?_
  rintro e w4 ⟨rfl, hk4⟩
  rw [show popsOf 15 (at_ + 1) [3, 8] = 1 from rfl]
  have hA4 := hA3.keep hk4 (by simp)
  have hF4 := hF3.keep hk4 (by simp)
  have hV4 := hV3.keep0 hk4
  have hI4 := hI3.keep0 hk4
  have hkD := hkC.trans hk4 (by simp)
  clear hA3 hF3 hV3 hI3 hkC hk4
  have e0 : w4.cell? ⟨w1.heap.size, 0, none⟩ = some (.int .i64 15) := hA4.cell 0
  have e1 : w4.cell? ⟨w1.heap.size, 1, none⟩ = some (.int .i64 (at_ + 1)) := hA4.cell 1
  go_wp2_with fail
  refine (pushes_spec _ _ _).mono ?_
  rintro e w5 ⟨rfl, hk5⟩
  rw [show pushesOf 15 = 0 from rfl]
  have hF5 := hF4.keep hk5 (by simp)
  have hV5 := hV4.keep0 hk5
  have hI5 := hI4.keep0 hk5
  have hkE := hkD.trans hk5 (by simp)
  clear hA4 hF4 hV4 hI4 hkD hk5 e0 e1
  have f1 : w5.cell? ⟨w1.heap.size + 1, 1, none⟩ = some (.int .i64 3) := hF5.cell 1
  have f5 : w5.cell? ⟨w1.heap.size + 1, 5, none⟩ = some (.int .i64 8) := hF5.cell 5
  go_wp2_with fail
  refine (same_true _ _ _ _ hI5 hV5 (by simp)).mono ?_
  rintro e w6 ⟨rfl, q, rfl⟩
  go_wp2_with fail
  refine (name_spec _ _).mono ?_
  rintro e w7 ⟨rfl, hk7⟩
  go_wp2
  go_ret
  exact ⟨rfl, (hkE.drewN q).trans hk7 (by simp)⟩

set_option maxHeartbeats 4000000 in
set_option maxRecDepth 100000 in
theorem ways_spawn0 (w : World) (at_ : Int) (g1 : 0 ≤ at_) (g2 : at_ ≤ 1000)  :
    Calls Try.prog 4 #[.int .i64 16, .int .i64 0, .int .i64 at_] w (WaysPost w) := by
  have hway : nextOf 16 0 at_ = [at_ + 1] := by unfold nextOf; simp
  have HW := Lib.hid hway
  have hne : (nameOf 16).toList.isEmpty = false := notEmpty (idxOf_nameOf 16 (by omega)).2
  clear hway
  go_enter Try.func4, Try.ntmps4
  go_wp2_with fail
  refine (alive3 _).mono ?_
  rintro e w1 ⟨rfl, hk1⟩
  go_wp2_with fail
  have hA := (Blk.new w1 28 [.int .i64 16, .int .i64 0]).alloc (.cells ZF.toArray 31)
  have hF := Blk.new (w1.alloc (.cells #[.int .i64 16, .int .i64 0] 28)) 31 ZF
  rw [show (w1.alloc (.cells #[.int .i64 16, .int .i64 0] 28)).heap.size = w1.heap.size + 1 from by simp] at hF
  have hkA := (hk1.alloc (.cells #[.int .i64 16, .int .i64 0] 28)).alloc (.cells ZF.toArray 31)
  refine (next_spec _ 16 0 at_ (by omega) (by omega)).mono ?_
  rintro e w2 ⟨v2, rfl, hown2, hk2⟩
  rw [HW.out] at hown2
  have hA2 := hA.keep hk2 (by simp)
  have hF2 := hF.keep hk2 (by simp)
  have hI2 := ints_of_own hown2
  have hkB := hkA.trans hk2 (by simp)
  clear hk1 hk2 hkA hA hF hown2
  have hV3 : IntsOf (w2.alloc (.cells #[.int .i64 (at_ + 1)] 3)) (.slice (some ⟨w2.heap.size, 0, none⟩) 1 1) [at_ + 1] := ints_of_own (own_lit (w0 := w2) (w := w2) [at_ + 1] (Keep.refl [] w2) #[.int .i64 (at_ + 1)] rfl (by simp))
  have hI3 := hI2.keep0 ((Keep.refl [] w2).alloc (.cells #[.int .i64 (at_ + 1)] 3))
  have hA3 := hA2.alloc (.cells #[.int .i64 (at_ + 1)] 3)
  have hF3 := hF2.alloc (.cells #[.int .i64 (at_ + 1)] 3)
  have hkC := hkB.alloc (.cells #[.int .i64 (at_ + 1)] 3)
  have hA2' := hA2
  clear hI2 hA2 hF2 hkB
  have e0 : w2.cell? ⟨w1.heap.size, 0, none⟩ = some (.int .i64 16) := hA2'.cell 0
  have e1 : w2.cell? ⟨w1.heap.size, 1, none⟩ = some (.int .i64 0) := hA2'.cell 1
  have hlt : w1.heap.size < w2.heap.size := hA2'.lt
  go_wp2_with fail
  clear e0 e1 hlt hA2'
  refine (pops_spec _ _ _ _ _ (funcs38 hF3)).mono ?_
  rintro e w4 ⟨rfl, hk4⟩
  rw [show popsOf 16 0 [3, 8] = 3 from by decide]
  have hA4 := hA3.keep hk4 (by simp)
  have hF4 := hF3.keep hk4 (by simp)
  have hV4 := hV3.keep0 hk4
  have hI4 := hI3.keep0 hk4
  have hkD := hkC.trans hk4 (by simp)
  clear hA3 hF3 hV3 hI3 hkC hk4
  have e0 : w4.cell? ⟨w1.heap.size, 0, none⟩ = some (.int .i64 16) := hA4.cell 0
  have e1 : w4.cell? ⟨w1.heap.size, 1, none⟩ = some (.int .i64 0) := hA4.cell 1
  go_wp2_with fail
  refine (pushes_spec _ _ _).mono ?_
  rintro e w5 ⟨rfl, hk5⟩
  rw [show pushesOf 16 = 1 from rfl]
  have hF5 := hF4.keep hk5 (by simp)
  have hV5 := hV4.keep0 hk5
  have hI5 := hI4.keep0 hk5
  have hkE := hkD.trans hk5 (by simp)
  clear hA4 hF4 hV4 hI4 hkD hk5 e0 e1
  have f1 : w5.cell? ⟨w1.heap.size + 1, 1, none⟩ = some (.int .i64 3) := hF5.cell 1
  have f5 : w5.cell? ⟨w1.heap.size + 1, 5, none⟩ = some (.int .i64 8) := hF5.cell 5
  go_wp2_with fail
  refine (same_true _ _ _ _ hI5 hV5 (by simp)).mono ?_
  rintro e w6 ⟨rfl, q, rfl⟩
  go_wp2_with fail
  refine (name_spec _ _).mono ?_
  rintro e w7 ⟨rfl, hk7⟩
  go_wp2
  go_ret
  exact ⟨rfl, (hkE.drewN q).trans hk7 (by simp)⟩

set_option maxHeartbeats 4000000 in
set_option maxRecDepth 100000 in
theorem ways_spawn1 (w : World) (at_ : Int) (g1 : 0 ≤ at_) (g2 : at_ ≤ 1000)  :
    Calls Try.prog 4 #[.int .i64 16, .int .i64 1, .int .i64 at_] w (WaysPost w) := by
  have hway : nextOf 16 1 at_ = [at_ + 1] := by unfold nextOf; simp
  have HW := Lib.hid hway
  have hne : (nameOf 16).toList.isEmpty = false := notEmpty (idxOf_nameOf 16 (by omega)).2
  clear hway
  go_enter Try.func4, Try.ntmps4
  go_wp2_with fail
  refine (alive3 _).mono ?_
  rintro e w1 ⟨rfl, hk1⟩
  go_wp2_with fail
  have hA := (Blk.new w1 28 [.int .i64 16, .int .i64 1]).alloc (.cells ZF.toArray 31)
  have hF := Blk.new (w1.alloc (.cells #[.int .i64 16, .int .i64 1] 28)) 31 ZF
  rw [show (w1.alloc (.cells #[.int .i64 16, .int .i64 1] 28)).heap.size = w1.heap.size + 1 from by simp] at hF
  have hkA := (hk1.alloc (.cells #[.int .i64 16, .int .i64 1] 28)).alloc (.cells ZF.toArray 31)
  refine (next_spec _ 16 1 at_ (by omega) (by omega)).mono ?_
  rintro e w2 ⟨v2, rfl, hown2, hk2⟩
  rw [HW.out] at hown2
  have hA2 := hA.keep hk2 (by simp)
  have hF2 := hF.keep hk2 (by simp)
  have hI2 := ints_of_own hown2
  have hkB := hkA.trans hk2 (by simp)
  clear hk1 hk2 hkA hA hF hown2
  have hV3 : IntsOf (w2.alloc (.cells #[.int .i64 (at_ + 1)] 3)) (.slice (some ⟨w2.heap.size, 0, none⟩) 1 1) [at_ + 1] := ints_of_own (own_lit (w0 := w2) (w := w2) [at_ + 1] (Keep.refl [] w2) #[.int .i64 (at_ + 1)] rfl (by simp))
  have hI3 := hI2.keep0 ((Keep.refl [] w2).alloc (.cells #[.int .i64 (at_ + 1)] 3))
  have hA3 := hA2.alloc (.cells #[.int .i64 (at_ + 1)] 3)
  have hF3 := hF2.alloc (.cells #[.int .i64 (at_ + 1)] 3)
  have hkC := hkB.alloc (.cells #[.int .i64 (at_ + 1)] 3)
  have hA2' := hA2
  clear hI2 hA2 hF2 hkB
  have e0 : w2.cell? ⟨w1.heap.size, 0, none⟩ = some (.int .i64 16) := hA2'.cell 0
  have e1 : w2.cell? ⟨w1.heap.size, 1, none⟩ = some (.int .i64 1) := hA2'.cell 1
  have hlt : w1.heap.size < w2.heap.size := hA2'.lt
  go_wp2_with fail
  clear e0 e1 hlt hA2'
  refine (pops_spec _ _ _ _ _ (funcs38 hF3)).mono ?_
  rintro e w4 ⟨rfl, hk4⟩
  rw [show popsOf 16 1 [3, 8] = 8 from by decide]
  have hA4 := hA3.keep hk4 (by simp)
  have hF4 := hF3.keep hk4 (by simp)
  have hV4 := hV3.keep0 hk4
  have hI4 := hI3.keep0 hk4
  have hkD := hkC.trans hk4 (by simp)
  clear hA3 hF3 hV3 hI3 hkC hk4
  have e0 : w4.cell? ⟨w1.heap.size, 0, none⟩ = some (.int .i64 16) := hA4.cell 0
  have e1 : w4.cell? ⟨w1.heap.size, 1, none⟩ = some (.int .i64 1) := hA4.cell 1
  go_wp2_with fail
  refine (pushes_spec _ _ _).mono ?_
  rintro e w5 ⟨rfl, hk5⟩
  rw [show pushesOf 16 = 1 from rfl]
  have hF5 := hF4.keep hk5 (by simp)
  have hV5 := hV4.keep0 hk5
  have hI5 := hI4.keep0 hk5
  have hkE := hkD.trans hk5 (by simp)
  clear hA4 hF4 hV4 hI4 hkD hk5 e0 e1
  have f1 : w5.cell? ⟨w1.heap.size + 1, 1, none⟩ = some (.int .i64 3) := hF5.cell 1
  have f5 : w5.cell? ⟨w1.heap.size + 1, 5, none⟩ = some (.int .i64 8) := hF5.cell 5
  go_wp2_with fail
  refine (same_true _ _ _ _ hI5 hV5 (by simp)).mono ?_
  rintro e w6 ⟨rfl, q, rfl⟩
  go_wp2_with fail
  refine (name_spec _ _).mono ?_
  rintro e w7 ⟨rfl, hk7⟩
  go_wp2
  go_ret
  exact ⟨rfl, (hkE.drewN q).trans hk7 (by simp)⟩

set_option maxHeartbeats 4000000 in
set_option maxRecDepth 100000 in
theorem ways_spawn2 (w : World) (n at_ : Int) (g1 : 0 ≤ at_) (g2 : at_ ≤ 1000) (g3 : 2 ≤ n) (g4 : n ≤ 1000) :
    Calls Try.prog 4 #[.int .i64 16, .int .i64 n, .int .i64 at_] w (WaysPost w) := by
  have hway : nextOf 16 n at_ = [at_ + 1] := by unfold nextOf; simp
  have HW := Lib.hid hway
  have hne : (nameOf 16).toList.isEmpty = false := notEmpty (idxOf_nameOf 16 (by omega)).2
  clear hway
  go_enter Try.func4, Try.ntmps4
  go_wp2_with fail
  refine (alive3 _).mono ?_
  rintro e w1 ⟨rfl, hk1⟩
  go_wp2_with fail
  have hA := (Blk.new w1 28 [.int .i64 16, .int .i64 n]).alloc (.cells ZF.toArray 31)
  have hF := Blk.new (w1.alloc (.cells #[.int .i64 16, .int .i64 n] 28)) 31 ZF
  rw [show (w1.alloc (.cells #[.int .i64 16, .int .i64 n] 28)).heap.size = w1.heap.size + 1 from by simp] at hF
  have hkA := (hk1.alloc (.cells #[.int .i64 16, .int .i64 n] 28)).alloc (.cells ZF.toArray 31)
  refine (next_spec _ 16 n at_ (by omega) (by omega)).mono ?_
  rintro e w2 ⟨v2, rfl, hown2, hk2⟩
  rw [HW.out] at hown2
  have hA2 := hA.keep hk2 (by simp)
  have hF2 := hF.keep hk2 (by simp)
  have hI2 := ints_of_own hown2
  have hkB := hkA.trans hk2 (by simp)
  clear hk1 hk2 hkA hA hF hown2
  have hV3 : IntsOf (w2.alloc (.cells #[.int .i64 (at_ + 1)] 3)) (.slice (some ⟨w2.heap.size, 0, none⟩) 1 1) [at_ + 1] := ints_of_own (own_lit (w0 := w2) (w := w2) [at_ + 1] (Keep.refl [] w2) #[.int .i64 (at_ + 1)] rfl (by simp))
  have hI3 := hI2.keep0 ((Keep.refl [] w2).alloc (.cells #[.int .i64 (at_ + 1)] 3))
  have hA3 := hA2.alloc (.cells #[.int .i64 (at_ + 1)] 3)
  have hF3 := hF2.alloc (.cells #[.int .i64 (at_ + 1)] 3)
  have hkC := hkB.alloc (.cells #[.int .i64 (at_ + 1)] 3)
  have hA2' := hA2
  clear hI2 hA2 hF2 hkB
  have e0 : w2.cell? ⟨w1.heap.size, 0, none⟩ = some (.int .i64 16) := hA2'.cell 0
  have e1 : w2.cell? ⟨w1.heap.size, 1, none⟩ = some (.int .i64 n) := hA2'.cell 1
  have hlt : w1.heap.size < w2.heap.size := hA2'.lt
  go_wp2_with fail
  clear e0 e1 hlt hA2'
  refine (pops_spec _ _ _ _ _ (funcs38 hF3)).mono ?_
  rintro e w4 ⟨rfl, hk4⟩
  rw [show popsOf 16 n [3, 8] = 0 from by unfold popsOf; simp; omega]
  have hA4 := hA3.keep hk4 (by simp)
  have hF4 := hF3.keep hk4 (by simp)
  have hV4 := hV3.keep0 hk4
  have hI4 := hI3.keep0 hk4
  have hkD := hkC.trans hk4 (by simp)
  clear hA3 hF3 hV3 hI3 hkC hk4
  have e0 : w4.cell? ⟨w1.heap.size, 0, none⟩ = some (.int .i64 16) := hA4.cell 0
  have e1 : w4.cell? ⟨w1.heap.size, 1, none⟩ = some (.int .i64 n) := hA4.cell 1
  go_wp2_with fail
  refine (pushes_spec _ _ _).mono ?_
  rintro e w5 ⟨rfl, hk5⟩
  rw [show pushesOf 16 = 1 from rfl]
  have hF5 := hF4.keep hk5 (by simp)
  have hV5 := hV4.keep0 hk5
  have hI5 := hI4.keep0 hk5
  have hkE := hkD.trans hk5 (by simp)
  clear hA4 hF4 hV4 hI4 hkD hk5 e0 e1
  have f1 : w5.cell? ⟨w1.heap.size + 1, 1, none⟩ = some (.int .i64 3) := hF5.cell 1
  have f5 : w5.cell? ⟨w1.heap.size + 1, 5, none⟩ = some (.int .i64 8) := hF5.cell 5
  go_wp2_with fail
  refine (same_true _ _ _ _ hI5 hV5 (by simp)).mono ?_
  rintro e w6 ⟨rfl, q, rfl⟩
  go_wp2_with fail
  refine (name_spec _ _).mono ?_
  rintro e w7 ⟨rfl, hk7⟩
  go_wp2
  go_ret
  exact ⟨rfl, (hkE.drewN q).trans hk7 (by simp)⟩

set_option maxHeartbeats 4000000 in
set_option maxRecDepth 100000 in
theorem ways_plain (w : World) (op n at_ : Int) (g1 : 0 ≤ at_) (g2 : at_ ≤ 1000) (g3 : 0 ≤ n) (g4 : n ≤ 1000) (o1 : 1 ≤ op) (o2 : op ≤ 13 ∨ op = 17)  :
    Calls Try.prog 4 #[.int .i64 op, .int .i64 n, .int .i64 at_] w (WaysPost w) := by
  have hway : nextOf op n at_ = [at_ + 1] := by
    unfold nextOf; rw [if_neg (by omega), if_neg (by omega), if_pos (by omega)]
  have b14 : (op == 14) = false := by simp; omega
  have b15 : (op == 15) = false := by simp; omega
  have b16 : (op == 16) = false := by simp; omega
  have b16n : (op != 16) = true := by simp; omega
  have br1 : decide (1 ≤ op) = true := by simp; omega
  have br2 : decide (op ≤ 17) = true := by simp; omega
  have ops : 1 ≤ op ∧ op ≤ 19 := by omega
  have hname : nameOf op ≠ ⟨#[]⟩ := (idxOf_nameOf op ops).2
  have hne : (nameOf op).toList.isEmpty = false := notEmpty hname
  have hP : 0 ≤ popsOf op n [3, 8] ∧ popsOf op n [3, 8] ≤ 2 := by
    unfold popsOf; split; omega; split; omega; rw [if_neg (by omega)]; omega
  have hU : 0 ≤ pushesOf op ∧ pushesOf op ≤ 2 := by
    unfold pushesOf; split; omega; split <;> omega
  generalize hPe : popsOf op n [3, 8] = P at *
  generalize hUe : pushesOf op = U at *
  have HP := Lib.hid hPe
  have HU := Lib.hid hUe
  have HW := Lib.hid hway
  obtain ⟨hP1, hP2⟩ := hP
  obtain ⟨hU1, hU2⟩ := hU
  clear hPe hUe hway hname ops 
  go_enter Try.func4, Try.ntmps4
  go_wp2_with fail
  refine (alive3 _).mono ?_
  rintro e w1 ⟨rfl, hk1⟩
  go_wp2_with fail
  have hA := (Blk.new w1 28 [.int .i64 op, .int .i64 n]).alloc (.cells ZF.toArray 31)
  have hF := Blk.new (w1.alloc (.cells #[.int .i64 op, .int .i64 n] 28)) 31 ZF
  rw [show (w1.alloc (.cells #[.int .i64 op, .int .i64 n] 28)).heap.size = w1.heap.size + 1 from by simp] at hF
  have hkA := (hk1.alloc (.cells #[.int .i64 op, .int .i64 n] 28)).alloc (.cells ZF.toArray 31)
  refine (next_spec _ op n at_ (by omega) (by omega)).mono ?_
  rintro e w2 ⟨v2, rfl, hown2, hk2⟩
  rw [HW.out] at hown2
  have hA2 := hA.keep hk2 (by simp)
  have hF2 := hF.keep hk2 (by simp)
  have hI2 := ints_of_own hown2
  have hkB := hkA.trans hk2 (by simp)
  clear hk1 hk2 hkA hA hF hown2
  have hV3 : IntsOf (w2.alloc (.cells #[.int .i64 (at_ + 1)] 3)) (.slice (some ⟨w2.heap.size, 0, none⟩) 1 1) [at_ + 1] := ints_of_own (own_lit (w0 := w2) (w := w2) [at_ + 1] (Keep.refl [] w2) #[.int .i64 (at_ + 1)] rfl (by simp))
  have hI3 := hI2.keep0 ((Keep.refl [] w2).alloc (.cells #[.int .i64 (at_ + 1)] 3))
  have hA3 := hA2.alloc (.cells #[.int .i64 (at_ + 1)] 3)
  have hF3 := hF2.alloc (.cells #[.int .i64 (at_ + 1)] 3)
  have hkC := hkB.alloc (.cells #[.int .i64 (at_ + 1)] 3)
  have hA2' := hA2
  clear hI2 hA2 hF2 hkB
  have e0 : w2.cell? ⟨w1.heap.size, 0, none⟩ = some (.int .i64 op) := hA2'.cell 0
  have e1 : w2.cell? ⟨w1.heap.size, 1, none⟩ = some (.int .i64 n) := hA2'.cell 1
  have hlt : w1.heap.size < w2.heap.size := hA2'.lt
  go_wp2_with fail
  clear e0 e1 hlt hA2'
  refine (pops_spec _ _ _ _ _ (funcs38 hF3)).mono ?_
  rintro e w4 ⟨rfl, hk4⟩
  rw [show popsOf op n [3, 8] = P from HP.out]
  have hA4 := hA3.keep hk4 (by simp)
  have hF4 := hF3.keep hk4 (by simp)
  have hV4 := hV3.keep0 hk4
  have hI4 := hI3.keep0 hk4
  have hkD := hkC.trans hk4 (by simp)
  clear hA3 hF3 hV3 hI3 hkC hk4
  have e0 : w4.cell? ⟨w1.heap.size, 0, none⟩ = some (.int .i64 op) := hA4.cell 0
  have e1 : w4.cell? ⟨w1.heap.size, 1, none⟩ = some (.int .i64 n) := hA4.cell 1
  go_wp2_with fail
  refine (pushes_spec _ _ _).mono ?_
  rintro e w5 ⟨rfl, hk5⟩
  rw [show pushesOf op = U from HU.out]
  have hF5 := hF4.keep hk5 (by simp)
  have hV5 := hV4.keep0 hk5
  have hI5 := hI4.keep0 hk5
  have hkE := hkD.trans hk5 (by simp)
  clear hA4 hF4 hV4 hI4 hkD hk5 e0 e1
  have f1 : w5.cell? ⟨w1.heap.size + 1, 1, none⟩ = some (.int .i64 3) := hF5.cell 1
  have f5 : w5.cell? ⟨w1.heap.size + 1, 5, none⟩ = some (.int .i64 8) := hF5.cell 5
  go_wp2_with fail
  refine (same_true _ _ _ _ hI5 hV5 (by simp)).mono ?_
  rintro e w6 ⟨rfl, q, rfl⟩
  go_wp2_with fail
  refine (name_spec _ _).mono ?_
  rintro e w7 ⟨rfl, hk7⟩
  go_wp2
  go_ret
  exact ⟨rfl, (hkE.drewN q).trans hk7 (by simp)⟩

set_option maxHeartbeats 4000000 in
set_option maxRecDepth 100000 in
theorem ways_end (w : World) (op n at_ : Int) (g1 : 0 ≤ at_) (g2 : at_ ≤ 1000) (g3 : 0 ≤ n) (g4 : n ≤ 1000) (o1 : op = 18 ∨ op = 19)  :
    Calls Try.prog 4 #[.int .i64 op, .int .i64 n, .int .i64 at_] w (WaysPost w) := by
  have hway : nextOf op n at_ = [] := by
    unfold nextOf; rw [if_neg (by omega), if_neg (by omega), if_neg (by omega)]
  have b14 : (op == 14) = false := by simp; omega
  have b15 : (op == 15) = false := by simp; omega
  have b16 : (op == 16) = false := by simp; omega
  have b16n : (op != 16) = true := by simp; omega
  have br2 : decide (op ≤ 17) = false := by simp; omega
  have ops : 1 ≤ op ∧ op ≤ 19 := by omega
  have hname : nameOf op ≠ ⟨#[]⟩ := (idxOf_nameOf op ops).2
  have hne : (nameOf op).toList.isEmpty = false := notEmpty hname
  have hP : 0 ≤ popsOf op n [3, 8] ∧ popsOf op n [3, 8] ≤ 2 := by
    unfold popsOf; split; omega; split; omega; rw [if_neg (by omega)]; omega
  have hU : 0 ≤ pushesOf op ∧ pushesOf op ≤ 2 := by
    unfold pushesOf; split; omega; split <;> omega
  generalize hPe : popsOf op n [3, 8] = P at *
  generalize hUe : pushesOf op = U at *
  have HP := Lib.hid hPe
  have HU := Lib.hid hUe
  have HW := Lib.hid hway
  obtain ⟨hP1, hP2⟩ := hP
  obtain ⟨hU1, hU2⟩ := hU
  clear hPe hUe hway hname ops 
  go_enter Try.func4, Try.ntmps4
  go_wp2_with fail
  refine (alive3 _).mono ?_
  rintro e w1 ⟨rfl, hk1⟩
  go_wp2_with fail
  have hA := (Blk.new w1 28 [.int .i64 op, .int .i64 n]).alloc (.cells ZF.toArray 31)
  have hF := Blk.new (w1.alloc (.cells #[.int .i64 op, .int .i64 n] 28)) 31 ZF
  rw [show (w1.alloc (.cells #[.int .i64 op, .int .i64 n] 28)).heap.size = w1.heap.size + 1 from by simp] at hF
  have hkA := (hk1.alloc (.cells #[.int .i64 op, .int .i64 n] 28)).alloc (.cells ZF.toArray 31)
  refine (next_spec _ op n at_ (by omega) (by omega)).mono ?_
  rintro e w2 ⟨v2, rfl, hown2, hk2⟩
  rw [HW.out] at hown2
  have hA2 := hA.keep hk2 (by simp)
  have hF2 := hF.keep hk2 (by simp)
  have hI2 := ints_of_own hown2
  have hkB := hkA.trans hk2 (by simp)
  clear hk1 hk2 hkA hA hF hown2
  have hV3 : IntsOf w2 (.slice none 0 0) [] := IntsOf.nil w2
  have hI3 := hI2
  have hA3 := hA2
  have hF3 := hF2
  have hkC := hkB
  have hA2' := hA2
  clear hI2 hA2 hF2 hkB
  have e0 : w2.cell? ⟨w1.heap.size, 0, none⟩ = some (.int .i64 op) := hA2'.cell 0
  have e1 : w2.cell? ⟨w1.heap.size, 1, none⟩ = some (.int .i64 n) := hA2'.cell 1
  have hlt : w1.heap.size < w2.heap.size := hA2'.lt
  go_wp2_with fail
  clear e0 e1 hlt hA2'
  refine (pops_spec _ _ _ _ _ (funcs38 hF3)).mono ?_
  rintro e w4 ⟨rfl, hk4⟩
  rw [show popsOf op n [3, 8] = P from HP.out]
  have hA4 := hA3.keep hk4 (by simp)
  have hF4 := hF3.keep hk4 (by simp)
  have hV4 := hV3.keep0 hk4
  have hI4 := hI3.keep0 hk4
  have hkD := hkC.trans hk4 (by simp)
  clear hA3 hF3 hV3 hI3 hkC hk4
  have e0 : w4.cell? ⟨w1.heap.size, 0, none⟩ = some (.int .i64 op) := hA4.cell 0
  have e1 : w4.cell? ⟨w1.heap.size, 1, none⟩ = some (.int .i64 n) := hA4.cell 1
  go_wp2_with fail
  refine (pushes_spec _ _ _).mono ?_
  rintro e w5 ⟨rfl, hk5⟩
  rw [show pushesOf op = U from HU.out]
  have hF5 := hF4.keep hk5 (by simp)
  have hV5 := hV4.keep0 hk5
  have hI5 := hI4.keep0 hk5
  have hkE := hkD.trans hk5 (by simp)
  clear hA4 hF4 hV4 hI4 hkD hk5 e0 e1
  have f1 : w5.cell? ⟨w1.heap.size + 1, 1, none⟩ = some (.int .i64 3) := hF5.cell 1
  have f5 : w5.cell? ⟨w1.heap.size + 1, 5, none⟩ = some (.int .i64 8) := hF5.cell 5
  go_wp2_with fail
  refine (same_true _ _ _ _ hI5 hV5 (by simp)).mono ?_
  rintro e w6 ⟨rfl, q, rfl⟩
  go_wp2_with fail
  refine (name_spec _ _).mono ?_
  rintro e w7 ⟨rfl, hk7⟩
  go_wp2
  go_ret
  exact ⟨rfl, (hkE.drewN q).trans hk7 (by simp)⟩

set_option maxHeartbeats 4000000 in
set_option maxRecDepth 100000 in
theorem ways_none (w : World) (op n at_ : Int) (g1 : 0 ≤ at_) (g2 : at_ ≤ 1000) (g3 : 0 ≤ n) (g4 : n ≤ 1000) (o1 : NoOp op)  :
    Calls Try.prog 4 #[.int .i64 op, .int .i64 n, .int .i64 at_] w (WaysPost w) := by
  have hway : nextOf op n at_ = [] := by
    unfold NoOp at o1; unfold nextOf; rw [if_neg (by omega), if_neg (by omega), if_neg (by omega)]
  have b14 : (op == 14) = false := by unfold NoOp at o1; simp; omega
  have b15 : (op == 15) = false := by unfold NoOp at o1; simp; omega
  have b16 : (op == 16) = false := by unfold NoOp at o1; simp; omega
  have b16n : (op != 16) = true := by unfold NoOp at o1; simp; omega
  have hname : nameOf op = ⟨#[]⟩ := nameOf_out op o1
  have hPe : popsOf op n [3, 8] = 0 := by unfold popsOf; unfold NoOp at o1; rw [if_neg (by omega), if_neg (by omega), if_neg (by omega)]
  have hUe : pushesOf op = 0 := by unfold pushesOf; unfold NoOp at o1; rw [if_neg (by omega), if_neg (by omega)]
  have HP := Lib.hid hPe
  have HU := Lib.hid hUe
  have HW := Lib.hid hway
  have HN := Lib.hid hname
  obtain ⟨P, eP⟩ : ∃ P : Int, P = 0 := ⟨_, rfl⟩
  obtain ⟨U, eU⟩ : ∃ U : Int, U = 0 := ⟨_, rfl⟩
  have br : (op < 1 ∨ 17 < op) := by unfold NoOp at o1; omega
  clear hPe hUe hway hname o1
  rcases br with br | br
  all_goals
    go_enter Try.func4, Try.ntmps4
    go_wp2_with fail
    refine (alive3 _).mono ?_
    rintro e w1 ⟨rfl, hk1⟩
    go_wp2_with fail
    have hA := (Blk.new w1 28 [.int .i64 op, .int .i64 n]).alloc (.cells ZF.toArray 31)
    have hF := Blk.new (w1.alloc (.cells #[.int .i64 op, .int .i64 n] 28)) 31 ZF
    rw [show (w1.alloc (.cells #[.int .i64 op, .int .i64 n] 28)).heap.size = w1.heap.size + 1 from by simp] at hF
    have hkA := (hk1.alloc (.cells #[.int .i64 op, .int .i64 n] 28)).alloc (.cells ZF.toArray 31)
    refine (next_spec _ op n at_ (by omega) (by omega)).mono ?_
    rintro e w2 ⟨v2, rfl, hown2, hk2⟩
    rw [HW.out] at hown2
    have hA2 := hA.keep hk2 (by simp)
    have hF2 := hF.keep hk2 (by simp)
    have hI2 := ints_of_own hown2
    have hkB := hkA.trans hk2 (by simp)
    clear hk1 hk2 hkA hA hF hown2
    have hV3 : IntsOf w2 (.slice none 0 0) [] := IntsOf.nil w2
    have hI3 := hI2
    have hA3 := hA2
    have hF3 := hF2
    have hkC := hkB
    have hA2' := hA2
    clear hI2 hA2 hF2 hkB
    have e0 : w2.cell? ⟨w1.heap.size, 0, none⟩ = some (.int .i64 op) := hA2'.cell 0
    have e1 : w2.cell? ⟨w1.heap.size, 1, none⟩ = some (.int .i64 n) := hA2'.cell 1
    have hlt : w1.heap.size < w2.heap.size := hA2'.lt
    go_wp2_with fail
    clear e0 e1 hlt hA2'
    refine (pops_spec _ _ _ _ _ (funcs38 hF3)).mono ?_
    rintro e w4 ⟨rfl, hk4⟩
    rw [show popsOf op n [3, 8] = 0 from HP.out]
    have hA4 := hA3.keep hk4 (by simp)
    have hF4 := hF3.keep hk4 (by simp)
    have hV4 := hV3.keep0 hk4
    have hI4 := hI3.keep0 hk4
    have hkD := hkC.trans hk4 (by simp)
    clear hA3 hF3 hV3 hI3 hkC hk4
    have e0 : w4.cell? ⟨w1.heap.size, 0, none⟩ = some (.int .i64 op) := hA4.cell 0
    have e1 : w4.cell? ⟨w1.heap.size, 1, none⟩ = some (.int .i64 n) := hA4.cell 1
    go_wp2_with fail
    refine (pushes_spec _ _ _).mono ?_
    rintro e w5 ⟨rfl, hk5⟩
    rw [show pushesOf op = 0 from HU.out]
    have hF5 := hF4.keep hk5 (by simp)
    have hV5 := hV4.keep0 hk5
    have hI5 := hI4.keep0 hk5
    have hkE := hkD.trans hk5 (by simp)
    clear hA4 hF4 hV4 hI4 hkD hk5 e0 e1
    have f1 : w5.cell? ⟨w1.heap.size + 1, 1, none⟩ = some (.int .i64 3) := hF5.cell 1
    have f5 : w5.cell? ⟨w1.heap.size + 1, 5, none⟩ = some (.int .i64 8) := hF5.cell 5
    go_wp2_with fail
    refine (same_true _ _ _ _ hI5 hV5 (by simp)).mono ?_
    rintro e w6 ⟨rfl, q, rfl⟩
    go_wp2_with fail
    refine (name_spec _ _).mono ?_
    rintro e w7 ⟨rfl, hk7⟩
    rw [HN.out]
    go_wp2
    go_ret
    exact ⟨rfl, (hkE.drewN q).trans hk7 (by simp)⟩
end Go.Proofs.Ytbdkmfcgnolihaa
