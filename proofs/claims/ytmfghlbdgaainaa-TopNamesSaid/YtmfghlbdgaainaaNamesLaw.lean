/- The law TopNames, walked. -/
import Derived.Test.YtmfghlbdgaainaaRows
import Derived.WalkKit
import Derived.WalkSpells
import Derived.WalkLawsBesides
import Derived.RegionTactic
import Derived.ChangeAlike
import Derived.BigQuiet
import Derived.Deep.QuietTactic
import Derived.StillTailTactics
import Derived.IntWalk
import Derived.Handy
import Derived.Lib.Hide
import Derived.Deep.AppendLies
import Derived.Deep.RegionWith
import Derived.Test.YtmfghlbdgaainaaBase
import Derived.Test.YtmfghlbdgaainaaTail
namespace Go.Proofs.Ytmfghlbdgaainaa
open Go.RowKit


def nums1 : List Int := [0, 1, 2, 3, 4, 5, 6, 10, 11, 12, 13, 14, 15, 16, 20, 21, 22, 23, 24, 25, 30, 31, 32, 32, 256, 8, 16, 32, 20, 5000, 12, 16, 500, 16, 4096, 131072, 8000, 8, 1, 2, 3, 4, 5, 6, 7]
def nums2 : List Int := [8, 9, 10, 11, 12, 13, 14, 15, 16, 17, 18, 19, 0, 1, 2, 3, 1, 2, 3, 4, 5, 6, 7, 8, 9, 10, 1, 2, 3, 0, 1, 2, 3, 4, 1, 2, 3, 4, 5, 6, 7, 0, 1, 2, 3]
def pairCells (l : List Int) : List Value := l.flatMap fun x => [.int .i64 x, .int .i64 x]
theorem pairCells_at : ∀ (l : List Int) (k : Nat) (x : Int), l[k]? = some x → (pairCells l)[k * 2]? = some (.int .i64 x) ∧ (pairCells l)[k * 2 + 1]? = some (.int .i64 x)
  | [], k, x, h => by simp at h
  | y :: l, 0, x, h => by simp at h; subst h; exact ⟨rfl, rfl⟩
  | y :: l, k + 1, x, h => by
    have ih := pairCells_at l k x (by simpa using h)
    rw [show (k + 1) * 2 = k * 2 + 1 + 1 by omega]
    exact ⟨ih.1, ih.2⟩
set_option maxHeartbeats 1000000 in
theorem are_spec (w : World) (g : Nat) (l : List Int) (hl : l.length = 45) (hb : Blk w g 24 (pairCells l)) :
    Calls Try.prog 6 #[.slice (some ⟨g, 0, none⟩) 45 45] w fun e w' => e = .returned (.bool true) ∧ ∃ n, w' = w.drewN n := by
  go_enter Try.func6, Try.ntmps6
  go_wp2
  go_loopw [3] (fun v wr => ∃ (k n : Nat), k ≤ 45 ∧ v = .int .i64 k ∧ wr = w.drewN n) (fun v _ => 45 - (intOf v).toNat)
  case atStart => exact ⟨0, 0, by omega, rfl, rfl⟩
  case round =>
    obtain ⟨k, n, hk, rfl, rfl⟩ := hrel
    by_cases hlt : k < 45
    · obtain ⟨x, hx⟩ : ∃ x, l[k]? = some x := ⟨_, List.getElem?_eq_getElem (by omega)⟩
      obtain ⟨p0, p1⟩ := pairCells_at l k x hx
      have c0 : w.cell? ⟨g, k * 2, none⟩ = some (.int .i64 x) := (hb.cell _).trans p0
      have c1 : w.cell? ⟨g, k * 2 + 1, none⟩ = some (.int .i64 x) := (hb.cell _).trans p1
      have hne : (x != x) = false := by simp
      clear p0 p1 hx hb hl
      go_wp2
      go_quiet (fail)
      go_wp2
      go_roundw
      case rel => exact ⟨k + 1, _, by omega, by go_num, rfl⟩
      case measure => simp [intOf]; omega
    · clear hb hl
      go_wp2
      go_ret
      exact ⟨rfl, _, rfl⟩
set_option maxHeartbeats 4000000 in
set_option maxRecDepth 100000 in
theorem first_spec (w : World) : Calls Try.prog 4 #[] w fun e w' => e = .returned (.bool true) ∧ Keep [] w w' := by
  go_enter Try.func4, Try.ntmps4
  go_wp2_with fail
  refine (are_spec _ _ nums1 rfl (Blk.new' w 24 _ (pairCells nums1) rfl)).mono ?_
  rintro e w1 ⟨rfl, n, rfl⟩
  go_wp2
  go_ret
  exact ⟨rfl, ((Keep.refl _ _).alloc _).drewN _⟩
set_option maxHeartbeats 4000000 in
set_option maxRecDepth 100000 in
theorem second_spec (w : World) : Calls Try.prog 5 #[] w fun e w' => e = .returned (.bool true) ∧ Keep [] w w' := by
  go_enter Try.func5, Try.ntmps5
  go_wp2_with fail
  refine (are_spec _ _ nums2 rfl (Blk.new' w 24 _ (pairCells nums2) rfl)).mono ?_
  rintro e w1 ⟨rfl, n, rfl⟩
  go_wp2
  go_ret
  exact ⟨rfl, ((Keep.refl _ _).alloc _).drewN _⟩
theorem walk_topNames (w : World) : Calls Try.prog 3 #[] w fun e w' => e = .returned (.bool true) ∧ Below w.heap.size w w' := by
  go_enter Try.func3, Try.ntmps3
  go_wp2_with fail
  refine (first_spec _).mono ?_
  rintro e w1 ⟨rfl, hk1⟩
  go_wp2_with fail
  refine (second_spec _).mono ?_
  rintro e w2 ⟨rfl, hk2⟩
  go_wp2
  go_ret
  exact ⟨rfl, (hk1.trans hk2 (by simp)).to_below⟩
end Go.Proofs.Ytmfghlbdgaainaa
