/- The reference's Name, Op and Next. -/
import Derived.Test.YtbdkmfcgnolihaaRows
import Derived.WalkKit
import Derived.WalkSpells
import Derived.WalkLawsBesides
import Derived.RegionTactic
import Derived.ChangeAlike
import Derived.BigQuiet
import Derived.Deep.QuietTactic
import Derived.StillTailTactics
import Derived.IntWalk
import Derived.Handy
import Derived.Lib.Hide
import Derived.Deep.AppendLies
import Derived.Deep.RegionWith
import Derived.Test.YtbdkmfcgnolihaaBase
import Derived.Test.YtbdkmfcgnolihaaTail
import Derived.Test.YtbdkmfcgnolihaaArgs
import Derived.Test.YtbdkmfcgnolihaaAppend
import Derived.Test.YtbdkmfcgnolihaaWords
import Derived.Test.YtbdkmfcgnolihaaWordsLaw
import Derived.Test.YtbdkmfcgnolihaaStack
namespace Go.Proofs.Ytbdkmfcgnolihaa
open Go.RowKit

set_option maxHeartbeats 4000000 in
theorem rname_spec (w : World) (op : Int) : Calls Try.prog 15 #[.int .i64 op] w fun e w' => e = .returned (.string (nameOf op)) ∧ Keep [] w w' := by
  by_cases h : 1 ≤ op ∧ op < 20
  · obtain ⟨h0, h1⟩ := h
    rcases op_cases op (by omega) with rfl | rfl | rfl | rfl | rfl | rfl | rfl | rfl | rfl | rfl | rfl | rfl | rfl | rfl | rfl | rfl | rfl | rfl | rfl
    all_goals
      clear h0 h1
      go_enter Try.func15, Try.ntmps15
      go_wp2
      go_ret
      exact ⟨rfl, (Keep.refl _ _).alloc _⟩
  · have hname : nameOf op = ⟨#[]⟩ := nameOf_out op (by omega)
    rw [hname]
    clear hname
    by_cases h0 : op < 1
    all_goals
      go_enter Try.func15, Try.ntmps15
      go_wp2
      go_ret
      exact ⟨rfl, (Keep.refl _ _).alloc _⟩

/-- the reference's Op is the program's, in plain words -/
theorem opNo_first {s : ByteArray} {k : Nat} (h1 : 1 ≤ k) (h2 : k < 20) (hk : nameOf k = s) : idxOf s = k := by
  rw [← hk]
  exact (idxOf_nameOf k (by omega)).1
theorem opNo_none {s : ByteArray} (hl : ∀ j : Nat, 1 ≤ j → j < 20 → nameOf j ≠ s) : idxOf s < 1 := by
  refine Classical.byContradiction fun hc => ?_
  have hlt : opNames.findIdx (fun y => decide (y = s)) < 20 := by
    refine Classical.byContradiction fun h => ?_
    unfold idxOf at hc
    rw [if_neg h] at hc
    omega
  have he : idxOf s = (opNames.findIdx (fun y => decide (y = s)) : Nat) := by
    unfold idxOf
    rw [if_pos hlt]
  have hp := List.findIdx_getElem (xs := opNames) (p := fun y => decide (y = s)) (w := by rw [opNames_len]; exact hlt)
  generalize opNames.findIdx (fun y => decide (y = s)) = k at *
  have h1 : 1 ≤ k := by omega
  refine hl k h1 hlt ?_
  unfold nameOf
  rw [if_pos ⟨by omega, by omega⟩]
  simpa [List.getD_eq_getElem?_getD, List.getElem?_eq_getElem (show k < opNames.length by rw [opNames_len]; exact hlt)] using hp
set_option maxHeartbeats 1000000 in
theorem rop_spec (w : World) (s : ByteArray) : Calls Try.prog 13 #[.string s] w fun e w' => e = .returned (.tuple #[.int .i64 (opNo s), .bool (decide (1 ≤ idxOf s))]) ∧ Keep [] w w' := by
  obtain ⟨N, hN⟩ : ∃ N, N = opNo s := ⟨_, rfl⟩
  obtain ⟨B, hB⟩ : ∃ B, B = decide (1 ≤ idxOf s) := ⟨_, rfl⟩
  rw [← hN, ← hB]
  have HN := Lib.hid hN
  have HB := Lib.hid hB
  clear hN hB
  go_enter Try.func13, Try.ntmps13
  go_wp2
  go_loopw [4] (fun v wr => ∃ k : Nat, 1 ≤ k ∧ k ≤ 20 ∧ v = .int .i64 k ∧ (∀ j : Nat, 1 ≤ j → j < k → nameOf j ≠ s) ∧ Keep [] w wr) (fun v _ => 20 - (intOf v).toNat)
  case atStart => exact ⟨1, by omega, by omega, rfl, fun j h1 h2 => absurd h1 (by omega), Keep.refl _ _⟩
  case round =>
    obtain ⟨k, hk1, hk2, rfl, hne, hkeep⟩ := hrel
    have Hne := Lib.hid hne
    clear hne
    by_cases hlt : k < 20
    · by_cases he : nameOf k = s
      · have h1 := opNo_first hk1 hlt he
        have h2 : N = k := by rw [HN.out]; unfold opNo; rw [h1, if_neg (by omega)]
        have h3 : B = true := by rw [HB.out, h1]; simp; omega
        have H2 := Lib.hid h2
        subst h3
        subst he
        clear h1 h2
        go_wp2_with fail
        refine (rname_spec _ _).mono ?_
        rintro e w1 ⟨rfl, hk⟩
        go_wp2
        go_ret2
        exact ⟨by rw [H2.out]; rfl, hkeep.trans hk (by simp)⟩
      · have hb := toList_ne he
        have hne2 : ∀ j : Nat, 1 ≤ j → j < k + 1 → nameOf j ≠ s := fun j h1 h2 => by
          by_cases hjk : j = k
          · subst hjk; exact he
          · exact Hne.out j h1 (by omega)
        have Hne2 := Lib.hid hne2
        clear hne2 he
        go_wp2_with fail
        refine (rname_spec _ _).mono ?_
        rintro e w1 ⟨rfl, hk⟩
        have hkeep' := hkeep.trans hk (by simp)
        clear hkeep hk
        go_wp2
        go_roundw
        case rel => exact ⟨k + 1, by omega, by omega, by go_num, Hne2.out, hkeep'⟩
        case measure => simp [intOf]; omega
    · obtain rfl : k = 20 := by omega
      have h1 := opNo_none Hne.out
      have h2 : N = 0 := by rw [HN.out]; unfold opNo; rw [if_pos h1]
      have h3 : B = false := by rw [HB.out]; simp; omega
      subst h3 h2
      clear h1
      go_wp2
      go_ret2
      exact ⟨rfl, hkeep⟩
set_option maxHeartbeats 4000000 in
theorem rnext_spec (w : World) (op n at_ : Int) (h1 : -9223372036854775808 ≤ at_) (h2 : at_ ≤ 9223372036854775806) :
    Calls Try.prog 14 #[.agg #[.int .i64 op, .int .i64 n], .int .i64 at_] w (OwnPost (nextOf op n at_) w) := by
  by_cases c0 : op < 1
  · have e : nextOf op n at_ = [] := by unfold nextOf; rw [if_neg (by omega), if_neg (by omega), if_neg (by omega)]
    rw [e]
    clear e
    go_enter Try.func14, Try.ntmps14
    go_wp2
    go_ret
    exact nil_post ((Keep.refl _ _).alloc _)
  · by_cases c9 : 17 < op
    · have e : nextOf op n at_ = [] := by unfold nextOf; rw [if_neg (by omega), if_neg (by omega), if_neg (by omega)]
      rw [e]
      clear e
      go_enter Try.func14, Try.ntmps14
      go_wp2
      go_ret
      exact nil_post ((Keep.refl _ _).alloc _)
    · by_cases c1 : op = 14
      · subst c1
        have e : nextOf 14 n at_ = [n] := rfl
        rw [e]
        clear e c0 c9
        go_enter Try.func14, Try.ntmps14
        go_wp2
        go_ret
        exact own_post [n] ((Keep.refl _ w).alloc _) (w.heap.size + 1) (by simp) rfl rfl (by simp)
      · have b1 : (op == 14) = false := by simpa using c1
        by_cases c2 : op = 15
        · subst c2
          clear c0 c9 c1 b1
          by_cases c3 : n = at_ + 1
          · subst c3
            have e : nextOf 15 (at_ + 1) at_ = [at_ + 1] := by unfold nextOf; rw [if_neg (by decide), if_neg (fun h => h.2 rfl), if_pos (by decide)]
            rw [e]
            clear e
            go_enter Try.func14, Try.ntmps14
            go_wp2
            go_ret
            exact own_post [at_ + 1] ((Keep.refl _ w).alloc _) (w.heap.size + 1) (by simp) rfl rfl (by simp)
          · have e : nextOf 15 n at_ = [at_ + 1, n] := by unfold nextOf; rw [if_neg (by decide), if_pos ⟨rfl, c3⟩]
            rw [e]
            have b2 : (n != at_ + 1) = true := by simpa using c3
            clear c3 e
            go_enter Try.func14, Try.ntmps14
            go_wp2
            go_ret
            exact own_post [at_ + 1, n] ((Keep.refl _ w).alloc _) (w.heap.size + 1) (by simp) rfl rfl (by simp)
        · have b2 : (op == 15) = false := by simpa using c2
          have e : nextOf op n at_ = [at_ + 1] := by unfold nextOf; rw [if_neg c1, if_neg (fun h => c2 h.1), if_pos (by omega)]
          rw [e]
          clear e c1 c2
          go_enter Try.func14, Try.ntmps14
          go_wp2
          go_ret
          exact own_post [at_ + 1] ((Keep.refl _ w).alloc _) (w.heap.size + 1) (by simp) rfl rfl (by simp)
end Go.Proofs.Ytbdkmfcgnolihaa
