/- FairRounds: the plain law. -/
import Derived.Test.YtndpbkhpllmhmaaDoorRows
import Derived.WalkKit
import Derived.WalkSpells
import Derived.WalkLawsBesides
import Derived.RegionTactic
import Derived.ChangeAlike
import Derived.BigQuiet
import Derived.Deep.QuietTactic
import Derived.StillTailTactics
import Derived.IntWalk
import Derived.Handy
import Derived.Lib.Hide
import Derived.Deep.AppendLies
import Derived.Deep.RegionWith
import Derived.Test.YtndpbkhpllmhmaaDoorBase
import Derived.Test.YtndpbkhpllmhmaaDoorTail
import Derived.Test.YtndpbkhpllmhmaaDoorArgs
import Derived.Test.YtndpbkhpllmhmaaDoorAppend
import Derived.Test.YtndpbkhpllmhmaaDoorOffs
import Derived.Test.YtndpbkhpllmhmaaDoorStructs
import Derived.Test.YtndpbkhpllmhmaaDoorShelf
import Derived.Carry
import Derived.Deep.RegionHeld3
import Derived.BigRegion
import Derived.Maps.OwnSet
import Derived.Maps.Views
import Derived.Maps.StringElems
import Derived.Test.YtndpbkhpllmhmaaDoorMaps2
import Derived.Test.YtndpbkhpllmhmaaDoorFWords
import Derived.Test.YtndpbkhpllmhmaaDoorFEnv
import Derived.Test.YtndpbkhpllmhmaaDoorFPlain
import Derived.Test.YtndpbkhpllmhmaaDoorFSteps
import Derived.Test.YtndpbkhpllmhmaaDoorFMaps
import Derived.Test.YtndpbkhpllmhmaaDoorFClosure
import Derived.Test.YtndpbkhpllmhmaaDoorRPrint
import Derived.Test.YtndpbkhpllmhmaaDoorFFair
import Derived.Test.YtndpbkhpllmhmaaDoorFBadPlain
namespace Go.Proofs.YtndpbkhpllmhmaaDoor
open Go.RowKit
/-! ### FairRounds: the plain law -/
def tickS : ST := ⟨2, 0, 0, 0⟩
def roundL (m : Nat) : List ST := (List.range m).map workL ++ [tickS]
def roundsL (m R : Nat) : List ST := (List.range R).flatMap fun _ => roundL m
theorem round_len (m : Nat) : (roundL m).length = m + 1 := by simp [roundL]
theorem rounds_succ (m R : Nat) : roundsL m (R + 1) = roundsL m R ++ roundL m := by
  unfold roundsL
  rw [List.range_succ, List.flatMap_append]
  simp
theorem rounds_len (m R : Nat) : (roundsL m R).length = R * (m + 1) := by
  induction R with
  | zero => simp [roundsL]
  | succ R ih => rw [rounds_succ, List.length_append, ih, round_len, Nat.succ_mul]
theorem round_get {m n : Nat} (h : n ≤ m) : (roundL m)[n]? = some (if n < m then workL n else tickS) := by
  unfold roundL
  by_cases hn : n < m
  · rw [List.getElem?_append_left (by simpa using hn), if_pos hn, List.getElem?_map, List.getElem?_range hn]
    rfl
  · obtain rfl : n = m := by omega
    rw [List.getElem?_append_right (by simp), if_neg hn]
    simp
theorem rounds_get (m : Nat) : ∀ (R r n : Nat), r < R → n ≤ m → (roundsL m R)[r * (m + 1) + n]? = some (if n < m then workL n else tickS)
  | 0, r, n, h, _ => by omega
  | R + 1, r, n, h, hn => by
    rw [rounds_succ]
    by_cases hr : r < R
    · have h1 : r * (m + 1) + n < R * (m + 1) := by
        have h2 : (r + 1) * (m + 1) ≤ R * (m + 1) := Nat.mul_le_mul_right _ hr
        rw [Nat.succ_mul] at h2
        omega
      rw [List.getElem?_append_left (by rw [rounds_len]; exact h1)]
      exact rounds_get m R r n hr hn
    · obtain rfl : r = R := by omega
      rw [List.getElem?_append_right (by rw [rounds_len]; omega), rounds_len, Nat.add_sub_cancel_left]
      exact round_get hn
theorem rounds_at {m R j : Nat} (h : j < R * (m + 1)) : (roundsL m R)[j]? = some (if j % (m + 1) < m then workL (j % (m + 1)) else tickS) := by
  have h1 := rounds_get m R (j / (m + 1)) (j % (m + 1)) ((Nat.div_lt_iff_lt_mul (by omega)).2 h) (by have := Nat.mod_lt j (show m + 1 > 0 by omega); omega)
  rw [Nat.mul_comm, Nat.div_add_mod] at h1
  exact h1
theorem rounds_kind {m R : Nat} (hm : m ≤ 50) : ∀ s ∈ roundsL m R, s.In ∧ (s.kind = 1 ∨ s.kind = 2) := by
  intro s hs
  obtain ⟨j, hj⟩ := List.mem_iff_getElem?.1 hs
  have hlt := (List.getElem?_eq_some_iff.1 hj).1
  rw [rounds_len] at hlt
  rw [rounds_at hlt] at hj
  injection hj with hj
  subst hj
  split
  · exact ⟨work_in (by omega), Or.inl rfl⟩
  · exact ⟨⟨⟨by show (-9223372036854775808 : Int) ≤ 2; decide, by show (2 : Int) ≤ 9223372036854775807; decide⟩, ⟨by show (-9223372036854775808 : Int) ≤ 0; decide, by show (0 : Int) ≤ 9223372036854775807; decide⟩, ⟨by show (-9223372036854775808 : Int) ≤ 0; decide, by show (0 : Int) ≤ 9223372036854775807; decide⟩, ⟨by show (-9223372036854775808 : Int) ≤ 0; decide, by show (0 : Int) ≤ 9223372036854775807; decide⟩⟩, Or.inr rfl⟩
/-- a tick stands in every window of m + 1 steps -/
theorem tk_low {m R : Nat} : ∀ j : Nat, j ≤ R * (m + 1) → tk (roundsL m R) j = ((j / (m + 1) * (m + 1) : Nat) : Int)
  | 0, _ => by simp [tk]
  | j + 1, h => by
    have ih := tk_low (m := m) (R := R) j (by omega)
    rw [tk, rounds_at (by omega)]
    have hmod := Nat.mod_lt j (show m + 1 > 0 by omega)
    have hdm := Nat.div_add_mod j (m + 1)
    by_cases hlt : j % (m + 1) < m
    · have e : (j + 1) / (m + 1) = j / (m + 1) := by
        rw [Nat.div_eq_iff (by omega)]
        constructor
        · rw [Nat.mul_comm]; omega
        · rw [Nat.mul_comm]; omega
      simp only [if_pos hlt]
      rw [e, ← ih]
      simp [workL]
    · have e : j + 1 = (j / (m + 1) + 1) * (m + 1) := by
        rw [Nat.add_mul, Nat.one_mul, Nat.mul_comm]
        omega
      have e2 : (j + 1) / (m + 1) = j / (m + 1) + 1 := by
        conv => lhs; rw [e]
        exact Nat.mul_div_cancel _ (by omega)
      simp only [if_neg hlt]
      rw [e2, ← e]
      simp [tickS]
theorem lw_ge {l : List ST} {i : Nat} {s : ST} (hs : l[i]? = some s) (hk : s.kind = 1) : ∀ j : Nat, i < j → (i : Int) + 1 ≤ lw l j s.node
  | 0, h => by omega
  | j + 1, h => by
    rw [lw]
    by_cases e : i = j
    · subst e
      rw [hs]
      simp [hk]
    · have ih := lw_ge hs hk j (by omega)
      split
      · split
        · omega
        · exact ih
      · exact ih
theorem window_has {m n j : Nat} (hn : n < m) (hj : m ≤ j) : ∃ i, i ≤ j ∧ j < i + (m + 1) ∧ i % (m + 1) = n := by
  have hq := Nat.mod_lt (j + (m + 1) - n) (show m + 1 > 0 by omega)
  have hdm := Nat.div_add_mod (j + (m + 1) - n) (m + 1)
  generalize (j + (m + 1) - n) % (m + 1) = q at *
  generalize ht : (j + (m + 1) - n) / (m + 1) = t at *
  refine ⟨j - q, by omega, by omega, ?_⟩
  have ht1 : 1 ≤ t := by
    rw [← ht]
    exact (Nat.le_div_iff_mul_le (by omega)).2 (by omega)
  obtain ⟨u, rfl⟩ : ∃ u, t = u + 1 := ⟨t - 1, by omega⟩
  rw [Nat.mul_add, Nat.mul_one] at hdm
  have e : j - q = n + (m + 1) * u := by omega
  rw [e, Nat.add_mul_mod_self_left]
  exact Nat.mod_eq_of_lt (by omega)
theorem rounds_fair {m R : Nat} (j : Nat) (hj : j < (roundsL m R).length) (hw : ((m : Int) + 1) ≤ (j : Int) + 1) :
    tk (roundsL m R) (j + 1) > (j : Int) + 1 - ((m : Int) + 1) ∧ ∀ n ∈ (List.range m).map (fun n : Nat => (n : Int)), lw (roundsL m R) (j + 1) n > (j : Int) + 1 - ((m : Int) + 1) := by
  rw [rounds_len] at hj
  constructor
  · rw [tk_low (j + 1) (by omega)]
    have hdm := Nat.div_add_mod (j + 1) (m + 1)
    have hlt := Nat.mod_lt (j + 1) (show m + 1 > 0 by omega)
    rw [Nat.mul_comm] at hdm
    generalize (j + 1) / (m + 1) * (m + 1) = q at *
    omega
  · intro n hn
    obtain ⟨n', hn', rfl⟩ := List.mem_map.1 hn
    have hlt := List.mem_range.1 hn'
    obtain ⟨i, h1, h2, h3⟩ := window_has (j := j) hlt (by omega)
    have hat := rounds_at (m := m) (R := R) (j := i) (by omega)
    rw [h3, if_pos hlt] at hat
    have h4 : (i : Int) + 1 ≤ lw (roundsL m R) (j + 1) (workL n').node := lw_ge hat rfl (j + 1) (by omega)
    have h5 : (workL n').node = (n' : Int) := rfl
    rw [h5] at h4
    omega
theorem rounds_first {m R : Nat} (hm : 1 ≤ m) (hR : 2 ≤ R) : ((m : Int) ≤ (roundsL m R).length) ∧ tk (roundsL m R) (m : Int).toNat = 0 := by
  have h : 2 * (m + 1) ≤ R * (m + 1) := Nat.mul_le_mul_right _ hR
  refine ⟨by rw [rounds_len]; omega, ?_⟩
  rw [Int.toNat_natCast, tk_low m (by omega), Nat.div_eq_of_lt (by omega)]
  simp
theorem gap_all : ∀ m, m < 17 → ∀ R, R < 21 → 1 ≤ m → 2 ≤ R → gapN 0 0 0 (roundsL m R) = m ∧ gapN (-1) 0 0 (roundsL m R) = m := by decide +kernel
end Go.Proofs.YtndpbkhpllmhmaaDoor
