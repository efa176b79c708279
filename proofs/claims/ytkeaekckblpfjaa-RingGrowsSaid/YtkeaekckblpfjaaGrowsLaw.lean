/- The law RingGrows, walked. -/
import Derived.Test.YtkeaekckblpfjaaRows
import Derived.Test.YtkeaekckblpfjaaBase
import Derived.WalkKit
import Derived.WalkSpells
import Derived.WalkLawsBesides
import Derived.RegionTactic
import Derived.ChangeAlike
import Derived.BigQuiet
import Derived.Deep.QuietTactic
import Derived.StillTailTactics
import Derived.IntWalk
import Derived.Handy
import Derived.Lib.Hide
import Derived.Test.YtkeaekckblpfjaaTail
import Derived.Test.YtkeaekckblpfjaaRing
import Derived.Test.YtkeaekckblpfjaaGrown
import Derived.Test.YtkeaekckblpfjaaSizes
namespace Go.Proofs.Ytkeaekckblpfjaa
open Go.RowKit



/-! ### plain -/
/-- the row 100, 101, .. stands at frm, frm + 1, .. (k of them) -/
def Row100 (l : List Int) (frm : Int) (k : Nat) : Prop := ∀ j : Nat, j < k → ringGet l (frm + j) = 100 + j
theorem ringIdx_ne (frm : Int) (j k n : Nat) (hj : j < k) (hk : k < n) : ringIdx (frm + j) n ≠ ringIdx (frm + k) n := by
  unfold ringIdx
  have h1 := Int.emod_nonneg (frm + j) (b := (n : Int)) (by omega)
  have h2 := Int.emod_nonneg (frm + k) (b := (n : Int)) (by omega)
  intro h
  have h3 : (frm + k) % (n : Int) = (frm + j) % (n : Int) := by omega
  have h4 : ((frm + k) - (frm + j)) % (n : Int) = 0 := Int.emod_eq_emod_iff_emod_sub_eq_zero.1 h3
  rw [show frm + k - (frm + j) = ((k - j : Nat) : Int) by omega] at h4
  rw [Int.emod_eq_of_lt (by omega) (by omega)] at h4
  omega
theorem ringGet_put_ne (l : List Int) (i j x : Int) (h : ringIdx j l.length ≠ ringIdx i l.length) : ringGet (ringPut l i x) j = ringGet l j := by
  simp [ringGet, ringPut, Ne.symm h]
theorem Row100.put {l : List Int} {frm : Int} {k : Nat} (h : Row100 l frm k) (hp : IsP2 l.length) (hk : k < l.length) : Row100 (ringPut l (frm + k) (100 + k)) frm (k + 1) := by
  intro j hj
  by_cases he : j = k
  · subst he
    exact ringGet_put_same _ _ _ _ rfl hp
  · rw [ringGet_put_ne _ _ _ _ (ringIdx_ne frm j k l.length (by omega) hk)]
    exact h j (by omega)
theorem ringGrow_ge (size : Int) (hs : size ≤ 65536) : ∀ f j, j + f = 16 → size ≤ (ringGrow size f (2 ^ j) : Int)
  | 0, j, h => by
    obtain rfl : j = 16 := by omega
    show size ≤ ((2 ^ 16 : Nat) : Int)
    have : ((2 ^ 16 : Nat) : Int) = 65536 := by decide
    omega
  | f + 1, j, h => by
    unfold ringGrow
    split
    · rw [show 2 * 2 ^ j = 2 ^ (j + 1) from by rw [Nat.pow_succ]; omega]
      exact ringGrow_ge size hs f (j + 1) (by omega)
    · rename_i hc
      by_cases hlt : 2 ^ j < 65536
      · have : ¬ ((2 ^ j : Nat) : Int) < size := fun h => hc ⟨h, hlt⟩
        omega
      · have : ((2 ^ j : Nat) : Int) ≥ 65536 := by omega
        omega
theorem ringSize_ge (size : Int) (hs : size ≤ 65536) : size ≤ (ringSize size : Int) := ringGrow_ge size hs 16 0 rfl
theorem ringTwice_ge (n : Nat) : n ≤ ringTwice n := by unfold ringTwice; split <;> omega
theorem ringMoves_row {g src : List Int} {frm : Int} {n : Nat} (hg : IsP2 g.length) (hn : n ≤ g.length) (h : Row100 src frm n) : ∀ k, k ≤ n → Row100 (ringMoves g src frm k) frm k
  | 0, _ => fun j hj => absurd hj (by omega)
  | k + 1, hk => by
    have ih := ringMoves_row hg hn h k (by omega)
    show Row100 (ringPut _ _ _) frm (k + 1)
    rw [h k (by omega)]
    exact ih.put (by simpa using hg) (by simp; omega)
theorem ringGrown_row {l : List Int} {frm : Int} {n : Nat} (hp : IsP2 l.length) (hn : n ≤ l.length) (h : Row100 l frm n) :
    Row100 (ringGrown l frm (frm + n)) frm n ∧ n ≤ (ringGrown l frm (frm + n)).length := by
  have hc : ringCount l.length frm (frm + n) = n := by unfold ringCount; omega
  have h2 : IsP2 (ringTwice l.length) := ringSize_twice hp ▸ ringSize_p2 _
  have hge := ringTwice_ge l.length
  unfold ringGrown
  rw [hc]
  exact ⟨ringMoves_row (by simpa using h2) (by simp; omega) h n (Nat.le_refl _), by simp; omega⟩

/-! ### RingGrows -/
set_option maxHeartbeats 1000000 in
theorem ringGrows_any (frm n times : Int) (w : World) :
    Calls Try.prog 5 #[.int .i64 frm, .int .i64 n, .int .i64 times] w fun e w' => e = .returned (.bool true) ∧ Keep [] w w' := by
  by_cases hin : 0 ≤ n ∧ n ≤ 64 ∧ 0 ≤ times ∧ times ≤ 5 ∧ frm ≤ 1152921504606846976 ∧ -1152921504606846976 ≤ frm
  · obtain ⟨i1, i2, i3, i4, i5, i6⟩ := hin
    obtain ⟨n, rfl⟩ := Int.eq_ofNat_of_zero_le i1
    obtain ⟨m, rfl⟩ := Int.eq_ofNat_of_zero_le i3
    go_enter Try.func5, Try.ntmps5
    go_wp2_with fail
    refine (alive14 _).mono ?_
    rintro e w1 ⟨rfl, hk1⟩
    go_wp2_with fail
    refine (new_spec _ _ _ [] (IntsOf.nil _) (by simp)).mono ?_
    rintro e w2 ⟨p, b, rfl, hp2, hb2, hr2, hk2⟩
    have hk3 : Keep [] w w2 := hk1.trans hk2 (by simp)
    have hb3 : w.heap.size ≤ b := by have := hk1.size; omega
    have hlen : n ≤ (ringNew n []).length := by
      have := ringSize_ge n (by omega)
      simp [ringNew]
      omega
    clear hk1 hk2 hp2 hb2
    go_wp2_with fail
    go_loopw [9] (fun v wr => ∃ (k : Nat) (l : List Int), k ≤ n ∧ v = .int .i64 k ∧ RingAt 62 wr p b l ∧ Row100 l frm k ∧ n ≤ l.length ∧ Keep [] w wr) (fun v _ => n - (intOf v).toNat)
    case atStart => exact ⟨0, _, by omega, rfl, hr2, fun j hj => absurd hj (by omega), hlen, hk3⟩
    case round =>
      obtain ⟨k, l, hk, rfl, hr, hrow, hl, hkeep⟩ := hrel
      clear hr2 hlen hk3
      by_cases hkn : k < n
      · go_wp2_with fail
        refine (put_spec _ _ hr).mono ?_
        rintro e w3 ⟨rfl, hr3, hk3⟩
        have hrow' := hrow.put hr.p2 (show k < l.length by omega)
        have hl' : n ≤ (ringPut l (frm + k) (100 + k)).length := by simpa using hl
        have hk4 : Keep [] w w3 := hkeep.trans hk3 (by simp; omega)
        clear hr hrow hl hk3 hkeep
        go_wp2
        go_roundw
        case rel => exact ⟨k + 1, _, by omega, by go_num, hr3, hrow', hl', hk4⟩
        case measure => simp [intOf]; omega
      · obtain rfl : k = n := by omega
        go_wp2_with fail
        go_loopw [8, 10] (fun r v wr => ∃ (t : Nat) (l : List Int) (p b : Nat), t ≤ m ∧ v = .int .i64 t ∧ r = .pointer (some ⟨p, 0, none⟩) ∧ RingAt 62 wr p b l ∧ Row100 l frm k ∧ k ≤ l.length ∧ Keep [] w wr) (fun _ v _ => m - (intOf v).toNat)
        case atStart => exact ⟨0, l, p, b, by omega, rfl, rfl, hr, hrow, hl, hkeep⟩
        case round =>
          clear hr hrow hl hkeep hb3
          obtain ⟨t, l, p, b, ht, rfl, rfl, hr, hrow, hl, hkeep⟩ := hrel
          by_cases htm : t < m
          · go_wp2_with fail
            refine (grown_spec _ _ hr (by omega) (by omega)).mono ?_
            rintro e w3 ⟨p', b', rfl, hp', hb', hr3, hk3⟩
            obtain ⟨hrow', hl'⟩ := ringGrown_row hr.p2 hl hrow
            have hk4 : Keep [] w w3 := hkeep.trans hk3 (by simp)
            clear hr hrow hl hk3 hkeep hp' hb'
            go_wp2
            go_roundw
            case rel => exact ⟨t + 1, _, p', b', by omega, by go_num, rfl, hr3, hrow', hl', hk4⟩
            case measure => simp [intOf]; omega
          · obtain rfl : t = m := by omega
            go_wp2_with fail
            go_loopw [11] (fun v wr => ∃ (j : Nat), j ≤ k ∧ v = .int .i64 j ∧ RingAt 62 wr p b l ∧ Keep [] w wr) (fun v _ => k - (intOf v).toNat)
            case atStart => exact ⟨0, by omega, rfl, hr, hkeep⟩
            case round =>
              clear hr hkeep
              obtain ⟨j, hj, rfl, hr, hkeep⟩ := hrel
              by_cases hjk : j < k
              · go_wp2_with fail
                refine (get_spec _ hr).mono ?_
                rintro e w3 ⟨rfl, q, rfl⟩
                rw [hrow j hjk]
                have hne : ((100 + (j : Int)) != (100 + (j : Int))) = false := by simp
                go_wp2
                go_roundw
                case rel => exact ⟨j + 1, by omega, by go_num, hr.drewN q, hkeep.drewN q⟩
                case measure => simp [intOf]; omega
              · go_wp2_with fail
                refine (size_spec hr).mono ?_
                rintro e w3 ⟨rfl, q, rfl⟩
                have hge : (k : Int) ≤ (l.length : Int) := by omega
                go_wp2
                go_ret
                exact ⟨by simp, hkeep.drewN q⟩
  · go_enter Try.func5, Try.ntmps5
    go_wp2_with fail
    refine (alive14 _).mono ?_
    rintro e w1 ⟨rfl, hk1⟩
    go_wp2
    all_goals (go_ret; exact ⟨rfl, hk1⟩)
theorem walk_ringGrows (w : World) {frm n times : Int} (_ : (Lit.int .i64 frm).wf = true) (_ : (Lit.int .i64 n).wf = true) (_ : (Lit.int .i64 times).wf = true) :
    Calls Try.prog 5 #[.int .i64 frm, .int .i64 n, .int .i64 times] w fun e w' => e = .returned (.bool true) ∧ Below w.heap.size w w' :=
  (ringGrows_any frm n times w).mono fun _ _ ⟨he, hk⟩ => ⟨he, hk.to_below⟩
end Go.Proofs.Ytkeaekckblpfjaa
