/- The law RingSizes, walked. -/
import Derived.Test.YtkeaekckblpfjaaRows
import Derived.Test.YtkeaekckblpfjaaBase
import Derived.WalkKit
import Derived.WalkSpells
import Derived.WalkLawsBesides
import Derived.RegionTactic
import Derived.ChangeAlike
import Derived.BigQuiet
import Derived.Deep.QuietTactic
import Derived.StillTailTactics
import Derived.IntWalk
import Derived.Handy
import Derived.Lib.Hide
import Derived.Test.YtkeaekckblpfjaaTail
import Derived.Test.YtkeaekckblpfjaaRing
import Derived.Test.YtkeaekckblpfjaaGrown
namespace Go.Proofs.Ytkeaekckblpfjaa
open Go.RowKit


set_option maxHeartbeats 400000 in
theorem alive14 (w : World) : Calls Try.prog 13 #[] w fun e w' => e = .returned (.bool true) ∧ Keep [] w w' := by
  go_enter Try.func13, Try.ntmps13
  go_wp2_with fail
  refine (new_spec _ _ _ [] (IntsOf.nil _) (by simp)).mono ?_
  rintro e w1 ⟨p, b, rfl, hp1, hb1, hr1, hk1⟩
  go_wp2_with fail
  refine (put_spec _ _ hr1).mono ?_
  rintro e w2 ⟨rfl, hr2, hk2⟩
  go_wp2_with fail
  refine (size_spec hr2).mono ?_
  rintro e w3 ⟨rfl, q, rfl⟩
  have hlen : (ringPut (ringNew 3 []) 5 7).length = 4 := by decide
  have hget : ringGet (ringPut (ringNew 3 []) 5 7) 1 = 7 := by decide
  rw [hlen]
  go_wp2_with fail
  refine (get_spec _ (hr2.drewN q)).mono ?_
  rintro e w4 ⟨rfl, q', rfl⟩
  rw [hget]
  go_wp2
  go_ret
  exact ⟨rfl, (hk1.trans hk2 (by simp; omega)).drewN _⟩

/-! ### RingSizes -/
theorem ringGet_put_same (l : List Int) (i j x : Int) (h : ringIdx j l.length = ringIdx i l.length) (hp : IsP2 l.length) : ringGet (ringPut l i x) j = x := by
  have := ringIdx_lt i hp
  simp [ringGet, ringPut, h, this]
theorem ringIdx_add (i m : Int) (n : Nat) : ringIdx (i + m * n) n = ringIdx i n := by
  unfold ringIdx
  rw [Int.add_mul_emod_self_right]
theorem ringIdx_next (i : Int) (n : Nat) (hn : 1 < n) : ringIdx (i + 1) n ≠ ringIdx i n := by
  unfold ringIdx
  have h1 := Int.emod_nonneg i (b := (n : Int)) (by omega)
  have h2 := Int.emod_nonneg (i + 1) (b := (n : Int)) (by omega)
  intro h
  have h3 : (i + 1) % (n : Int) = i % (n : Int) := by omega
  have h4 : ((i + 1) - i) % (n : Int) = 0 := Int.emod_eq_emod_iff_emod_sub_eq_zero.1 h3
  rw [show i + 1 - i = 1 by omega] at h4
  rw [Int.emod_eq_of_lt (by omega) (by omega)] at h4
  omega
theorem ringGet_put_next (n : Nat) (i x : Int) (hp : IsP2 n) (hn : 1 < n) : ringGet (ringPut (List.replicate n 0) i x) (i + 1) = 0 := by
  have h := ringIdx_next i n hn
  have h2 := ringIdx_lt (i + 1) hp
  simp [ringGet, ringPut, Ne.symm h, h2]
theorem ringSizes_any (size i v : Int) (w : World) (hs : -9223372036854775808 ≤ size ∧ size ≤ 9223372036854775807) (hi : -9223372036854775808 ≤ i ∧ i ≤ 9223372036854775807) :
    Calls Try.prog 3 #[.int .i64 size, .int .i64 i, .int .i64 v] w fun e w' => e = .returned (.bool true) ∧ Keep [] w w' := by
  by_cases hbig : 70000 < size
  · go_enter Try.func3, Try.ntmps3
    go_wp2_with fail
    refine (alive14 _).mono ?_
    rintro e w1 ⟨rfl, hk1⟩
    go_wp2
    go_ret
    exact ⟨rfl, hk1⟩
  · go_enter Try.func3, Try.ntmps3
    go_wp2_with fail
    refine (alive14 _).mono ?_
    rintro e w1 ⟨rfl, hk1⟩
    go_wp2_with fail
    refine (new_spec _ _ _ [] (IntsOf.nil _) (by simp)).mono ?_
    rintro e w2 ⟨p, b, rfl, hp2, hb2, hr2, hk2⟩
    have hk3 : Keep [] w w2 := hk1.trans hk2 (by simp)
    have hsz : w.heap.size ≤ w1.heap.size := hk1.size
    clear hk1 hk2
    go_wp2_with fail
    go_loop [9] (fun v => ∃ n f : Nat, v = .int .i64 n ∧ Doubling size n f) (fun v => 65536 - (intOf v).toNat)
    case atStart => exact ⟨1, 16, rfl, .start size⟩
    case round =>
      obtain ⟨n, f, rfl, hd⟩ := hrel
      have hle := hd.le
      have hpos : 0 < n := by obtain ⟨_, j, rfl, _⟩ := hd; exact Nat.two_pow_pos j
      by_cases hc : (n : Int) < size ∧ n < 65536
      · obtain ⟨h1, h2⟩ := hc
        obtain ⟨g, rfl, hd'⟩ := hd.step h1 h2
        have h3 : (n : Int) < 65536 := by omega
        clear h2
        go_wp2
        go_round
        case rel => exact ⟨2 * n, g, by go_num, hd'⟩
        case measure => simp [intOf]; omega
      · have hn := hd.done hc
        have hp2 : IsP2 n := hn ▸ ringSize_p2 size
        have h2 : n < 65536 → ¬ (n : Int) < size := fun h h' => hc ⟨h', h⟩
        have hr3 : RingAt 62 w2 p b (List.replicate n 0) := by rw [hn]; exact hr2
        have hle' : 3 * (n : Int) ≤ 300000 := by omega
        have hpos' : 1 ≤ (n : Int) := by omega
        have h3 : (n : Int) < size → decide ((n : Int) < 65536) = false := fun h1 => by
          have : ¬ n < 65536 := fun h => h2 h h1
          simp; omega
        clear hn hd h2 hc hle hpos hr2
        by_cases h1 : (n : Int) < size
        all_goals
          first | (have h4 := h3 h1; clear h3) | clear h3
          go_wp2_with fail
          try clear h4
          clear h1 hbig
          refine (size_spec hr3).mono ?_
          rintro e w3 ⟨rfl, q, rfl⟩
          rw [show ((List.replicate n (0 : Int)).length : Int) = (n : Int) from by simp]
          go_wp2_with fail
          refine (put_spec _ _ (hr3.drewN q)).mono ?_
          rintro e w4 ⟨rfl, hr4, hk4⟩
          have hk5 : Keep [] w w4 := (hk3.drewN q).trans hk4 (by simp; omega)
          clear hk4 hk3
          have g0 : ∀ j, ringIdx j n = ringIdx i n → ringGet (ringPut (List.replicate n 0) i v) j = v := fun j hj => ringGet_put_same _ i j v (by simpa using hj) (by simpa using hp2)
          have G0 := Lib.hid g0
          clear g0
          by_cases ha : 4611686018427387904 < i
          · go_wp2_with fail
            refine (get_spec _ hr4).mono ?_
            rintro e w5 ⟨rfl, q1, rfl⟩
            rw [G0.out _ rfl]
            go_wp2
            go_ret
            exact ⟨by simp, hk5.drewN _⟩
          · by_cases hb : i < -4611686018427387904
            · go_wp2_with fail
              refine (get_spec _ hr4).mono ?_
              rintro e w5 ⟨rfl, q1, rfl⟩
              rw [G0.out _ rfl]
              go_wp2
              go_ret
              exact ⟨by simp, hk5.drewN _⟩
            · go_wp2_with fail
              refine (get_spec _ hr4).mono ?_
              rintro e w5 ⟨rfl, q1, rfl⟩
              rw [G0.out _ rfl]
              go_wp2_with fail
              refine (get_spec _ (hr4.drewN q1)).mono ?_
              rintro e w5 ⟨rfl, q2, rfl⟩
              rw [G0.out _ (by have := ringIdx_add i 1 n; rwa [Int.one_mul] at this)]
              go_wp2_with fail
              refine (get_spec _ (hr4.drewN _)).mono ?_
              rintro e w5 ⟨rfl, q3, rfl⟩
              rw [G0.out _ (by have := ringIdx_add i (-1) n; rwa [show i + -1 * (n : Int) = i - n by omega] at this)]
              go_wp2_with fail
              refine (get_spec _ (hr4.drewN _)).mono ?_
              rintro e w5 ⟨rfl, q4, rfl⟩
              rw [G0.out _ (ringIdx_add i 3 n)]
              by_cases h1 : n = 1
              · subst h1
                go_wp2
                go_ret
                exact ⟨rfl, hk5.drewN _⟩
              · have h1' : ((n : Int) == 1) = false := by simp; omega
                have hg := ringGet_put_next n i v hp2 (by omega)
                have Hg := Lib.hid hg
                clear hg
                go_wp2_with fail
                refine (get_spec _ (hr4.drewN _)).mono ?_
                rintro e w5 ⟨rfl, q5, rfl⟩
                rw [Hg.out]
                go_wp2
                go_ret
                exact ⟨rfl, hk5.drewN _⟩
theorem walk_ringSizes (w : World) {size i v : Int} (hs : (Lit.int .i64 size).wf = true) (hi : (Lit.int .i64 i).wf = true) (_ : (Lit.int .i64 v).wf = true) :
    Calls Try.prog 3 #[.int .i64 size, .int .i64 i, .int .i64 v] w fun e w' => e = .returned (.bool true) ∧ Below w.heap.size w w' :=
  (ringSizes_any size i v w (by have := bounds_i64 hs; omega) (by have := bounds_i64 hi; omega)).mono fun _ _ ⟨he, hk⟩ => ⟨he, hk.to_below⟩
end Go.Proofs.Ytkeaekckblpfjaa
