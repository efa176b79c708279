/- The law DequeThieves. -/
import Derived.Test.YtkeaekckblpfjaaRows
import Derived.WalkKit
import Derived.WalkSpells
import Derived.WalkLawsBesides
import Derived.RegionTactic
import Derived.ChangeAlike
import Derived.BigQuiet
import Derived.Deep.QuietTactic
import Derived.StillTailTactics
import Derived.IntWalk
import Derived.Handy
import Derived.Lib.Hide
import Derived.Deep.AppendLies
import Derived.Deep.RegionWith
import Derived.Test.YtkeaekckblpfjaaBase
import Derived.Test.YtkeaekckblpfjaaTail
import Derived.Test.YtkeaekckblpfjaaRing
import Derived.Test.YtkeaekckblpfjaaGrown
import Derived.Test.YtkeaekckblpfjaaSizes
import Derived.Test.YtkeaekckblpfjaaArgs
import Derived.Test.YtkeaekckblpfjaaAppend
import Derived.Test.YtkeaekckblpfjaaRingMore
import Derived.Test.YtkeaekckblpfjaaDeque
import Derived.Test.YtkeaekckblpfjaaDequePop
import Derived.Test.YtkeaekckblpfjaaDequeObj
import Derived.Test.YtkeaekckblpfjaaDequeStep
import Derived.Test.YtkeaekckblpfjaaDequeStep2
import Derived.Test.YtkeaekckblpfjaaDequeItems
import Derived.Test.YtkeaekckblpfjaaDequeThrough
import Derived.Test.YtkeaekckblpfjaaCallsLaw
import Derived.Test.YtkeaekckblpfjaaDequeRow
import Derived.Test.YtkeaekckblpfjaaSame
namespace Go.Proofs.Ytkeaekckblpfjaa
open Go.RowKit


def rowFrom (a n : Nat) : List Int := (List.range' a (n - a)).map fun j : Nat => (50 : Int) + (j : Nat)
theorem rowFrom_length (a n : Nat) : (rowFrom a n).length = n - a := by simp [rowFrom]
theorem rowFrom_nil {a n : Nat} (h : n ≤ a) : rowFrom a n = [] := by unfold rowFrom; rw [show n - a = 0 by omega]; rfl
theorem rowFrom_snoc {a k : Nat} (h : a ≤ k) : rowFrom a (k + 1) = rowFrom a k ++ [(50 : Int) + (k : Nat)] := by
  unfold rowFrom
  rw [show k + 1 - a = (k - a) + 1 by omega, List.range'_1_concat]
  simp
  omega
theorem rowFrom_cons {a n : Nat} (h : a < n) : rowFrom a n = ((50 : Int) + (a : Nat)) :: rowFrom (a + 1) n := by
  unfold rowFrom
  rw [show n - a = (n - (a + 1)) + 1 by omega, List.range'_succ]
  simp
set_option maxHeartbeats 8000000 in
set_option maxRecDepth 100000 in
theorem dequeThieves_any (w : World) (n steal : Int) : Calls Try.prog 12 #[.int .i64 n, .int .i64 steal] w fun e w' => e = .returned (.bool true) ∧ Keep [] w w' := by
  by_cases hin : (0 ≤ n ∧ n ≤ 100) ∧ 0 ≤ steal ∧ steal ≤ 120
  · obtain ⟨⟨g1, g2⟩, g3, g4⟩ := hin
    obtain ⟨N, rfl⟩ := Int.eq_ofNat_of_zero_le g1
    obtain ⟨S, rfl⟩ := Int.eq_ofNat_of_zero_le g3
    go_enter Try.func12, Try.ntmps12
    go_wp2_with fail
    refine (alive_spec _).mono ?_
    rintro e w1 ⟨rfl, k1⟩
    go_wp2_with fail
    refine (dqNew_spec _).mono ?_
    rintro e w2 ⟨pd, F, rfl, a2, f2, k2⟩
    obtain ⟨k3, f3⟩ := reach_trans (F := []) (F1 := []) k1 (by simp) k2 (fun x hx => Or.inr (f2 x hx))
    go_wp2_with fail
    clear k1 f2 k2
    go_loopw [7] (fun v wr => ∃ (k : Nat) (q : DQ) (F' : List Nat), k ≤ N ∧ v = .int .i64 k ∧ DequeAt wr pd F' q ∧ Keep [] w wr ∧ (∀ x ∈ F', x ∈ ([] : List Nat) ∨ w.heap.size ≤ x) ∧ RowQ q (rowFrom 0 k) ∧ Bd (10 * k) q) (fun v _ => N - (intOf v).toNat)
    case atStart => exact ⟨0, dqNew, F, by omega, rfl, a2, k3, f3, RowQ.new, Bd.new.mono (by omega)⟩
    case round =>
      clear a2 k3 f3
      obtain ⟨k, q, F', hk, rfl, a4, k4, f4, hq, hb⟩ := hrel
      by_cases hlt : k < N
      · obtain ⟨q', e1, hq'⟩ := push_row hq (by rw [rowFrom_length]; omega) (50 + (k : Nat))
        have hb' := hb.through (by omega) 0 1 (50 + (k : Nat))
        rw [e1] at hb'
        rw [← rowFrom_snoc (Nat.zero_le k)] at hq'
        have E1 := Lib.hid e1
        clear e1 hq
        go_wp2_with fail
        refine (through_eq 0 1 _ 1 0 E1.out a4 hb (by omega) (by omega)).mono ?_
        rintro e w5 ⟨rfl, F5, a5, k5, f5⟩
        obtain ⟨k6, f6⟩ := reach_trans k4 f4 k5 f5
        clear a4 k4 f4 k5 f5
        go_wp2
        go_roundw
        case rel => exact ⟨k + 1, q', F5, by omega, by go_num, a5, k6, f6, hq', hb'.mono (by omega)⟩
        case measure => simp [intOf]; omega
      · obtain rfl : k = N := by omega
        go_wp2_with fail
        go_loopw [8] (fun v wr => ∃ (j : Nat) (q : DQ) (F' : List Nat), j ≤ S ∧ v = .int .i64 j ∧ DequeAt wr pd F' q ∧ Keep [] w wr ∧ (∀ x ∈ F', x ∈ ([] : List Nat) ∨ w.heap.size ≤ x) ∧ RowQ q (rowFrom j k) ∧ Bd (1000 + 10 * j) q) (fun v _ => S - (intOf v).toNat)
        case atStart => exact ⟨0, q, F', by omega, rfl, a4, k4, f4, hq, hb.mono (by omega)⟩
        case round =>
          clear a4 k4 f4 hq hb
          obtain ⟨j, q, F', hj, rfl, a4, k4, f4, hq, hb⟩ := hrel
          by_cases hlt2 : j < S
          · by_cases hjk : j < k
            · rw [rowFrom_cons hjk] at hq
              obtain ⟨q', e1, hq'⟩ := steal_row hq (n := 1 + j % 15) (by omega) (by omega) 0
              have hb' := hb.through (by omega) ((1 + j % 15 : Nat) : Int) 3 0
              rw [e1] at hb'
              rw [show ((1 + j % 15 : Nat) : Int) = 1 + (j : Int) % 15 from by omega] at e1
              have E1 := Lib.hid e1
              clear e1 hq
              go_wp2_with fail
              refine (through_eq _ 3 0 2 _ E1.out a4 hb (by omega) (by omega)).mono ?_
              rintro e w5 ⟨rfl, F5, a5, k5, f5⟩
              obtain ⟨k6, f6⟩ := reach_trans k4 f4 k5 f5
              clear a4 k4 f4 k5 f5
              go_wp2
              go_roundw
              case rel => exact ⟨j + 1, q', F5, by omega, by go_num, a5, k6, f6, hq', hb'.mono (by omega)⟩
              case measure => simp [intOf]; omega
            · rw [rowFrom_nil (by omega)] at hq
              obtain ⟨q', v, e1, hq'⟩ := steal_nil hq (n := 1 + j % 15) (by omega) (by omega) 0
              rw [← rowFrom_nil (a := j + 1) (n := k) (by omega)] at hq'
              have hb' := hb.through (by omega) ((1 + j % 15 : Nat) : Int) 3 0
              rw [e1] at hb'
              rw [show ((1 + j % 15 : Nat) : Int) = 1 + (j : Int) % 15 from by omega] at e1
              have E1 := Lib.hid e1
              clear e1 hq
              go_wp2_with fail
              refine (through_eq _ 3 0 3 _ E1.out a4 hb (by omega) (by omega)).mono ?_
              rintro e w5 ⟨rfl, F5, a5, k5, f5⟩
              obtain ⟨k6, f6⟩ := reach_trans k4 f4 k5 f5
              clear a4 k4 f4 k5 f5
              go_wp2
              go_roundw
              case rel => exact ⟨j + 1, q', F5, by omega, by go_num, a5, k6, f6, hq', hb'.mono (by omega)⟩
              case measure => simp [intOf]; omega
          · obtain rfl : j = S := by omega
            go_wp2_with fail
            generalize wr = wo at *
            have hlt4 := a4.lt
            go_loopw [11, 12] (fun v11 v12 wr => ∃ (m : Nat), j ≤ m ∧ (m ≤ k ∨ m = j) ∧ v12 = .int .i64 m ∧ wr.ownsRow wo.heap.size 3 1 v11 (m - j) ((rowFrom j m).map (.int .i64)) ∧ Keep [] wo wr) (fun _ v _ => k - (intOf v).toNat)
            case atStart => exact ⟨j, by omega, by omega, rfl, by rw [rowFrom_nil (Nat.le_refl j), Nat.sub_self]; exact World.ownsRow_nil _ _ _ _, Keep.refl _ _⟩
            case round =>
              obtain ⟨m, hm1, hm2, rfl, hown, hkx⟩ := hrel
              obtain ⟨a, cap, rfl⟩ := own_shape hown
              by_cases hmk : m < k
              · have hk2 : Keep [] wr ((wr.alloc (.cells #[.int .i64 (50 + (m : Int))] 3))) := (Keep.refl _ _).alloc _
                have hown2 := ownsRow_keep hown hk2 (by simp)
                have hsrc := SrcOf.of_ints (ints_lit1 wr (50 + (m : Int)))
                have hkeep2 := hkx.trans hk2 (by simp)
                clear hown hk2
                go_wp2_with (at_builtin; refine wpList_append_src rfl _ _ rfl Try.ints29 wo.heap.size _ (m - j) _ rfl hown2 _ 1 _ rfl hsrc (by simp [Value.oneCell']) (by unfold maxLen; omega) (by omega) (by have := hkeep2.size; omega) ?_)
                intro v' w2' hown3 hk3 hblk
                have hkeep3 : Keep [] wo w2' := hkeep2.trans hk3 (fun x hx => Or.inr (by
                  have : (Value.slice a (m - j) cap).ownBlock = some x := by simpa [ownBlocks] using hx
                  exact (hown2.lt x this).1))
                have hown4 : w2'.ownsRow wo.heap.size 3 1 v' (m + 1 - j) ((rowFrom j (m + 1)).map (.int .i64)) := by
                  rw [rowFrom_snoc hm1, show m + 1 - j = m - j + 1 by omega]
                  simpa using hown3
                obtain ⟨a', cap', rfl⟩ := own_shape hown4
                clear hsrc hown2 hown3 hk3 hblk
                go_wp2
                go_roundw
                case rel => exact ⟨m + 1, by omega, Or.inl (by omega), by go_num, hown4, hkeep3⟩
                case measure => simp [intOf]; omega
              · have hrow : rowFrom j m = rowFrom j k := by
                  rcases hm2 with h | h
                  · rw [show m = k by omega]
                  · subst h
                    rw [rowFrom_nil (Nat.le_refl m), rowFrom_nil (by omega)]
                have hlen : m - j = (rowFrom j k).length := by rw [← hrow, rowFrom_length]
                rw [hrow] at hown
                have a5 := a4.keep hkx (by simp)
                have k5 : Keep [] w wr := k4.trans hkx (by simp)
                have hit : itemsOf q = rowFrom j k := by
                  have := hq.holds.items q.bottom hq.bot q.calls
                  exact this
                have hs := items_spec a5 (hb.tb (by omega))
                rw [hit] at hs
                have hlen2 : (rowFrom j k).length ≤ 1000000000 := by rw [rowFrom_length]; omega
                have hown' : wr.ownsRow wo.heap.size 3 1 (.slice a (m - j) cap) (rowFrom j k).length ((rowFrom j k).map (.int .i64)) := hlen ▸ hown
                have hI := ints_of_own hown'
                have Hl2 := Lib.hid hlen2
                have Hs := Lib.hid hs
                clear hown hown' hrow hit hq hb a4 k4 hkx hlt4 hlen hlen2 hs hm2 f4
                go_wp2_with fail
                refine Hs.out.mono ?_
                rintro e w7 ⟨v7, rfl, hown7, k7⟩
                go_wp2_with fail
                refine (same_true _ _ _ _ (ints_of_own hown7) (hI.keep0 k7) Hl2.out).mono ?_
                rintro e w8 ⟨rfl, n8, rfl⟩
                go_wp2
                go_ret
                exact ⟨rfl, (k5.trans k7 (by simp)).drewN n8⟩
  · have hc : n < 0 ∨ (0 ≤ n ∧ 100 < n) ∨ ((0 ≤ n ∧ n ≤ 100) ∧ (steal < 0 ∨ (0 ≤ steal ∧ 120 < steal))) := by omega
    clear hin
    go_enter Try.func12, Try.ntmps12
    go_wp2_with fail
    refine (alive_spec _).mono ?_
    rintro e w1 ⟨rfl, hk1⟩
    rcases hc with h | ⟨h, h'⟩ | ⟨⟨h, h'⟩, h2 | ⟨h2, h3⟩⟩
    all_goals (go_wp2; go_ret; exact ⟨rfl, hk1⟩)
theorem walk_dequeThieves (W : World) {n steal : Int} (_ : (Lit.int .i64 n).wf = true) (_ : (Lit.int .i64 steal).wf = true) :
    Calls Try.prog 12 #[.int .i64 n, .int .i64 steal] W fun e w' => e = .returned (.bool true) ∧ Below W.heap.size W w' :=
  (dequeThieves_any W n steal).mono fun _ _ ⟨he, hk⟩ => ⟨he, hk.to_below⟩
end Go.Proofs.Ytkeaekckblpfjaa
