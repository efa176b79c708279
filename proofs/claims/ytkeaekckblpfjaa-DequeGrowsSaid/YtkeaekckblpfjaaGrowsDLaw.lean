/- The law DequeGrows. -/
import Derived.Test.YtkeaekckblpfjaaRows
import Derived.WalkKit
import Derived.WalkSpells
import Derived.WalkLawsBesides
import Derived.RegionTactic
import Derived.ChangeAlike
import Derived.BigQuiet
import Derived.Deep.QuietTactic
import Derived.StillTailTactics
import Derived.IntWalk
import Derived.Handy
import Derived.Lib.Hide
import Derived.Deep.AppendLies
import Derived.Deep.RegionWith
import Derived.Test.YtkeaekckblpfjaaDequeRow
import Derived.Test.YtkeaekckblpfjaaSame
import Derived.Test.YtkeaekckblpfjaaOffs
import Derived.Test.YtkeaekckblpfjaaAloneLaw
import Derived.Test.YtkeaekckblpfjaaChaseUse
import Derived.Test.YtkeaekckblpfjaaLastLaw
import Derived.Test.YtkeaekckblpfjaaOnceLaw
import Derived.Test.YtkeaekckblpfjaaGrowsUse
namespace Go.Proofs.Ytkeaekckblpfjaa
open Go.RowKit

set_option maxHeartbeats 16000000 in
set_option maxRecDepth 100000 in
theorem dequeGrows_any (w : World) (n : Int) (v : Value) (ys : List Int) (hv : IntsOf w v ys) : Calls Try.prog 11 #[.int .i64 n, v] w fun e w' => e = .returned (.bool true) ∧ Keep [] w w' := by
  obtain ⟨a, c, rfl⟩ := hv.shape
  by_cases hin : (0 ≤ n ∧ n ≤ 200) ∧ ys.length ≤ 300
  · obtain ⟨⟨g1, g2⟩, g3⟩ := hin
    obtain ⟨N, rfl⟩ := Int.eq_ofNat_of_zero_le g1
    have Hv := Lib.hid hv
    clear hv
    have hmk : ∀ w, (Instr.makeSlice 29 (.int .i64 ((N : Int) + 1)) (.int .i64 ((N : Int) + 1))).run Try.prog w = .ok (.slice (some ⟨w.heap.size, 0, none⟩) (N + 1) (N + 1)) (w.alloc (.cells (zeroCells (N + 1)) 3)) := run_make_ints (N + 1) (by omega)
    go_enter Try.func11, Try.ntmps11
    go_wp2_with fail
    refine (alive_spec _).mono ?_
    rintro e w1 ⟨rfl, k1⟩
    go_wp2_with fail
    refine (dqNew_spec _).mono ?_
    rintro e w2 ⟨pd, F, rfl, a2, f2, k2⟩
    obtain ⟨k3, f3⟩ := reach_trans (F := []) (F1 := []) k1 (by simp) k2 (fun x hx => Or.inr (f2 x hx))
    have a3 := a2.keep ((Keep.refl [] _).alloc (.cells (zeroCells (N + 1)) 3)) (by simp)
    have k4 := k3.alloc (.cells (zeroCells (N + 1)) 3)
    have b3 := Blk.marks0 w2 (N + 1)
    have hsep : w2.heap.size ∉ F := fun h => by have := a2.lt _ h; omega
    have hgb1 : w.heap.size ≤ w2.heap.size := k3.size
    clear k1 f2 k2 a2 k3
    go_wp2_with fail
    clear hmk
    generalize w2.heap.size = gb at *
    go_loopw [8, 9, 10, 11, 12, 13] (fun v8 v9 v10 v11 v12 v13 wr => ∃ (k m : Nat) (tk : List Int) (q : DQ) (F' : List Nat), k ≤ 1400 ∧ v8 = .int .i64 m ∧ v9 = .int .i64 k ∧ DequeAt wr pd F' q ∧ Keep [] w wr ∧ (∀ x ∈ F', x ∈ ([] : List Nat) ∨ w.heap.size ≤ x) ∧
      GrowsQ q tk m ∧ Bd (10 + k) q ∧ m ≤ N ∧ tk.length ≤ m ∧ rem (ow q) ≤ 5 * m ∧ (ys.length ≤ k → k + rem (ow q) ≤ ys.length + 5 * m) ∧ Blk wr gb 3 ((marks (N + 1) tk).map (.int .i64)) ∧ gb ∉ F') (fun _ v _ _ _ _ _ => 2000 - (intOf v).toNat)
    case atStart => exact ⟨0, 0, [], dqNew, F, by omega, rfl, rfl, a3, k4, f3, GrowsQ.new, Bd.new.mono (by omega), by omega, by simp, by decide, fun h => by show (0 : Int) + 0 ≤ _; omega, b3, hsep⟩
    case round =>
      clear a3 k4 f3 b3 hsep
      obtain ⟨k, m, tk, q, F', hk, rfl, rfl, a4, k4, f4, hq, hb, hmN, htm, hp1, hp2, hmk, hsep⟩ := hrel
      have hrb := hq.rem_bd
      by_cases hlt : k < ys.length
      · obtain ⟨ba, offa, rfl, hba, hca⟩ := (Hv.out.keep0 k4).at_ hlt
        have hcell := hca k _ (List.getElem?_eq_getElem hlt)
        have hbits := bits_and_mask ys[k] 2 (by decide)
        obtain ⟨x, hx⟩ : ∃ x, x = bits BinOp.and IntKind.i64 ys[k] 3 := ⟨_, rfl⟩
        have hx4 : x = ys[k] % 4 := hx.trans hbits
        have hx0 : 0 ≤ x ∧ x ≤ 3 := by omega
        obtain ⟨hx1, hx2⟩ := hx0
        have Hx := Lib.hid hx
        clear hca hx hx4 hbits
        by_cases hmN2 : m < N
        · go_wp2_with fail
          rw [← Hx.out]
          obtain ⟨bz, hbz⟩ : ∃ bz, busyB q x = bz := ⟨_, rfl⟩
          have Hbz := Lib.hid hbz
          clear hbz
          refine (busy_eq _ Hbz.out a4).mono ?_
          rintro e w5 ⟨rfl, n5, rfl⟩
          have hbz := Hbz.out
          cases bz with
          | true =>
            obtain ⟨q', a', v', hq1⟩ : ∃ q' a' v', dqStep q x = (q', a', v') := ⟨_, _, _, rfl⟩
            obtain ⟨hs1, hs2, hr1, hr2⟩ := hq.step (by omega) hq1
            have hb' := hb.step x
            rw [hq1] at hb'
            have E1 := Lib.hid hq1
            clear hq1
            clear hr2 hp2
            by_cases ha : a' = 2
            · subst ha
              obtain ⟨g1, g2, hnot, hq'⟩ := hs1 rfl
              clear hs1 hs2
              obtain ⟨vn, rfl⟩ := Int.eq_ofNat_of_zero_le (show 0 ≤ v' by omega)
              have hz1 : ¬ ((vn : Int) < 1) := by omega
              have hz2 : (vn : Int) ≤ (N : Int) := by omega
              have htk' := hq'.once.tk_le
              simp only [List.length_append, List.length_singleton] at htk'
              go_wp2_with fail
              refine (step_eq _ E1.out (a4.drewN n5) (hb.all (by omega))).mono ?_
              rintro e w9 ⟨rfl, F9, a9, k9, f9⟩
              obtain ⟨k10, f10⟩ := reach_trans (k4.drewN n5) f4 k9 f9
              have hmk9 := (hmk.drewN n5).keep k9 hsep
              have hsep9 : gb ∉ F9 := fun h => by
                rcases f9 gb h with h1 | h1
                · exact hsep h1
                · have := (hmk.drewN n5).lt; omega
              have c1 := hmk9.markCell hnot (by omega)
              have c2 := hmk9.frozen vn
              have hmk11 := hmk9.mark hnot
              have a11 := a9.keep ((Keep.refl [gb] w9).setCell (p := ⟨gb, vn, none⟩) (by simp) (.int .i64 1)) (fun x hx => by simp; rintro rfl; exact hsep9 hx)
              have k11 : Keep [] w (w9.setCell ⟨gb, vn, none⟩ (.int .i64 1)) := k10.setCell (Or.inr hgb1) _
              clear a4 k4 f4 k9 f9 hmk hsep hmk9 a9 k10
              go_wp2
              go_roundw
              case rel => exact ⟨k + 1, m, tk ++ [(vn : Int)], q', F9, by omega, by go_num, by go_num, a11, k11, f10, hq', hb'.mono (by omega), by omega, by simp; omega, by omega, fun h => by omega, hmk11, hsep9⟩
              case measure => simp [intOf]; omega
            · have hq' := hs2 ha
              have ha' : (a' == 2) = false := by simpa using ha
              clear hs1 hs2 ha
              go_wp2_with fail
              refine (step_eq _ E1.out (a4.drewN n5) (hb.all (by omega))).mono ?_
              rintro e w9 ⟨rfl, F9, a9, k9, f9⟩
              obtain ⟨k10, f10⟩ := reach_trans (k4.drewN n5) f4 k9 f9
              have hmk9 := (hmk.drewN n5).keep k9 hsep
              have hsep9 : gb ∉ F9 := fun h => by
                rcases f9 gb h with h1 | h1
                · exact hsep h1
                · have := (hmk.drewN n5).lt; omega
              clear a4 k4 f4 k9 f9 hmk hsep
              go_wp2
              go_roundw
              case rel => exact ⟨k + 1, m, tk, q', F9, by omega, by go_num, by go_num, a9, k10, f10, hq', hb'.mono (by omega), by omega, by omega, by omega, fun h => by omega, hmk9, hsep9⟩
              case measure => simp [intOf]; omega
          | false =>
            by_cases hx0 : 0 < x
            · obtain ⟨q', e', he1⟩ : ∃ q' e', dqBegin q x 3 0 = (q', e') := ⟨_, _, rfl⟩
              have hb' := hb.begin (by omega) x 3 0
              rw [he1] at hb'
              obtain ⟨hq', how⟩ := hq.begin3 he1
              rw [← how] at hp1 hp2
              have E1 := Lib.hid he1
              have htk' := hq'.once.tk_le
              clear he1
              go_wp2_with fail
              refine (begin_eq _ _ _ E1.out (a4.drewN n5)).mono ?_
              rintro e w9 ⟨rfl, F9, a9, k9, f9⟩
              obtain ⟨k10, f10⟩ := reach_trans (k4.drewN n5) f4 k9 f9
              have hmk9 := (hmk.drewN n5).keep k9 hsep
              have hsep9 : gb ∉ F9 := fun h => by
                rcases f9 gb h with h1 | h1
                · exact hsep h1
                · have := (hmk.drewN n5).lt; omega
              clear a4 k4 f4 k9 f9 hmk hsep
              go_wp2
              go_roundw
              case rel => exact ⟨k + 1, m, tk, q', F9, by omega, by go_num, by go_num, a9, k10, f10, hq', hb'.mono (by omega), by omega, by omega, by omega, fun h => by omega, hmk9, hsep9⟩
              case measure => simp [intOf]; omega
            · obtain rfl : x = 0 := by omega
              obtain ⟨q', e', he1⟩ : ∃ q' e', dqBegin q 0 1 ((m : Int) + 1) = (q', e') := ⟨_, _, rfl⟩
              have hb' := hb.begin (by omega) 0 1 ((m : Int) + 1)
              rw [he1] at hb'
              obtain ⟨hq', hr4, hr0⟩ := hq.begin1 (by simpa using hbz) he1
              have E1 := Lib.hid he1
              have htk' := hq'.once.tk_le
              clear he1
              go_wp2_with fail
              refine (begin_eq _ _ _ E1.out (a4.drewN n5)).mono ?_
              rintro e w9 ⟨rfl, F9, a9, k9, f9⟩
              obtain ⟨k10, f10⟩ := reach_trans (k4.drewN n5) f4 k9 f9
              have hmk9 := (hmk.drewN n5).keep k9 hsep
              have hsep9 : gb ∉ F9 := fun h => by
                rcases f9 gb h with h1 | h1
                · exact hsep h1
                · have := (hmk.drewN n5).lt; omega
              clear a4 k4 f4 k9 f9 hmk hsep
              go_wp2
              go_roundw
              case rel => exact ⟨k + 1, m + 1, tk, q', F9, by omega, by go_num, by go_num, a9, k10, f10, hq', hb'.mono (by omega), by omega, by omega, by omega, fun h => by omega, hmk9, hsep9⟩
              case measure => simp [intOf]; omega
        · have : m = N := by omega
          subst this
          clear hmN hmN2
          go_wp2_with fail
          rw [← Hx.out]
          obtain ⟨bz, hbz⟩ : ∃ bz, busyB q x = bz := ⟨_, rfl⟩
          have Hbz := Lib.hid hbz
          clear hbz
          refine (busy_eq _ Hbz.out a4).mono ?_
          rintro e w5 ⟨rfl, n5, rfl⟩
          have hbz := Hbz.out
          cases bz with
          | true =>
            obtain ⟨q', a', v', hq1⟩ : ∃ q' a' v', dqStep q x = (q', a', v') := ⟨_, _, _, rfl⟩
            obtain ⟨hs1, hs2, hr1, hr2⟩ := hq.step (by omega) hq1
            have hb' := hb.step x
            rw [hq1] at hb'
            have E1 := Lib.hid hq1
            clear hq1
            clear hr2 hp2
            by_cases ha : a' = 2
            · subst ha
              obtain ⟨g1, g2, hnot, hq'⟩ := hs1 rfl
              clear hs1 hs2
              obtain ⟨vn, rfl⟩ := Int.eq_ofNat_of_zero_le (show 0 ≤ v' by omega)
              have hz1 : ¬ ((vn : Int) < 1) := by omega
              have hz2 : (vn : Int) ≤ (m : Int) := by omega
              have htk' := hq'.once.tk_le
              simp only [List.length_append, List.length_singleton] at htk'
              go_wp2_with fail
              refine (step_eq _ E1.out (a4.drewN n5) (hb.all (by omega))).mono ?_
              rintro e w9 ⟨rfl, F9, a9, k9, f9⟩
              obtain ⟨k10, f10⟩ := reach_trans (k4.drewN n5) f4 k9 f9
              have hmk9 := (hmk.drewN n5).keep k9 hsep
              have hsep9 : gb ∉ F9 := fun h => by
                rcases f9 gb h with h1 | h1
                · exact hsep h1
                · have := (hmk.drewN n5).lt; omega
              have c1 := hmk9.markCell hnot (by omega)
              have c2 := hmk9.frozen vn
              have hmk11 := hmk9.mark hnot
              have a11 := a9.keep ((Keep.refl [gb] w9).setCell (p := ⟨gb, vn, none⟩) (by simp) (.int .i64 1)) (fun x hx => by simp; rintro rfl; exact hsep9 hx)
              have k11 : Keep [] w (w9.setCell ⟨gb, vn, none⟩ (.int .i64 1)) := k10.setCell (Or.inr hgb1) _
              clear a4 k4 f4 k9 f9 hmk hsep hmk9 a9 k10
              go_wp2
              go_roundw
              case rel => exact ⟨k + 1, m, tk ++ [(vn : Int)], q', F9, by omega, by go_num, by go_num, a11, k11, f10, hq', hb'.mono (by omega), by omega, by simp; omega, by omega, fun h => by omega, hmk11, hsep9⟩
              case measure => simp [intOf]; omega
            · have hq' := hs2 ha
              have ha' : (a' == 2) = false := by simpa using ha
              clear hs1 hs2 ha
              go_wp2_with fail
              refine (step_eq _ E1.out (a4.drewN n5) (hb.all (by omega))).mono ?_
              rintro e w9 ⟨rfl, F9, a9, k9, f9⟩
              obtain ⟨k10, f10⟩ := reach_trans (k4.drewN n5) f4 k9 f9
              have hmk9 := (hmk.drewN n5).keep k9 hsep
              have hsep9 : gb ∉ F9 := fun h => by
                rcases f9 gb h with h1 | h1
                · exact hsep h1
                · have := (hmk.drewN n5).lt; omega
              clear a4 k4 f4 k9 f9 hmk hsep
              go_wp2
              go_roundw
              case rel => exact ⟨k + 1, m, tk, q', F9, by omega, by go_num, by go_num, a9, k10, f10, hq', hb'.mono (by omega), by omega, by omega, by omega, fun h => by omega, hmk9, hsep9⟩
              case measure => simp [intOf]; omega
          | false =>
            by_cases hx0 : 0 < x
            · obtain ⟨q', e', he1⟩ : ∃ q' e', dqBegin q x 3 0 = (q', e') := ⟨_, _, rfl⟩
              have hb' := hb.begin (by omega) x 3 0
              rw [he1] at hb'
              obtain ⟨hq', how⟩ := hq.begin3 he1
              rw [← how] at hp1 hp2
              have E1 := Lib.hid he1
              have htk' := hq'.once.tk_le
              clear he1
              go_wp2_with fail
              refine (begin_eq _ _ _ E1.out (a4.drewN n5)).mono ?_
              rintro e w9 ⟨rfl, F9, a9, k9, f9⟩
              obtain ⟨k10, f10⟩ := reach_trans (k4.drewN n5) f4 k9 f9
              have hmk9 := (hmk.drewN n5).keep k9 hsep
              have hsep9 : gb ∉ F9 := fun h => by
                rcases f9 gb h with h1 | h1
                · exact hsep h1
                · have := (hmk.drewN n5).lt; omega
              clear a4 k4 f4 k9 f9 hmk hsep
              go_wp2
              go_roundw
              case rel => exact ⟨k + 1, m, tk, q', F9, by omega, by go_num, by go_num, a9, k10, f10, hq', hb'.mono (by omega), by omega, by omega, by omega, fun h => by omega, hmk9, hsep9⟩
              case measure => simp [intOf]; omega
            · obtain rfl : x = 0 := by omega
              clear hp2
              go_wp2
              go_roundw
              case rel => exact ⟨k + 1, m, tk, q, F', by omega, by go_num, by go_num, a4.drewN n5, k4.drewN n5, f4, hq, hb.mono (by omega), by omega, by omega, by omega, fun h => by omega, hmk.drewN n5, hsep⟩
              case measure => simp [intOf]; omega
      · by_cases hmN2 : m < N
        · go_wp2_with fail
          obtain ⟨bz, hbz⟩ : ∃ bz, busyB q 0 = bz := ⟨_, rfl⟩
          have Hbz := Lib.hid hbz
          clear hbz
          refine (busy_eq _ Hbz.out a4).mono ?_
          rintro e w5 ⟨rfl, n5, rfl⟩
          have hbz := Hbz.out
          cases bz with
          | true =>
            obtain ⟨q', a', v', hq1⟩ : ∃ q' a' v', dqStep q 0 = (q', a', v') := ⟨_, _, _, rfl⟩
            obtain ⟨hs1, hs2, hr1, hr2⟩ := hq.step (by omega) hq1
            have hb' := hb.step 0
            rw [hq1] at hb'
            have E1 := Lib.hid hq1
            clear hq1
            have hr3 := hr2 rfl (by simpa using hbz)
            have hp3 := hp2 (by omega)
            clear hr2 hp2
            by_cases ha : a' = 2
            · subst ha
              obtain ⟨g1, g2, hnot, hq'⟩ := hs1 rfl
              clear hs1 hs2
              obtain ⟨vn, rfl⟩ := Int.eq_ofNat_of_zero_le (show 0 ≤ v' by omega)
              have hz1 : ¬ ((vn : Int) < 1) := by omega
              have hz2 : (vn : Int) ≤ (N : Int) := by omega
              have htk' := hq'.once.tk_le
              simp only [List.length_append, List.length_singleton] at htk'
              go_wp2_with fail
              refine (step_eq _ E1.out (a4.drewN n5) (hb.all (by omega))).mono ?_
              rintro e w9 ⟨rfl, F9, a9, k9, f9⟩
              obtain ⟨k10, f10⟩ := reach_trans (k4.drewN n5) f4 k9 f9
              have hmk9 := (hmk.drewN n5).keep k9 hsep
              have hsep9 : gb ∉ F9 := fun h => by
                rcases f9 gb h with h1 | h1
                · exact hsep h1
                · have := (hmk.drewN n5).lt; omega
              have c1 := hmk9.markCell hnot (by omega)
              have c2 := hmk9.frozen vn
              have hmk11 := hmk9.mark hnot
              have a11 := a9.keep ((Keep.refl [gb] w9).setCell (p := ⟨gb, vn, none⟩) (by simp) (.int .i64 1)) (fun x hx => by simp; rintro rfl; exact hsep9 hx)
              have k11 : Keep [] w (w9.setCell ⟨gb, vn, none⟩ (.int .i64 1)) := k10.setCell (Or.inr hgb1) _
              clear a4 k4 f4 k9 f9 hmk hsep hmk9 a9 k10
              go_wp2
              go_roundw
              case rel => exact ⟨k + 1, m, tk ++ [(vn : Int)], q', F9, by omega, by go_num, by go_num, a11, k11, f10, hq', hb'.mono (by omega), by omega, by simp; omega, by omega, fun h => by omega, hmk11, hsep9⟩
              case measure => simp [intOf]; omega
            · have hq' := hs2 ha
              have ha' : (a' == 2) = false := by simpa using ha
              clear hs1 hs2 ha
              go_wp2_with fail
              refine (step_eq _ E1.out (a4.drewN n5) (hb.all (by omega))).mono ?_
              rintro e w9 ⟨rfl, F9, a9, k9, f9⟩
              obtain ⟨k10, f10⟩ := reach_trans (k4.drewN n5) f4 k9 f9
              have hmk9 := (hmk.drewN n5).keep k9 hsep
              have hsep9 : gb ∉ F9 := fun h => by
                rcases f9 gb h with h1 | h1
                · exact hsep h1
                · have := (hmk.drewN n5).lt; omega
              clear a4 k4 f4 k9 f9 hmk hsep
              go_wp2
              go_roundw
              case rel => exact ⟨k + 1, m, tk, q', F9, by omega, by go_num, by go_num, a9, k10, f10, hq', hb'.mono (by omega), by omega, by omega, by omega, fun h => by omega, hmk9, hsep9⟩
              case measure => simp [intOf]; omega
          | false =>
            have hp3 := hp2 (by omega)
            obtain ⟨q', e', he1⟩ : ∃ q' e', dqBegin q 0 1 ((m : Int) + 1) = (q', e') := ⟨_, _, rfl⟩
            have hb' := hb.begin (by omega) 0 1 ((m : Int) + 1)
            rw [he1] at hb'
            obtain ⟨hq', hr4, hr0⟩ := hq.begin1 (by simpa using hbz) he1
            have E1 := Lib.hid he1
            have htk' := hq'.once.tk_le
            clear he1 hp2
            go_wp2_with fail
            refine (begin_eq _ _ _ E1.out (a4.drewN n5)).mono ?_
            rintro e w9 ⟨rfl, F9, a9, k9, f9⟩
            obtain ⟨k10, f10⟩ := reach_trans (k4.drewN n5) f4 k9 f9
            have hmk9 := (hmk.drewN n5).keep k9 hsep
            have hsep9 : gb ∉ F9 := fun h => by
              rcases f9 gb h with h1 | h1
              · exact hsep h1
              · have := (hmk.drewN n5).lt; omega
            clear a4 k4 f4 k9 f9 hmk hsep
            go_wp2
            go_roundw
            case rel => exact ⟨k + 1, m + 1, tk, q', F9, by omega, by go_num, by go_num, a9, k10, f10, hq', hb'.mono (by omega), by omega, by omega, by omega, fun h => by omega, hmk9, hsep9⟩
            case measure => simp [intOf]; omega
        · have : m = N := by omega
          subst this
          clear hmN hmN2
          go_wp2_with fail
          generalize wr = wo at *
          go_loopw [14, 15, 16] (fun v14 v15 v16 wr => ∃ (i : Nat) (tk : List Int) (q : DQ) (F' : List Nat), i ≤ 40 ∧ v14 = .int .i64 i ∧ DequeAt wr pd F' q ∧ Keep [] w wr ∧ (∀ x ∈ F', x ∈ ([] : List Nat) ∨ w.heap.size ≤ x) ∧
            GrowsQ q tk m ∧ Bd (2000 + i) q ∧ Blk wr gb 3 ((marks (m + 1) tk).map (.int .i64)) ∧ gb ∉ F' ∧ AtLeast q 0 (mults 4 0 i)) (fun v _ _ _ => 40 - (intOf v).toNat)
          case atStart => exact ⟨0, tk, q, F', by omega, rfl, a4, k4, f4, hq, hb.mono (by omega), hmk, hsep, by rw [mults_self]; exact hq.atLeast0⟩
          case round =>
            clear a4 k4 f4 hmk hsep hq hb hp1 hp2 hrb htm hlt
            obtain ⟨i, tk, q, F', hi, rfl, a4, k4, f4, hq, hb, hmk, hsep, hal⟩ := hrel
            by_cases hlt : i < 40
            · have hbits := bits_and_mask (i : Int) 2 (by decide)
              obtain ⟨x, hx⟩ : ∃ x, x = bits BinOp.and IntKind.i64 (i : Int) 3 := ⟨_, rfl⟩
              have hx4 : x = ((i % 4 : Nat) : Int) := hx.trans (hbits.trans (by omega))
              obtain ⟨q', a', v', hq1⟩ : ∃ q' a' v', dqStep q x = (q', a', v') := ⟨_, _, _, rfl⟩
              have hnext : AtLeast q' 0 (mults 4 0 (i + 1)) := atLeast_next hal hq.len (by omega) (by omega) (by omega) (by rw [← hx4]; exact hq1)
              have Hx := Lib.hid hx
              clear hx hx4 hbits hal
              obtain ⟨hs1, hs2, -, -⟩ := hq.step (by omega) hq1
              have hb' := hb.step x
              rw [hq1] at hb'
              have E1 := Lib.hid hq1
              clear hq1
              by_cases ha : a' = 2
              · subst ha
                obtain ⟨g1, g2, hnot, hq'⟩ := hs1 rfl
                clear hs1 hs2
                obtain ⟨vn, rfl⟩ := Int.eq_ofNat_of_zero_le (show 0 ≤ v' by omega)
                have hz1 : ¬ ((vn : Int) < 1) := by omega
                have hz2 : (vn : Int) ≤ (m : Int) := by omega
                go_wp2_with fail
                rw [← Hx.out]
                refine (step_eq _ E1.out a4 (hb.all (by omega))).mono ?_
                rintro e w9 ⟨rfl, F9, a9, k9, f9⟩
                obtain ⟨k10, f10⟩ := reach_trans k4 f4 k9 f9
                have hmk9 := hmk.keep k9 hsep
                have hsep9 : gb ∉ F9 := fun h => by
                  rcases f9 gb h with h1 | h1
                  · exact hsep h1
                  · have := hmk.lt; omega
                have c1 := hmk9.markCell hnot (by omega)
                have c2 := hmk9.frozen vn
                have hmk11 := hmk9.mark hnot
                have a11 := a9.keep ((Keep.refl [gb] w9).setCell (p := ⟨gb, vn, none⟩) (by simp) (.int .i64 1)) (fun x hx => by simp; rintro rfl; exact hsep9 hx)
                have k11 : Keep [] w (w9.setCell ⟨gb, vn, none⟩ (.int .i64 1)) := k10.setCell (Or.inr hgb1) _
                clear a4 k4 f4 k9 f9 hmk hsep hmk9 a9 k10
                go_wp2
                go_roundw
                case rel => exact ⟨i + 1, tk ++ [(vn : Int)], q', F9, by omega, by go_num, a11, k11, f10, hq', hb'.mono (by omega), hmk11, hsep9, hnext⟩
                case measure => simp [intOf]; omega
              · have hq' := hs2 ha
                have ha' : (a' == 2) = false := by simpa using ha
                clear hs1 hs2 ha
                go_wp2_with fail
                rw [← Hx.out]
                refine (step_eq _ E1.out a4 (hb.all (by omega))).mono ?_
                rintro e w9 ⟨rfl, F9, a9, k9, f9⟩
                obtain ⟨k10, f10⟩ := reach_trans k4 f4 k9 f9
                have hmk9 := hmk.keep k9 hsep
                have hsep9 : gb ∉ F9 := fun h => by
                  rcases f9 gb h with h1 | h1
                  · exact hsep h1
                  · have := hmk.lt; omega
                clear a4 k4 f4 k9 f9 hmk hsep
                go_wp2
                go_roundw
                case rel => exact ⟨i + 1, tk, q', F9, by omega, by go_num, a9, k10, f10, hq', hb'.mono (by omega), hmk9, hsep9, hnext⟩
                case measure => simp [intOf]; omega
            · have hie : i = 40 := by omega
              rw [hie] at hal
              have hp := hq.once.fin (hal.mono (by decide))
              have hs := items_spec a4 (hb.tb (by omega))
              obtain ⟨left, hleft⟩ : ∃ l, l = itemsOf q := ⟨_, rfl⟩
              rw [← hleft] at hp hs
              have hlen : m = tk.length + left.length := by have := hp.length_eq; simpa using this
              have hlen' : left.length ≤ 200 := by omega
              have Hs := Lib.hid hs
              have Hp := Lib.hid hp
              clear hleft hie hs hp hal hlen
              go_wp2_with fail
              refine Hs.out.mono ?_
              rintro e w9 ⟨v9, rfl, hown9, k9⟩
              have hmk9 := hmk.keep k9 (by simp)
              have k10 := k4.trans k9 (by simp)
              have HI := Lib.hid (ints_of_own hown9)
              have hl9 := hown9.lt
              have hgb9 := hmk.lt
              obtain ⟨a9, c9, rfl⟩ := own_shape hown9
              clear a4 k4 hmk hown9 k9 hsep
              go_wp2_with fail
              generalize wr = wo at *
              go_loopw [18] (fun v18 wr => ∃ j : Nat, j ≤ left.length ∧ v18 = .int .i64 j ∧ Keep [gb] w9 wr ∧ Blk wr gb 3 ((marks (m + 1) (tk ++ left.take j)).map (.int .i64))) (fun v _ => left.length - (intOf v).toNat)
              case atStart => exact ⟨0, by omega, rfl, Keep.refl _ _, by simpa using hmk9⟩
              case round =>
                obtain ⟨j, hj, rfl, k11, hmk11⟩ := hrel
                clear hmk9
                by_cases hjl : j < left.length
                · obtain ⟨p1, p2, p3⟩ := perm_each Hp.out hjl
                  have hI2 := HI.out.keep k11 (fun x hx hxg => by
                    have h1 : x = gb := by simpa using hxg
                    have h2 : (Value.slice a9 left.length c9).ownBlock = some x := by
                      cases a9 with
                      | none => simp [sliceBlock] at hx
                      | some ad => simp [sliceBlock] at hx; simp [Value.ownBlock, hx]
                    have := hl9 x h2
                    omega)
                  obtain ⟨b9, off9, rfl, hb9, hca⟩ := hI2.at_ hjl
                  have hcell := hca j _ (List.getElem?_eq_getElem hjl)
                  have htake : left.take (j + 1) = left.take j ++ [left[j]] := List.take_succ_eq_append_getElem hjl
                  obtain ⟨vn, hvn⟩ : ∃ vn : Nat, left[j] = vn := ⟨left[j].toNat, by omega⟩
                  rw [hvn] at p1 p2 p3 hcell htake
                  have hz1 : ¬ ((vn : Int) < 1) := by omega
                  have hz2 : (vn : Int) ≤ (m : Int) := by omega
                  have c1 := hmk11.markCell p3 (by omega)
                  have c2 := hmk11.frozen vn
                  have hmk12 := hmk11.mark p3
                  have k12 : Keep [gb] w9 (wr.setCell ⟨gb, vn, none⟩ (.int .i64 1)) := k11.setCell (Or.inl (by simp)) _
                  rw [List.append_assoc, ← htake] at hmk12
                  clear hca hvn htake p1 p2 p3 hmk11 k11
                  go_wp2
                  go_roundw
                  case rel => exact ⟨j + 1, by omega, by go_num, k12, hmk12⟩
                  case measure => simp [intOf]; omega
                · have hjl' : left.take j = left := List.take_of_length_le (by omega)
                  rw [hjl'] at hmk11
                  have k12 : Keep [] w wr := k10.trans k11 (by simpa using hgb1)
                  clear hjl' k10 k11
                  go_wp2_with fail
                  generalize wr = wx at *
                  go_loopw [19] (fun v19 wr => ∃ j : Nat, 1 ≤ j ∧ j ≤ m + 1 ∧ v19 = .int .i64 j ∧ Keep [] w wr ∧ Blk wr gb 3 ((marks (m + 1) (tk ++ left)).map (.int .i64))) (fun v _ => m + 1 - (intOf v).toNat)
                  case atStart => exact ⟨1, by omega, by omega, rfl, k12, hmk11⟩
                  case round =>
                    clear k12 hmk11
                    obtain ⟨l, hl1, hl2, rfl, k13, hmk13⟩ := hrel
                    by_cases hll : l ≤ m
                    · have c1 : wr.cell? ⟨gb, l, none⟩ = some (.int .i64 1) := by
                        rw [hmk13.cell, List.getElem?_map, marks_all Hp.out hl1 hll (by omega)]
                        rfl
                      go_wp2
                      go_roundw
                      case rel => exact ⟨l + 1, by omega, by omega, by go_num, k13, hmk13⟩
                      case measure => simp [intOf]; omega
                    · go_wp2
                      go_ret
                      exact ⟨rfl, k13⟩
  · have hc : n < 0 ∨ (0 ≤ n ∧ 200 < n) ∨ ((0 ≤ n ∧ n ≤ 200) ∧ 300 < ys.length) := by omega
    clear hin
    go_enter Try.func11, Try.ntmps11
    go_wp2_with fail
    refine (alive_spec _).mono ?_
    rintro e w1 ⟨rfl, hk1⟩
    rcases hc with h | ⟨h, h'⟩ | ⟨⟨h, h'⟩, h2⟩
    all_goals (go_wp2; go_ret; exact ⟨rfl, hk1⟩)
theorem walk_dequeGrows {H : Type} {enc : TypeId × Value → H} (W : World) {n : Int} {v1 : Value} {d1 : DataW H} {p1 : List MemPlace} {base : Nat} (_ : (Lit.int .i64 n).wf = true)
    (o1 : Value.okWide Try.prog W .any base 29 v1) (h1 : DataW.Trod enc Try.prog W 0 (fun _ => true) true 29 v1 d1 p1) :
    Calls Try.prog 11 #[.int .i64 n, v1] W fun e w' => e = .returned (.bool true) ∧ Below W.heap.size W w' := by
  obtain ⟨ys, hys, _⟩ := ints_open Try.underlying29 Try.underlying3 (by kernel_rfl) o1 h1
  exact (dequeGrows_any W n v1 ys hys).mono fun _ _ ⟨he, hk⟩ => ⟨he, hk.to_below⟩
end Go.Proofs.Ytkeaekckblpfjaa
