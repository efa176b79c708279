/- The reference's evaluation: a task. -/
import Derived.Test.YtndpbkhpllmhmaaDoorRows
import Derived.WalkKit
import Derived.WalkSpells
import Derived.WalkLawsBesides
import Derived.RegionTactic
import Derived.ChangeAlike
import Derived.BigQuiet
import Derived.Deep.QuietTactic
import Derived.StillTailTactics
import Derived.IntWalk
import Derived.Handy
import Derived.Lib.Hide
import Derived.Deep.AppendLies
import Derived.Deep.RegionWith
import Derived.Test.YtndpbkhpllmhmaaDoorMSAA
import Derived.Test.YtndpbkhpllmhmaaDoorMSAB
import Derived.Carry
import Derived.Deep.RegionHeld3
import Derived.BigRegion
import Derived.Maps.OwnSet
import Derived.Maps.Views
import Derived.Maps.StringElems
import Derived.Test.YtndpbkhpllmhmaaDoorMSAC
import Derived.Deep.CutRange
import Derived.Test.YtndpbkhpllmhmaaDoorMSAF
namespace Go.Proofs.YtndpbkhpllmhmaaDoor
set_option linter.unusedSimpArgs false
set_option linter.unnecessarySimpa false
set_option linter.unusedVariables false
set_option linter.unusedSimpArgs false
set_option linter.unnecessarySimpa false
set_option linter.unusedVariables false
open Go.RowKit
set_option maxHeartbeats 12800000 in
set_option maxRecDepth 100000 in
theorem do_step (J : JB) (N : Nat) (hN : N ≤ 1000) (ih : ∀ m, m < N → DoSpec J m) : DoSpec J N := by
  intro w B g kg f ev id R E2 r hA hR
  have IH := Lib.hid ih
  have HN1 := Lib.hid hN
  have HA := Lib.hid hA
  have HR := Lib.hid hR
  obtain ⟨va, vc, rfl⟩ := hA.ents.shape
  obtain ⟨fv, dv, hkg, hkb, _, _⟩ := hA.known
  have k4 : w.cell? ⟨kg, 4, none⟩ = some (.int .i64 J.tasks) := hkb.cell 4
  have g0 : w.cell? ⟨g, 0, none⟩ = some (.pointer (some ⟨kg, 0, none⟩)) := hA.blk.cell 0
  have g1 : w.cell? ⟨g, 1, none⟩ = some (.slice va R.length vc) := hA.blk.cell 1
  have g2 : w.cell? ⟨g, 2, none⟩ = some (.bool false) := hA.blk.cell 2
  have gf : ∀ i, w.frozen? ⟨g, i, none⟩ = false := fun i => hA.blk.frozen i
  have hgw : g < w.heap.size := hA.blk.lt
  have hkw : kg < w.heap.size := hkb.lt
  have hRJ : (R.length : Int) < (J.tasks : Int) := by have := hA.room; omega
  have hdec : decide (J.tasks ≤ R.length) = false := by rw [decide_eq_false_iff_not]; omega
  have hJ5 : (J.tasks : Int) ≤ 500 := by have := hA.tasks; omega
  have hR0 : (0 : Int) ≤ (R.length : Int) := by omega
  clear ih hA hR hkb hkg hN
  go_enter Tryd.func53, Tryd.ntmps53
  go_wp2_with fail
  go_quiet (fail)
  go_upto_region 6 with fail
  have hk6 : Keep [] w ((w.alloc (.cells #[.int .i64 0, .int .i64 0] 61)).drewN nq) := ((Keep.refl [] w).alloc _).drewN nq
  have hb6 : Blk ((w.alloc (.cells #[.int .i64 0, .int .i64 0] 61)).drewN nq) w.heap.size 61 [.int .i64 0, .int .i64 0] := (Blk.new' _ _ _ _ rfl).drewN nq
  have hz6 : ((w.alloc (.cells #[.int .i64 0, .int .i64 0] 61)).drewN nq).heap.size = w.heap.size + 1 := by simp
  have HW := Lib.hid (And.intro hk6 (And.intro hb6 hz6))
  clear g0 g1 g2 gf k4 hk6 hb6 hz6
  generalize (w.alloc (.cells #[.int .i64 0, .int .i64 0] 61)).drewN nq = w6 at *
  go_cut [9] from 45 to 58 (fun v9 wx => v9 = .int .i64 R.length ∧ Post6 B g kg f id (.slice va R.length vc) R w wx)
  case first =>
    obtain ⟨hk6, hb6, hz6⟩ := HW.out
    have ha6 := HA.out.blk.keep hk6 (by simp)
    have g0 : w6.cell? ⟨g, 0, none⟩ = some (.pointer (some ⟨kg, 0, none⟩)) := ha6.cell 0
    have g1 : w6.cell? ⟨g, 1, none⟩ = some (.slice va R.length vc) := ha6.cell 1
    have g2 : w6.cell? ⟨g, 2, none⟩ = some (.bool false) := ha6.cell 2
    have gf : ∀ i, w6.frozen? ⟨g, i, none⟩ = false := fun i => ha6.frozen i
    have r0 : w6.cell? ⟨w.heap.size, 0, none⟩ = some (.int .i64 0) := hb6.cell 0
    have r1 : w6.cell? ⟨w.heap.size, 1, none⟩ = some (.int .i64 0) := hb6.cell 1
    have hgw6 : g < w6.heap.size := by omega
    have hk8 : Keep [] w6 ((w6.alloc (.cells #[.string (strB id), .int .i64 f, .slice none 0 0, .int .i64 0, .int .i64 0, .int .i64 0, .int .i64 0, .slice none 0 0] 64)).drew) := ((Keep.refl [] w6).alloc _).drew
    have hO := (HA.out.ents.keep hk6 (by simp)).keep hk8 (by simp)
    have hs : SrcOf ((w6.alloc (.cells #[.string (strB id), .int .i64 f, .slice none 0 0, .int .i64 0, .int .i64 0, .int .i64 0, .int .i64 0, .slice none 0 0] 64)).drew) (.slice (some ⟨w6.heap.size, 0, none⟩) 1 1) 8 1 [.string (strB id), .int .i64 f, .slice none 0 0, .int .i64 0, .int .i64 0, .int .i64 0, .int .i64 0, .slice none 0 0] := src_lit w6 _ _ 64 8 1 rfl rfl
    have HO := Lib.hid (And.intro hO (And.intro hs hk8))
    clear hk6 hb6 hz6 ha6 hk8 hO hs
    go_wp2_with fail
    go_region_law (refine step_append_off rfl (.tmp 49) (.tmp 55) rfl Tryd.sts57 B (.slice va R.length vc) R.length (R.flatMap ER.c) (by simp [Act.eval, Act.put]) HO.out.1 (.slice (some ⟨w6.heap.size, 0, none⟩) 1 1) 1 [.string (strB id), .int .i64 f, .slice none 0 0, .int .i64 0, .int .i64 0, .int .i64 0, .int .i64 0, .slice none 0 0] (by simp [Act.eval, Act.put]) HO.out.2.1 (by simp [Value.oneCell']) (by unfold maxLen; omega) (by omega) (Nat.le_trans HA.out.base (Nat.le_trans HW.out.1.size HO.out.2.2.size)) ?_; intro v' w4 hown4 hk4 hat4; obtain ⟨a5, c5, rfl⟩ := hown4.shape; have hs4 := ((HA.out.blk.keep HW.out.1 (by simp)).keep HO.out.2.2 (by simp)).keep hk4 (own_apart HO.out.1 ((HA.out.blk.keep HW.out.1 (by simp)).keep HO.out.2.2 (by simp)) (by decide)); have y1 : w4.cell? ⟨g, 1, none⟩ = some (.slice va R.length vc) := hs4.cell 1; have yf : ∀ i, w4.frozen? ⟨g, i, none⟩ = false := fun i => hs4.frozen i; have G := Lib.hid (post6 HA.out HW.out.1 HW.out.2.1 HO.out.2.2 hown4 hk4 hat4); clear hown4 hk4 hat4 hs4)
    all_goals
      go_wp2_with fail
      go_meet
      case rel => exact ⟨rfl, Hid.out G⟩
  case rest =>
    obtain ⟨rfl, a5, c5, hk, hb, ho, hev, hr⟩ := hcut
    have hbel := HA.out.bel hk
    have hsz : w.heap.size ≤ wc.heap.size := hk.size
    have HC := Lib.hid (And.intro hk (And.intro hb (And.intro ho (And.intro hev (And.intro hr hbel)))))
    have g0 : wc.cell? ⟨g, 0, none⟩ = some (.pointer (some ⟨kg, 0, none⟩)) := hb.cell 0
    have g2 : wc.cell? ⟨g, 2, none⟩ = some (.bool false) := hb.cell 2
    clear hk hb ho hev hr hbel hdec HW hRJ
    obtain ⟨fn, hfn⟩ := get_ex HA.out.fn
    go_wp2_with fail
    refine (begin_spec _ B kg f J (HA.out.known.below HC.out.2.2.2.2.2) (Nat.le_trans HA.out.base hsz) hfn).mono ?_
    rintro e w1 ⟨rfl, hk1⟩
    have HH : DoW w B g kg w.heap.size w1.heap.size (.slice va R.length vc) (R ++ [ER0 id f]) (.slice a5 (R.length + 1) c5) (.slice none 0 0) [] [.int .i64 f, .int .i64 0, .int .i64 0, .slice none 0 0, .slice none 0 0, .int .i64 0, .bool false] (.slice none 0 0) 0 [] (w1.alloc (.cells #[.int .i64 f, .int .i64 0, .int .i64 0, .slice none 0 0, .slice none 0 0, .int .i64 0, .bool false] 133)) := by
      obtain ⟨hk, hb, ho, hev, hr, _⟩ := HC.out
      have hkA : Keep [] wc (w1.alloc (.cells #[.int .i64 f, .int .i64 0, .int .i64 0, .slice none 0 0, .slice none 0 0, .int .i64 0, .bool false] 133)) := hk1.alloc _
      exact ⟨hk.trans hkA (by simp), hb.keep hkA (by simp), by rw [List.length_append, List.length_singleton]; exact ho.keep hkA (by simp), hev, hr.keep hkA (by simp), Blk.new' _ _ _ _ rfl, OwnsAt.nil _ _ _ _, OwnsAt.nil _ _ _ _, ⟨Nat.le_refl _, Nat.le_trans hsz hk1.size, HA.out.base⟩⟩
    have HH := Lib.hid HH
    unfold stV6
    go_wp2_with fail
    go_loopw [12] (fun kv wr => ∃ n : Nat, DoHead J N id E2 r w B g kg w1.heap.size (.slice va R.length vc) R n kv wr) (fun kv wr => Classical.epsilon (Least fun n => DoHead J N id E2 r w B g kg w1.heap.size (.slice va R.length vc) R n kv wr))
    case atStart =>
      refine ⟨N, ⟨f, 0, 0, [], 0, false⟩, [], R ++ [ER0 id f], _, .slice none 0 0, 0, [], ER0 id f, by omega, by simp, ?_, HH.out, IntsOf.nil _, by simp, rfl, fun i hi => List.getElem?_append_left hi⟩
      rw [List.map_append]
      exact HR.out
    case round =>
      clear HH HC
      obtain ⟨n0, hn0⟩ := hrel
      obtain ⟨n, hn⟩ : ∃ n, n = Classical.epsilon (Least fun n => DoHead J N id E2 r w B g kg w1.heap.size (.slice va R.length vc) R n u12 wr) := ⟨_, rfl⟩
      have hH : DoHead J N id E2 r w B g kg w1.heap.size (.slice va R.length vc) R n u12 wr := by rw [hn]; exact (least_eps (P := fun n => DoHead J N id E2 r w B g kg w1.heap.size (.slice va R.length vc) R n u12 wr) hn0).1
      have HN := Lib.hid hn
      clear hn0 hn
      obtain ⟨S, ks, R1, ev1, sv, m, ys, x, hmn, hksn, hL, hD, hsv, hx, hxi, hR1⟩ := hH
      have HKS := Lib.hid hksn
      clear hksn
      obtain ⟨hMay, hwt, n', mm, S1, e, hnn, hmm, hRun, hAft⟩ := loop_cases hL
      have HB := Lib.hid (And.intro hmn (And.intro hx (And.intro hxi (And.intro hR1 (And.intro hnn hAft)))))
      have HD := Lib.hid hD
      have hst := hD.st
      have g0 : wr.cell? ⟨g, 0, none⟩ = some (.pointer (some ⟨kg, 0, none⟩)) := hD.blk.cell 0
      have g2 : wr.cell? ⟨g, 2, none⟩ = some (.bool false) := hD.blk.cell 2
      have gf : ∀ i, wr.frozen? ⟨g, i, none⟩ = false := fun i => hD.blk.frozen i
      have s0 : wr.cell? ⟨w1.heap.size, 0, none⟩ = some (.int .i64 S.fn) := hst.cell 0
      have s1 : wr.cell? ⟨w1.heap.size, 1, none⟩ = some (.int .i64 S.pc) := hst.cell 1
      have s2 : wr.cell? ⟨w1.heap.size, 2, none⟩ = some (.int .i64 S.fuel) := hst.cell 2
      have s3 : wr.cell? ⟨w1.heap.size, 3, none⟩ = some sv := hst.cell 3
      have s4 : wr.cell? ⟨w1.heap.size, 4, none⟩ = some (.slice none 0 0) := hst.cell 4
      have s5 : wr.cell? ⟨w1.heap.size, 5, none⟩ = some (.int .i64 S.kids) := hst.cell 5
      have s6 : wr.cell? ⟨w1.heap.size, 6, none⟩ = some (.bool S.waits) := hst.cell 6
      have hkn := HA.out.known.below (HA.out.bel hD.keep)
      have hBr := Nat.le_trans HA.out.base hD.keep.size
      have HRUN : Hid (RunH kg id S sv S1 e wr) := Lib.hid (fun w' k => by rw [strB_size]; exact run_spec2 w' B kg id.length J S sv (hkn.below (below_of k hBr)) (Nat.le_trans hBr k.size) (hsv.keep k (by simp)) hMay hwt hRun hmm HA.out.small HA.out.fuel)
      have hgl : g < wr.heap.size := hD.blk.lt
      have hsl : w1.heap.size < wr.heap.size := hD.st.lt
      clear hmn hx hxi hR1 hnn hAft hst hkn hMay hwt hmm hRun hL hD hsv hBr
      go_upto_region 10 with fail
      go_cut [12, 13, 14] from 69 to 199 (fun v12 v13 v14 wx => v12 = u12 ∧ Post10 w B g kg w1.heap.size (.slice va R.length vc) R1 ev1 u12 ks (stCells S sv) x.aw m ys S1 e wr v13 v14 wx)
      case first =>
        go_region_held3 (fun w' => w'.cell? ⟨g, 0, none⟩ = some (.pointer (some ⟨kg, 0, none⟩)) ∧ w'.cell? ⟨w1.heap.size, 0, none⟩ = some (.int .i64 S.fn) ∧ w'.cell? ⟨w1.heap.size, 1, none⟩ = some (.int .i64 S.pc) ∧ w'.cell? ⟨w1.heap.size, 2, none⟩ = some (.int .i64 S.fuel) ∧ w'.cell? ⟨w1.heap.size, 3, none⟩ = some sv ∧ w'.cell? ⟨w1.heap.size, 4, none⟩ = some (.slice none 0 0) ∧ w'.cell? ⟨w1.heap.size, 5, none⟩ = some (.int .i64 S.kids) ∧ w'.cell? ⟨w1.heap.size, 6, none⟩ = some (.bool S.waits)) (first | with_reducible exact cells8_drew (w := wr) ⟨g0, s0, s1, s2, s3, s4, s5, s6⟩ | with_reducible exact cells8_drew (cells8_alloc (w := wr) _ ⟨g0, s0, s1, s2, s3, s4, s5, s6⟩) | with_reducible exact cells8_drew (cells8_alloc _ (cells8_alloc (w := wr) _ ⟨g0, s0, s1, s2, s3, s4, s5, s6⟩)) | with_reducible exact ⟨q0, q1, q2, q3, q4, q5, q6, q7⟩ | with_reducible exact cells8_alloc (w := w9) _ ⟨q0, q1, q2, q3, q4, q5, q6, q7⟩ | with_reducible exact cells8_alloc _ (cells8_alloc (w := w9) _ ⟨q0, q1, q2, q3, q4, q5, q6, q7⟩) | with_reducible exact cells8_set (by omega) (by omega) (cells8_alloc (w := w9) _ ⟨q0, q1, q2, q3, q4, q5, q6, q7⟩) | with_reducible exact cells8_alloc _ (cells8_set (w := w9) (by omega) (by omega) ⟨q0, q1, q2, q3, q4, q5, q6, q7⟩) | with_reducible exact cells8_set (w := w9) (by omega) (by omega) ⟨q0, q1, q2, q3, q4, q5, q6, q7⟩ | with_reducible exact cells8_set (by omega) (by omega) (cells8_set (w := w9) (by omega) (by omega) ⟨q0, q1, q2, q3, q4, q5, q6, q7⟩))
          (first
            | ((go_at_call 70; with_reducible refine (RunH.at_ HRUN.out ((Keep.refl [] wr).drew)).mono ?_); go_must (rintro e9 w9 ⟨sv1, ea, eb, ec, en, ex, ey, rfl, hev, hiv, hbv, hk9⟩; obtain ⟨a9, c9, rfl⟩ := hiv.shape; have hkk := ((Keep.refl [] wr).drew).trans hk9 (by simp); have q0 := cell_keep0 hkk g0; have q1 := cell_keep0 hkk s0; have q2 := cell_keep0 hkk s1; have q3 := cell_keep0 hkk s2; have q4 := cell_keep0 hkk s3; have q5 := cell_keep0 hkk s4; have q6 := cell_keep0 hkk s5; have q7 := cell_keep0 hkk s6; clear g0 g2 gf s0 s1 s2 s3 s4 s5 s6; have H9 := Lib.hid (And.intro hev (And.intro hiv (And.intro (show ∀ z ∈ sliceBlock (.slice a9 S1.stack.length c9), wr.heap.size + 0 ≤ z from fun z hz => by have h5 := hbv z hz; simp at h5; omega) hkk))); have hsz9 := hkk.size; clear hev hiv hbv hk9 hkk))
            | ((go_at_call 70; with_reducible refine (RunH.at_ HRUN.out (((Keep.refl [] wr).alloc (.cells #[.int .i64 0, .int .i64 0, .int .i64 0, .slice none 0 0, .slice none 0 0, .int .i64 0, .bool false] 133)).drew)).mono ?_); go_must (rintro e9 w9 ⟨sv1, ea, eb, ec, en, ex, ey, rfl, hev, hiv, hbv, hk9⟩; obtain ⟨a9, c9, rfl⟩ := hiv.shape; have hkk := (((Keep.refl [] wr).alloc (.cells #[.int .i64 0, .int .i64 0, .int .i64 0, .slice none 0 0, .slice none 0 0, .int .i64 0, .bool false] 133)).drew).trans hk9 (by simp); have q0 := cell_keep0 hkk g0; have q1 := cell_keep0 hkk s0; have q2 := cell_keep0 hkk s1; have q3 := cell_keep0 hkk s2; have q4 := cell_keep0 hkk s3; have q5 := cell_keep0 hkk s4; have q6 := cell_keep0 hkk s5; have q7 := cell_keep0 hkk s6; have ttB := ((Blk.new' wr 133 #[.int .i64 0, .int .i64 0, .int .i64 0, .slice none 0 0, .slice none 0 0, .int .i64 0, .bool false] [.int .i64 0, .int .i64 0, .int .i64 0, .slice none 0 0, .slice none 0 0, .int .i64 0, .bool false] rfl).drew).keep hk9 (by simp); have tt0 : w9.cell? ⟨wr.heap.size, 0, none⟩ = some (.int .i64 0) := ttB.cell 0; have tta0 : ∀ o, (w9.alloc o).cell? ⟨wr.heap.size, 0, none⟩ = some (.int .i64 0) := fun o => (ttB.alloc o).cell 0; have tt1 : w9.cell? ⟨wr.heap.size, 1, none⟩ = some (.int .i64 0) := ttB.cell 1; have tta1 : ∀ o, (w9.alloc o).cell? ⟨wr.heap.size, 1, none⟩ = some (.int .i64 0) := fun o => (ttB.alloc o).cell 1; have tt2 : w9.cell? ⟨wr.heap.size, 2, none⟩ = some (.int .i64 0) := ttB.cell 2; have tta2 : ∀ o, (w9.alloc o).cell? ⟨wr.heap.size, 2, none⟩ = some (.int .i64 0) := fun o => (ttB.alloc o).cell 2; have tt3 : w9.cell? ⟨wr.heap.size, 3, none⟩ = some (.slice none 0 0) := ttB.cell 3; have tta3 : ∀ o, (w9.alloc o).cell? ⟨wr.heap.size, 3, none⟩ = some (.slice none 0 0) := fun o => (ttB.alloc o).cell 3; have tt4 : w9.cell? ⟨wr.heap.size, 4, none⟩ = some (.slice none 0 0) := ttB.cell 4; have tta4 : ∀ o, (w9.alloc o).cell? ⟨wr.heap.size, 4, none⟩ = some (.slice none 0 0) := fun o => (ttB.alloc o).cell 4; have tt5 : w9.cell? ⟨wr.heap.size, 5, none⟩ = some (.int .i64 0) := ttB.cell 5; have tta5 : ∀ o, (w9.alloc o).cell? ⟨wr.heap.size, 5, none⟩ = some (.int .i64 0) := fun o => (ttB.alloc o).cell 5; have tt6 : w9.cell? ⟨wr.heap.size, 6, none⟩ = some (.bool false) := ttB.cell 6; have tta6 : ∀ o, (w9.alloc o).cell? ⟨wr.heap.size, 6, none⟩ = some (.bool false) := fun o => (ttB.alloc o).cell 6; have ttf : ∀ i, w9.frozen? ⟨wr.heap.size, i, none⟩ = false := fun i => ttB.frozen i; have ttaf : ∀ o i, (w9.alloc o).frozen? ⟨wr.heap.size, i, none⟩ = false := fun o i => (ttB.alloc o).frozen i; have ttl := ttB.lt; have HBtt := Lib.hid ttB; clear ttB; clear g0 g2 gf s0 s1 s2 s3 s4 s5 s6; have H9 := Lib.hid (And.intro hev (And.intro hiv (And.intro (show ∀ z ∈ sliceBlock (.slice a9 S1.stack.length c9), wr.heap.size + 1 ≤ z from fun z hz => by have h5 := hbv z hz; simp at h5; omega) hkk))); have hsz9 := hkk.size; clear hev hiv hbv hk9 hkk))
            | ((go_at_call 70; with_reducible refine (RunH.at_ HRUN.out (((Keep.refl [] wr).alloc (.cells #[.int .i64 0, .int .i64 0, .int .i64 0, .int .i64 0, .slice none 0 0, .int .i64 0, .int .i64 0] 138)).drew)).mono ?_); go_must (rintro e9 w9 ⟨sv1, ea, eb, ec, en, ex, ey, rfl, hev, hiv, hbv, hk9⟩; obtain ⟨a9, c9, rfl⟩ := hiv.shape; have hkk := (((Keep.refl [] wr).alloc (.cells #[.int .i64 0, .int .i64 0, .int .i64 0, .int .i64 0, .slice none 0 0, .int .i64 0, .int .i64 0] 138)).drew).trans hk9 (by simp); have q0 := cell_keep0 hkk g0; have q1 := cell_keep0 hkk s0; have q2 := cell_keep0 hkk s1; have q3 := cell_keep0 hkk s2; have q4 := cell_keep0 hkk s3; have q5 := cell_keep0 hkk s4; have q6 := cell_keep0 hkk s5; have q7 := cell_keep0 hkk s6; have eeB := ((Blk.new' wr 138 #[.int .i64 0, .int .i64 0, .int .i64 0, .int .i64 0, .slice none 0 0, .int .i64 0, .int .i64 0] [.int .i64 0, .int .i64 0, .int .i64 0, .int .i64 0, .slice none 0 0, .int .i64 0, .int .i64 0] rfl).drew).keep hk9 (by simp); have ee0 : w9.cell? ⟨wr.heap.size, 0, none⟩ = some (.int .i64 0) := eeB.cell 0; have eea0 : ∀ o, (w9.alloc o).cell? ⟨wr.heap.size, 0, none⟩ = some (.int .i64 0) := fun o => (eeB.alloc o).cell 0; have ee1 : w9.cell? ⟨wr.heap.size, 1, none⟩ = some (.int .i64 0) := eeB.cell 1; have eea1 : ∀ o, (w9.alloc o).cell? ⟨wr.heap.size, 1, none⟩ = some (.int .i64 0) := fun o => (eeB.alloc o).cell 1; have ee2 : w9.cell? ⟨wr.heap.size, 2, none⟩ = some (.int .i64 0) := eeB.cell 2; have eea2 : ∀ o, (w9.alloc o).cell? ⟨wr.heap.size, 2, none⟩ = some (.int .i64 0) := fun o => (eeB.alloc o).cell 2; have ee3 : w9.cell? ⟨wr.heap.size, 3, none⟩ = some (.int .i64 0) := eeB.cell 3; have eea3 : ∀ o, (w9.alloc o).cell? ⟨wr.heap.size, 3, none⟩ = some (.int .i64 0) := fun o => (eeB.alloc o).cell 3; have ee4 : w9.cell? ⟨wr.heap.size, 4, none⟩ = some (.slice none 0 0) := eeB.cell 4; have eea4 : ∀ o, (w9.alloc o).cell? ⟨wr.heap.size, 4, none⟩ = some (.slice none 0 0) := fun o => (eeB.alloc o).cell 4; have ee5 : w9.cell? ⟨wr.heap.size, 5, none⟩ = some (.int .i64 0) := eeB.cell 5; have eea5 : ∀ o, (w9.alloc o).cell? ⟨wr.heap.size, 5, none⟩ = some (.int .i64 0) := fun o => (eeB.alloc o).cell 5; have ee6 : w9.cell? ⟨wr.heap.size, 6, none⟩ = some (.int .i64 0) := eeB.cell 6; have eea6 : ∀ o, (w9.alloc o).cell? ⟨wr.heap.size, 6, none⟩ = some (.int .i64 0) := fun o => (eeB.alloc o).cell 6; have eef : ∀ i, w9.frozen? ⟨wr.heap.size, i, none⟩ = false := fun i => eeB.frozen i; have eeaf : ∀ o i, (w9.alloc o).frozen? ⟨wr.heap.size, i, none⟩ = false := fun o i => (eeB.alloc o).frozen i; have eel := eeB.lt; have HBee := Lib.hid eeB; clear eeB; clear g0 g2 gf s0 s1 s2 s3 s4 s5 s6; have H9 := Lib.hid (And.intro hev (And.intro hiv (And.intro (show ∀ z ∈ sliceBlock (.slice a9 S1.stack.length c9), wr.heap.size + 1 ≤ z from fun z hz => by have h5 := hbv z hz; simp at h5; omega) hkk))); have hsz9 := hkk.size; clear hev hiv hbv hk9 hkk))
            | ((go_at_call 70; with_reducible refine (RunH.at_ HRUN.out ((((Keep.refl [] wr).alloc (.cells #[.int .i64 0, .int .i64 0, .int .i64 0, .slice none 0 0, .slice none 0 0, .int .i64 0, .bool false] 133)).alloc (.cells #[.int .i64 0, .int .i64 0, .int .i64 0, .int .i64 0, .slice none 0 0, .int .i64 0, .int .i64 0] 138)).drew)).mono ?_); go_must (rintro e9 w9 ⟨sv1, ea, eb, ec, en, ex, ey, rfl, hev, hiv, hbv, hk9⟩; obtain ⟨a9, c9, rfl⟩ := hiv.shape; have hkk := ((((Keep.refl [] wr).alloc (.cells #[.int .i64 0, .int .i64 0, .int .i64 0, .slice none 0 0, .slice none 0 0, .int .i64 0, .bool false] 133)).alloc (.cells #[.int .i64 0, .int .i64 0, .int .i64 0, .int .i64 0, .slice none 0 0, .int .i64 0, .int .i64 0] 138)).drew).trans hk9 (by simp); have q0 := cell_keep0 hkk g0; have q1 := cell_keep0 hkk s0; have q2 := cell_keep0 hkk s1; have q3 := cell_keep0 hkk s2; have q4 := cell_keep0 hkk s3; have q5 := cell_keep0 hkk s4; have q6 := cell_keep0 hkk s5; have q7 := cell_keep0 hkk s6; have ttB := (((Blk.new' wr 133 #[.int .i64 0, .int .i64 0, .int .i64 0, .slice none 0 0, .slice none 0 0, .int .i64 0, .bool false] [.int .i64 0, .int .i64 0, .int .i64 0, .slice none 0 0, .slice none 0 0, .int .i64 0, .bool false] rfl).alloc (.cells #[.int .i64 0, .int .i64 0, .int .i64 0, .int .i64 0, .slice none 0 0, .int .i64 0, .int .i64 0] 138)).drew).keep hk9 (by simp); have tt0 : w9.cell? ⟨wr.heap.size, 0, none⟩ = some (.int .i64 0) := ttB.cell 0; have tta0 : ∀ o, (w9.alloc o).cell? ⟨wr.heap.size, 0, none⟩ = some (.int .i64 0) := fun o => (ttB.alloc o).cell 0; have tt1 : w9.cell? ⟨wr.heap.size, 1, none⟩ = some (.int .i64 0) := ttB.cell 1; have tta1 : ∀ o, (w9.alloc o).cell? ⟨wr.heap.size, 1, none⟩ = some (.int .i64 0) := fun o => (ttB.alloc o).cell 1; have tt2 : w9.cell? ⟨wr.heap.size, 2, none⟩ = some (.int .i64 0) := ttB.cell 2; have tta2 : ∀ o, (w9.alloc o).cell? ⟨wr.heap.size, 2, none⟩ = some (.int .i64 0) := fun o => (ttB.alloc o).cell 2; have tt3 : w9.cell? ⟨wr.heap.size, 3, none⟩ = some (.slice none 0 0) := ttB.cell 3; have tta3 : ∀ o, (w9.alloc o).cell? ⟨wr.heap.size, 3, none⟩ = some (.slice none 0 0) := fun o => (ttB.alloc o).cell 3; have tt4 : w9.cell? ⟨wr.heap.size, 4, none⟩ = some (.slice none 0 0) := ttB.cell 4; have tta4 : ∀ o, (w9.alloc o).cell? ⟨wr.heap.size, 4, none⟩ = some (.slice none 0 0) := fun o => (ttB.alloc o).cell 4; have tt5 : w9.cell? ⟨wr.heap.size, 5, none⟩ = some (.int .i64 0) := ttB.cell 5; have tta5 : ∀ o, (w9.alloc o).cell? ⟨wr.heap.size, 5, none⟩ = some (.int .i64 0) := fun o => (ttB.alloc o).cell 5; have tt6 : w9.cell? ⟨wr.heap.size, 6, none⟩ = some (.bool false) := ttB.cell 6; have tta6 : ∀ o, (w9.alloc o).cell? ⟨wr.heap.size, 6, none⟩ = some (.bool false) := fun o => (ttB.alloc o).cell 6; have ttf : ∀ i, w9.frozen? ⟨wr.heap.size, i, none⟩ = false := fun i => ttB.frozen i; have ttaf : ∀ o i, (w9.alloc o).frozen? ⟨wr.heap.size, i, none⟩ = false := fun o i => (ttB.alloc o).frozen i; have ttl := ttB.lt; have HBtt := Lib.hid ttB; clear ttB; have eeB := ((show Blk ((wr.alloc (.cells #[.int .i64 0, .int .i64 0, .int .i64 0, .slice none 0 0, .slice none 0 0, .int .i64 0, .bool false] 133)).alloc (.cells #[.int .i64 0, .int .i64 0, .int .i64 0, .int .i64 0, .slice none 0 0, .int .i64 0, .int .i64 0] 138)) (wr.heap.size + 1) 138 [.int .i64 0, .int .i64 0, .int .i64 0, .int .i64 0, .slice none 0 0, .int .i64 0, .int .i64 0] from blk_at (by simp) rfl).drew).keep hk9 (by simp); have ee0 : w9.cell? ⟨wr.heap.size + 1, 0, none⟩ = some (.int .i64 0) := eeB.cell 0; have eea0 : ∀ o, (w9.alloc o).cell? ⟨wr.heap.size + 1, 0, none⟩ = some (.int .i64 0) := fun o => (eeB.alloc o).cell 0; have ee1 : w9.cell? ⟨wr.heap.size + 1, 1, none⟩ = some (.int .i64 0) := eeB.cell 1; have eea1 : ∀ o, (w9.alloc o).cell? ⟨wr.heap.size + 1, 1, none⟩ = some (.int .i64 0) := fun o => (eeB.alloc o).cell 1; have ee2 : w9.cell? ⟨wr.heap.size + 1, 2, none⟩ = some (.int .i64 0) := eeB.cell 2; have eea2 : ∀ o, (w9.alloc o).cell? ⟨wr.heap.size + 1, 2, none⟩ = some (.int .i64 0) := fun o => (eeB.alloc o).cell 2; have ee3 : w9.cell? ⟨wr.heap.size + 1, 3, none⟩ = some (.int .i64 0) := eeB.cell 3; have eea3 : ∀ o, (w9.alloc o).cell? ⟨wr.heap.size + 1, 3, none⟩ = some (.int .i64 0) := fun o => (eeB.alloc o).cell 3; have ee4 : w9.cell? ⟨wr.heap.size + 1, 4, none⟩ = some (.slice none 0 0) := eeB.cell 4; have eea4 : ∀ o, (w9.alloc o).cell? ⟨wr.heap.size + 1, 4, none⟩ = some (.slice none 0 0) := fun o => (eeB.alloc o).cell 4; have ee5 : w9.cell? ⟨wr.heap.size + 1, 5, none⟩ = some (.int .i64 0) := eeB.cell 5; have eea5 : ∀ o, (w9.alloc o).cell? ⟨wr.heap.size + 1, 5, none⟩ = some (.int .i64 0) := fun o => (eeB.alloc o).cell 5; have ee6 : w9.cell? ⟨wr.heap.size + 1, 6, none⟩ = some (.int .i64 0) := eeB.cell 6; have eea6 : ∀ o, (w9.alloc o).cell? ⟨wr.heap.size + 1, 6, none⟩ = some (.int .i64 0) := fun o => (eeB.alloc o).cell 6; have eef : ∀ i, w9.frozen? ⟨wr.heap.size + 1, i, none⟩ = false := fun i => eeB.frozen i; have eeaf : ∀ o i, (w9.alloc o).frozen? ⟨wr.heap.size + 1, i, none⟩ = false := fun o i => (eeB.alloc o).frozen i; have eel := eeB.lt; have HBee := Lib.hid eeB; clear eeB; clear g0 g2 gf s0 s1 s2 s3 s4 s5 s6; have H9 := Lib.hid (And.intro hev (And.intro hiv (And.intro (show ∀ z ∈ sliceBlock (.slice a9 S1.stack.length c9), wr.heap.size + 2 ≤ z from fun z hz => by have h5 := hbv z hz; simp at h5; omega) hkk))); have hsz9 := hkk.size; clear hev hiv hbv hk9 hkk))
            | ((go_at_call 70; with_reducible refine (RunH.at_ HRUN.out ((((Keep.refl [] wr).alloc (.cells #[.int .i64 0, .int .i64 0, .int .i64 0, .int .i64 0, .slice none 0 0, .int .i64 0, .int .i64 0] 138)).alloc (.cells #[.int .i64 0, .int .i64 0, .int .i64 0, .slice none 0 0, .slice none 0 0, .int .i64 0, .bool false] 133)).drew)).mono ?_); go_must (rintro e9 w9 ⟨sv1, ea, eb, ec, en, ex, ey, rfl, hev, hiv, hbv, hk9⟩; obtain ⟨a9, c9, rfl⟩ := hiv.shape; have hkk := ((((Keep.refl [] wr).alloc (.cells #[.int .i64 0, .int .i64 0, .int .i64 0, .int .i64 0, .slice none 0 0, .int .i64 0, .int .i64 0] 138)).alloc (.cells #[.int .i64 0, .int .i64 0, .int .i64 0, .slice none 0 0, .slice none 0 0, .int .i64 0, .bool false] 133)).drew).trans hk9 (by simp); have q0 := cell_keep0 hkk g0; have q1 := cell_keep0 hkk s0; have q2 := cell_keep0 hkk s1; have q3 := cell_keep0 hkk s2; have q4 := cell_keep0 hkk s3; have q5 := cell_keep0 hkk s4; have q6 := cell_keep0 hkk s5; have q7 := cell_keep0 hkk s6; have eeB := (((Blk.new' wr 138 #[.int .i64 0, .int .i64 0, .int .i64 0, .int .i64 0, .slice none 0 0, .int .i64 0, .int .i64 0] [.int .i64 0, .int .i64 0, .int .i64 0, .int .i64 0, .slice none 0 0, .int .i64 0, .int .i64 0] rfl).alloc (.cells #[.int .i64 0, .int .i64 0, .int .i64 0, .slice none 0 0, .slice none 0 0, .int .i64 0, .bool false] 133)).drew).keep hk9 (by simp); have ee0 : w9.cell? ⟨wr.heap.size, 0, none⟩ = some (.int .i64 0) := eeB.cell 0; have eea0 : ∀ o, (w9.alloc o).cell? ⟨wr.heap.size, 0, none⟩ = some (.int .i64 0) := fun o => (eeB.alloc o).cell 0; have ee1 : w9.cell? ⟨wr.heap.size, 1, none⟩ = some (.int .i64 0) := eeB.cell 1; have eea1 : ∀ o, (w9.alloc o).cell? ⟨wr.heap.size, 1, none⟩ = some (.int .i64 0) := fun o => (eeB.alloc o).cell 1; have ee2 : w9.cell? ⟨wr.heap.size, 2, none⟩ = some (.int .i64 0) := eeB.cell 2; have eea2 : ∀ o, (w9.alloc o).cell? ⟨wr.heap.size, 2, none⟩ = some (.int .i64 0) := fun o => (eeB.alloc o).cell 2; have ee3 : w9.cell? ⟨wr.heap.size, 3, none⟩ = some (.int .i64 0) := eeB.cell 3; have eea3 : ∀ o, (w9.alloc o).cell? ⟨wr.heap.size, 3, none⟩ = some (.int .i64 0) := fun o => (eeB.alloc o).cell 3; have ee4 : w9.cell? ⟨wr.heap.size, 4, none⟩ = some (.slice none 0 0) := eeB.cell 4; have eea4 : ∀ o, (w9.alloc o).cell? ⟨wr.heap.size, 4, none⟩ = some (.slice none 0 0) := fun o => (eeB.alloc o).cell 4; have ee5 : w9.cell? ⟨wr.heap.size, 5, none⟩ = some (.int .i64 0) := eeB.cell 5; have eea5 : ∀ o, (w9.alloc o).cell? ⟨wr.heap.size, 5, none⟩ = some (.int .i64 0) := fun o => (eeB.alloc o).cell 5; have ee6 : w9.cell? ⟨wr.heap.size, 6, none⟩ = some (.int .i64 0) := eeB.cell 6; have eea6 : ∀ o, (w9.alloc o).cell? ⟨wr.heap.size, 6, none⟩ = some (.int .i64 0) := fun o => (eeB.alloc o).cell 6; have eef : ∀ i, w9.frozen? ⟨wr.heap.size, i, none⟩ = false := fun i => eeB.frozen i; have eeaf : ∀ o i, (w9.alloc o).frozen? ⟨wr.heap.size, i, none⟩ = false := fun o i => (eeB.alloc o).frozen i; have eel := eeB.lt; have HBee := Lib.hid eeB; clear eeB; have ttB := ((show Blk ((wr.alloc (.cells #[.int .i64 0, .int .i64 0, .int .i64 0, .int .i64 0, .slice none 0 0, .int .i64 0, .int .i64 0] 138)).alloc (.cells #[.int .i64 0, .int .i64 0, .int .i64 0, .slice none 0 0, .slice none 0 0, .int .i64 0, .bool false] 133)) (wr.heap.size + 1) 133 [.int .i64 0, .int .i64 0, .int .i64 0, .slice none 0 0, .slice none 0 0, .int .i64 0, .bool false] from blk_at (by simp) rfl).drew).keep hk9 (by simp); have tt0 : w9.cell? ⟨wr.heap.size + 1, 0, none⟩ = some (.int .i64 0) := ttB.cell 0; have tta0 : ∀ o, (w9.alloc o).cell? ⟨wr.heap.size + 1, 0, none⟩ = some (.int .i64 0) := fun o => (ttB.alloc o).cell 0; have tt1 : w9.cell? ⟨wr.heap.size + 1, 1, none⟩ = some (.int .i64 0) := ttB.cell 1; have tta1 : ∀ o, (w9.alloc o).cell? ⟨wr.heap.size + 1, 1, none⟩ = some (.int .i64 0) := fun o => (ttB.alloc o).cell 1; have tt2 : w9.cell? ⟨wr.heap.size + 1, 2, none⟩ = some (.int .i64 0) := ttB.cell 2; have tta2 : ∀ o, (w9.alloc o).cell? ⟨wr.heap.size + 1, 2, none⟩ = some (.int .i64 0) := fun o => (ttB.alloc o).cell 2; have tt3 : w9.cell? ⟨wr.heap.size + 1, 3, none⟩ = some (.slice none 0 0) := ttB.cell 3; have tta3 : ∀ o, (w9.alloc o).cell? ⟨wr.heap.size + 1, 3, none⟩ = some (.slice none 0 0) := fun o => (ttB.alloc o).cell 3; have tt4 : w9.cell? ⟨wr.heap.size + 1, 4, none⟩ = some (.slice none 0 0) := ttB.cell 4; have tta4 : ∀ o, (w9.alloc o).cell? ⟨wr.heap.size + 1, 4, none⟩ = some (.slice none 0 0) := fun o => (ttB.alloc o).cell 4; have tt5 : w9.cell? ⟨wr.heap.size + 1, 5, none⟩ = some (.int .i64 0) := ttB.cell 5; have tta5 : ∀ o, (w9.alloc o).cell? ⟨wr.heap.size + 1, 5, none⟩ = some (.int .i64 0) := fun o => (ttB.alloc o).cell 5; have tt6 : w9.cell? ⟨wr.heap.size + 1, 6, none⟩ = some (.bool false) := ttB.cell 6; have tta6 : ∀ o, (w9.alloc o).cell? ⟨wr.heap.size + 1, 6, none⟩ = some (.bool false) := fun o => (ttB.alloc o).cell 6; have ttf : ∀ i, w9.frozen? ⟨wr.heap.size + 1, i, none⟩ = false := fun i => ttB.frozen i; have ttaf : ∀ o i, (w9.alloc o).frozen? ⟨wr.heap.size + 1, i, none⟩ = false := fun o i => (ttB.alloc o).frozen i; have ttl := ttB.lt; have HBtt := Lib.hid ttB; clear ttB; clear g0 g2 gf s0 s1 s2 s3 s4 s5 s6; have H9 := Lib.hid (And.intro hev (And.intro hiv (And.intro (show ∀ z ∈ sliceBlock (.slice a9 S1.stack.length c9), wr.heap.size + 2 ≤ z from fun z hz => by have h5 := hbv z hz; simp at h5; omega) hkk))); have hsz9 := hkk.size; clear hev hiv hbv hk9 hkk)))
        all_goals
          go_wp2_with fail
          go_meet
          case rel =>
            refine ⟨rfl, ?_⟩
            first
            | with_reducible exact rel1 HD.out H9.out (by omega)
            | with_reducible exact rel2 HD.out H9.out (by omega)
            | with_reducible exact rel3 HD.out H9.out (by omega) HBtt.out
            | with_reducible exact rel4 HD.out H9.out (by omega) HBee.out
            | with_reducible exact rel5 HD.out H9.out (by omega) HBtt.out HBee.out
            | with_reducible exact rel6 HD.out H9.out (by omega) HBtt.out HBee.out
      case rest =>
        obtain ⟨rfl, p1, p2, sv1, ea, eb, ec, en, ex, ey, rfl, rfl, hD1, hb1, hb2, hev, hiv, hbv, hp1, hp2, hkk⟩ := hcut
        obtain ⟨av, cv, rfl⟩ := hiv.shape
        have HM := Lib.hid (mid_of HD.out hD1 hb1 hb2 hiv hbv hp1 hp2)
        have HEV := Lib.hid hev
        have a0 : wc.cell? ⟨p1, 0, none⟩ = some (.int .i64 S1.fn) := hb1.cell 0
        have a1 : wc.cell? ⟨p1, 1, none⟩ = some (.int .i64 S1.pc) := hb1.cell 1
        have a2 : wc.cell? ⟨p1, 2, none⟩ = some (.int .i64 S1.fuel) := hb1.cell 2
        have a3 : wc.cell? ⟨p1, 3, none⟩ = some (.slice av S1.stack.length cv) := hb1.cell 3
        have a4 : wc.cell? ⟨p1, 4, none⟩ = some (.slice none 0 0) := hb1.cell 4
        have a5 : wc.cell? ⟨p1, 5, none⟩ = some (.int .i64 S1.kids) := hb1.cell 5
        have a6 : wc.cell? ⟨p1, 6, none⟩ = some (.bool S1.waits) := hb1.cell 6
        have z0 : wc.cell? ⟨w1.heap.size, 0, none⟩ = some (.int .i64 S.fn) := hD1.st.cell 0
        have z1 : wc.cell? ⟨w1.heap.size, 1, none⟩ = some (.int .i64 S.pc) := hD1.st.cell 1
        have z2 : wc.cell? ⟨w1.heap.size, 2, none⟩ = some (.int .i64 S.fuel) := hD1.st.cell 2
        have z3 : wc.cell? ⟨w1.heap.size, 3, none⟩ = some sv := hD1.st.cell 3
        have z4 : wc.cell? ⟨w1.heap.size, 4, none⟩ = some (.slice none 0 0) := hD1.st.cell 4
        have z5 : wc.cell? ⟨w1.heap.size, 5, none⟩ = some (.int .i64 S.kids) := hD1.st.cell 5
        have z6 : wc.cell? ⟨w1.heap.size, 6, none⟩ = some (.bool S.waits) := hD1.st.cell 6
        have zf : ∀ i, wc.frozen? ⟨w1.heap.size, i, none⟩ = false := fun i => hD1.st.frozen i
        clear hD1 hb1 hb2 hev hiv hbv hp1 hp2 hkk HRUN g0 g2 gf s0 s1 s2 s3 s4 s5 s6
        go_upto_region 12 with fail
        clear a0 a1 a2 a3 a4 a5 a6 z0 z1 z2 z3 z4 z5 z6 zf
        generalize (((((((wc.setCell ⟨w1.heap.size, 0, none⟩ (.int .i64 S1.fn)).setCell ⟨w1.heap.size, 1, none⟩ (.int .i64 S1.pc)).setCell ⟨w1.heap.size, 2, none⟩ (.int .i64 S1.fuel)).setCell ⟨w1.heap.size, 3, none⟩ (.slice av S1.stack.length cv)).setCell ⟨w1.heap.size, 4, none⟩ (.slice none 0 0)).setCell ⟨w1.heap.size, 5, none⟩ (.int .i64 S1.kids)).setCell ⟨w1.heap.size, 6, none⟩ (.bool S1.waits)) = w2 at *
        obtain ⟨ge, off, cap, rfl, hcap, _, hBge, hge, hcells⟩ := HM.out.d.ents.form (by have := get_lt HB.out.2.1; omega)
        have hxl : R.length < R1.length := get_lt HB.out.2.1
        have b0 : w2.cell? ⟨g, 0, none⟩ = some (.pointer (some ⟨kg, 0, none⟩)) := HM.out.d.blk.cell 0
        have b1 : w2.cell? ⟨g, 1, none⟩ = some (.slice (some ⟨ge, off, none⟩) R1.length cap) := HM.out.d.blk.cell 1
        have c5 : w2.cell? ⟨ge, off + R.length * 8 + 5, none⟩ = some (.int .i64 x.steps) := by
          have := hcells (R.length * 8 + 5) (.int .i64 x.steps) (by rw [flat_at ER.c_len R1 R.length x 5 HB.out.2.1 (by omega)]; rfl)
          rw [Nat.add_assoc]; exact this
        have cf : ∀ i, w2.frozen? ⟨ge, i, none⟩ = false := fun i => HM.out.d.ents.free i
        have e0 : w2.cell? ⟨p2, 0, none⟩ = some (.int .i64 ea) := HM.out.b2.cell 0
        have e3 : w2.cell? ⟨p2, 3, none⟩ = some (.int .i64 en) := HM.out.b2.cell 3
        have l1 : (R.length : Int) < (R1.length : Int) := by omega
        have hneg : ge ≠ g := fun h => by subst h; exact own_apart HM.out.d.ents HM.out.d.blk (by decide) (mem_ownD.2 rfl)
        have hnep : ge ≠ p2 := fun h => by have := HM.out.el ge (mem_ownD.2 rfl); have := HM.out.p2; omega
        have HXL := Lib.hid (And.intro hxl (And.intro hBge hge))
        clear hcells hxl hBge
        refine wp_region_quiet_tail 18 (by kernel_rfl) (by kernel_rfl) ?_
        simp only [List.take_succ_cons, List.take_zero, List.drop_succ_cons, List.drop_zero]
        repeat (go_big_quiet_step (fail))
        refine quiet_tail_end ?_
        rintro _ ⟨nq2, rfl⟩
        go_upto_region 13 with fail
        have hM3 := Lib.hid ((HM.out.more ((Keep.refl [] w2).drewN nq2)).entry rfl (i := R.length) (j := 5) (z := x) (z' := { x with steps := wrap64 (x.steps + en) }) (u := .int .i64 (wrap64 (x.steps + en))) HB.out.2.1 (by omega) rfl)
        clear b0 b1 c5 cf e0 e3 HM
        generalize (w2.drewN nq2).setCell ⟨ge, off + R.length * 8 + 5, none⟩ (.int .i64 (wrap64 (x.steps + en))) = w3 at *
        obtain ⟨hmn, hx, hxi, hR1, hnn, hAft⟩ := HB.out
        obtain ⟨x2, hx2⟩ : ∃ x2 : ER, x2 = { x with steps := wrap64 (x.steps + en) } := ⟨_, rfl⟩
        obtain ⟨R2, hR2⟩ : ∃ R2, R2 = R1.set R.length x2 := ⟨_, rfl⟩
        have HC2 := Lib.hid (show R2[R.length]? = some x2 ∧ R2.length = R1.length ∧ R2.map ER.k = R1.map ER.k ∧ (∀ i, i < R.length → R2[i]? = R[i]?) ∧ x2.k = x.k ∧ x2.aw = x.aw from ⟨by rw [hR2, List.getElem?_set_self (get_lt hx)], by rw [hR2, List.length_set], by rw [hR2]; exact map_set_same hx (by rw [hx2]), fun i hi => by rw [hR2, List.getElem?_set_ne (by omega)]; exact hR1 i hi, by rw [hx2], by rw [hx2]⟩)
        have HM3 : Hid (Mid w B g kg w1.heap.size (.slice va R.length vc) R2 (.slice (some ⟨ge, off, none⟩) R2.length cap) u12 ks (.slice av S1.stack.length cv) x2.aw m ys S1 p1 p2 wr.heap.size ea eb ec en ex ey w3) := Lib.hid (by rw [HC2.out.2.1, hR2, hx2]; exact hM3.out)
        have l2 : (R.length : Int) < (R2.length : Int) := by have := get_lt HC2.out.1; omega
        have HAF := Lib.hid (And.intro hmn (And.intro hxi (And.intro hnn hAft)))
        clear l1 hM3 hmn hx hxi hR1 hnn hAft hR2 hx2 HB HXL
        cases e with
        | ended v =>
          obtain ⟨hr, hE⟩ := HAF.out.2.2.2
          obtain ⟨q1, q2, q3, heq⟩ := HEV.out
          obtain ⟨rfl, rfl, rfl, rfl, rfl, rfl⟩ : ea = 3 ∧ eb = q1 ∧ ec = q2 ∧ en = q3 ∧ ex = 0 ∧ ey = v := by
            injection heq with heq
            simp at heq
            exact heq
          have HRE := Lib.hid (And.intro hr hE)
          clear heq hr hE HEV
          have e0 : w3.cell? ⟨p2, 0, none⟩ = some (.int .i64 3) := HM3.out.b2.cell 0
          have e5 : w3.cell? ⟨p2, 5, none⟩ = some (.int .i64 0) := HM3.out.b2.cell 5
          have e6 : w3.cell? ⟨p2, 6, none⟩ = some (.int .i64 ey) := HM3.out.b2.cell 6
          have b1 : w3.cell? ⟨g, 1, none⟩ = some (.slice (some ⟨ge, off, none⟩) R2.length cap) := HM3.out.d.blk.cell 1
          obtain ⟨_, _, _, hv4, _, _, _, _, hcells⟩ := HM3.out.d.ents.form (by have := get_lt HC2.out.1; omega)
          obtain ⟨rfl, rfl⟩ : ge = _ ∧ off = _ := by
            injection hv4 with h1 _ _
            injection h1 with h1
            injection h1 with h1 h2
            exact ⟨h1, h2⟩
          have c3 : w3.cell? ⟨ge, off + R.length * 8 + 3, none⟩ = some (.int .i64 0) := by
            have := hcells (R.length * 8 + 3) (.int .i64 0) (by rw [flat_at ER.c_len R2 R.length x2 3 HC2.out.1 (by omega)]; rfl)
            rw [Nat.add_assoc]; exact this
          have c4 : w3.cell? ⟨ge, off + R.length * 8 + 3 + 1, none⟩ = some (.int .i64 x2.k.2) := by
            have := hcells (R.length * 8 + 4) (.int .i64 x2.k.2) (by rw [flat_at ER.c_len R2 R.length x2 4 HC2.out.1 (by omega)]; rfl)
            rw [Nat.add_assoc, Nat.add_assoc]; exact this
          have cf : ∀ i, w3.frozen? ⟨ge, i, none⟩ = false := fun i => HM3.out.d.ents.free i
          have r0 : w3.cell? ⟨w.heap.size, 0, none⟩ = some (.int .i64 0) := HM3.out.d.res.cell 0
          have r1 : w3.cell? ⟨w.heap.size, 1, none⟩ = some (.int .i64 0) := HM3.out.d.res.cell 1
          have rf : ∀ i, w3.frozen? ⟨w.heap.size, i, none⟩ = false := fun i => HM3.out.d.res.frozen i
          have ner : ge ≠ w.heap.size := fun h => by subst h; exact own_apart HM3.out.d.ents HM3.out.d.res (by decide) (mem_ownD.2 rfl)
          have hp2r : p2 ≠ w.heap.size := fun h => by subst h; exact HM3.out.b2.ne_ HM3.out.d.res (by decide) rfl
          clear hcells hv4
          go_upto_region 27 with fail
          refine wp_region_quiet_tail 9 (by kernel_rfl) (by kernel_rfl) ?_
          simp only [List.take_succ_cons, List.take_zero, List.drop_succ_cons, List.drop_zero]
          repeat (go_big_quiet_step (fail))
          refine quiet_tail_end ?_
          rintro _ ⟨nq3, rfl⟩
          go_wp2_with fail
          have hd1 := (HM3.out.d.more ((Keep.refl [] w3).drewN nq3)).entry rfl (i := R.length) (j := 3) (x := x2) (x' := x2) (u := .int .i64 0) HC2.out.1 (by omega) rfl
          have hd2 := hd1.entry rfl (i := R.length) (j := 4) (x := x2) (x' := { x2 with k := (x2.k.1, ey) }) (u := .int .i64 ey) (by rw [List.getElem?_set_self (get_lt HC2.out.1)]) (by omega) rfl
          rw [← Nat.add_assoc, ← Nat.add_assoc] at hd2
          have HP := post_end (r := ey) (E2 := E2) (R0 := R) hd2 (by
            rw [map_set_k, map_set_same HC2.out.1 rfl, HC2.out.2.2.1, HRE.out.2, HRE.out.1, HC2.out.2.2.2.2.1, HAF.out.2.1]) (by rw [List.length_set, List.length_set]; exact get_lt HC2.out.1) (fun i hi => by rw [List.getElem?_set_ne (by omega), List.getElem?_set_ne (by omega)]; exact HC2.out.2.2.2.1 i hi)
          have hr := HRE.out.1
          subst hr
          have D := (hd2.res.set_ 0 (.int .i64 0)).set_ 1 (.int .i64 r)
          have d0 := D.cell 0
          have d1 := D.cell 1
          exact bodyPost_ret (v := .agg #[.int .i64 0, .int .i64 r]) (by simp [results, Tryd.results53, go_sem, d0, d1]) rfl HP
        | spawned f2 k =>
          obtain ⟨hk2, hid12, hid16, hroom, hf2, E1, r1, hL1, hL2⟩ := HAF.out.2.2.2
          rw [List.length_map, ← HC2.out.2.1] at hroom hL1
          rw [← HC2.out.2.2.1] at hL1
          have HL := Lib.hid (And.intro hroom (And.intro hf2 (And.intro hL1 hL2)))
          obtain ⟨q1, q2, q3, heq⟩ := HEV.out
          obtain ⟨rfl, rfl, rfl, rfl, rfl, rfl⟩ : ea = 1 ∧ eb = (f2 : Int) ∧ ec = (k : Int) ∧ en = q1 ∧ ex = q2 ∧ ey = q3 := by
            injection heq with heq
            simp at heq
            exact heq
          clear heq hroom hf2 hL1 hL2 HEV
          obtain ⟨ak, ck, rfl⟩ := HM3.out.d.kids.shape
          have e0 : w3.cell? ⟨p2, 0, none⟩ = some (.int .i64 1) := HM3.out.b2.cell 0
          have e2 : w3.cell? ⟨p2, 2, none⟩ = some (.int .i64 (k : Int)) := HM3.out.b2.cell 2
          go_wp2_with fail
          refine (kid_spec _ id k hid12 hid16 hk2).mono ?_
          rintro e w4 ⟨rfl, hk4⟩
          have HM4 := Lib.hid (HM3.out.more hk4)
          clear hk4 e0 e2 hid16 hk2
          have e1 : w4.cell? ⟨p2, 1, none⟩ = some (.int .i64 (f2 : Int)) := HM4.out.b2.cell 1
          have e4 : w4.cell? ⟨p2, 4, none⟩ = some (.slice none 0 0) := HM4.out.b2.cell 4
          go_wp2_with fail
          refine (IH.out n' (by have := HAF.out.1; have := HAF.out.2.2.1; omega) w4 B g kg f2 (.slice (some ⟨ge, off, none⟩) R2.length cap) (id ++ [UInt8.ofNat k]) R2 E1 r1 ⟨HA.out.known.below (HA.out.bel HM4.out.d.keep), Nat.le_trans HA.out.base HM4.out.d.keep.size, HA.out.gB, HM4.out.d.blk, HM4.out.d.ents, HL.out.1, HL.out.2.1, HA.out.small, HA.out.fuel, HA.out.tasks, by simp; omega⟩ HL.out.2.2.1).mono ?_
          rintro e w5 ⟨R3, ev3, rfl, hR3, hle, hpre, hk5, hb5, ho5, he5⟩
          have hd5 := HM4.out.d.inner hk5 hb5 ho5 he5
          have hx3 : R3[R.length]? = some x2 := by rw [hpre _ (get_lt HC2.out.1)]; exact HC2.out.1
          have H5 := Lib.hid (And.intro hd5 (And.intro hR3 (And.intro hx3 (And.intro (show ∀ i, i < R.length → R3[i]? = R[i]? from fun i hi => by rw [hpre i (by have := get_lt HC2.out.1; omega)]; exact HC2.out.2.2.2.1 i hi) (And.intro hk5 he5)))))
          have hO := hd5.kids.keep (((Keep.refl [] w5).alloc (.cells #[.int .i64 0, .int .i64 r1] 61)).alloc (.cells #[.int .i64 0, .int .i64 r1] 61)) (by simp)
          have hS := src_lit (w5.alloc (.cells #[.int .i64 0, .int .i64 r1] 61)) #[.int .i64 0, .int .i64 r1] (resC r1) 61 2 1 rfl rfl
          rw [World.size_alloc] at hS
          have hszz : w.heap.size + 1 ≤ w5.heap.size := hd5.res.lt
          have hksl : ks.length ≤ 1000 := by have := HKS.out; have := HN1.out; omega
          have HO := Lib.hid (And.intro hO hS)
          clear hd5 hR3 hle hpre hk5 hb5 ho5 he5 hx3 e1 e4 hO hS
          go_wp2_with (at_builtin; refine wpList_append_off rfl _ _ rfl Tryd.sts136 (w.heap.size + 1) (.slice ak ks.length ck) ks.length (ks.flatMap resC) rfl HO.out.1 _ 1 (resC r1) rfl HO.out.2 (by simp [Value.oneCell', resC]) (by unfold maxLen; omega) (by omega) (by simp; omega) ?_)
          intro v' w6 ho6 hk6 hb6
          obtain ⟨ak6, ck6, rfl⟩ := ho6.shape
          obtain ⟨ge3, off3, cap3, rfl, _, _, hBge3, hge3, hcells3⟩ := H5.out.1.ents.form (by have := get_lt H5.out.2.2.1; omega)
          have hd6 := (H5.out.1.more (((Keep.refl [] w5).alloc (.cells #[.int .i64 0, .int .i64 r1] 61)).alloc (.cells #[.int .i64 0, .int .i64 r1] 61))).kid (v := r1) hk6 ho6
          have b1 : w6.cell? ⟨g, 1, none⟩ = some (.slice (some ⟨ge3, off3, none⟩) R3.length cap3) := hd6.blk.cell 1
          obtain ⟨_, _, _, hv6, _, _, _, _, hcells6⟩ := hd6.ents.form (by have := get_lt H5.out.2.2.1; omega)
          obtain ⟨rfl, rfl⟩ : ge3 = _ ∧ off3 = _ := by
            injection hv6 with h1 _ _
            injection h1 with h1
            injection h1 with h1 h2
            exact ⟨h1, h2⟩
          have c6 : w6.cell? ⟨ge3, off3 + R.length * 8 + 6, none⟩ = some (.int .i64 x2.kids) := by
            have := hcells6 (R.length * 8 + 6) (.int .i64 x2.kids) (by rw [flat_at ER.c_len R3 R.length x2 6 H5.out.2.2.1 (by omega)]; rfl)
            rw [Nat.add_assoc]; exact this
          have cf : ∀ i, w6.frozen? ⟨ge3, i, none⟩ = false := fun i => hd6.ents.free i
          have l3 : (R.length : Int) < (R3.length : Int) := by have := get_lt H5.out.2.2.1; omega
          have hd7 := hd6.entry rfl (i := R.length) (j := 6) (x := x2) (x' := { x2 with kids := wrap64 (x2.kids + 1) }) (u := .int .i64 (wrap64 (x2.kids + 1))) H5.out.2.2.1 (by omega) rfl
          rw [← Nat.add_assoc] at hd7
          have k6 : Keep ((g :: ownBlocks (.slice (some ⟨ge, off, none⟩) R2.length cap)) ++ ownBlocks (.slice ak ks.length ck)) w4 (w6.setCell ⟨ge3, off3 + R.length * 8 + 6, none⟩ (.int .i64 (wrap64 (x2.kids + 1)))) := by
            have k1 := H5.out.2.2.2.2.1.mono (T := (g :: ownBlocks (.slice (some ⟨ge, off, none⟩) R2.length cap)) ++ ownBlocks (.slice ak ks.length ck)) (fun x hx => Or.inl (List.mem_append_left _ hx))
            have k2 := ((k1.alloc (.cells #[.int .i64 0, .int .i64 r1] 61)).alloc (.cells #[.int .i64 0, .int .i64 r1] 61)).trans hk6 (fun x hx => Or.inl (List.mem_append_right _ hx))
            refine k2.setCell ?_ _
            rcases H5.out.2.2.2.2.2 ge3 (mem_ownD.2 rfl) with h1 | h1
            · exact Or.inl (List.mem_append_left _ (List.mem_cons_of_mem _ h1))
            · exact Or.inr h1
          have iv7 := HM4.out.iv.keep' k6 (fun z hz _ hm => by
            have hlo := HM4.out.bv z hz
            rcases List.mem_append.1 hm with hm | hm
            · rcases List.mem_cons.1 hm with rfl | hm
              · have := HM4.out.gl; omega
              · have := HM4.out.el z hm; omega
            · have := HM4.out.kl z hm; omega)
          have H7 := Lib.hid (And.intro hd7 iv7)
          clear ho6 hk6 hb6 hcells3 hd6 hv6 hcells6 hd7 k6 iv7 HO
          go_wp2_with fail
          go_roundw
          case rel =>
            refine ⟨n', S1, ks ++ [r1], R3.set R.length { x2 with kids := wrap64 (x2.kids + 1) }, _, .slice av S1.stack.length cv, m, ys, { x2 with kids := wrap64 (x2.kids + 1) }, by have := HAF.out.1; have := HAF.out.2.2.1; omega, by have := HKS.out; have := HAF.out.2.2.1; simp; omega, ?_, H7.out.1, H7.out.2, by rw [List.getElem?_set_self (get_lt H5.out.2.2.1)], by rw [HC2.out.2.2.2.2.1]; exact HAF.out.2.1, fun i hi => by rw [List.getElem?_set_ne (by omega)]; exact H5.out.2.2.2.1 i hi⟩
            rw [map_set_same (z' := { x2 with kids := wrap64 (x2.kids + 1) }) H5.out.2.2.1 rfl, H5.out.2.1]
            exact HL.out.2.2.2
          case measure =>
            rw [← HN.out, HAF.out.2.2.1]
            refine Nat.lt_succ_of_le (least_le (P := fun n => DoHead J N id E2 r w B g kg w1.heap.size (.slice va R.length vc) R n _ _) ?_)
            refine ⟨S1, ks ++ [r1], R3.set R.length { x2 with kids := wrap64 (x2.kids + 1) }, _, .slice av S1.stack.length cv, m, ys, { x2 with kids := wrap64 (x2.kids + 1) }, by have := HAF.out.1; have := HAF.out.2.2.1; omega, by have := HKS.out; have := HAF.out.2.2.1; simp; omega, ?_, H7.out.1, H7.out.2, by rw [List.getElem?_set_self (get_lt H5.out.2.2.1)], by rw [HC2.out.2.2.2.2.1]; exact HAF.out.2.1, fun i hi => by rw [List.getElem?_set_ne (by omega)]; exact H5.out.2.2.2.1 i hi⟩
            rw [map_set_same (z' := { x2 with kids := wrap64 (x2.kids + 1) }) H5.out.2.2.1 rfl, H5.out.2.1]
            exact HL.out.2.2.2
        | waiting k =>
          obtain ⟨v, l, hkv, hMay1, h17, hstk, hkk, hwts, hL2⟩ := HAF.out.2.2.2
          obtain ⟨q0, q1, q2, q3, heq⟩ := HEV.out
          obtain ⟨rfl, rfl, rfl, rfl, rfl, rfl⟩ : ea = 2 ∧ eb = q0 ∧ ec = (k : Int) ∧ en = q1 ∧ ex = q2 ∧ ey = q3 := by
            injection heq with heq
            simp at heq
            exact heq
          have hpc : S1.pc ≤ 1000 := by
            obtain ⟨i, hi, _⟩ := h17
            exact at_pc HA.out.small hi
          have hkl : k < ks.length := get_lt hkv
          have HL := Lib.hid (And.intro hMay1 (And.intro h17 (And.intro hstk (And.intro hkk (And.intro hwts (And.intro hL2 (And.intro hkv hpc)))))))
          clear heq hMay1 h17 hstk hkk hwts hL2 HEV hkv hpc
          obtain ⟨aA, cA, haw⟩ := HM3.out.d.aws.shape
          have HAW := Lib.hid haw
          have hm1 : m ≤ 1000 := by have := HAF.out.1; have := HN1.out; omega
          obtain ⟨ak, ck, rfl⟩ := HM3.out.d.kids.shape
          have e0 : w3.cell? ⟨p2, 0, none⟩ = some (.int .i64 2) := HM3.out.b2.cell 0
          have e2 : w3.cell? ⟨p2, 2, none⟩ = some (.int .i64 (k : Int)) := HM3.out.b2.cell 2
          have b1 : w3.cell? ⟨g, 1, none⟩ = some (.slice (some ⟨ge, off, none⟩) R2.length cap) := HM3.out.d.blk.cell 1
          obtain ⟨_, _, _, hv4, _, _, _, _, hcells⟩ := HM3.out.d.ents.form (by have := get_lt HC2.out.1; omega)
          obtain ⟨rfl, rfl⟩ : ge = _ ∧ off = _ := by
            injection hv4 with h1 _ _
            injection h1 with h1
            injection h1 with h1 h2
            exact ⟨h1, h2⟩
          have c7 : w3.cell? ⟨ge, off + R.length * 8 + 7, none⟩ = some (.slice aA m cA) := by
            have := hcells (R.length * 8 + 7) x2.aw (by rw [flat_at ER.c_len R2 R.length x2 7 HC2.out.1 (by omega)]; rfl)
            rw [Nat.add_assoc, ← HAW.out]; exact this
          have hgw3 : g < w3.heap.size := HM3.out.d.blk.lt
          have hgew3 : ge < w3.heap.size := (HM3.out.d.ents.lt ge rfl).2
          have hp2w3 : p2 < w3.heap.size := HM3.out.b2.lt
          clear hcells hv4 haw
          go_upto_region 20 with fail
          have hk7 : Keep [] w3 (w3.drew.alloc (.cells #[.int .i64 (k : Int)] 3)) := ((Keep.refl [] w3).drew).alloc _
          have hO : OwnsAt (w3.drew.alloc (.cells #[.int .i64 (k : Int)] 3)) (w.heap.size + 1) 3 1 (.slice aA m cA) m ys := by
            have := HM3.out.d.aws.keep hk7 (by simp)
            rw [HAW.out] at this
            exact this
          have hS : SrcOf (w3.drew.alloc (.cells #[.int .i64 (k : Int)] 3)) (.slice (some ⟨w3.drew.heap.size, 0, none⟩) 1 1) 1 1 [.int .i64 (k : Int)] := src_lit w3.drew _ _ 3 1 1 rfl rfl
          have hB2 : w.heap.size + 1 ≤ (w3.drew.alloc (.cells #[.int .i64 (k : Int)] 3)).heap.size := Nat.le_trans HM3.out.d.res.lt hk7.size
          have HO := Lib.hid (And.intro hO (And.intro hS (And.intro hB2 hk7)))
          have hS1 : (w3.drew.alloc (.cells #[.int .i64 (k : Int)] 3)).cell? ⟨g, 1, none⟩ = some (.slice (some ⟨ge, off, none⟩) R2.length cap) ∧ (w3.drew.alloc (.cells #[.int .i64 (k : Int)] 3)).cell? ⟨ge, off + R.length * 8 + 7, none⟩ = some (.slice aA m cA) ∧ (w3.drew.alloc (.cells #[.int .i64 (k : Int)] 3)).cell? ⟨p2, 2, none⟩ = some (.int .i64 (k : Int)) := ⟨cell_keep0 hk7 b1, cell_keep0 hk7 c7, cell_keep0 hk7 e2⟩
          have HS1 := Lib.hid hS1
          clear hO hS hB2 hk7 hS1
          refine wp_region_split 19 (fun w' => w'.cell? ⟨g, 1, none⟩ = some (.slice (some ⟨ge, off, none⟩) R2.length cap) ∧ w'.cell? ⟨ge, off + R.length * 8 + 7, none⟩ = some (.slice aA m cA) ∧ w'.cell? ⟨p2, 2, none⟩ = some (.int .i64 (k : Int))) (by kernel_rfl) rfl (by kernel_rfl) ⟨b1, c7, e2⟩ ?_
          intro hHeld
          simp only [List.take_succ_cons, List.take_zero]
          refine wpAnyH_take (i := 0) (v := ?_) rfl (by kernel_rfl) (by kernel_rfl) (by kernel_rfl) (fun _ _ _ h => h) (Or.inl ⟨by rfl, by (intro w hSw; (try dsimp only at hSw); go_simp) <;> with_reducible rfl⟩) (by assumption) ?_
          (try simp only [List.getElem_toArray, List.getElem_cons_succ, List.getElem_cons_zero, Act.put, List.setIfInBounds_toArray, List.set_cons_zero, List.set_cons_succ])
          refine wpAnyH_take (i := 1) (v := ?_) rfl (by kernel_rfl) (by kernel_rfl) (by kernel_rfl) (fun _ _ _ h => h) (Or.inl ⟨by rfl, by (intro w hSw; (try dsimp only at hSw); go_simp) <;> with_reducible rfl⟩) (by assumption) ?_
          (try simp only [List.getElem_toArray, List.getElem_cons_succ, List.getElem_cons_zero, Act.put, List.setIfInBounds_toArray, List.set_cons_zero, List.set_cons_succ])
          refine wpAnyH_take (i := 2) (v := ?_) rfl (by kernel_rfl) (by kernel_rfl) (by kernel_rfl) (fun _ _ _ h => h) (Or.inl ⟨by rfl, by (intro w hSw; (try dsimp only at hSw); go_simp) <;> with_reducible rfl⟩) (by assumption) ?_
          (try simp only [List.getElem_toArray, List.getElem_cons_succ, List.getElem_cons_zero, Act.put, List.setIfInBounds_toArray, List.set_cons_zero, List.set_cons_succ])
          refine wpAnyH_take (i := 3) (v := ?_) rfl (by kernel_rfl) (by kernel_rfl) (by kernel_rfl) (fun _ _ _ h => h) (Or.inl ⟨by rfl, by (intro w hSw; (try dsimp only at hSw); go_simp) <;> with_reducible rfl⟩) (by assumption) ?_
          (try simp only [List.getElem_toArray, List.getElem_cons_succ, List.getElem_cons_zero, Act.put, List.setIfInBounds_toArray, List.set_cons_zero, List.set_cons_succ])
          refine wpAnyH_take (i := 4) (v := ?_) rfl (by kernel_rfl) (by kernel_rfl) (by kernel_rfl) (fun _ _ _ h => h) (Or.inl ⟨by rfl, by (intro w hSw; (try dsimp only at hSw); go_simp) <;> with_reducible rfl⟩) (by assumption) ?_
          (try simp only [List.getElem_toArray, List.getElem_cons_succ, List.getElem_cons_zero, Act.put, List.setIfInBounds_toArray, List.set_cons_zero, List.set_cons_succ])
          refine wpAnyH_take (i := 5) (v := ?_) rfl (by kernel_rfl) (by kernel_rfl) (by kernel_rfl) (fun _ _ _ h => h) (Or.inl ⟨by rfl, by (intro w hSw; (try dsimp only at hSw); go_simp) <;> with_reducible rfl⟩) (by assumption) ?_
          (try simp only [List.getElem_toArray, List.getElem_cons_succ, List.getElem_cons_zero, Act.put, List.setIfInBounds_toArray, List.set_cons_zero, List.set_cons_succ])
          refine wpAnyH_take (i := 6) (v := ?_) rfl (by kernel_rfl) (by kernel_rfl) (by kernel_rfl) (fun _ _ _ h => h) (Or.inl ⟨by rfl, by (intro w hSw; (try dsimp only at hSw); go_simp) <;> with_reducible rfl⟩) (by assumption) ?_
          (try simp only [List.getElem_toArray, List.getElem_cons_succ, List.getElem_cons_zero, Act.put, List.setIfInBounds_toArray, List.set_cons_zero, List.set_cons_succ])
          refine wpAnyH_take (i := 7) (v := ?_) rfl (by kernel_rfl) (by kernel_rfl) (by kernel_rfl) (fun _ _ _ h => h) (Or.inl ⟨by rfl, by (intro w hSw; (try dsimp only at hSw); go_simp) <;> with_reducible rfl⟩) (by assumption) ?_
          (try simp only [List.getElem_toArray, List.getElem_cons_succ, List.getElem_cons_zero, Act.put, List.setIfInBounds_toArray, List.set_cons_zero, List.set_cons_succ])
          refine wpAnyH_take (i := 8) (v := ?_) rfl (by kernel_rfl) (by kernel_rfl) (by kernel_rfl) (fun _ _ _ h => h) (Or.inl ⟨by rfl, by (intro w hSw; (try dsimp only at hSw); go_simp) <;> with_reducible rfl⟩) (by assumption) ?_
          (try simp only [List.getElem_toArray, List.getElem_cons_succ, List.getElem_cons_zero, Act.put, List.setIfInBounds_toArray, List.set_cons_zero, List.set_cons_succ])
          refine wpAnyH_take (i := 9) (v := ?_) rfl (by kernel_rfl) (by kernel_rfl) (by kernel_rfl) (fun _ _ _ h => h) (Or.inl ⟨by rfl, by (intro w hSw; (try dsimp only at hSw); go_simp) <;> with_reducible rfl⟩) (by assumption) ?_
          (try simp only [List.getElem_toArray, List.getElem_cons_succ, List.getElem_cons_zero, Act.put, List.setIfInBounds_toArray, List.set_cons_zero, List.set_cons_succ])
          refine wpAnyH_take (i := 10) (v := ?_) rfl (by kernel_rfl) (by kernel_rfl) (by kernel_rfl) (fun _ _ _ h => h) (Or.inl ⟨by rfl, by (intro w hSw; (try dsimp only at hSw); go_simp) <;> with_reducible rfl⟩) (by assumption) ?_
          (try simp only [List.getElem_toArray, List.getElem_cons_succ, List.getElem_cons_zero, Act.put, List.setIfInBounds_toArray, List.set_cons_zero, List.set_cons_succ])
          refine wpAnyH_take (i := 11) (v := ?_) rfl (by kernel_rfl) (by kernel_rfl) (by kernel_rfl) (fun _ _ _ h => h) (Or.inl ⟨by rfl, by (intro w hSw; (try dsimp only at hSw); go_simp) <;> with_reducible rfl⟩) (by assumption) ?_
          (try simp only [List.getElem_toArray, List.getElem_cons_succ, List.getElem_cons_zero, Act.put, List.setIfInBounds_toArray, List.set_cons_zero, List.set_cons_succ])
          refine wpAnyH_take (i := 12) (v := ?_) rfl (by kernel_rfl) (by kernel_rfl) (by kernel_rfl) (fun _ _ _ h => h) (Or.inl ⟨by rfl, by (intro w hSw; (try dsimp only at hSw); go_simp) <;> with_reducible rfl⟩) (by assumption) ?_
          (try simp only [List.getElem_toArray, List.getElem_cons_succ, List.getElem_cons_zero, Act.put, List.setIfInBounds_toArray, List.set_cons_zero, List.set_cons_succ])
          refine wpAnyH_take (i := 13) (v := ?_) rfl (by kernel_rfl) (by kernel_rfl) (by kernel_rfl) (fun _ _ _ h => h) (Or.inl ⟨by rfl, by (intro w hSw; (try dsimp only at hSw); go_simp) <;> with_reducible rfl⟩) (by assumption) ?_
          (try simp only [List.getElem_toArray, List.getElem_cons_succ, List.getElem_cons_zero, Act.put, List.setIfInBounds_toArray, List.set_cons_zero, List.set_cons_succ])
          refine wpAnyH_take (i := 14) (v := ?_) rfl (by kernel_rfl) (by kernel_rfl) (by kernel_rfl) (fun _ _ _ h => h) (Or.inl ⟨by rfl, by (intro w hSw; (try dsimp only at hSw); go_simp) <;> with_reducible rfl⟩) (by assumption) ?_
          (try simp only [List.getElem_toArray, List.getElem_cons_succ, List.getElem_cons_zero, Act.put, List.setIfInBounds_toArray, List.set_cons_zero, List.set_cons_succ])
          refine wpAnyH_ready (rs := [15]) (by kernel_rfl) (by simp) ?_
          refine AllReadyH.cons rfl (fun K hK => ?_) AllReadyH.nil
          go_simp
          refine hK.out _ _ HS1.out (fun hHeld => ?_)
          clear hK K
          (try simp only [List.getElem_toArray, List.getElem_cons_succ, List.getElem_cons_zero, Act.put, List.setIfInBounds_toArray, List.set_cons_zero, List.set_cons_succ])
          refine wpAnyH_ready (rs := [16]) (by kernel_rfl) (by simp) ?_
          refine AllReadyH.cons (o := { dst := some 155, op := .call { callee := .builtin .append, args := #[.tmp 151, .tmp 154], argTypes := #[24, 24] }, type := 24, pos := "task.go:262", after := #[{ on := 12, ground := .data }, { on := 15, ground := .data }], guard := none }) rfl (fun K hK => ?_) AllReadyH.nil
          refine step_append_off rfl (.tmp 151) (.tmp 154) rfl Tryd.sts24L (w.heap.size + 1) (.slice aA m cA) m ys (by simp [Act.eval]) HO.out.1 (.slice (some ⟨w3.drew.heap.size, 0, none⟩) 1 1) 1 [.int .i64 (k : Int)] (by simp [Act.eval]) HO.out.2.1 (by simp [Value.oneCell']) (by unfold maxLen; omega) (by omega) HO.out.2.2.1 ?_
          intro v' w4 hown4 hk4 hat4
          obtain ⟨a5, c5, rfl⟩ := hown4.shape
          have hP := post20 HM3.out HC2.out.1 HO.out.2.2.2 hown4 (by rw [HAW.out]; exact hk4)
          have y1 := hP.2.1
          have yf := hP.2.2.1
          have y7 : w4.cell? ⟨ge, off + R.length * 8 + 7, none⟩ = some (.slice aA m cA) := by rw [← HAW.out]; exact hP.2.2.2
          have y2 : w4.cell? ⟨p2, 2, none⟩ = some (.int .i64 (k : Int)) := ((HM3.out.b2.keep HO.out.2.2.2 (by simp)).keep hk4 (fun hm => by have := HM3.out.al p2 (by rw [HAW.out]; exact hm); have := HM3.out.p2; omega)).cell 2
          have HP := Lib.hid hP.1
          clear hP hown4 hk4 hat4 HO HS1 b1 c7 e2 e0
          refine hK.out _ _ ⟨y1, y7, y2⟩ (fun hHeld => ?_)
          clear hK K
          (try simp only [List.getElem_toArray, List.getElem_cons_succ, List.getElem_cons_zero, Act.put, List.setIfInBounds_toArray, List.set_cons_zero, List.set_cons_succ])
          refine wpAnyH_take (i := 17) (v := ?_) rfl (by kernel_rfl) (by kernel_rfl) (by kernel_rfl) (fun _ _ _ h => h) (Or.inl ⟨by rfl, by (intro w hSw; (try dsimp only at hSw); go_simp) <;> with_reducible rfl⟩) (by assumption) ?_
          (try simp only [List.getElem_toArray, List.getElem_cons_succ, List.getElem_cons_zero, Act.put, List.setIfInBounds_toArray, List.set_cons_zero, List.set_cons_succ])
          refine wpAnyH_take (i := 18) (v := ?_) rfl (by kernel_rfl) (by kernel_rfl) (by kernel_rfl) (fun _ _ _ h => h) (Or.inl ⟨by rfl, by (intro w hSw; (try dsimp only at hSw); go_simp) <;> with_reducible rfl⟩) (by assumption) ?_
          (try simp only [List.getElem_toArray, List.getElem_cons_succ, List.getElem_cons_zero, Act.put, List.setIfInBounds_toArray, List.set_cons_zero, List.set_cons_succ])
          refine wpAnyH_done (by kernel_rfl) ?_ _
          show Oper.wp _ _ _ _ _ _
          go_simp
          clear hHeld
          have hx9 : ∃ aw', aw' = aw' := ⟨x2.aw, rfl⟩
          clear hx9
          go_upto_region 21 with fail
          clear y1 yf y7 y2
          generalize w4.setCell ⟨ge, off + R.length * 8 + 7, none⟩ (.slice a5 (m + 1) c5) = w7 at *
          obtain ⟨aw', hd7, hb71, hb72, hiv7⟩ := HP.out
          obtain ⟨S2, hS2⟩ : ∃ S2 : SS, S2 = { S1 with stack := l ++ [v], pc := S1.pc + 1, waits := false } := ⟨_, rfl⟩
          have HS2 := Lib.hid hS2
          clear hS2
          have hkl2 : (k : Int) < (ks.length : Int) := by omega
          have hk0 : (0 : Int) ≤ (k : Int) := by omega
          obtain ⟨gk, offk, ck2, hvk, _, _, hgk1, hgk2, hkc⟩ := hd7.kids.form (by omega)
          injection hvk with hvk1 _ hvk3
          subst hvk1
          subst hvk3
          have HKN := Lib.hid (HA.out.known.below (HA.out.bel hd7.keep))
          have HB7 := Lib.hid (Nat.le_trans HA.out.base hd7.keep.size)
          have HB7d : Hid (B ≤ w7.drew.heap.size) := Lib.hid HB7.out
          have H7 := Lib.hid (And.intro hd7 (And.intro hb71 (And.intro hb72 hiv7)))
          have b0 : w7.cell? ⟨g, 0, none⟩ = some (.pointer (some ⟨kg, 0, none⟩)) := hd7.blk.cell 0
          have s0 : w7.cell? ⟨w1.heap.size, 0, none⟩ = some (.int .i64 S1.fn) := hd7.st.cell 0
          have s1 : w7.cell? ⟨w1.heap.size, 1, none⟩ = some (.int .i64 S1.pc) := hd7.st.cell 1
          have s2 : w7.cell? ⟨w1.heap.size, 2, none⟩ = some (.int .i64 S1.fuel) := hd7.st.cell 2
          have s3 : w7.cell? ⟨w1.heap.size, 3, none⟩ = some (.slice av S1.stack.length cv) := hd7.st.cell 3
          have s4 : w7.cell? ⟨w1.heap.size, 4, none⟩ = some (.slice none 0 0) := hd7.st.cell 4
          have s5 : w7.cell? ⟨w1.heap.size, 5, none⟩ = some (.int .i64 S1.kids) := hd7.st.cell 5
          have s6 : w7.cell? ⟨w1.heap.size, 6, none⟩ = some (.bool S1.waits) := hd7.st.cell 6
          have sf : ∀ i, w7.frozen? ⟨w1.heap.size, i, none⟩ = false := fun i => hd7.st.frozen i
          have kk0 : w7.cell? ⟨gk, offk + k * 2, none⟩ = some (.int .i64 0) := by
            have := hkc (k * 2 + 0) (.int .i64 0) (by rw [flat_at resC_len ks k v 0 HL.out.2.2.2.2.2.2.1 (by omega)]; rfl)
            simpa using this
          have kk1 : w7.cell? ⟨gk, offk + k * 2 + 1, none⟩ = some (.int .i64 v) := by
            have := hkc (k * 2 + 1) (.int .i64 v) (by rw [flat_at resC_len ks k v 1 HL.out.2.2.2.2.2.2.1 (by omega)]; rfl)
            rw [Nat.add_assoc]; exact this
          have e2 : w7.cell? ⟨p2, 2, none⟩ = some (.int .i64 (k : Int)) := hb72.cell 2
          have n1 : g ≠ p1 := fun h => hb71.ne_ hd7.blk (by decide) h.symm
          have n2 : g ≠ p2 := fun h => hb72.ne_ hd7.blk (by decide) h.symm
          have n3 : w1.heap.size ≠ p1 := by have := HM3.out.sl; have := HM3.out.p1; omega
          have n4 : w1.heap.size ≠ p2 := by have := HM3.out.sl; have := HM3.out.p2; omega
          have n5 : gk ≠ p1 := fun h => by subst h; exact own_apart hd7.kids hb71 (by decide) (mem_ownD.2 rfl)
          have n6 : gk ≠ p2 := fun h => by subst h; exact own_apart hd7.kids hb72 (by decide) (mem_ownD.2 rfl)
          have n7 : p1 ≠ p2 := hb71.ne_ hb72 (by decide)
          have pl1 : p1 < w7.heap.size := hb71.lt
          have pl2 : p2 < w7.heap.size := hb72.lt
          have pb1 : w.heap.size ≤ p1 := by have := HM3.out.p1; have := HD.out.keep.size; omega
          have pb2 : w.heap.size ≤ p2 := by have := HM3.out.p2; have := HD.out.keep.size; omega
          clear hd7 hb71 hb72 hiv7 hkc hkl
          refine wp_region_held_drew (S := (fun w' => w'.cell? ⟨g, 0, none⟩ = some (.pointer (some ⟨kg, 0, none⟩)) ∧ w'.cell? ⟨w1.heap.size, 0, none⟩ = some (.int .i64 S1.fn) ∧ w'.cell? ⟨w1.heap.size, 1, none⟩ = some (.int .i64 S1.pc) ∧ w'.cell? ⟨w1.heap.size, 2, none⟩ = some (.int .i64 S1.fuel) ∧ w'.cell? ⟨w1.heap.size, 3, none⟩ = some (.slice av S1.stack.length cv) ∧ w'.cell? ⟨w1.heap.size, 4, none⟩ = some (.slice none 0 0) ∧ w'.cell? ⟨w1.heap.size, 5, none⟩ = some (.int .i64 S1.kids) ∧ w'.cell? ⟨w1.heap.size, 6, none⟩ = some (.bool S1.waits) ∧ w'.cell? ⟨gk, offk + k * 2, none⟩ = some (.int .i64 0) ∧ w'.cell? ⟨gk, offk + k * 2 + 1, none⟩ = some (.int .i64 v))) (by kernel_rfl) ?_ (fun hHeld => ?_)
          · with_reducible exact cells10_drew (w := w7) ⟨b0, s0, s1, s2, s3, s4, s5, s6, kk0, kk1⟩
          (try simp only [List.getElem_toArray, List.getElem_cons_succ, List.getElem_cons_zero, Act.put, List.setIfInBounds_toArray, List.set_cons_zero, List.set_cons_succ])
          refine wpAnyH_take (i := 0) (v := ?_) rfl (by kernel_rfl) (by kernel_rfl) (by kernel_rfl) (fun _ _ _ h => h) (Or.inl ⟨by rfl, by (intro w hSw; (try dsimp only at hSw); go_simp) <;> with_reducible rfl⟩) (by assumption) ?_
          (try simp only [List.getElem_toArray, List.getElem_cons_succ, List.getElem_cons_zero, Act.put, List.setIfInBounds_toArray, List.set_cons_zero, List.set_cons_succ])
          refine wpAnyH_take (i := 1) (v := ?_) rfl (by kernel_rfl) (by kernel_rfl) (by kernel_rfl) (fun _ _ _ h => h) (Or.inl ⟨by rfl, by (intro w hSw; (try dsimp only at hSw); go_simp) <;> with_reducible rfl⟩) (by assumption) ?_
          (try simp only [List.getElem_toArray, List.getElem_cons_succ, List.getElem_cons_zero, Act.put, List.setIfInBounds_toArray, List.set_cons_zero, List.set_cons_succ])
          refine wpAnyH_take (i := 2) (v := ?_) rfl (by kernel_rfl) (by kernel_rfl) (by kernel_rfl) (fun _ _ _ h => h) (Or.inl ⟨by rfl, by (intro w hSw; (try dsimp only at hSw); go_simp) <;> with_reducible rfl⟩) (by assumption) ?_
          (try simp only [List.getElem_toArray, List.getElem_cons_succ, List.getElem_cons_zero, Act.put, List.setIfInBounds_toArray, List.set_cons_zero, List.set_cons_succ])
          refine wpAnyH_take (i := 3) (v := ?_) rfl (by kernel_rfl) (by kernel_rfl) (by kernel_rfl) (fun _ _ _ h => h) (Or.inl ⟨by rfl, by (intro w hSw; (try dsimp only at hSw); go_simp) <;> with_reducible rfl⟩) (by assumption) ?_
          (try simp only [List.getElem_toArray, List.getElem_cons_succ, List.getElem_cons_zero, Act.put, List.setIfInBounds_toArray, List.set_cons_zero, List.set_cons_succ])
          refine wpAnyH_take (i := 4) (v := ?_) rfl (by kernel_rfl) (by kernel_rfl) (by kernel_rfl) (fun _ _ _ h => h) (Or.inl ⟨by rfl, by (intro w hSw; (try dsimp only at hSw); go_simp) <;> with_reducible rfl⟩) (by assumption) ?_
          (try simp only [List.getElem_toArray, List.getElem_cons_succ, List.getElem_cons_zero, Act.put, List.setIfInBounds_toArray, List.set_cons_zero, List.set_cons_succ])
          refine wpAnyH_take (i := 5) (v := ?_) rfl (by kernel_rfl) (by kernel_rfl) (by kernel_rfl) (fun _ _ _ h => h) (Or.inl ⟨by rfl, by (intro w hSw; (try dsimp only at hSw); go_simp) <;> with_reducible rfl⟩) (by assumption) ?_
          (try simp only [List.getElem_toArray, List.getElem_cons_succ, List.getElem_cons_zero, Act.put, List.setIfInBounds_toArray, List.set_cons_zero, List.set_cons_succ])
          refine wpAnyH_take (i := 6) (v := ?_) rfl (by kernel_rfl) (by kernel_rfl) (by kernel_rfl) (fun _ _ _ h => h) (Or.inl ⟨by rfl, by (intro w hSw; (try dsimp only at hSw); go_simp) <;> with_reducible rfl⟩) (by assumption) ?_
          (try simp only [List.getElem_toArray, List.getElem_cons_succ, List.getElem_cons_zero, Act.put, List.setIfInBounds_toArray, List.set_cons_zero, List.set_cons_succ])
          refine wpAnyH_ready (rs := [7]) (by kernel_rfl) (by simp) ?_
          refine AllReadyH.cons rfl (fun K hK => ?_) AllReadyH.nil
          go_simp
          refine hK.out _ _ ?_ (fun hHeld => ?_)
          · with_reducible exact cells10_drew (w := w7) ⟨b0, s0, s1, s2, s3, s4, s5, s6, kk0, kk1⟩
          clear hK K
          (try simp only [List.getElem_toArray, List.getElem_cons_succ, List.getElem_cons_zero, Act.put, List.setIfInBounds_toArray, List.set_cons_zero, List.set_cons_succ])
          refine wpAnyH_take (i := 8) (v := ?_) rfl (by kernel_rfl) (by kernel_rfl) (by kernel_rfl) (fun _ _ _ h => h) (Or.inl ⟨by rfl, by (intro w hSw; (try dsimp only at hSw); go_simp) <;> with_reducible rfl⟩) (by assumption) ?_
          (try simp only [List.getElem_toArray, List.getElem_cons_succ, List.getElem_cons_zero, Act.put, List.setIfInBounds_toArray, List.set_cons_zero, List.set_cons_succ])
          refine wpAnyH_take (i := 9) (v := ?_) rfl (by kernel_rfl) (by kernel_rfl) (by kernel_rfl) (fun _ _ _ h => h) (Or.inl ⟨by rfl, by (intro w hSw; (try dsimp only at hSw); go_simp) <;> with_reducible rfl⟩) (by assumption) ?_
          (try simp only [List.getElem_toArray, List.getElem_cons_succ, List.getElem_cons_zero, Act.put, List.setIfInBounds_toArray, List.set_cons_zero, List.set_cons_succ])
          refine wpAnyH_ready (rs := [10]) (by kernel_rfl) (by simp) ?_
          refine AllReadyH.cons rfl (fun K hK => ?_) AllReadyH.nil
          go_simp
          with_reducible refine (resume_spec2 _ B kg J S1 (.slice av S1.stack.length cv) v (HKN.out.below (below_of ((Keep.refl [] w7).drew) HB7.out)) HB7d.out (H7.out.2.2.2.keep ((Keep.refl [] w7).drew) (by simp)) HL.out.1 HL.out.2.2.2.2.1 HL.out.2.1 HL.out.2.2.1 HL.out.2.2.2.1 HL.out.2.2.2.2.2.2.2).mono ?_
          rw [← HS2.out]
          rintro e9 w9 ⟨a9, c9, rfl, hiv9, hbv9, hk9⟩
          have q0 := cell_keep0 hk9.of_drew b0
          have q1 := cell_keep0 hk9.of_drew s0
          have q2 := cell_keep0 hk9.of_drew s1
          have q3 := cell_keep0 hk9.of_drew s2
          have q4 := cell_keep0 hk9.of_drew s3
          have q5 := cell_keep0 hk9.of_drew s4
          have q6 := cell_keep0 hk9.of_drew s5
          have q7 := cell_keep0 hk9.of_drew s6
          have q8 := cell_keep0 hk9.of_drew kk0
          have q9 := cell_keep0 hk9.of_drew kk1
          have P1 := H7.out.2.1.keep hk9.of_drew (by simp)
          have P2 := H7.out.2.2.1.keep hk9.of_drew (by simp)
          have t0 : w9.cell? ⟨p1, 0, none⟩ = some (.int .i64 S1.fn) := P1.cell 0
          have t1 : w9.cell? ⟨p1, 1, none⟩ = some (.int .i64 S1.pc) := P1.cell 1
          have t2 : w9.cell? ⟨p1, 2, none⟩ = some (.int .i64 S1.fuel) := P1.cell 2
          have t3 : w9.cell? ⟨p1, 3, none⟩ = some (.slice av S1.stack.length cv) := P1.cell 3
          have t4 : w9.cell? ⟨p1, 4, none⟩ = some (.slice none 0 0) := P1.cell 4
          have t5 : w9.cell? ⟨p1, 5, none⟩ = some (.int .i64 S1.kids) := P1.cell 5
          have t6 : w9.cell? ⟨p1, 6, none⟩ = some (.bool S1.waits) := P1.cell 6
          have r0 : w9.cell? ⟨p2, 0, none⟩ = some (.int .i64 2) := P2.cell 0
          have r1 : w9.cell? ⟨p2, 1, none⟩ = some (.int .i64 eb) := P2.cell 1
          have r2 : w9.cell? ⟨p2, 2, none⟩ = some (.int .i64 (k : Int)) := P2.cell 2
          have r3 : w9.cell? ⟨p2, 3, none⟩ = some (.int .i64 en) := P2.cell 3
          have r4 : w9.cell? ⟨p2, 4, none⟩ = some (.slice none 0 0) := P2.cell 4
          have r5 : w9.cell? ⟨p2, 5, none⟩ = some (.int .i64 ex) := P2.cell 5
          have r6 : w9.cell? ⟨p2, 6, none⟩ = some (.int .i64 ey) := P2.cell 6
          have tf : ∀ i, w9.frozen? ⟨p1, i, none⟩ = false := fun i => P1.frozen i
          have rf : ∀ i, w9.frozen? ⟨p2, i, none⟩ = false := fun i => P2.frozen i
          have H9 := Lib.hid (And.intro hiv9 (And.intro hbv9 hk9.of_drew))
          clear hiv9 hbv9 hk9 P1 P2 b0 s0 s1 s2 s3 s4 s5 s6 sf kk0 kk1 e2
          go_wp2_with fail
          refine hK.out _ _ ?_ (fun hHeld => ?_)
          · with_reducible exact ⟨q0, q1, q2, q3, q4, q5, q6, q7, q8, q9⟩
          clear hK K
          (try simp only [List.getElem_toArray, List.getElem_cons_succ, List.getElem_cons_zero, Act.put, List.setIfInBounds_toArray, List.set_cons_zero, List.set_cons_succ])
          refine wpAnyH_take (i := 11) (v := ?_) rfl (by kernel_rfl) (by kernel_rfl) (by kernel_rfl) (fun _ _ _ h => h) (Or.inl ⟨by rfl, by (intro w hSw; (try dsimp only at hSw); go_simp) <;> with_reducible rfl⟩) (by assumption) ?_
          (try simp only [List.getElem_toArray, List.getElem_cons_succ, List.getElem_cons_zero, Act.put, List.setIfInBounds_toArray, List.set_cons_zero, List.set_cons_succ])
          refine wpAnyH_take (i := 12) (v := ?_) rfl (by kernel_rfl) (by kernel_rfl) (by kernel_rfl) (fun _ _ _ h => h) (Or.inl ⟨by rfl, by (intro w hSw; (try dsimp only at hSw); go_simp) <;> with_reducible rfl⟩) (by assumption) ?_
          (try simp only [List.getElem_toArray, List.getElem_cons_succ, List.getElem_cons_zero, Act.put, List.setIfInBounds_toArray, List.set_cons_zero, List.set_cons_succ])
          refine wpAnyH_take (i := 13) (v := ?_) rfl (by kernel_rfl) (by kernel_rfl) (by kernel_rfl) (fun _ _ _ h => h) (Or.inl ⟨by rfl, by (intro w hSw; (try dsimp only at hSw); go_simp) <;> with_reducible rfl⟩) (by assumption) ?_
          (try simp only [List.getElem_toArray, List.getElem_cons_succ, List.getElem_cons_zero, Act.put, List.setIfInBounds_toArray, List.set_cons_zero, List.set_cons_succ])
          refine wpAnyH_ready (rs := [14]) (by kernel_rfl) (by simp) ?_
          refine AllReadyH.cons rfl (fun K hK => ?_) AllReadyH.nil
          go_simp
          refine hK.out _ _ ?_ (fun hHeld => ?_)
          · with_reducible exact cells10_set (w := w9) (by omega) (by omega) (by omega) ⟨q0, q1, q2, q3, q4, q5, q6, q7, q8, q9⟩
          clear hK K
          (try simp only [List.getElem_toArray, List.getElem_cons_succ, List.getElem_cons_zero, Act.put, List.setIfInBounds_toArray, List.set_cons_zero, List.set_cons_succ])
          refine wpAnyH_ready (rs := [15]) (by kernel_rfl) (by simp) ?_
          refine AllReadyH.cons rfl (fun K hK => ?_) AllReadyH.nil
          go_simp
          refine hK.out _ _ ?_ (fun hHeld => ?_)
          · with_reducible exact cells10_set (by omega) (by omega) (by omega) (cells10_set (w := w9) (by omega) (by omega) (by omega) ⟨q0, q1, q2, q3, q4, q5, q6, q7, q8, q9⟩)
          clear hK K
          (try simp only [List.getElem_toArray, List.getElem_cons_succ, List.getElem_cons_zero, Act.put, List.setIfInBounds_toArray, List.set_cons_zero, List.set_cons_succ])
          refine wpAnyH_done (by kernel_rfl) ?_ _
          clear hHeld
          have hAR := after_resume H7.out.1 H7.out.2.1 H7.out.2.2.1 rfl rfl (Ne.symm n3) (Ne.symm n4) pb1 pb2 H9.out.2.2 H9.out.1 H9.out.2.1
          have HAR := Lib.hid hAR
          clear hAR q0 q1 q2 q3 q4 q5 q6 q7 q8 q9 t0 t1 t2 t3 t4 t5 t6 r0 r1 r2 r3 r4 r5 r6 tf rf
          generalize ((((((((((((((w9.setCell ⟨p1, 0, none⟩ (.int .i64 S2.fn)).setCell ⟨p1, 1, none⟩ (.int .i64 S2.pc)).setCell ⟨p1, 2, none⟩ (.int .i64 S2.fuel)).setCell ⟨p1, 3, none⟩ (.slice a9 S2.stack.length c9)).setCell ⟨p1, 4, none⟩ (.slice none 0 0)).setCell ⟨p1, 5, none⟩ (.int .i64 S2.kids)).setCell ⟨p1, 6, none⟩ (.bool S2.waits)).setCell ⟨p2, 0, none⟩ (.int .i64 0)).setCell ⟨p2, 1, none⟩ (.int .i64 0)).setCell ⟨p2, 2, none⟩ (.int .i64 0)).setCell ⟨p2, 3, none⟩ (.int .i64 0)).setCell ⟨p2, 4, none⟩ (.slice none 0 0)).setCell ⟨p2, 5, none⟩ (.int .i64 0)).setCell ⟨p2, 6, none⟩ (.int .i64 0)) = w10 at *
          obtain ⟨hd10, hb101, hb102, hiv10⟩ := HAR.out
          have a0 : w10.cell? ⟨p1, 0, none⟩ = some (.int .i64 S2.fn) := hb101.cell 0
          have a1 : w10.cell? ⟨p1, 1, none⟩ = some (.int .i64 S2.pc) := hb101.cell 1
          have a2 : w10.cell? ⟨p1, 2, none⟩ = some (.int .i64 S2.fuel) := hb101.cell 2
          have a3 : w10.cell? ⟨p1, 3, none⟩ = some (.slice a9 S2.stack.length c9) := hb101.cell 3
          have a4 : w10.cell? ⟨p1, 4, none⟩ = some (.slice none 0 0) := hb101.cell 4
          have a5 : w10.cell? ⟨p1, 5, none⟩ = some (.int .i64 S2.kids) := hb101.cell 5
          have a6 : w10.cell? ⟨p1, 6, none⟩ = some (.bool S2.waits) := hb101.cell 6
          have z0 : w10.cell? ⟨w1.heap.size, 0, none⟩ = some (.int .i64 S1.fn) := hd10.st.cell 0
          have z1 : w10.cell? ⟨w1.heap.size, 1, none⟩ = some (.int .i64 S1.pc) := hd10.st.cell 1
          have z2 : w10.cell? ⟨w1.heap.size, 2, none⟩ = some (.int .i64 S1.fuel) := hd10.st.cell 2
          have z3 : w10.cell? ⟨w1.heap.size, 3, none⟩ = some (.slice av S1.stack.length cv) := hd10.st.cell 3
          have z4 : w10.cell? ⟨w1.heap.size, 4, none⟩ = some (.slice none 0 0) := hd10.st.cell 4
          have z5 : w10.cell? ⟨w1.heap.size, 5, none⟩ = some (.int .i64 S1.kids) := hd10.st.cell 5
          have z6 : w10.cell? ⟨w1.heap.size, 6, none⟩ = some (.bool S1.waits) := hd10.st.cell 6
          have zf : ∀ i, w10.frozen? ⟨w1.heap.size, i, none⟩ = false := fun i => hd10.st.frozen i
          have e0 : w10.cell? ⟨p2, 0, none⟩ = some (.int .i64 0) := hb102.cell 0
          have hd11 := hd10.state (keep7 (w := w10) (g := w1.heap.size) (.int .i64 S2.fn) (.int .i64 S2.pc) (.int .i64 S2.fuel) (.slice a9 S2.stack.length c9) (.slice none 0 0) (.int .i64 S2.kids) (.bool S2.waits)) (set7 (a := .int .i64 S1.fn) (b := .int .i64 S1.pc) (c := .int .i64 S1.fuel) (d := .slice av S1.stack.length cv) (e := .slice none 0 0) (f := .int .i64 S1.kids) (h := .bool S1.waits) hd10.st (.int .i64 S2.fn) (.int .i64 S2.pc) (.int .i64 S2.fuel) (.slice a9 S2.stack.length c9) (.slice none 0 0) (.int .i64 S2.kids) (.bool S2.waits))
          have hiv11 := hiv10.keep (keep7 (w := w10) (g := w1.heap.size) (.int .i64 S2.fn) (.int .i64 S2.pc) (.int .i64 S2.fuel) (.slice a9 S2.stack.length c9) (.slice none 0 0) (.int .i64 S2.kids) (.bool S2.waits)) (fun z hz hm => by have h5 : w7.heap.size ≤ z := H9.out.2.1 z hz; rw [List.mem_singleton] at hm; have := H7.out.1.st.lt; omega)
          have H11 := Lib.hid (And.intro hd11 hiv11)
          clear hd10 hb101 hb102 hiv10 hd11 hiv11
          go_wp2_with fail
          go_roundw
          case rel =>
            refine ⟨n', S2, ks, R2.set R.length { x2 with aw := aw' }, _, .slice a9 S2.stack.length c9, m + 1, ys ++ [.int .i64 (k : Int)], { x2 with aw := aw' }, by have := HAF.out.1; have := HAF.out.2.2.1; omega, by have := HKS.out; have := HAF.out.2.2.1; omega, ?_, H11.out.1, H11.out.2, by rw [List.getElem?_set_self (get_lt HC2.out.1)], by rw [HC2.out.2.2.2.2.1]; exact HAF.out.2.1, fun i hi => by rw [List.getElem?_set_ne (by omega)]; exact HC2.out.2.2.2.1 i hi⟩
            rw [map_set_same (z' := { x2 with aw := aw' }) HC2.out.1 rfl, HC2.out.2.2.1, HS2.out]
            exact HL.out.2.2.2.2.2.1
          case measure =>
            rw [← HN.out, HAF.out.2.2.1]
            refine Nat.lt_succ_of_le (least_le (P := fun n => DoHead J N id E2 r w B g kg w1.heap.size (.slice va R.length vc) R n _ _) ?_)
            refine ⟨S2, ks, R2.set R.length { x2 with aw := aw' }, _, .slice a9 S2.stack.length c9, m + 1, ys ++ [.int .i64 (k : Int)], { x2 with aw := aw' }, by have := HAF.out.1; have := HAF.out.2.2.1; omega, by have := HKS.out; have := HAF.out.2.2.1; omega, ?_, H11.out.1, H11.out.2, by rw [List.getElem?_set_self (get_lt HC2.out.1)], by rw [HC2.out.2.2.2.2.1]; exact HAF.out.2.1, fun i hi => by rw [List.getElem?_set_ne (by omega)]; exact HC2.out.2.2.2.1 i hi⟩
            rw [map_set_same (z' := { x2 with aw := aw' }) HC2.out.1 rfl, HC2.out.2.2.1, HS2.out]
            exact HL.out.2.2.2.2.2.1
end Go.Proofs.YtndpbkhpllmhmaaDoor
