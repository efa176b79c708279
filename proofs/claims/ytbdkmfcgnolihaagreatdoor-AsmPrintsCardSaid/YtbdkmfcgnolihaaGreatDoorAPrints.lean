/- asm: the law of jobs printed, walked -/
import Derived.Test.YtbdkmfcgnolihaaGreatDoorRows
import Derived.WalkKit
import Derived.WalkSpells
import Derived.WalkLawsBesides
import Derived.RegionTactic
import Derived.ChangeAlike
import Derived.BigQuiet
import Derived.Deep.QuietTactic
import Derived.StillTailTactics
import Derived.IntWalk
import Derived.Handy
import Derived.Lib.Hide
import Derived.Deep.AppendLies
import Derived.Deep.RegionWith
import Derived.Test.YtbdkmfcgnolihaaGreatDoorBase
import Derived.Test.YtbdkmfcgnolihaaGreatDoorTail
import Derived.Test.YtbdkmfcgnolihaaGreatDoorArgs
import Derived.Test.YtbdkmfcgnolihaaGreatDoorAppend
import Derived.Test.YtbdkmfcgnolihaaGreatDoorOffs
import Derived.Test.YtbdkmfcgnolihaaGreatDoorStructs
import Derived.Carry
import Derived.Deep.RegionHeld3
import Derived.BigRegion
import Derived.Maps.OwnSet
import Derived.Maps.Views
import Derived.Maps.StringElems
import Derived.Test.YtbdkmfcgnolihaaGreatDoorMaps2
import Derived.Deep.CutRange
import Derived.Deep.CutBlock
import Derived.Test.YtbdkmfcgnolihaaGreatDoorASame
import Derived.Test.YtbdkmfcgnolihaaGreatDoorAAlive
import Derived.Test.YtbdkmfcgnolihaaGreatDoorARPr
import Derived.Test.YtbdkmfcgnolihaaGreatDoorABig
namespace Go.Proofs.YtbdkmfcgnolihaaGreatDoor
set_option linter.unusedSimpArgs false
set_option linter.unnecessarySimpa false
set_option linter.unusedVariables false
open Go.RowKit
set_option maxHeartbeats 6400000 in
set_option maxRecDepth 100000 in
theorem prints_walk {w : World} {jv : Value} {j : JB} (hE : Env1 w) (h : JobRd w jv j) (hj : j.In) (hz : JobSz j) : Calls Tryz.prog 3 #[jv] w fun e w' => e = .returned (.bool true) ∧ Keep [] w w' := by
  have HE := Lib.hid hE
  have HJ := Lib.hid (And.intro h (And.intro hj hz))
  obtain ⟨fa, fc, aa, ac, rfl, _, _⟩ := jobRd_cells h
  have kA : Keep [] w (w.alloc (.cells #[.slice fa j.funcs.length fc, .int .i64 j.main, .slice aa j.args.length ac, .int .i64 j.fuel, .int .i64 j.tasks] 25)) := (Keep.refl _ _).alloc _
  have bA : Blk (w.alloc (.cells #[.slice fa j.funcs.length fc, .int .i64 j.main, .slice aa j.args.length ac, .int .i64 j.fuel, .int .i64 j.tasks] 25)) w.heap.size 25 (jobC fa fc aa ac j) := Blk.new' _ _ _ _ rfl
  have H1 := Lib.hid (And.intro kA bA)
  clear hE h hj hz kA bA
  go_enter Tryz.func3, Tryz.ntmps3
  go_upto_region 1 with fail
  generalize (w.alloc (.cells #[.slice fa j.funcs.length fc, .int .i64 j.main, .slice aa j.args.length ac, .int .i64 j.fuel, .int .i64 j.tasks] 25)) = w1 at *
  generalize w.heap.size = g1 at *
  go_wp2_with fail
  refine (alive_spec (HE.out.keep H1.out.1)).mono ?_
  rintro e w2 ⟨rfl, hk⟩
  have H2 := Lib.hid (And.intro (H1.out.1.trans hk (by simp)) (H1.out.2.keep hk (by simp)))
  clear hk
  have z0 : w2.cell? ⟨g1, 0, none⟩ = some (.slice fa j.funcs.length fc) := H2.out.2.cell 0
  have z1 : w2.cell? ⟨g1, 1, none⟩ = some (.int .i64 j.main) := H2.out.2.cell 1
  have z2 : w2.cell? ⟨g1, 2, none⟩ = some (.slice aa j.args.length ac) := H2.out.2.cell 2
  have z3 : w2.cell? ⟨g1, 3, none⟩ = some (.int .i64 j.fuel) := H2.out.2.cell 3
  have z4 : w2.cell? ⟨g1, 4, none⟩ = some (.int .i64 j.tasks) := H2.out.2.cell 4
  go_wp2_with fail
  refine (big_spec (HJ.out.1.keep0 H2.out.1) HJ.out.2.2).mono ?_
  rintro e w3 ⟨b, rfl, hk, hbig⟩
  have H3 := Lib.hid (And.intro (H2.out.1.trans hk (by simp)) (H2.out.2.keep hk (by simp)))
  clear hk
  clear z0 z1 z2 z3 z4
  cases b with
  | true =>
    clear hbig
    go_wp2
    go_ret
    exact ⟨rfl, H3.out.1⟩
  | false =>
    have HS := Lib.hid (hbig rfl)
    clear hbig
    have y0 : w3.cell? ⟨g1, 0, none⟩ = some (.slice fa j.funcs.length fc) := H3.out.2.cell 0
    have y1 : w3.cell? ⟨g1, 1, none⟩ = some (.int .i64 j.main) := H3.out.2.cell 1
    have y2 : w3.cell? ⟨g1, 2, none⟩ = some (.slice aa j.args.length ac) := H3.out.2.cell 2
    have y3 : w3.cell? ⟨g1, 3, none⟩ = some (.int .i64 j.fuel) := H3.out.2.cell 3
    have y4 : w3.cell? ⟨g1, 4, none⟩ = some (.int .i64 j.tasks) := H3.out.2.cell 4
    go_wp2_with fail
    refine (rplainJ_spec (HJ.out.1.keep0 H3.out.1) HS.out.1 (Nat.le_trans HS.out.2.1 (by decide))).mono ?_
    rintro e w4 ⟨rfl, hk⟩
    have H4 := Lib.hid (And.intro (H3.out.1.trans hk (by simp)) (H3.out.2.keep hk (by simp)))
    clear hk
    clear y0 y1 y2 y3 y4
    have y0 : w4.cell? ⟨g1, 0, none⟩ = some (.slice fa j.funcs.length fc) := H4.out.2.cell 0
    have y1 : w4.cell? ⟨g1, 1, none⟩ = some (.int .i64 j.main) := H4.out.2.cell 1
    have y2 : w4.cell? ⟨g1, 2, none⟩ = some (.slice aa j.args.length ac) := H4.out.2.cell 2
    have y3 : w4.cell? ⟨g1, 3, none⟩ = some (.int .i64 j.fuel) := H4.out.2.cell 3
    have y4 : w4.cell? ⟨g1, 4, none⟩ = some (.int .i64 j.tasks) := H4.out.2.cell 4
    go_wp2_with fail
    refine (print_spec (HE.out.env.keep H4.out.1) (HJ.out.1.keep0 H4.out.1) HJ.out.2.1 HS.out.1 (Nat.le_trans HS.out.2.1 (by decide))).mono ?_
    rintro e w5 ⟨rfl, hk⟩
    have H5 := Lib.hid (And.intro (H4.out.1.trans hk (by simp)) (H4.out.2.keep hk (by simp)))
    clear hk
    clear y0 y1 y2 y3 y4
    have y0 : w5.cell? ⟨g1, 0, none⟩ = some (.slice fa j.funcs.length fc) := H5.out.2.cell 0
    have y1 : w5.cell? ⟨g1, 1, none⟩ = some (.int .i64 j.main) := H5.out.2.cell 1
    have y2 : w5.cell? ⟨g1, 2, none⟩ = some (.slice aa j.args.length ac) := H5.out.2.cell 2
    have y3 : w5.cell? ⟨g1, 3, none⟩ = some (.int .i64 j.fuel) := H5.out.2.cell 3
    have y4 : w5.cell? ⟨g1, 4, none⟩ = some (.int .i64 j.tasks) := H5.out.2.cell 4
    go_wp2_with fail
    refine (plainJ_spec (HJ.out.1.keep0 H5.out.1) HS.out.1 (Nat.le_trans HS.out.2.1 (by decide))).mono ?_
    rintro e w6 ⟨rfl, hk⟩
    have H6 := Lib.hid (And.intro (H5.out.1.trans hk (by simp)) (H5.out.2.keep hk (by simp)))
    clear hk
    clear y0 y1 y2 y3 y4
    have y0 : w6.cell? ⟨g1, 0, none⟩ = some (.slice fa j.funcs.length fc) := H6.out.2.cell 0
    have y1 : w6.cell? ⟨g1, 1, none⟩ = some (.int .i64 j.main) := H6.out.2.cell 1
    have y2 : w6.cell? ⟨g1, 2, none⟩ = some (.slice aa j.args.length ac) := H6.out.2.cell 2
    have y3 : w6.cell? ⟨g1, 3, none⟩ = some (.int .i64 j.fuel) := H6.out.2.cell 3
    have y4 : w6.cell? ⟨g1, 4, none⟩ = some (.int .i64 j.tasks) := H6.out.2.cell 4
    have hq : ((strB (printJ j)).toList == (strB (printJ j)).toList) = true := by simp
    by_cases hp : plainJ j = true
    · rw [hp]
      go_wp2_with fail
      refine (rprint_spec (HJ.out.1.keep0 H6.out.1) HJ.out.2.1 HS.out.1 (Nat.le_trans HS.out.2.1 (by decide))).mono ?_
      rintro e w7 ⟨rfl, hk⟩
      have H7 := Lib.hid (And.intro (H6.out.1.trans hk (by simp)) (H6.out.2.keep hk (by simp)))
      clear hk
      clear y0 y1 y2 y3 y4
      have hpj := (plainJ_iff j).1 hp
      have HRD := Lib.hid (show readJ (printJ j) = ⟨j, 0, 0⟩ from by
        unfold readJ
        rw [if_neg (Nat.not_lt.2 (printJ_small hpj HJ.out.2.1 HS.out.2.2))]
        exact readP_print hpj HJ.out.2.1)
      have HLE := Lib.hid (Nat.le_trans (printJ_small hpj HJ.out.2.1 HS.out.2.2) (show 131072 ≤ 1000000000 from by decide))
      clear hp hpj
      go_wp2_with fail
      refine (read_spec (HE.out.keep H7.out.1) (printJ j) HLE.out).mono ?_
      intro e w8 hr
      obtain ⟨kv, rfl, hj8, hk8⟩ := hr.job
      rw [HRD.out] at hj8 ⊢
      obtain ⟨fb, fd, ab, ad, rfl, _, _⟩ := jobRd_cells hj8
      have kB : Keep [] w8 (w8.alloc (.cells #[.slice fb j.funcs.length fd, .int .i64 j.main, .slice ab j.args.length ad, .int .i64 j.fuel, .int .i64 j.tasks] 25)) := (Keep.refl _ _).alloc _
      have bB : Blk (w8.alloc (.cells #[.slice fb j.funcs.length fd, .int .i64 j.main, .slice ab j.args.length ad, .int .i64 j.fuel, .int .i64 j.tasks] 25)) w8.heap.size 25 (jobC fb fd ab ad j) := Blk.new' _ _ _ _ rfl
      have k89 := hk8.trans kB (by simp)
      have H9 := Lib.hid (And.intro (H7.out.1.trans k89 (by simp)) (And.intro (H7.out.2.keep k89 (by simp)) (And.intro bB (hj8.keep0 kB))))
      clear hr hj8 hk8 kB bB k89
      simp only at *
      go_upto_region 12 with fail
      generalize (w8.alloc (.cells #[.slice fb j.funcs.length fd, .int .i64 j.main, .slice ab j.args.length ad, .int .i64 j.fuel, .int .i64 j.tasks] 25)) = w9 at *
      generalize w8.heap.size = g8 at *
      have y0 : w9.cell? ⟨g1, 0, none⟩ = some (.slice fa j.funcs.length fc) := H9.out.2.1.cell 0
      have y1 : w9.cell? ⟨g1, 1, none⟩ = some (.int .i64 j.main) := H9.out.2.1.cell 1
      have y2 : w9.cell? ⟨g1, 2, none⟩ = some (.slice aa j.args.length ac) := H9.out.2.1.cell 2
      have y3 : w9.cell? ⟨g1, 3, none⟩ = some (.int .i64 j.fuel) := H9.out.2.1.cell 3
      have y4 : w9.cell? ⟨g1, 4, none⟩ = some (.int .i64 j.tasks) := H9.out.2.1.cell 4
      have x0 : w9.cell? ⟨g8, 0, none⟩ = some (.slice fb j.funcs.length fd) := H9.out.2.2.1.cell 0
      have x1 : w9.cell? ⟨g8, 1, none⟩ = some (.int .i64 j.main) := H9.out.2.2.1.cell 1
      have x2 : w9.cell? ⟨g8, 2, none⟩ = some (.slice ab j.args.length ad) := H9.out.2.2.1.cell 2
      have x3 : w9.cell? ⟨g8, 3, none⟩ = some (.int .i64 j.fuel) := H9.out.2.2.1.cell 3
      have x4 : w9.cell? ⟨g8, 4, none⟩ = some (.int .i64 j.tasks) := H9.out.2.2.1.cell 4
      go_wp2_with fail
      refine (num_spec _ _).mono ?_
      rintro e w10 ⟨rfl, rfl⟩
      go_wp2_with fail
      refine (sameJob_spec (HJ.out.1.keep0 H9.out.1) H9.out.2.2.2 HS.out.1 (Nat.le_trans HS.out.2.1 (by decide))).mono ?_
      rintro e w11 ⟨rfl, hk11⟩
      have H11 := Lib.hid (H9.out.1.trans hk11 (by simp))
      clear hk11
      go_wp2_with fail
      go_ret
      exact ⟨rfl, H11.out⟩
    · have hp' : plainJ j = false := by simpa using hp
      rw [hp']
      go_wp2_with fail
      refine (rprint_spec (HJ.out.1.keep0 H6.out.1) HJ.out.2.1 HS.out.1 (Nat.le_trans HS.out.2.1 (by decide))).mono ?_
      rintro e w7 ⟨rfl, hk⟩
      have H7 := Lib.hid (And.intro (H6.out.1.trans hk (by simp)) (H6.out.2.keep hk (by simp)))
      clear hk
      clear y0 y1 y2 y3 y4
      have hem : (strB (printJ j)).toList.isEmpty = true := by
        have he : printJ j = [] := by unfold printJ; rw [if_neg hp]
        rw [he, strB_toList]
        rfl
      clear hp hp'
      go_wp2_with fail
      go_ret
      exact ⟨rfl, H7.out.1⟩
set_option maxRecDepth 100000 in
theorem walk_asmPrints {H : Type} {enc : TypeId × Value → H} {b0 : Nat} {v : Value} {d : DataW H} {p : List MemPlace} (W : World) (hE : Env1 W)
    (ho : Value.okWide Tryz.prog W .any b0 25 v) (h : DataW.Trod enc Tryz.prog W 0 (fun _ => true) true 25 v d p) (hwt : ∀ m ∈ d.weights Tryz.prog 25, m ≤ reachBytes) : Calls Tryz.prog 3 #[v] W fun e w' => e = .returned (.bool true) ∧ Below W.heap.size W w' := by
  obtain ⟨j, hj, hi, hz⟩ := job_open ho h hwt
  exact (prints_walk hE hj hi hz).mono fun e w' ⟨h1, h2⟩ => ⟨h1, h2.to_below⟩
end Go.Proofs.YtbdkmfcgnolihaaGreatDoor
