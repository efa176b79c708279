/- asm: which instructions can be written. -/
import Derived.Test.YtbdkmfcgnolihaaGreatDoorRows
import Derived.WalkKit
import Derived.WalkSpells
import Derived.WalkLawsBesides
import Derived.RegionTactic
import Derived.ChangeAlike
import Derived.BigQuiet
import Derived.Deep.QuietTactic
import Derived.StillTailTactics
import Derived.IntWalk
import Derived.Handy
import Derived.Lib.Hide
import Derived.Deep.AppendLies
import Derived.Deep.RegionWith
import Derived.Test.YtbdkmfcgnolihaaGreatDoorBase
import Derived.Test.YtbdkmfcgnolihaaGreatDoorTail
import Derived.Test.YtbdkmfcgnolihaaGreatDoorArgs
import Derived.Test.YtbdkmfcgnolihaaGreatDoorAppend
import Derived.Test.YtbdkmfcgnolihaaGreatDoorOffs
import Derived.Test.YtbdkmfcgnolihaaGreatDoorStructs
import Derived.Carry
import Derived.Deep.RegionHeld3
import Derived.BigRegion
import Derived.Maps.OwnSet
import Derived.Maps.Views
import Derived.Maps.StringElems
import Derived.Test.YtbdkmfcgnolihaaGreatDoorMaps2
import Derived.Deep.CutRange
import Derived.Deep.CutBlock
import Derived.Test.YtbdkmfcgnolihaaGreatDoorAWords
import Derived.Test.YtbdkmfcgnolihaaGreatDoorAObj
namespace Go.Proofs.YtbdkmfcgnolihaaGreatDoor
set_option linter.unusedSimpArgs false
set_option linter.unnecessarySimpa false
set_option linter.unusedVariables false
open Go.RowKit
/-- an instruction that can be written: plainI, told of the first test -/
theorem plainI_name {nf : Nat} {i : IN} (h : opName i.op = []) : plainI nf i = false := by unfold plainI; simp [h]
theorem jobRd_cells {w : World} {jv : Value} {j : JB} (h : JobRd w jv j) : ∃ fa fc aa ac, jv = .agg #[.slice fa j.funcs.length fc, .int .i64 j.main, .slice aa j.args.length ac, .int .i64 j.fuel, .int .i64 j.tasks] ∧ FnsRd w (.slice fa j.funcs.length fc) j.funcs ∧ IntsOf w (.slice aa j.args.length ac) j.args := by
  obtain ⟨fv, av, rfl, h1, h2⟩ := h
  obtain ⟨fa, fc, rfl⟩ := h1.shape
  obtain ⟨aa, ac, rfl⟩ := h2.shape
  exact ⟨fa, fc, aa, ac, rfl, h1, h2⟩
def PlainPost (b : Bool) (w : World) (e : Ending) (w' : World) : Prop := e = .returned (.bool b) ∧ Keep [] w w'
theorem plain_ret {b c : Bool} {w w' : World} (h : b = c) (k : Keep [] w w') : PlainPost b w (.returned (.bool c)) w' := by subst h; exact ⟨rfl, k⟩
set_option maxHeartbeats 3200000 in
set_option maxRecDepth 100000 in
theorem plain_spec {w : World} {jv : Value} {j : JB} (h : JobRd w jv j) (i : IN) (hnf : j.funcs.length ≤ 1000000) : Calls Tryz.prog 30 #[jv, inV i] w (PlainPost (plainI j.funcs.length i) w) := by
  obtain ⟨fa, fc, aa, ac, rfl, h1, h2⟩ := jobRd_cells h
  obtain ⟨op, n⟩ := i
  obtain ⟨res, hres⟩ : ∃ res, res = plainI j.funcs.length ⟨op, n⟩ := ⟨_, rfl⟩
  rw [← hres]
  have HR := Lib.hid hres
  have hnI : (j.funcs.length : Int) ≤ 1000000 := by omega
  unfold inV
  simp only
  have kk : Keep [] w ((w.alloc (.cells #[.slice fa j.funcs.length fc, .int .i64 j.main, .slice aa j.args.length ac, .int .i64 j.fuel, .int .i64 j.tasks] 25)).alloc (.cells #[.int .i64 op, .int .i64 n] 47)) := ((Keep.refl _ _).alloc _).alloc _
  have bA : Blk ((w.alloc (.cells #[.slice fa j.funcs.length fc, .int .i64 j.main, .slice aa j.args.length ac, .int .i64 j.fuel, .int .i64 j.tasks] 25)).alloc (.cells #[.int .i64 op, .int .i64 n] 47)) w.heap.size 25 [.slice fa j.funcs.length fc, .int .i64 j.main, .slice aa j.args.length ac, .int .i64 j.fuel, .int .i64 j.tasks] := (Blk.new' _ _ _ _ rfl).alloc _
  have bB : Blk ((w.alloc (.cells #[.slice fa j.funcs.length fc, .int .i64 j.main, .slice aa j.args.length ac, .int .i64 j.fuel, .int .i64 j.tasks] 25)).alloc (.cells #[.int .i64 op, .int .i64 n] 47)) (w.heap.size + 1) 47 [.int .i64 op, .int .i64 n] := by
    have e1 : (w.alloc (.cells #[.slice fa j.funcs.length fc, .int .i64 j.main, .slice aa j.args.length ac, .int .i64 j.fuel, .int .i64 j.tasks] 25)).heap.size = w.heap.size + 1 := by simp
    have := Blk.new' (w.alloc (.cells #[.slice fa j.funcs.length fc, .int .i64 j.main, .slice aa j.args.length ac, .int .i64 j.fuel, .int .i64 j.tasks] 25)) 47 #[.int .i64 op, .int .i64 n] _ rfl
    rw [e1] at this
    exact this
  have HB := Lib.hid (And.intro kk (And.intro bA bB))
  clear h h1 h2 hres hnf kk bA bB
  go_enter Tryz.func30, Tryz.ntmps30
  go_wp2_with fail
  generalize ((w.alloc (.cells #[.slice fa j.funcs.length fc, .int .i64 j.main, .slice aa j.args.length ac, .int .i64 j.fuel, .int .i64 j.tasks] 25)).alloc (.cells #[.int .i64 op, .int .i64 n] 47)) = w1 at *
  refine (name_spec _ op).mono ?_
  rintro e w2 ⟨rfl, hk2⟩
  have bA2 := HB.out.2.1.keep hk2 (by simp)
  have bB2 := HB.out.2.2.keep hk2 (by simp)
  have a0 : w2.cell? ⟨w.heap.size, 0, none⟩ = some (.slice fa j.funcs.length fc) := bA2.cell 0
  have b0 : w2.cell? ⟨w.heap.size + 1, 0, none⟩ = some (.int .i64 op) := bB2.cell 0
  have b1 : w2.cell? ⟨w.heap.size + 1, 1, none⟩ = some (.int .i64 n) := bB2.cell 1
  have HK := Lib.hid (HB.out.1.trans hk2 (by simp))
  clear hk2 bA2 bB2 HB
  by_cases hnm : opName op = []
  · have hem : (strB (opName op)).toList.isEmpty = true := by rw [hnm, strB_toList]; rfl
    have HF := Lib.hid (show res = false by rw [HR.out]; exact plainI_name hnm)
    clear hnm
    go_wp2
    go_ret
    exact plain_ret HF.out HK.out
  · have hem := strB_empty hnm
    go_wp2_with fail
    refine (hasN_spec _ op).mono ?_
    rintro e w3 ⟨rfl, rfl⟩
    by_cases hh : hasN op = true
    · rw [hh]
      by_cases h16 : op = 16
      · have h16B : (op != 16) = false := by simp [h16]
        by_cases h0 : 0 ≤ n
        · have h0B : decide ((0 : Int) ≤ n) = true := decide_eq_true h0
          by_cases hlt : n < j.funcs.length
          · have hltB : decide (n < (j.funcs.length : Int)) = true := decide_eq_true hlt
            have HF := Lib.hid (show res = true by rw [HR.out]; unfold plainI; simp [hnm, hh, h0, hlt])
            clear hnm hh h16
            go_wp2
            go_ret
            exact plain_ret HF.out HK.out
          · have hltB : decide (n < (j.funcs.length : Int)) = false := decide_eq_false hlt
            have HF := Lib.hid (show res = false by rw [HR.out]; unfold plainI; simp [hnm, hh, h16]; omega)
            clear hnm hh h16
            go_wp2
            go_ret
            exact plain_ret HF.out HK.out
        · have h0B : decide ((0 : Int) ≤ n) = false := decide_eq_false h0
          have HF := Lib.hid (show res = false by rw [HR.out]; unfold plainI; simp [hnm, hh, h16]; omega)
          clear hnm hh h16
          go_wp2
          go_ret
          exact plain_ret HF.out HK.out
      · have h16B : (op != 16) = true := by simpa using h16
        have HF := Lib.hid (show res = true by rw [HR.out]; unfold plainI; simp [hnm, hh, h16])
        clear hnm hh h16
        go_wp2
        go_ret
        exact plain_ret HF.out HK.out
    · have hh' : hasN op = false := by simpa using hh
      rw [hh']
      by_cases hz : n = 0
      · have hzB : (n != 0) = false := by simp [hz]
        have h16 : op ≠ 16 := by rintro rfl; cases hh'
        have h16B : (op != 16) = true := by simpa using h16
        have HF := Lib.hid (show res = true by rw [HR.out]; unfold plainI; simp [hnm, hh', h16, hz])
        clear hnm hh hh' h16 hz
        go_wp2
        go_ret
        exact plain_ret HF.out HK.out
      · have hzB : (n != 0) = true := by simpa using hz
        have HF := Lib.hid (show res = false by rw [HR.out]; unfold plainI; simp [hnm, hh', hz])
        clear hnm hh hh'
        go_wp2
        go_ret
        exact plain_ret HF.out HK.out
end Go.Proofs.YtbdkmfcgnolihaaGreatDoor
