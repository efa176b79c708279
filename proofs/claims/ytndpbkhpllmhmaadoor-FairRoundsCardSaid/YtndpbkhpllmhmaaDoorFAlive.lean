/- fair: the example of the document. -/
import Derived.Test.YtndpbkhpllmhmaaDoorRows
import Derived.WalkKit
import Derived.WalkSpells
import Derived.WalkLawsBesides
import Derived.RegionTactic
import Derived.ChangeAlike
import Derived.BigQuiet
import Derived.Deep.QuietTactic
import Derived.StillTailTactics
import Derived.IntWalk
import Derived.Handy
import Derived.Lib.Hide
import Derived.Deep.AppendLies
import Derived.Deep.RegionWith
import Derived.Test.YtndpbkhpllmhmaaDoorBase
import Derived.Test.YtndpbkhpllmhmaaDoorTail
import Derived.Test.YtndpbkhpllmhmaaDoorArgs
import Derived.Test.YtndpbkhpllmhmaaDoorAppend
import Derived.Test.YtndpbkhpllmhmaaDoorOffs
import Derived.Test.YtndpbkhpllmhmaaDoorStructs
import Derived.Test.YtndpbkhpllmhmaaDoorShelf
import Derived.Carry
import Derived.Deep.RegionHeld3
import Derived.BigRegion
import Derived.Maps.OwnSet
import Derived.Maps.Views
import Derived.Maps.StringElems
import Derived.Test.YtndpbkhpllmhmaaDoorMaps2
import Derived.Test.YtndpbkhpllmhmaaDoorFWords
import Derived.Test.YtndpbkhpllmhmaaDoorFEnv
import Derived.Test.YtndpbkhpllmhmaaDoorFPlain
import Derived.Test.YtndpbkhpllmhmaaDoorFSteps
namespace Go.Proofs.YtndpbkhpllmhmaaDoor
open Go.RowKit
def aliveL : List ST := [⟨1, 1, 0, 0⟩, ⟨2, 0, 0, 0⟩, ⟨1, 1, 0, 0⟩]
theorem itoa_one : Lib.itoa 1 = [49] := by
  unfold Lib.itoa
  rw [if_neg (by decide), dec_small (by decide)]
  rfl
theorem alive_print : strB (printL aliveL) = ⟨#[119, 111, 114, 107, 32, 49, 10, 116, 105, 99, 107, 10, 119, 111, 114, 107, 32, 49, 10]⟩ := by
  have h1 : lineL ⟨1, 1, 0, 0⟩ = [119, 111, 114, 107, 32, 49] := by
    unfold lineL partsL
    simp [fieldsL, wordL, itoa_one, glue, kWork]
  have h2 : lineL ⟨2, 0, 0, 0⟩ = [116, 105, 99, 107] := by
    unfold lineL partsL
    simp [fieldsL, wordL, glue, kTick]
  have hg : aliveL.all goodL = true := by decide
  unfold printL
  rw [if_pos hg]
  simp [aliveL, h1, h2, strB]
theorem steps_block {w : World} {g : Nat} {l : List ST} (h : Blk w g 38 (l.flatMap stC)) : StepsAt w (.slice (some ⟨g, 0, none⟩) l.length l.length) l := by
  refine ⟨_, _, rfl, fun i s hs => ⟨g, 0, rfl, h.lt, fun j u hu => ?_⟩⟩
  have hj : j < 4 := by
    rcases Nat.lt_or_ge j 4 with h9 | h9
    · exact h9
    · rw [List.getElem?_eq_none (by rw [stC_len]; exact h9)] at hu; cases hu
  rw [Nat.zero_add, h.cell, flat_at stC_len l i s j hs hj]
  exact hu
set_option maxHeartbeats 1600000 in
theorem alive_spec {w : World} (hE : Env w) : Calls Tryd.prog 20 #[] w fun e w' => e = .returned (.bool true) ∧ Keep [] w w' := by
  have HE := Lib.hid hE
  clear hE
  go_enter Tryd.func20, Tryd.ntmps20
  go_wp2_with fail
  have kA : Keep [] w (w.alloc (.cells #[.int .i64 1, .int .i64 1, .int .i64 0, .int .i64 0, .int .i64 2, .int .i64 0, .int .i64 0, .int .i64 0, .int .i64 1, .int .i64 1, .int .i64 0, .int .i64 0] 38)) := (Keep.refl _ _).alloc _
  have hb : StepsAt (w.alloc (.cells #[.int .i64 1, .int .i64 1, .int .i64 0, .int .i64 0, .int .i64 2, .int .i64 0, .int .i64 0, .int .i64 0, .int .i64 1, .int .i64 1, .int .i64 0, .int .i64 0] 38)) (.slice (some ⟨w.heap.size, 0, none⟩) 3 3) aliveL := steps_block (l := aliveL) (Blk.new' _ _ _ _ rfl)
  have H := Lib.hid (And.intro kA hb)
  clear kA hb
  refine (gap_spec (l := aliveL) H.out.2 1 (by decide)).mono ?_
  rintro e w2 ⟨rfl, hk2⟩
  have hp := Lib.hid (print_spec (HE.out.keep (H.out.1.trans hk2 (by simp))) (l := aliveL) (H.out.2.keep0 hk2) (by
    intro s hs
    simp only [aliveL, List.mem_cons, List.mem_nil_iff, or_false] at hs
    rcases hs with rfl | rfl | rfl <;> exact ⟨⟨by decide, by decide⟩, ⟨by decide, by decide⟩, ⟨by decide, by decide⟩, ⟨by decide, by decide⟩⟩) (by decide))
  have Hk := Lib.hid (H.out.1.trans hk2 (by simp))
  have hg : ((gapN 1 0 0 aliveL : Nat) : Int) = 1 := by decide
  rw [hg]
  clear hg hk2 H
  go_wp2_with fail
  refine hp.out.mono ?_
  rintro e w3 ⟨rfl, hk3⟩
  rw [alive_print]
  have Hk3 := Lib.hid (Hk.out.trans hk3 (by simp))
  clear hk3 hp
  go_wp2
  go_ret
  exact ⟨rfl, Hk3.out⟩
end Go.Proofs.YtndpbkhpllmhmaaDoor
