/- LotsBegins, under the example's answer. -/
import Derived.Test.YtndpbkhpllmhmaaDoorRows
import Derived.WalkKit
import Derived.WalkSpells
import Derived.WalkLawsBesides
import Derived.RegionTactic
import Derived.ChangeAlike
import Derived.BigQuiet
import Derived.Deep.QuietTactic
import Derived.StillTailTactics
import Derived.IntWalk
import Derived.Handy
import Derived.Lib.Hide
import Derived.Deep.AppendLies
import Derived.Deep.RegionWith
import Derived.Test.YtndpbkhpllmhmaaDoorMSAA
import Derived.Test.YtndpbkhpllmhmaaDoorMSAB
import Derived.Carry
import Derived.Deep.RegionHeld3
import Derived.BigRegion
import Derived.Maps.OwnSet
import Derived.Maps.Views
import Derived.Maps.StringElems
import Derived.Test.YtndpbkhpllmhmaaDoorMSAC
import Derived.Test.YtndpbkhpllmhmaaDoorMSAH
import Derived.Test.YtndpbkhpllmhmaaDoorLBegins
namespace Go.Proofs.YtndpbkhpllmhmaaDoor
set_option linter.unusedSimpArgs false
set_option linter.unnecessarySimpa false
set_option linter.unusedVariables false
open Go.RowKit
theorem walk_lotsBegins {seed nodes n more : Int} (W : World) (_hE : Env W) (_ha : (Lit.int .i64 seed).wf = true) (_hb : (Lit.int .i64 nodes).wf = true) (_hc : (Lit.int .i64 n).wf = true) (_hd : (Lit.int .i64 more).wf = true) : Calls Tryd.prog 5 #[.int .i64 seed, .int .i64 nodes, .int .i64 n, .int .i64 more] W fun e w' => e = .returned (.bool true) ∧ Below W.heap.size W w' := by
  by_cases h : 1 ≤ nodes ∧ nodes ≤ 16 ∧ 0 ≤ n ∧ n ≤ 300 ∧ 0 ≤ more ∧ more ≤ 300
  · obtain ⟨h1, h2, h3, h4, h5, h6⟩ := h
    exact (lotsBegins_in alive_ok W seed nodes n more h1 h2 h3 h4 h5 h6).mono fun _ _ ⟨h1, h2⟩ => ⟨h1, h2.to_below⟩
  · exact (lotsBegins_out alive_ok W seed nodes n more (by omega)).mono fun _ _ ⟨h1, h2⟩ => ⟨h1, h2.to_below⟩
end Go.Proofs.YtndpbkhpllmhmaaDoor
