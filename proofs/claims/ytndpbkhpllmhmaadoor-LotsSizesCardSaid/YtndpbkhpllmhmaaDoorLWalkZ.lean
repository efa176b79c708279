/- LotsSizes, under the example's answer. -/
import Derived.Test.YtndpbkhpllmhmaaDoorRows
import Derived.WalkKit
import Derived.WalkSpells
import Derived.WalkLawsBesides
import Derived.RegionTactic
import Derived.ChangeAlike
import Derived.BigQuiet
import Derived.Deep.QuietTactic
import Derived.StillTailTactics
import Derived.IntWalk
import Derived.Handy
import Derived.Lib.Hide
import Derived.Deep.AppendLies
import Derived.Deep.RegionWith
import Derived.Test.YtndpbkhpllmhmaaDoorMSAA
import Derived.Test.YtndpbkhpllmhmaaDoorMSAB
import Derived.Carry
import Derived.Deep.RegionHeld3
import Derived.BigRegion
import Derived.Maps.OwnSet
import Derived.Maps.Views
import Derived.Maps.StringElems
import Derived.Test.YtndpbkhpllmhmaaDoorMSAC
import Derived.Shelf.Spec.SlicesGrow
import Derived.Laws.MakeOwn
import Derived.Laws.Tables
import Derived.Deep.RegionLaw
import Derived.Test.YtndpbkhpllmhmaaDoorMSAD
import Derived.Test.YtndpbkhpllmhmaaDoorMSAG
import Derived.Test.YtndpbkhpllmhmaaDoorMSAH
import Derived.Test.YtndpbkhpllmhmaaDoorLSizes
namespace Go.Proofs.YtndpbkhpllmhmaaDoor
set_option linter.unusedSimpArgs false
set_option linter.unnecessarySimpa false
set_option linter.unusedVariables false
open Go.RowKit
theorem walk_lotsSizes {wide deep n : Int} (W : World) (_hE : Env W) (_ha : (Lit.int .i64 wide).wf = true) (_hb : (Lit.int .i64 deep).wf = true) (_hc : (Lit.int .i64 n).wf = true) : Calls Tryd.prog 3 #[.int .i64 wide, .int .i64 deep, .int .i64 n] W fun e w' => e = .returned (.bool true) ∧ Below W.heap.size W w' :=
  (sizes_walk W wide deep n (min (max 0 wide) 8).toNat (min (max 0 deep) 5).toNat (min (max 0 n) 10).toNat (by omega) (by omega) (by omega)).mono fun _ _ ⟨h1, h2⟩ => ⟨h1, h2.to_below⟩
end Go.Proofs.YtndpbkhpllmhmaaDoor
