/- CodeWays: all kinds joined. -/
import Derived.Test.YtbdkmfcgnolihaaRows
import Derived.WalkKit
import Derived.WalkSpells
import Derived.WalkLawsBesides
import Derived.RegionTactic
import Derived.ChangeAlike
import Derived.BigQuiet
import Derived.Deep.QuietTactic
import Derived.StillTailTactics
import Derived.IntWalk
import Derived.Handy
import Derived.Lib.Hide
import Derived.Deep.AppendLies
import Derived.Deep.RegionWith
import Derived.Test.YtbdkmfcgnolihaaBase
import Derived.Test.YtbdkmfcgnolihaaTail
import Derived.Test.YtbdkmfcgnolihaaArgs
import Derived.Test.YtbdkmfcgnolihaaAppend
import Derived.Test.YtbdkmfcgnolihaaWords
import Derived.Test.YtbdkmfcgnolihaaWordsLaw
import Derived.Test.YtbdkmfcgnolihaaStack
import Derived.Test.YtbdkmfcgnolihaaRefWords
import Derived.Test.YtbdkmfcgnolihaaTellsLaw
import Derived.Test.YtbdkmfcgnolihaaWaysLaw
namespace Go.Proofs.Ytbdkmfcgnolihaa
open Go.RowKit

set_option maxHeartbeats 4000000 in
theorem ways_any (w : World) (op n at_ : Int) : Calls Try.prog 4 #[.int .i64 op, .int .i64 n, .int .i64 at_] w (WaysPost w) := by
  by_cases hg : (0 ≤ at_ ∧ at_ ≤ 1000) ∧ 0 ≤ n ∧ n ≤ 1000
  · obtain ⟨⟨g1, g2⟩, g3, g4⟩ := hg
    by_cases h14 : op = 14
    · subst h14
      exact ways_jump w n at_ g1 g2 g3 g4
    by_cases h15 : op = 15
    · subst h15
      by_cases hz : n = at_ + 1
      · subst hz
        exact ways_zeroNext w at_ g1 (by omega)
      · exact ways_zero w n at_ g1 g2 g3 g4 (by simpa using hz)
    by_cases h16 : op = 16
    · subst h16
      by_cases h0 : n = 0
      · subst h0
        exact ways_spawn0 w at_ g1 g2
      by_cases h1 : n = 1
      · subst h1
        exact ways_spawn1 w at_ g1 g2
      exact ways_spawn2 w n at_ g1 g2 (by omega) g4
    by_cases hp : 1 ≤ op ∧ op ≤ 17
    · exact ways_plain w op n at_ g1 g2 g3 g4 hp.1 (by omega)
    by_cases he : op = 18 ∨ op = 19
    · exact ways_end w op n at_ g1 g2 g3 g4 he
    exact ways_none w op n at_ g1 g2 g3 g4 (by unfold NoOp; omega)
  · go_enter Try.func4, Try.ntmps4
    go_wp2_with fail
    refine (alive3 _).mono ?_
    rintro e w1 ⟨rfl, hk1⟩
    have hc : at_ < 0 ∨ (0 ≤ at_ ∧ 1000 < at_) ∨ ((0 ≤ at_ ∧ at_ ≤ 1000) ∧ (n < 0 ∨ (0 ≤ n ∧ 1000 < n))) := by omega
    clear hg
    rcases hc with h | ⟨h, h'⟩ | ⟨⟨h, h'⟩, h2 | ⟨h2, h3⟩⟩
    all_goals (go_wp2; go_ret; exact ⟨rfl, hk1⟩)
theorem walk_codeWays (W : World) {op n at_ : Int} (w0 : (Lit.int .i64 op).wf = true) (w1 : (Lit.int .i64 n).wf = true) (w2 : (Lit.int .i64 at_).wf = true) :
    Calls Try.prog 4 #[.int .i64 op, .int .i64 n, .int .i64 at_] W fun e w' => e = .returned (.bool true) ∧ Below W.heap.size W w' :=
  (ways_any W op n at_).mono fun _ _ ⟨he, hk⟩ => ⟨he, hk.to_below⟩
end Go.Proofs.Ytbdkmfcgnolihaa
