/- A byte made. -/
import Derived.Test.YtacifjjhadjhfaaRows
import Derived.WalkKit
import Derived.WalkSpells
import Derived.WalkLawsBesides
import Derived.RegionTactic
import Derived.ChangeAlike
import Derived.BigQuiet
import Derived.Deep.QuietTactic
import Derived.StillTailTactics
import Derived.IntWalk
import Derived.Handy
import Derived.Lib.Hide
import Derived.Deep.AppendLies
import Derived.Deep.RegionWith
import Derived.Test.YtacifjjhadjhfaaBase
import Derived.Test.YtacifjjhadjhfaaTail
import Derived.Test.YtacifjjhadjhfaaArgs
import Derived.Test.YtacifjjhadjhfaaAppend
import Derived.Deep.RegionLaw
import Derived.Test.YtacifjjhadjhfaaOffs
import Derived.Test.YtacifjjhadjhfaaStructs
import Derived.Test.YtacifjjhadjhfaaSplit
import Derived.Maps.OwnSet
import Derived.Maps.Views
import Derived.Test.YtacifjjhadjhfaaLinkBytes
import Derived.Test.YtacifjjhadjhfaaLinkObj
import Derived.Test.YtacifjjhadjhfaaLinkSend
import Derived.Test.YtacifjjhadjhfaaLinkDue
import Derived.Test.YtacifjjhadjhfaaLinkFrame
import Derived.Test.YtacifjjhadjhfaaLinkOut
import Derived.Test.YtacifjjhadjhfaaLinkOut2
namespace Go.Proofs.Ytacifjjhadjhfaa
open Go.RowKit
/-- the world behind '[]byte("x")', a row of one byte -/
def oneByte (w : World) (x : Value) : World := (w.alloc (.cells #[x] 5)).freeze ⟨w.heap.size, 1, none⟩ 1
theorem conv_new (w : World) (x : Value) : (convert 35 35 (.slice (some ⟨w.heap.size, 0, none⟩) 1 1)).run Try.prog (w.alloc (.cells #[x] 5)) = .ok (.slice (some ⟨w.heap.size, 0, none⟩) 1 1) (oneByte w x) := by
  have hsh : ∀ c : Array Value, (w.alloc (.cells c 5)).shape? w.heap.size = some (5, c.size) := by
    intro c
    simp [World.shape?, World.alloc, -World.alloc_eq]
  simp [convert, run_underlying Try.underlying35, run_underlying Try.underlying5, markStringish, Question.forced, oneByte, hsh, Result.andThen]
theorem oneByte_old (w : World) (x : Value) (j : Nat) (hj : j < w.heap.size) : (oneByte w x).heap[j]? = w.heap[j]? := by
  have h1 : w.heap.size ≠ j := by omega
  simp [oneByte, World.freeze, World.alloc, -World.alloc_eq, Array.getElem?_modify, Array.getElem?_push, h1, Ne.symm h1]
theorem oneByte_new (w : World) (x : Value) : (oneByte w x).heap[w.heap.size]? = some (.cells #[x] 5 (1, 2)) := by
  simp [oneByte, World.freeze, World.alloc, -World.alloc_eq]
  rw [Array.getElem_modify_self]
  simp
theorem oneByte_size (w : World) (x : Value) : (oneByte w x).heap.size = w.heap.size + 1 := by
  simp [oneByte, World.freeze, World.alloc, -World.alloc_eq]
theorem oneByte_keep (w : World) (x : Value) : Keep [] w (oneByte w x) := ⟨rfl, rfl, rfl, by rw [oneByte_size]; omega, fun k hk _ => oneByte_old w x k hk⟩
/-- .. the byte, in whatever world keeps that block -/
theorem oneByte_bytes {w w' : World} {x : UInt8} (h : w'.heap[w.heap.size]? = some (.cells #[u8 x] 5 (1, 2))) : BytesOf w' (.slice (some ⟨w.heap.size, 0, none⟩) 1 1) [x] := by
  have hlt : w.heap.size < w'.heap.size := by
    rcases Nat.lt_or_ge w.heap.size w'.heap.size with h' | h'
    · exact h'
    · rw [Array.getElem?_eq_none h'] at h; cases h
  refine ⟨_, _, rfl, fun _ => ⟨w.heap.size, 0, rfl, hlt, fun k y hk => ?_⟩⟩
  match k, hk with
  | 0, hk =>
    cases hk
    simp [World.cell?, h]
  | k + 1, hk => simp at hk
end Go.Proofs.Ytacifjjhadjhfaa
