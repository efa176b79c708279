/- The reference: the words of a kind, the text of a script. -/
import Derived.Test.YtndpbkhpllmhmaaDoorRows
import Derived.WalkKit
import Derived.WalkSpells
import Derived.WalkLawsBesides
import Derived.RegionTactic
import Derived.ChangeAlike
import Derived.BigQuiet
import Derived.Deep.QuietTactic
import Derived.StillTailTactics
import Derived.IntWalk
import Derived.Handy
import Derived.Lib.Hide
import Derived.Deep.AppendLies
import Derived.Deep.RegionWith
import Derived.Test.YtndpbkhpllmhmaaDoorBase
import Derived.Test.YtndpbkhpllmhmaaDoorTail
import Derived.Test.YtndpbkhpllmhmaaDoorArgs
import Derived.Test.YtndpbkhpllmhmaaDoorAppend
import Derived.Test.YtndpbkhpllmhmaaDoorOffs
import Derived.Test.YtndpbkhpllmhmaaDoorStructs
import Derived.Test.YtndpbkhpllmhmaaDoorShelf
import Derived.Carry
import Derived.Deep.RegionHeld3
import Derived.BigRegion
import Derived.Maps.OwnSet
import Derived.Maps.Views
import Derived.Maps.StringElems
import Derived.Test.YtndpbkhpllmhmaaDoorMaps2
import Derived.Test.YtndpbkhpllmhmaaDoorFWords
import Derived.Test.YtndpbkhpllmhmaaDoorFEnv
import Derived.Test.YtndpbkhpllmhmaaDoorFPlain
import Derived.Test.YtndpbkhpllmhmaaDoorRNum
namespace Go.Proofs.YtndpbkhpllmhmaaDoor
open Go.RowKit
theorem itoaB_size {n : Int} (h : In64 n) : (itoaB n).size ≤ 21 := by
  unfold itoaB
  rw [strB_size]
  exact Lib.itoa_length_le n h.1 h.2
def fL (k : Int) : BS := if k = 1 ∨ k = 7 then [110] else if k = 3 ∨ k = 4 ∨ k = 5 then [107] else if k = 6 then [107, 98] else []
def getF (s : ST) (c : UInt8) : Int := if c = 110 then s.node else if c = 107 then s.k else s.bit
def setF (s : ST) (h : ST) (c : UInt8) : ST := if c = 110 then { h with node := s.node } else if c = 107 then { h with k := s.k } else { h with bit := s.bit }
theorem own_fold (s : ST) (h : 1 ≤ s.kind ∧ s.kind ≤ 7) : (fL s.kind).foldl (setF s) ⟨s.kind, 0, 0, 0⟩ = ownL s := by
  have h' : s.kind = 1 ∨ s.kind = 2 ∨ s.kind = 3 ∨ s.kind = 4 ∨ s.kind = 5 ∨ s.kind = 6 ∨ s.kind = 7 := by omega
  rcases h' with e | e | e | e | e | e | e <;> simp [e, fL, setF, ownL]
theorem line_fold (s : ST) (h : 1 ≤ s.kind ∧ s.kind ≤ 7) : wordL s.kind ++ (fL s.kind).flatMap (fun c => 32 :: Lib.itoa (getF s c)) = lineL s := by
  have h' : s.kind = 1 ∨ s.kind = 2 ∨ s.kind = 3 ∨ s.kind = 4 ∨ s.kind = 5 ∨ s.kind = 6 ∨ s.kind = 7 := by omega
  rcases h' with e | e | e | e | e | e | e <;> simp [e, fL, getF, lineL, partsL, fieldsL, wordL, glue]
theorem fL_mem {k : Int} {c : UInt8} (h : c ∈ fL k) : c = 110 ∨ c = 107 ∨ c = 98 := by
  unfold fL at h
  split at h
  · simp at h; exact Or.inl h
  · split at h
    · simp at h; exact Or.inr (Or.inl h)
    · split at h
      · simp at h; exact Or.inr h
      · cases h
theorem fL_len (k : Int) : (fL k).length ≤ 2 := by
  unfold fL
  split
  · decide
  · split
    · decide
    · split <;> decide
theorem word_none {k : Int} (h : k < 1 ∨ 7 < k) : wordL k = [] ∧ fL k = [] := by
  constructor
  · unfold wordL
    rw [if_neg (by omega), if_neg (by omega), if_neg (by omega), if_neg (by omega), if_neg (by omega), if_neg (by omega), if_neg (by omega)]
  · unfold fL
    rw [if_neg (by omega), if_neg (by omega), if_neg (by omega)]
theorem word_ne {k : Int} (h : 1 ≤ k ∧ k ≤ 7) : wordL k ≠ [] := by
  have h' : k = 1 ∨ k = 2 ∨ k = 3 ∨ k = 4 ∨ k = 5 ∨ k = 6 ∨ k = 7 := by omega
  rcases h' with rfl | rfl | rfl | rfl | rfl | rfl | rfl <;> decide
theorem word_len (k : Int) : (wordL k).length ≤ 7 := by
  by_cases h : k < 1 ∨ 7 < k
  · rw [(word_none h).1]; decide
  · have h' : k = 1 ∨ k = 2 ∨ k = 3 ∨ k = 4 ∨ k = 5 ∨ k = 6 ∨ k = 7 := by omega
    rcases h' with rfl | rfl | rfl | rfl | rfl | rfl | rfl <;> decide
def WordPost (k : Int) (w : World) (e : Ending) (w' : World) : Prop := e = .returned (.tuple #[.string (strB (wordL k)), .string (strB (fL k))]) ∧ w = w'
theorem word_1 (w : World) : Calls Tryd.prog 39 #[.int .i64 1] w (WordPost 1 w) := by go_enter Tryd.func39, Tryd.ntmps39; go_wp2; go_ret2; exact ⟨rfl, rfl⟩
theorem word_2 (w : World) : Calls Tryd.prog 39 #[.int .i64 2] w (WordPost 2 w) := by go_enter Tryd.func39, Tryd.ntmps39; go_wp2; go_ret2; exact ⟨rfl, rfl⟩
theorem word_3 (w : World) : Calls Tryd.prog 39 #[.int .i64 3] w (WordPost 3 w) := by go_enter Tryd.func39, Tryd.ntmps39; go_wp2; go_ret2; exact ⟨rfl, rfl⟩
theorem word_4 (w : World) : Calls Tryd.prog 39 #[.int .i64 4] w (WordPost 4 w) := by go_enter Tryd.func39, Tryd.ntmps39; go_wp2; go_ret2; exact ⟨rfl, rfl⟩
theorem word_5 (w : World) : Calls Tryd.prog 39 #[.int .i64 5] w (WordPost 5 w) := by go_enter Tryd.func39, Tryd.ntmps39; go_wp2; go_ret2; exact ⟨rfl, rfl⟩
theorem word_6 (w : World) : Calls Tryd.prog 39 #[.int .i64 6] w (WordPost 6 w) := by go_enter Tryd.func39, Tryd.ntmps39; go_wp2; go_ret2; exact ⟨rfl, rfl⟩
theorem word_7 (w : World) : Calls Tryd.prog 39 #[.int .i64 7] w (WordPost 7 w) := by go_enter Tryd.func39, Tryd.ntmps39; go_wp2; go_ret2; exact ⟨rfl, rfl⟩
theorem word_spec (w : World) (k : Int) : Calls Tryd.prog 39 #[.int .i64 k] w (WordPost k w) := by
  by_cases h : k < 1 ∨ 7 < k
  · have hp : WordPost k w (.returned (.tuple #[.string ⟨#[]⟩, .string ⟨#[]⟩])) w := by
      unfold WordPost
      rw [(word_none h).1, (word_none h).2]
      exact ⟨rfl, rfl⟩
    have Hp := Lib.hid hp
    have h1 : (k == 1) = false := by simp; omega
    have h2 : (k == 2) = false := by simp; omega
    have h3 : (k == 3) = false := by simp; omega
    have h4 : (k == 4) = false := by simp; omega
    have h5 : (k == 5) = false := by simp; omega
    have h6 : (k == 6) = false := by simp; omega
    have h7 : (k == 7) = false := by simp; omega
    clear h hp
    go_enter Tryd.func39, Tryd.ntmps39
    go_wp2
    go_ret2
    exact Hp.out
  · have h' : k = 1 ∨ k = 2 ∨ k = 3 ∨ k = 4 ∨ k = 5 ∨ k = 6 ∨ k = 7 := by omega
    rcases h' with rfl | rfl | rfl | rfl | rfl | rfl | rfl
    · exact word_1 w
    · exact word_2 w
    · exact word_3 w
    · exact word_4 w
    · exact word_5 w
    · exact word_6 w
    · exact word_7 w
end Go.Proofs.YtndpbkhpllmhmaaDoor
