/- The reference: a step's line. -/
import Derived.Test.YtndpbkhpllmhmaaDoorRows
import Derived.WalkKit
import Derived.WalkSpells
import Derived.WalkLawsBesides
import Derived.RegionTactic
import Derived.ChangeAlike
import Derived.BigQuiet
import Derived.Deep.QuietTactic
import Derived.StillTailTactics
import Derived.IntWalk
import Derived.Handy
import Derived.Lib.Hide
import Derived.Deep.AppendLies
import Derived.Deep.RegionWith
import Derived.Test.YtndpbkhpllmhmaaDoorBase
import Derived.Test.YtndpbkhpllmhmaaDoorTail
import Derived.Test.YtndpbkhpllmhmaaDoorArgs
import Derived.Test.YtndpbkhpllmhmaaDoorAppend
import Derived.Test.YtndpbkhpllmhmaaDoorOffs
import Derived.Test.YtndpbkhpllmhmaaDoorStructs
import Derived.Test.YtndpbkhpllmhmaaDoorShelf
import Derived.Carry
import Derived.Deep.RegionHeld3
import Derived.BigRegion
import Derived.Maps.OwnSet
import Derived.Maps.Views
import Derived.Maps.StringElems
import Derived.Test.YtndpbkhpllmhmaaDoorMaps2
import Derived.Test.YtndpbkhpllmhmaaDoorFWords
import Derived.Test.YtndpbkhpllmhmaaDoorFEnv
import Derived.Test.YtndpbkhpllmhmaaDoorFPlain
import Derived.Test.YtndpbkhpllmhmaaDoorRNum
import Derived.Test.YtndpbkhpllmhmaaDoorRSplit
import Derived.Test.YtndpbkhpllmhmaaDoorRNum
namespace Go.Proofs.YtndpbkhpllmhmaaDoor
open Go.RowKit
def putF (h : ST) (c : UInt8) (n : Int) : ST := if c = 110 then { h with node := n } else if c = 107 then { h with k := n } else { h with bit := n }
def fillK (h : ST) : List UInt8 → List BS → Option ST
  | c :: cs, a :: ws => match readInt a with
    | none => none
    | some n => fillK (putF h c n) cs ws
  | _, _ => some h
theorem hit_step {k : Int} (hk : 1 ≤ k ∧ k ≤ 7) {args : List BS} (hl : args.length = (fL k).length) : stepP (wordL k :: args) = fillK ⟨k, 0, 0, 0⟩ (fL k) args := by
  have h' : k = 1 ∨ k = 2 ∨ k = 3 ∨ k = 4 ∨ k = 5 ∨ k = 6 ∨ k = 7 := by omega
  rcases h' with rfl | rfl | rfl | rfl | rfl | rfl | rfl
  · match args, hl with
    | [a], _ =>
      show stepP [kWork, a] = fillK ⟨1, 0, 0, 0⟩ [110] [a]
      simp only [stepP, fillK, if_true]
      cases readInt a <;> rfl
  · match args, hl with
    | [], _ => rfl
  · match args, hl with
    | [a], _ =>
      show stepP [kDeliver, a] = fillK ⟨3, 0, 0, 0⟩ [107] [a]
      simp only [stepP, fillK, if_true]
      rw [if_neg (by decide)]
      cases readInt a <;> rfl
  · match args, hl with
    | [a], _ =>
      show stepP [kDrop, a] = fillK ⟨4, 0, 0, 0⟩ [107] [a]
      simp only [stepP, fillK, if_true]
      rw [if_neg (by decide), if_neg (by decide)]
      cases readInt a <;> rfl
  · match args, hl with
    | [a], _ =>
      show stepP [kDup, a] = fillK ⟨5, 0, 0, 0⟩ [107] [a]
      simp only [stepP, fillK, if_true]
      rw [if_neg (by decide), if_neg (by decide), if_neg (by decide)]
      cases readInt a <;> rfl
  · match args, hl with
    | [a, b], _ =>
      show stepP [kFlip, a, b] = fillK ⟨6, 0, 0, 0⟩ [107, 98] [a, b]
      simp only [stepP, fillK, if_true]
      cases readInt a with
      | none => rfl
      | some n => cases readInt b <;> rfl
  · match args, hl with
    | [a], _ =>
      show stepP [kCrash, a] = fillK ⟨7, 0, 0, 0⟩ [110] [a]
      simp only [stepP, fillK, if_true]
      rw [if_neg (by decide), if_neg (by decide), if_neg (by decide), if_neg (by decide)]
      cases readInt a <;> rfl
theorem fields_len (s : ST) (h : 1 ≤ s.kind ∧ s.kind ≤ 7) : (fieldsL s).length = (fL s.kind).length := by
  have h' : s.kind = 1 ∨ s.kind = 2 ∨ s.kind = 3 ∨ s.kind = 4 ∨ s.kind = 5 ∨ s.kind = 6 ∨ s.kind = 7 := by omega
  rcases h' with e | e | e | e | e | e | e <;> simp [e, fL, fieldsL]
theorem miss_step {w0 : BS} {args : List BS} (h : ∀ k : Int, 1 ≤ k → k ≤ 7 → ¬ (w0 = wordL k ∧ args.length = (fL k).length)) : stepP (w0 :: args) = none := by
  cases hs : stepP (w0 :: args) with
  | none => rfl
  | some s =>
    obtain ⟨hg, _, hp⟩ := stepP_some hs
    obtain ⟨hk, _⟩ := goodL_iff.1 hg
    unfold partsL at hp
    injection hp with h1 h2
    exact absurd ⟨h1, by rw [h2, List.length_map, fields_len s hk]⟩ (h s.kind hk.1 hk.2)
theorem fill_step {h : ST} {cs : List UInt8} {ws : List BS} {j : Nat} {c : UInt8} {a : BS} (hc : cs[j]? = some c) (ha : ws[j]? = some a) :
    fillK h (cs.drop j) (ws.drop j) = match readInt a with | none => none | some n => fillK (putF h c n) (cs.drop (j + 1)) (ws.drop (j + 1)) := by
  rw [drop_at hc, drop_at ha, fillK]
theorem putF_cells (h : ST) (c : UInt8) (n : Int) : stC (putF h c n) = (stC h).set (if c = 110 then 1 else if c = 107 then 2 else 3) (.int .i64 n) := by
  unfold putF
  split
  · rfl
  · split <;> rfl
def RStepPost (bs : BS) (w : World) (e : Ending) (w' : World) : Prop :=
  Keep [] w w' ∧ ((∃ s, stepC bs = some s ∧ e = .returned (.tuple #[stV s, .bool true])) ∨ (stepC bs = none ∧ ∃ s, e = .returned (.tuple #[stV s, .bool false])))
end Go.Proofs.YtndpbkhpllmhmaaDoor
