import Derived.Test.YtndpbkhpllmhmaaDoorRows
import Derived.WalkKit
import Derived.WalkSpells
import Derived.WalkLawsBesides
import Derived.RegionTactic
import Derived.ChangeAlike
import Derived.BigQuiet
import Derived.Deep.QuietTactic
import Derived.StillTailTactics
import Derived.IntWalk
import Derived.Handy
import Derived.Lib.Hide
import Derived.Deep.AppendLies
import Derived.Deep.RegionWith
import Derived.Test.YtndpbkhpllmhmaaDoorBase
import Derived.Test.YtndpbkhpllmhmaaDoorTail
import Derived.Test.YtndpbkhpllmhmaaDoorArgs
import Derived.Test.YtndpbkhpllmhmaaDoorAppend
import Derived.Test.YtndpbkhpllmhmaaDoorOffs
import Derived.Test.YtndpbkhpllmhmaaDoorStructs
import Derived.Test.YtndpbkhpllmhmaaDoorShelf
import Derived.Carry
import Derived.Deep.RegionHeld3
import Derived.BigRegion
import Derived.Maps.OwnSet
import Derived.Maps.Views
import Derived.Maps.StringElems
import Derived.Test.YtndpbkhpllmhmaaDoorMaps2
import Derived.Test.YtndpbkhpllmhmaaDoorFWords
import Derived.Test.YtndpbkhpllmhmaaDoorFEnv
import Derived.Test.YtndpbkhpllmhmaaDoorFPlain
import Derived.Test.YtndpbkhpllmhmaaDoorFRead2
import Derived.Test.YtndpbkhpllmhmaaDoorFReads
import Derived.Test.YtndpbkhpllmhmaaDoorFAlive
import Derived.Test.YtndpbkhpllmhmaaDoorRNum
import Derived.Test.YtndpbkhpllmhmaaDoorFWordsLaw
namespace Go.Proofs.YtndpbkhpllmhmaaDoor
open Go.RowKit
/-! ### FairBad: the plain law -/
def workL (i : Nat) : ST := ⟨1, i, 0, 0⟩
def goodT (n : Nat) : BS := (List.range n).flatMap fun i => lineL (workL i) ++ [10]
def badL : List BS := [[], [120, 10], [119, 111, 114, 107, 10], [119, 111, 114, 107, 32, 48, 49, 10], [119, 111, 114, 107, 32, 49, 32, 50, 10], [116, 105, 99, 107, 32, 49, 10], [102, 108, 105, 112, 32, 49, 10], [32, 116, 105, 99, 107, 10], [116, 105, 99, 107, 32, 10], [116, 105, 99, 107], [119, 111, 114, 107, 32, 32, 49, 10], [10], [87, 111, 114, 107, 32, 49, 10]]
theorem goodT_succ (n : Nat) : goodT (n + 1) = goodT n ++ (lineL (workL n) ++ [10]) := by
  unfold goodT
  rw [List.range_succ, List.flatMap_append]
  simp
theorem work_in {n : Nat} (h : n ≤ 50) : (workL n).In :=
  ⟨⟨by show (-9223372036854775808 : Int) ≤ 1; decide, by show (1 : Int) ≤ 9223372036854775807; decide⟩, ⟨by show (-9223372036854775808 : Int) ≤ n; omega, by show (n : Int) ≤ 9223372036854775807; omega⟩, ⟨by show (-9223372036854775808 : Int) ≤ 0; decide, by show (0 : Int) ≤ 9223372036854775807; decide⟩, ⟨by show (-9223372036854775808 : Int) ≤ 0; decide, by show (0 : Int) ≤ 9223372036854775807; decide⟩⟩
theorem work_good (n : Nat) : goodL (workL n) = true := goodL_iff.2 ⟨⟨by show (1 : Int) ≤ 1; decide, by show (1 : Int) ≤ 7; decide⟩, rfl⟩
theorem work_line (n : Nat) : lineL (workL n) = kWork ++ 32 :: Lib.itoa n := by simp [lineL, partsL, glue, wordL, fieldsL, workL]
theorem goodT_len : ∀ {n : Nat}, n ≤ 50 → (goodT n).length ≤ n * 30
  | 0, _ => by simp [goodT]
  | n + 1, h => by
    have h1 := goodT_len (n := n) (by omega)
    have h2 := Lib.itoa_length_le (n : Int) (by omega) (by omega)
    rw [goodT_succ, List.length_append, work_line]
    simp [kWork]
    omega
theorem run_lines {ls : List ST} (h : ∀ s ∈ ls, goodL s = true ∧ s.In) (b : BS) : ∀ acc, runL acc (pieces 10 ((ls.flatMap fun s => lineL s ++ [10]) ++ b)) = runL (acc ++ ls) (pieces 10 b) := by
  induction ls with
  | nil => intro acc; simp
  | cons s r ih =>
    intro acc
    obtain ⟨hg, hi⟩ := h s (by simp)
    have e : ((s :: r).flatMap fun s => lineL s ++ [10]) ++ b = lineL s ++ 10 :: ((r.flatMap fun s => lineL s ++ [10]) ++ b) := by simp
    rw [e, pieces_app _ (line_no10 s)]
    have hx : stepC (lineL s) = some s := stepC_iff.2 ⟨hg, hi, rfl⟩
    have h2 := ih (fun s hs => h s (by simp [hs])) (acc ++ [s])
    cases hp : pieces 10 ((r.flatMap fun s => lineL s ++ [10]) ++ b) with
    | nil => exact absurd hp (pieces_ne _ _)
    | cons y q =>
      rw [hp] at h2
      rw [show runL acc (lineL s :: y :: q) = runL (acc ++ [s]) (y :: q) by rw [runL, hx], h2]
      simp
theorem goodT_map (n : Nat) : goodT n = ((List.range n).map workL).flatMap fun s => lineL s ++ [10] := by
  unfold goodT
  rw [List.flatMap_map]
theorem read_good {n : Nat} (hn : n ≤ 50) (b : BS) : readL (goodT n ++ b) = runL ((List.range n).map workL) (pieces 10 b) := by
  unfold readL
  rw [goodT_map, run_lines (by
    intro s hs
    obtain ⟨i, hi, rfl⟩ := List.mem_map.1 hs
    exact ⟨work_good i, work_in (by have := List.mem_range.1 hi; omega)⟩)]
  rfl
theorem bad_runs : (badL.drop 1).all (fun b => match pieces 10 b with | [t] => decide (t ≠ []) | [x, _] => decide (stepC x = none) | _ => false) = true := by decide +kernel
theorem read_bad {n m : Nat} (hn : n ≤ 50) {b : BS} (hb : badL[m]? = some b) (hm : 0 < m) : readL (goodT n ++ b) = .error (n + 1) := by
  rw [read_good hn]
  have hall := List.all_eq_true.1 bad_runs b (by
    obtain ⟨k, rfl⟩ : ∃ k, m = k + 1 := ⟨m - 1, by omega⟩
    exact List.mem_of_getElem? (i := k) (by rw [List.getElem?_drop, Nat.add_comm]; exact hb))
  split at hall
  · rename_i t ht
    rw [ht]
    have : t ≠ [] := by simpa using hall
    simp [runL, this]
  · rename_i x y hx
    rw [hx]
    have : stepC x = none := by simpa using hall
    simp [runL, this]
  · cases hall
theorem read_none {n : Nat} (hn : n ≤ 50) : readL (goodT n ++ []) = .ok ((List.range n).map workL) := by
  rw [read_good hn]
  rfl
theorem bad_len {m : Nat} {b : BS} (hb : badL[m]? = some b) : b.length ≤ 10 := by
  have : badL.all (fun b => decide (b.length ≤ 10)) = true := by decide +kernel
  simpa using List.all_eq_true.1 this b (List.mem_of_getElem? hb)
end Go.Proofs.YtndpbkhpllmhmaaDoor
