/- fair: a line is read. -/
import Derived.Test.YtndpbkhpllmhmaaDoorRows
import Derived.WalkKit
import Derived.WalkSpells
import Derived.WalkLawsBesides
import Derived.RegionTactic
import Derived.ChangeAlike
import Derived.BigQuiet
import Derived.Deep.QuietTactic
import Derived.StillTailTactics
import Derived.IntWalk
import Derived.Handy
import Derived.Lib.Hide
import Derived.Deep.AppendLies
import Derived.Deep.RegionWith
import Derived.Test.YtndpbkhpllmhmaaDoorBase
import Derived.Test.YtndpbkhpllmhmaaDoorTail
import Derived.Test.YtndpbkhpllmhmaaDoorArgs
import Derived.Test.YtndpbkhpllmhmaaDoorAppend
import Derived.Test.YtndpbkhpllmhmaaDoorOffs
import Derived.Test.YtndpbkhpllmhmaaDoorStructs
import Derived.Test.YtndpbkhpllmhmaaDoorShelf
import Derived.Carry
import Derived.Deep.RegionHeld3
import Derived.BigRegion
import Derived.Maps.OwnSet
import Derived.Maps.Views
import Derived.Maps.StringElems
import Derived.Test.YtndpbkhpllmhmaaDoorMaps2
import Derived.Test.YtndpbkhpllmhmaaDoorFWords
import Derived.Test.YtndpbkhpllmhmaaDoorFEnv
import Derived.Test.YtndpbkhpllmhmaaDoorFPlain
import Derived.Maps.RangeWalk
import Derived.Test.YtndpbkhpllmhmaaDoorFSteps
namespace Go.Proofs.YtndpbkhpllmhmaaDoor
open Go.RowKit
/-! ### strconv.Atoi -/
def AtoiPost (bs : BS) (w : World) (e : Ending) (w' : World) : Prop := ∃ (n : Int) (u : Value), e = .returned (.tuple #[.int .i64 n, u]) ∧ Keep [] w w' ∧ In64 n ∧ ∀ m, In64 m → bs = Lib.itoa m → n = m
theorem atoi_spec {w : World} (hE : Env1 w) (bs : BS) (hl : bs.length ≤ 1000000) : Calls Tryd.prog 64 #[.string (strB bs)] w (AtoiPost bs w) := by
  have hd : (strB bs).data.toList = bs := strB_data bs
  have hsz : (strB bs).size ≤ 1000000 := by rw [strB_size]; exact hl
  match h : Lib.atoiAll bs with
  | Lib.NumEnd.ok v =>
    refine (Tryd.strconv_Atoi_ok (strB bs) (by omega) v (by rw [hd]; exact h) w).mono ?_
    rintro e w' ⟨he, hw⟩
    refine ⟨v, _, he, ?_, Lib.atoiAll_bounds h, fun m hm e => ?_⟩
    · rcases hw with rfl | ⟨t, rfl⟩
      · exact Keep.refl _ _
      · exact keep_of_below (Lib.bytesWorld_below _ _ _)
    · rw [e, atoi_itoa hm] at h
      injection h with h
      exact h.symm
  | Lib.NumEnd.syntax =>
    obtain ⟨tp, p, hv⟩ := hE.syn
    refine (Tryd.strconv_Atoi_syntax_var (strB bs) (by omega) (by rw [hd]; exact h) tp p w hv).mono ?_
    rintro e w' ⟨N, he, _, _, hb⟩
    refine ⟨0, _, he, keep_of_below hb, ⟨by decide, by decide⟩, fun m hm e => ?_⟩
    rw [e, atoi_itoa hm] at h
    cases h
  | Lib.NumEnd.range =>
    obtain ⟨tp, p, hv⟩ := hE.rng
    refine (Tryd.strconv_Atoi_range_var (strB bs) (by omega) (by rw [hd]; exact h) tp p w hv).mono ?_
    rintro e w' ⟨N, he, _, _, hb⟩
    refine ⟨_, _, he, keep_of_below hb, Lib.atoiSat_bounds _, fun m hm e => ?_⟩
    rw [e, atoi_itoa hm] at h
    cases h
/-! ### the words of a kind -/
def restL (k : Int) : List BS := if k = 1 then [[110]] else if k = 2 then [] else if k = 3 then [[107]] else if k = 4 then [[107]] else if k = 5 then [[107]] else if k = 6 then [[107], [98]] else if k = 7 then [[110]] else []
theorem pieces_full {k : Int} (h1 : 1 ≤ k) (h7 : k ≤ 7) : pieces 32 (fullL k) = wordL k :: restL k := by
  rcases (show k = 1 ∨ k = 2 ∨ k = 3 ∨ k = 4 ∨ k = 5 ∨ k = 6 ∨ k = 7 by omega) with rfl | rfl | rfl | rfl | rfl | rfl | rfl <;> decide
def hitK (ps : List BS) (k : Int) : Prop := ps.head? = some (wordL k) ∧ ps.length = (restL k).length + 1
theorem parts_len {s : ST} (h1 : 1 ≤ s.kind) (h7 : s.kind ≤ 7) : (fieldsL s).length = (restL s.kind).length := by
  obtain ⟨kind, a, b, c⟩ := s
  simp only at h1 h7
  rcases (show kind = 1 ∨ kind = 2 ∨ kind = 3 ∨ kind = 4 ∨ kind = 5 ∨ kind = 6 ∨ kind = 7 by omega) with rfl | rfl | rfl | rfl | rfl | rfl | rfl <;> simp [fieldsL, restL]
theorem wordL_inj {a b : Int} (ha : 1 ≤ a ∧ a ≤ 7) (hb : 1 ≤ b ∧ b ≤ 7) (h : wordL a = wordL b) : a = b := by
  rcases (show a = 1 ∨ a = 2 ∨ a = 3 ∨ a = 4 ∨ a = 5 ∨ a = 6 ∨ a = 7 by omega) with rfl | rfl | rfl | rfl | rfl | rfl | rfl <;>
  rcases (show b = 1 ∨ b = 2 ∨ b = 3 ∨ b = 4 ∨ b = 5 ∨ b = 6 ∨ b = 7 by omega) with rfl | rfl | rfl | rfl | rfl | rfl | rfl <;> first | rfl | (exact absurd h (by decide))
/-- where no kind hits there is no step -/
theorem none_of_miss {bs : BS} (h : ∀ k : Int, 1 ≤ k → k ≤ 7 → ¬ hitK (pieces 32 bs) k) : stepC bs = none := by
  cases hc : stepC bs with
  | none => rfl
  | some s =>
    exfalso
    obtain ⟨hg, hi, rfl⟩ := stepC_iff.1 hc
    obtain ⟨⟨h1, h7⟩, _⟩ := goodL_iff.1 hg
    refine h s.kind h1 h7 ?_
    rw [pieces_line]
    exact ⟨rfl, by unfold partsL; rw [List.length_cons, List.length_map, parts_len h1 h7]⟩
/-- what is read back tells -/
theorem step_back {bs : BS} {x : ST} (hg : goodL x = true) (hi : x.In) (hh : hitK (pieces 32 bs) x.kind) (hf : ∀ (j : Nat) (p : BS) (n : Int), (pieces 32 bs)[j + 1]? = some p → (fieldsL x)[j]? = some n → ∀ m, In64 m → p = Lib.itoa m → n = m) :
    (lineL x = bs → stepC bs = some x) ∧ (lineL x ≠ bs → stepC bs = none) := by
  refine ⟨fun e => stepC_iff.2 ⟨hg, hi, e⟩, fun hne => ?_⟩
  cases hc : stepC bs with
  | none => rfl
  | some t =>
    exfalso
    obtain ⟨hgt, hit, rfl⟩ := stepC_iff.1 hc
    rw [pieces_line] at hh hf
    obtain ⟨⟨h1, h7⟩, ho⟩ := goodL_iff.1 hgt
    obtain ⟨⟨g1, g7⟩, go⟩ := goodL_iff.1 hg
    have hk : t.kind = x.kind := wordL_inj ⟨h1, h7⟩ ⟨g1, g7⟩ (by have := hh.1; unfold partsL at this; simpa using this)
    refine hne (congrArg lineL ?_)
    have hff : fieldsL x = fieldsL t := by
      apply List.ext_getElem?
      intro j
      have hl : (fieldsL x).length = (fieldsL t).length := by rw [parts_len g1 g7, parts_len h1 h7, hk]
      rcases Nat.lt_or_ge j (fieldsL x).length with hj | hj
      · have e1 := List.getElem?_eq_getElem hj
        have e2 := List.getElem?_eq_getElem (show j < (fieldsL t).length by omega)
        have e3 : (partsL t)[j + 1]? = some (Lib.itoa (fieldsL t)[j]) := by
          unfold partsL
          rw [List.getElem?_cons_succ, List.getElem?_map, e2]
          rfl
        have hm : In64 (fieldsL t)[j] := by
          have hmem := List.getElem_mem (show j < (fieldsL t).length by omega)
          have : ∀ n ∈ fieldsL t, In64 n := by
            intro n hn
            unfold fieldsL at hn
            have := hit.node
            have := hit.k
            have := hit.bit
            repeat' split at hn
            all_goals simp at hn
            · rw [hn]; assumption
            · rw [hn]; assumption
            · rcases hn with hn | hn <;> (rw [hn]; assumption)
          exact this _ hmem
        rw [e1, e2, hf j _ _ e3 e1 _ hm rfl]
      · rw [List.getElem?_eq_none hj, List.getElem?_eq_none (by omega)]
    obtain ⟨k1, a1, b1, c1⟩ := x
    obtain ⟨k2, a2, b2, c2⟩ := t
    simp only at hk h1 h7
    subst hk
    rcases (show k2 = 1 ∨ k2 = 2 ∨ k2 = 3 ∨ k2 = 4 ∨ k2 = 5 ∨ k2 = 6 ∨ k2 = 7 by omega) with rfl | rfl | rfl | rfl | rfl | rfl | rfl
    all_goals
      simp [ownL] at ho go
      simp [fieldsL] at hff
      simp
      omega
end Go.Proofs.YtndpbkhpllmhmaaDoor
