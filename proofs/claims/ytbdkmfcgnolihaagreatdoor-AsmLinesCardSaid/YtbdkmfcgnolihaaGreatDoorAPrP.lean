/- asm, plain: how long a job's text is. -/
import Derived.Test.YtbdkmfcgnolihaaGreatDoorRows
import Derived.WalkKit
import Derived.WalkSpells
import Derived.WalkLawsBesides
import Derived.RegionTactic
import Derived.ChangeAlike
import Derived.BigQuiet
import Derived.Deep.QuietTactic
import Derived.StillTailTactics
import Derived.IntWalk
import Derived.Handy
import Derived.Lib.Hide
import Derived.Deep.AppendLies
import Derived.Deep.RegionWith
import Derived.Test.YtbdkmfcgnolihaaGreatDoorBase
import Derived.Test.YtbdkmfcgnolihaaGreatDoorTail
import Derived.Test.YtbdkmfcgnolihaaGreatDoorArgs
import Derived.Test.YtbdkmfcgnolihaaGreatDoorAppend
import Derived.Test.YtbdkmfcgnolihaaGreatDoorOffs
import Derived.Test.YtbdkmfcgnolihaaGreatDoorStructs
import Derived.Carry
import Derived.Deep.RegionHeld3
import Derived.BigRegion
import Derived.Maps.OwnSet
import Derived.Maps.Views
import Derived.Maps.StringElems
import Derived.Test.YtbdkmfcgnolihaaGreatDoorMaps2
import Derived.Deep.CutRange
import Derived.Deep.CutBlock
import Derived.Test.YtbdkmfcgnolihaaGreatDoorAInsW
namespace Go.Proofs.YtbdkmfcgnolihaaGreatDoor
set_option linter.unusedSimpArgs false
set_option linter.unnecessarySimpa false
set_option linter.unusedVariables false
open Go.RowKit
/-! ### how long a text is -/
theorem glue_le {c : UInt8} {ps : List BS} {m : Nat} (h : ∀ p ∈ ps, p.length ≤ m) : (glue c ps).length ≤ ps.length * (m + 1) := by
  cases ps with
  | nil => simp [glue]
  | cons p ps =>
    rw [glue_cons, List.length_append]
    have h1 := h p (by simp)
    have : ∀ qs : List BS, (∀ q ∈ qs, q.length ≤ m) → (qs.flatMap fun q => c :: q).length ≤ qs.length * (m + 1) := by
      intro qs hq
      induction qs with
      | nil => simp
      | cons q qs ih =>
        have h2 := hq q (by simp)
        have h3 := ih (fun x hx => hq x (by simp [hx]))
        rw [List.flatMap_cons, List.length_append, List.length_cons, List.length_cons, Nat.succ_mul]
        omega
    have h4 := this ps (fun q hq => h q (by simp [hq]))
    rw [List.length_cons, Nat.succ_mul]
    omega
theorem itoa_le {n : Int} (h : In64 n) : (Lib.itoa n).length ≤ 21 := by have := Lib.itoa_length_le n h.1 h.2; omega
theorem glue_head (a : BS) {p : BS} {ps : List BS} : glue 32 (a :: p :: ps) = (a ++ [32]) ++ glue 32 (p :: ps) := by
  rw [glue_cons, glue_cons, List.flatMap_cons]
  simp
theorem textL_len {ls : List BS} {m : Nat} (h : ∀ l ∈ ls, l.length ≤ m) : (textL ls).length ≤ ls.length * (m + 1) := by
  unfold textL
  induction ls with
  | nil => simp
  | cons l ls ih =>
    have h1 := h l (by simp)
    have h2 := ih (fun x hx => h x (by simp [hx]))
    rw [List.flatMap_cons, List.length_append, List.length_append, List.length_singleton, List.length_cons, Nat.succ_mul]
    omega
theorem textL_app (a b : List BS) : textL (a ++ b) = textL a ++ textL b := by unfold textL; rw [List.flatMap_append]
theorem textL_one (l : BS) : textL [l] = l ++ [10] := by simp [textL]
/-- the lines of a plain job are short -/
structure LinesShort (j : JB) : Prop where
  job : (glue 32 [Lib.itoa j.fuel, Lib.itoa j.tasks]).length ≤ 300
  main : (glue 32 (fnAt j j.main :: j.args.map Lib.itoa)).length ≤ 300
  func : ∀ f ∈ j.funcs, (glue 32 [f.name, Lib.itoa f.args, Lib.itoa f.locals]).length ≤ 300
  ins : ∀ f ∈ j.funcs, ∀ i ∈ f.code, (glue 32 (insW j i)).length ≤ 300
theorem PlainJ.fnm {j : JB} (h : PlainJ j) {g : FN} (hg : g ∈ j.funcs) : nameL g.name = true ∧ g.code.length ≤ 256 := by
  have := ((plainFs_all h.fs).1 g hg).1
  unfold plainF at this
  simp at this
  exact ⟨this.1.1, this.1.2⟩
theorem lines_short {j : JB} (h : PlainJ j) (hj : j.In) : LinesShort j := by
  obtain ⟨gm, hgm, hmn, hml⟩ := h.name h.main0 h.main
  refine ⟨?_, ?_, fun f hf => ?_, fun f hf i hi => ?_⟩
  · have := glue_le (c := 32) (ps := [Lib.itoa j.fuel, Lib.itoa j.tasks]) (m := 21) (by
      intro p hp
      simp at hp
      rcases hp with rfl | rfl
      · exact itoa_le hj.fuel
      · exact itoa_le hj.tasks)
    simp at this ⊢
    omega
  · have := glue_le (c := 32) (ps := fnAt j j.main :: j.args.map Lib.itoa) (m := 21) (by
      intro p hp
      rcases List.mem_cons.1 hp with rfl | hp
      · have := nameL_len hml; omega
      · obtain ⟨n, hn, rfl⟩ := List.mem_map.1 hp
        exact itoa_le (hj.args n hn))
    have h8 := h.args
    rw [List.length_cons, List.length_map] at this
    have : (j.args.length + 1) * (21 + 1) ≤ 9 * 22 := Nat.mul_le_mul (by omega) (by omega)
    omega
  · have hn := nameL_len (h.fnm hf).1
    have := glue_le (c := 32) (ps := [f.name, Lib.itoa f.args, Lib.itoa f.locals]) (m := 21) (by
      intro p hp
      simp at hp
      rcases hp with rfl | rfl | rfl
      · omega
      · exact itoa_le (hj.funcs f hf).args
      · exact itoa_le (hj.funcs f hf).locals)
    simp at this ⊢
    omega
  · have hp := h.ins hf hi
    have := glue_le (c := 32) (ps := insW j i) (m := 21) (by
      intro p hp2
      unfold insW at hp2
      split at hp2
      · rename_i h16
        simp at hp2
        rcases hp2 with rfl | rfl
        · have := opName_len i.op; omega
        · have := nameL_len (h.name (plainI_16 hp h16).1 (plainI_16 hp h16).2).choose_spec.2.2; omega
      · split at hp2
        · simp at hp2
          rcases hp2 with rfl | rfl
          · have := opName_len i.op; omega
          · exact itoa_le ((hj.funcs f hf).code i hi).n
        · simp at hp2
          subst hp2
          have := opName_len i.op; omega)
    have h2 : (insW j i).length ≤ 2 := by unfold insW; split; simp; split <;> simp
    have : (insW j i).length * (21 + 1) ≤ 2 * 22 := Nat.mul_le_mul h2 (by omega)
    omega
theorem jobLine_eq (j : JB) : (wJob ++ [32]) ++ glue 32 [Lib.itoa j.fuel, Lib.itoa j.tasks] = jobLine j := glue_head wJob |>.symm
theorem mainLine_eq (j : JB) : (wMain ++ [32]) ++ glue 32 (fnAt j j.main :: j.args.map Lib.itoa) = mainLine j := (glue_head wMain).symm
theorem funcLine_eq (f : FN) : (wFunc ++ [32]) ++ glue 32 [f.name, Lib.itoa f.args, Lib.itoa f.locals] = funcLine f := (glue_head wFunc).symm
/-- what is written when i functions are, and q instructions of the next one -/
def doneL (j : JB) (i : Nat) : List BS := jobLine j :: mainLine j :: (j.funcs.take i).flatMap (fnLines j)
theorem doneL_next {j : JB} {i : Nat} {f : FN} (h : j.funcs[i]? = some f) : doneL j (i + 1) = doneL j i ++ fnLines j f := by
  unfold doneL
  rw [List.take_add_one, h]
  simp
theorem doneL_all (j : JB) : textL (doneL j j.funcs.length ++ [wEnd]) = textL (linesJ j) := by
  unfold doneL linesJ
  rw [List.take_length]
  simp
theorem lineJ_len {j : JB} (hs : LinesShort j) : ∀ l ∈ linesJ j, l.length ≤ 400 := by
  intro l hl
  unfold linesJ at hl
  rcases List.mem_cons.1 hl with rfl | hl
  · rw [← jobLine_eq]; have := hs.job; simp [wJob] at this ⊢; omega
  rcases List.mem_cons.1 hl with rfl | hl
  · rw [← mainLine_eq]; have := hs.main; simp [wMain] at this ⊢; omega
  rcases List.mem_append.1 hl with hl | hl
  · obtain ⟨g, hg, hl⟩ := List.mem_flatMap.1 hl
    unfold fnLines at hl
    rcases List.mem_cons.1 hl with rfl | hl
    · rw [← funcLine_eq]; have := hs.func g hg; simp [wFunc] at this ⊢; omega
    · obtain ⟨i, hi, rfl⟩ := List.mem_map.1 hl
      have := hs.ins g hg i hi
      unfold insLine
      rw [List.length_append]
      simp
      omega
  · simp at hl
    subst hl
    decide
theorem linesJ_count {j : JB} (h : PlainJ j) : (linesJ j).length ≤ 10000 := by
  unfold linesJ
  have : ∀ gs : List FN, (∀ g ∈ gs, g ∈ j.funcs) → (gs.flatMap (fnLines j)).length ≤ gs.length * 257 := by
    intro gs hg
    induction gs with
    | nil => simp
    | cons g gs ih =>
      have h1 := (h.fnm (hg g (by simp))).2
      have h2 := ih (fun x hx => hg x (by simp [hx]))
      rw [List.flatMap_cons, List.length_append, List.length_cons, Nat.succ_mul]
      have : (fnLines j g).length = g.code.length + 1 := by unfold fnLines; simp
      omega
  have h1 := this j.funcs (fun g hg => hg)
  have h2 := h.few
  have h3 : j.funcs.length * 257 ≤ 32 * 257 := Nat.mul_le_mul h2 (Nat.le_refl _)
  rw [List.length_cons, List.length_cons, List.length_append, List.length_singleton]
  omega
theorem printJ_len {j : JB} (h : PlainJ j) (hj : j.In) : (textL (linesJ j)).length ≤ 10000000 := by
  have h1 := textL_len (lineJ_len (lines_short h hj))
  have h2 := linesJ_count h
  have h3 : (linesJ j).length * (400 + 1) ≤ 10000 * 401 := Nat.mul_le_mul h2 (Nat.le_refl _)
  omega
theorem done_len {j : JB} (h : PlainJ j) (hj : j.In) {i q : Nat} {f : FN} (hf : j.funcs[i]? = some f) : (textL (doneL j i ++ funcLine f :: (f.code.take q).map (insLine j))).length ≤ 10000000 := by
  have h0 := printJ_len h hj
  rw [← doneL_all] at h0
  have hd : ∀ n, j.funcs.length = i + 1 + n → ∃ rest, doneL j j.funcs.length = doneL j i ++ fnLines j f ++ rest := by
    intro n hn
    refine ⟨(j.funcs.drop (i + 1)).flatMap (fnLines j), ?_⟩
    unfold doneL
    rw [List.take_length]
    have e : j.funcs = j.funcs.take i ++ f :: j.funcs.drop (i + 1) := by rw [← drop_at hf, List.take_append_drop]
    conv => lhs; rw [e]
    simp
  obtain ⟨rest, hr⟩ := hd (j.funcs.length - i - 1) (by have := get_lt hf; omega)
  rw [hr, textL_app, textL_app, textL_app] at h0
  have hfl : textL (fnLines j f) = textL (funcLine f :: (f.code.take q).map (insLine j)) ++ textL ((f.code.drop q).map (insLine j)) := by
    rw [← textL_app]
    unfold fnLines
    conv => lhs; rw [← List.take_append_drop q f.code]
    simp
  rw [hfl] at h0
  rw [textL_app]
  simp only [List.length_append] at h0 ⊢
  omega
theorem done_len0 {j : JB} (h : PlainJ j) (hj : j.In) (i : Nat) : (textL (doneL j i)).length ≤ 10000000 := by
  have h0 := printJ_len h hj
  rw [← doneL_all] at h0
  have e : doneL j j.funcs.length = doneL j i ++ (j.funcs.drop i).flatMap (fnLines j) := by
    unfold doneL
    rw [List.take_length]
    have e2 : j.funcs.flatMap (fnLines j) = (j.funcs.take i ++ j.funcs.drop i).flatMap (fnLines j) := by rw [List.take_append_drop]
    rw [e2, List.flatMap_append]
    rfl
  rw [e, textL_app, textL_app] at h0
  simp only [List.length_append] at h0
  omega
end Go.Proofs.YtbdkmfcgnolihaaGreatDoor
