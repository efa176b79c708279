/- asm: too large a job -/
import Derived.Test.YtbdkmfcgnolihaaGreatDoorRows
import Derived.WalkKit
import Derived.WalkSpells
import Derived.WalkLawsBesides
import Derived.RegionTactic
import Derived.ChangeAlike
import Derived.BigQuiet
import Derived.Deep.QuietTactic
import Derived.StillTailTactics
import Derived.IntWalk
import Derived.Handy
import Derived.Lib.Hide
import Derived.Deep.AppendLies
import Derived.Deep.RegionWith
import Derived.Test.YtbdkmfcgnolihaaGreatDoorBase
import Derived.Test.YtbdkmfcgnolihaaGreatDoorTail
import Derived.Test.YtbdkmfcgnolihaaGreatDoorArgs
import Derived.Test.YtbdkmfcgnolihaaGreatDoorAppend
import Derived.Test.YtbdkmfcgnolihaaGreatDoorOffs
import Derived.Test.YtbdkmfcgnolihaaGreatDoorStructs
import Derived.Carry
import Derived.Deep.RegionHeld3
import Derived.BigRegion
import Derived.Maps.OwnSet
import Derived.Maps.Views
import Derived.Maps.StringElems
import Derived.Test.YtbdkmfcgnolihaaGreatDoorMaps2
import Derived.Deep.CutRange
import Derived.Deep.CutBlock
import Derived.Test.YtbdkmfcgnolihaaGreatDoorAPlJ
import Derived.Test.YtbdkmfcgnolihaaGreatDoorAPrP
import Derived.Test.YtbdkmfcgnolihaaGreatDoorARPr
import Derived.Test.YtbdkmfcgnolihaaGreatDoorAJobOpen
namespace Go.Proofs.YtbdkmfcgnolihaaGreatDoor
set_option linter.unusedSimpArgs false
set_option linter.unnecessarySimpa false
set_option linter.unusedVariables false
open Go.RowKit
theorem big_sum {n c l : Nat} (h1 : n ≤ 2000) (h2 : c ≤ 8796093021952) (h3 : l ≤ 140737488351232) : wrap64 ((n : Int) + (c : Int) + wrap64 ((l : Int) / 8)) = ((n + c + l / 8 : Nat) : Int) := by
  have e1 : wrap64 ((l : Int) / 8) = (l : Int) / 8 := IntWalk.wrap64_in _ (by omega)
  have e2 : wrap64 ((n : Int) + (c : Int) + (l : Int) / 8) = (n : Int) + (c : Int) + (l : Int) / 8 := IntWalk.wrap64_in _ (by omega)
  rw [e1, e2]
  omega
theorem FnSz.code {f : FN} (h : FnSz f) : f.code.length ≤ 8796093021952 := by
  have h1 := h.2
  have h2 : reachBytes = 140737488351232 := by decide
  omega
theorem FnSz.name {f : FN} (h : FnSz f) : f.name.length ≤ 140737488351232 := by
  have h1 := h.1
  have h2 : reachBytes = 140737488351232 := by decide
  omega
def codeSum (fs : List FN) : Nat := (fs.map fun f => f.code.length).sum
theorem codeSum_snoc (fs : List FN) (f : FN) : codeSum (fs ++ [f]) = codeSum fs + f.code.length := by unfold codeSum; simp
def BigOk (j : JB) (i n : Nat) : Prop := n ≤ 30000000000000 ∧ codeSum (j.funcs.take i) ≤ n ∧ ∀ (t : Nat) (g : FN), t < i → j.funcs[t]? = some g → g.code.length ≤ n ∧ g.name.length ≤ 8 * n + 7
theorem BigOk.next {j : JB} {i n : Nat} {f : FN} (h : BigOk j i n) (hn : n ≤ 2000) (hf : j.funcs[i]? = some f) (hz : FnSz f) : BigOk j (i + 1) (n + f.code.length + f.name.length / 8) := by
  have h1 := hz.code
  have h2 := hz.name
  refine ⟨by omega, by rw [List.take_add_one, hf]; simp only [Option.toList_some]; rw [codeSum_snoc]; have := h.2.1; omega, fun t g ht hg => ?_⟩
  by_cases e : t = i
  · subst e
    rw [hf] at hg
    cases hg
    omega
  · have := h.2.2 t g (by omega) hg
    omega
def BigPost (j : JB) (w : World) (e : Ending) (w' : World) : Prop := ∃ b : Bool, e = .returned (.bool b) ∧ Keep [] w w' ∧ (b = false → JShort j ∧ j.args.length ≤ 100 ∧ codeSum j.funcs ≤ 2000)
theorem big_ret {j : JB} {w w' : World} {b : Bool} (k : Keep [] w w') (h : b = false → JShort j ∧ j.args.length ≤ 100 ∧ codeSum j.funcs ≤ 2000) : BigPost j w (.returned (.bool b)) w' := ⟨b, rfl, k, h⟩
theorem bigOk_short {j : JB} {n : Nat} (h : BigOk j j.funcs.length n) (hn : n ≤ 2000) (h60 : j.funcs.length ≤ 60) : JShort j :=
  ⟨by omega, fun f hf => by
    obtain ⟨t, ht⟩ := List.mem_iff_getElem?.1 hf
    have := (h.2.2 t f (get_lt ht) ht).2
    omega, fun f hf => by
    obtain ⟨t, ht⟩ := List.mem_iff_getElem?.1 hf
    have := (h.2.2 t f (get_lt ht) ht).1
    omega⟩
set_option maxHeartbeats 6400000 in
set_option maxRecDepth 100000 in
theorem big_spec {w : World} {jv : Value} {j : JB} (h : JobRd w jv j) (hz : JobSz j) : Calls Tryz.prog 11 #[jv] w (BigPost j w) := by
  obtain ⟨fa, fc, aa, ac, rfl, hf, ha⟩ := jobRd_cells h
  have kA : Keep [] w (w.alloc (.cells #[.slice fa j.funcs.length fc, .int .i64 j.main, .slice aa j.args.length ac, .int .i64 j.fuel, .int .i64 j.tasks] 25)) := (Keep.refl _ _).alloc _
  have bA : Blk (w.alloc (.cells #[.slice fa j.funcs.length fc, .int .i64 j.main, .slice aa j.args.length ac, .int .i64 j.fuel, .int .i64 j.tasks] 25)) w.heap.size 25 (jobC fa fc aa ac j) := Blk.new' _ _ _ _ rfl
  have H0 := Lib.hid (And.intro kA bA)
  have HF := Lib.hid (And.intro hf (And.intro ha hz))
  clear h hf ha hz kA bA
  rcases Nat.lt_or_ge 60 j.funcs.length with h60 | h60
  · have B : decide ((60 : Int) < (j.funcs.length : Int)) = true := decide_eq_true (by omega)
    clear h60
    go_enter Tryz.func11, Tryz.ntmps11
    go_wp2
    go_ret
    exact big_ret H0.out.1 (fun h => by cases h)
  have B60 : decide ((60 : Int) < (j.funcs.length : Int)) = false := decide_eq_false (by omega)
  rcases Nat.lt_or_ge 100 j.args.length with h100 | h100
  · have B : decide ((100 : Int) < (j.args.length : Int)) = true := decide_eq_true (by omega)
    clear h60 h100
    go_enter Tryz.func11, Tryz.ntmps11
    go_wp2
    go_ret
    exact big_ret H0.out.1 (fun h => by cases h)
  have B100 : decide ((100 : Int) < (j.args.length : Int)) = false := decide_eq_false (by omega)
  have HL := Lib.hid (And.intro h60 h100)
  have hlI : (j.funcs.length : Int) ≤ 60 := by omega
  clear h60 h100
  go_enter Tryz.func11, Tryz.ntmps11
  go_wp2_with fail
  generalize (w.alloc (.cells #[.slice fa j.funcs.length fc, .int .i64 j.main, .slice aa j.args.length ac, .int .i64 j.fuel, .int .i64 j.tasks] 25)) = w1 at *
  clear B60 B100
  go_loopw [3, 4] (fun vn vi wr => ∃ i n : Nat, i ≤ j.funcs.length ∧ vi = .int .i64 i ∧ vn = .int .i64 n ∧ BigOk j i n ∧ Keep [] w1 wr) (fun _ vi _ => j.funcs.length - (intOf vi).toNat)
  case atStart => exact ⟨0, 0, Nat.zero_le _, rfl, rfl, ⟨by omega, by simp [codeSum], fun t g ht => absurd ht (by omega)⟩, Keep.refl _ _⟩
  case round =>
    obtain ⟨i, n, hi, rfl, rfl, hok, hk⟩ := hrel
    have q1 := H0.out.2.keep hk (by simp)
    have a0 : wr.cell? ⟨w.heap.size, 0, none⟩ = some (.slice fa j.funcs.length fc) := q1.cell 0
    have HK := Lib.hid (And.intro hok (And.intro hk (H0.out.1.trans hk (by simp))))
    clear q1 hok hk
    by_cases hlt : i < j.funcs.length
    · have hltB : decide ((i : Int) < (j.funcs.length : Int)) = true := decide_eq_true (by omega)
      have hltI : (i : Int) < (j.funcs.length : Int) := by omega
      have hi0 : (0 : Int) ≤ (i : Int) := by omega
      rcases Nat.lt_or_ge 2000 n with hn | hn
      · have hnB : decide ((n : Int) ≤ 2000) = false := decide_eq_false (by omega)
        have hnB2 : decide ((2000 : Int) < (n : Int)) = true := decide_eq_true (by omega)
        clear hn
        go_wp2
        go_ret
        exact big_ret HK.out.2.2 (fun h => by cases h)
      · have hnB : decide ((n : Int) ≤ 2000) = true := decide_eq_true (by omega)
        obtain ⟨f, hfi⟩ := get_ex hlt
        obtain ⟨b, off, cv, hfa, hb, c0', c1', c2', c3', hcode⟩ := HF.out.1.at_ hfi
        have c0 := cell_keep0 HK.out.2.2 c0'
        have c3 := cell_keep0 HK.out.2.2 c3'
        subst hfa
        obtain ⟨ca, cc, rfl⟩ := hcode.shape
        have hz := HF.out.2.2.fns f (List.mem_of_getElem? hfi)
        have h1 := hz.code
        have h2 := hz.name
        have es : (strB f.name).size = f.name.length := strB_size _
        have hw1 : IntKind.i64.wrap ((n : Int) + (f.code.length : Int)) = (n : Int) + (f.code.length : Int) := IntWalk.i64_in _ (by omega)
        have HSM := Lib.hid (big_sum hn h1 h2)
        have HN := Lib.hid (HK.out.1.next hn hfi hz)
        clear c0' c1' c2' c3' hcode hfi hz h1 h2 hn hb
        go_wp2
        go_quiet (fail)
        go_wp2
        go_roundw
        case rel => exact ⟨i + 1, n + f.code.length + f.name.length / 8, by omega, by go_num, by rw [← HSM.out], HN.out, HK.out.2.1.drewN _⟩
        case measure => simp [intOf]; omega
    · obtain rfl : i = j.funcs.length := by omega
      have hltB : decide ((j.funcs.length : Int) < (j.funcs.length : Int)) = false := decide_eq_false (by omega)
      rcases Nat.lt_or_ge 2000 n with hn | hn
      · have hnB2 : decide ((2000 : Int) < (n : Int)) = true := decide_eq_true (by omega)
        clear hn
        go_wp2
        go_ret
        exact big_ret HK.out.2.2 (fun h => by cases h)
      · have hnB2 : decide ((2000 : Int) < (n : Int)) = false := decide_eq_false (by omega)
        have HS := Lib.hid (bigOk_short HK.out.1 hn HL.out.1)
        have HSU := Lib.hid (show codeSum j.funcs ≤ 2000 from by have h9 := HK.out.1.2.1; rw [List.take_length] at h9; omega)
        clear hn
        go_wp2
        go_ret
        exact big_ret HK.out.2.2 (fun _ => ⟨HS.out, HL.out.2, HSU.out⟩)
/-! ### a job that is no more than that has a short text -/
theorem insLine_small {j : JB} (h : PlainJ j) {i : IN} (hi : i.In) (hn : i.op = 16 → nameL (fnAt j i.n) = true) : (insLine j i).length ≤ 29 := by
  have h1 := opName_len i.op
  by_cases h16 : i.op = 16
  · rw [insLine_16 h16]
    have := nameL_len (hn h16)
    simp
    omega
  · by_cases hh : hasN i.op = true
    · rw [insLine_has h16 hh]
      have := itoa_le hi.n
      simp
      omega
    · rw [insLine_no h16 (by simpa using hh)]
      simp
      omega
theorem funcLine_small {f : FN} (hf : f.In) (hn : nameL f.name = true) : (funcLine f).length ≤ 69 := by
  have h1 := nameL_len hn
  have h2 := itoa_le hf.args
  have h3 := itoa_le hf.locals
  unfold funcLine
  simp [glue, wFunc]
  omega
theorem codes_small {j : JB} (h : PlainJ j) : ∀ l : List IN, (∀ i ∈ l, i.In ∧ (i.op = 16 → nameL (fnAt j i.n) = true)) → (textL (l.map (insLine j))).length ≤ l.length * 30
  | [], _ => by simp [textL]
  | i :: l, hl => by
    have ih := codes_small h l (fun x hx => hl x (by simp [hx]))
    have h1 := insLine_small h (hl i (by simp)).1 (hl i (by simp)).2
    rw [List.map_cons]
    have e : textL (insLine j i :: l.map (insLine j)) = insLine j i ++ [10] ++ textL (l.map (insLine j)) := by simp [textL]
    rw [e, List.length_append, List.length_append, List.length_cons]
    simp
    omega
theorem fns_small {j : JB} (h : PlainJ j) : ∀ gs : List FN, (∀ g ∈ gs, g.In ∧ nameL g.name = true ∧ ∀ i ∈ g.code, i.op = 16 → nameL (fnAt j i.n) = true) → (textL (gs.flatMap (fnLines j))).length ≤ gs.length * 70 + codeSum gs * 30
  | [], _ => by simp [textL]
  | g :: gs, hg => by
    have ih := fns_small h gs (fun x hx => hg x (by simp [hx]))
    obtain ⟨h1, h2, h3⟩ := hg g (by simp)
    have h4 := funcLine_small h1 h2
    have h5 := codes_small h g.code (fun i hi => ⟨h1.code i hi, h3 i hi⟩)
    rw [List.flatMap_cons, textL_app, List.length_append]
    have e : textL (fnLines j g) = funcLine g ++ [10] ++ textL (g.code.map (insLine j)) := by simp [textL, fnLines]
    have e2 : codeSum (g :: gs) = g.code.length + codeSum gs := by simp [codeSum]
    rw [e, List.length_append, List.length_append, List.length_cons, e2]
    simp
    omega
theorem printJ_small {j : JB} (h : PlainJ j) (hj : j.In) (hs : codeSum j.funcs ≤ 2000) : (printJ j).length ≤ 131072 := by
  rw [printJ_plain h]
  have h1 := fns_small h j.funcs (fun g hg => ⟨hj.funcs g hg, (h.fnm hg).1, fun i hi h16 => (h.name (plainI_16 (h.ins hg hi) h16).1 (plainI_16 (h.ins hg hi) h16).2).choose_spec.2.2⟩)
  have h2 := h.few
  have h3 := (lines_short h hj).job
  have h4 := (lines_short h hj).main
  have e1 : (jobLine j).length = 4 + (glue 32 [Lib.itoa j.fuel, Lib.itoa j.tasks]).length := by rw [← jobLine_eq]; simp [wJob]; omega
  have e2 : (mainLine j).length = 5 + (glue 32 (fnAt j j.main :: j.args.map Lib.itoa)).length := by rw [← mainLine_eq]; simp [wMain]; omega
  unfold linesJ
  have e3 : textL (jobLine j :: mainLine j :: (j.funcs.flatMap (fnLines j) ++ [wEnd])) = jobLine j ++ [10] ++ (mainLine j ++ [10] ++ (textL (j.funcs.flatMap (fnLines j)) ++ (wEnd ++ [10]))) := by simp [textL]
  rw [e3]
  simp only [List.length_append, e1, e2]
  simp [wEnd]
  omega
end Go.Proofs.YtbdkmfcgnolihaaGreatDoor
