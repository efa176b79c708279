/- asm, plain: the texts of the laws on limits and on spawn, and what they are read as. -/
import Derived.Test.YtbdkmfcgnolihaaGreatDoorAPlain2
namespace Go.Proofs.YtbdkmfcgnolihaaGreatDoor
set_option linter.unusedSimpArgs false
set_option linter.unnecessarySimpa false
set_option linter.unusedVariables false
open Go.Lib
theorem textL_apl (a b : List BS) : textL (a ++ b) = textL a ++ textL b := by unfold textL; rw [List.flatMap_append]
def nmK (i : Nat) : BS := 102 :: decDigits i
theorem nmK_ok {i : Nat} (h : i ≤ 1000) : nameL (nmK i) = true := by
  have hl := dec_len (u := i) (by omega)
  have hall : (decDigits i).all (nameC false) = true := by
    rw [List.all_eq_true]
    intro b hb
    have := dec_all i b hb
    unfold nameC
    simp
    omega
  show (nameC true 102 && (decDigits i).all (nameC false) && decide ((decDigits i).length ≤ 19)) = true
  rw [hall, decide_eq_true hl]
  rfl
theorem nmK_inj {i j : Nat} (h : nmK i = nmK j) : i = j := dec_inj (by unfold nmK at h; injection h)
/-- a job's lines, of the functions gs alone -/
def linesF (j : JB) (gs : List FN) : List BS := jobLine j :: mainLine j :: (gs.flatMap (fnLines j) ++ [wEnd])
theorem linesF_no {j : JB} {gs : List FN} (hm : nameL (fnAt j j.main) = true) (hg : ∀ g ∈ gs, nameL g.name = true ∧ ∀ i ∈ g.code, i.op = 16 → nameL (fnAt j i.n) = true) : ∀ l ∈ linesF j gs, ∀ b ∈ l, b ≠ 10 := by
  intro l hl
  unfold linesF at hl
  rcases List.mem_cons.1 hl with rfl | hl
  · exact glue_no (by decide) (fun p hp => by
      simp at hp
      rcases hp with rfl | rfl | rfl
      · exact fun b hb => (words_no.1 b hb).2
      · exact itoa10 _
      · exact itoa10 _)
  rcases List.mem_cons.1 hl with rfl | hl
  · exact glue_no (by decide) (fun p hp => by
      rcases List.mem_cons.1 hp with rfl | hp
      · exact fun b hb => (words_no.2.1 b hb).2
      rcases List.mem_cons.1 hp with rfl | hp
      · exact nameL_no hm 10 (by decide)
      · obtain ⟨n, _, rfl⟩ := List.mem_map.1 hp
        exact itoa10 n)
  rcases List.mem_append.1 hl with hl | hl
  · obtain ⟨g, hgm, hl⟩ := List.mem_flatMap.1 hl
    unfold fnLines at hl
    rcases List.mem_cons.1 hl with rfl | hl
    · exact glue_no (by decide) (fun p hp => by
        simp at hp
        rcases hp with rfl | rfl | rfl | rfl
        · exact fun b hb => (words_no.2.2.1 b hb).2
        · exact nameL_no (hg g hgm).1 10 (by decide)
        · exact itoa10 _
        · exact itoa10 _)
    · obtain ⟨i, hi, rfl⟩ := List.mem_map.1 hl
      have hq := insW_ok (j := j) (i := i) ((hg g hgm).2 i hi) 10 (by decide)
      intro b hb
      unfold insLine at hb
      rcases List.mem_append.1 hb with hb | hb
      · simp at hb; subst hb; decide
      · exact glue_no (by decide) hq b hb
  · simp at hl
    subst hl
    exact fun b hb => (words_no.2.2.2 b hb).2
theorem run_two {j : JB} (hj : j.In) (hn : nameL (fnAt j j.main) = true) (ha : j.args.length ≤ 8) {rest : List BS} (hr : rest ≠ []) : runR 1 (jobLine j :: mainLine j :: rest) AR0 = runR 3 rest ⟨[], j.args, j.fuel, j.tasks, [⟨fnAt j j.main, 2, none⟩]⟩ := by
  rw [runR_step (by simp) (jobR_line hj AR0), runR_step hr (mainR_line hj hn ha _)]
  simp [AR0]
theorem fnLines_len (j : JB) (g : FN) : (fnLines j g).length = 1 + g.code.length := by
  unfold fnLines
  rw [List.length_cons, List.length_map]
  omega
theorem run_funcs2 {j : JB} {rest : List BS} (hrest : rest ≠ []) : ∀ (gs : List FN) (no : Nat) (r : AR), 3 ≤ no → (∀ g ∈ gs, g.In ∧ ∀ x ∈ g.code, x.op = 16 → nameL (fnAt j x.n) = true) → (r.funcs ++ gs).length ≤ 32 → plainFs j.funcs.length (r.funcs.map FN.name) gs = true →
    runR no (gs.flatMap (fnLines j) ++ rest) r = runR (no + (gs.flatMap (fnLines j)).length) rest { r with funcs := r.funcs ++ gs.map stripF, wants := r.wants ++ wantsF j no r.funcs.length gs }
  | [], no, r, _, _, _, _ => by simp [wantsF]
  | g :: gs, no, r, h3, hg, hl, hp => by
    obtain ⟨h1, h4⟩ := hg g (by simp)
    obtain ⟨hd, h2, hp2⟩ := plainFs_cons.1 hp
    unfold plainF at h2
    simp at h2
    obtain ⟨⟨hn, hc⟩, hall⟩ := h2
    have hlt : r.funcs.length < 32 := by simp at hl; omega
    have hfl := funcR_line h1 hn h3 hlt (fun x hx e => hd (by rw [← e]; exact List.mem_map_of_mem hx))
    have hcode := run_code (j := j) (rest := gs.flatMap (fnLines j) ++ rest) (by simp [hrest]) g.code (no + 1) { r with funcs := r.funcs ++ [⟨g.name, g.args, g.locals, []⟩] } r.funcs ⟨g.name, g.args, g.locals, []⟩ (by omega) (fun x hx => ⟨h1.code x hx, hall x hx, h4 x hx⟩) rfl (by simpa using hc)
    have ih := run_funcs2 hrest gs (no + 1 + g.code.length) { r with funcs := r.funcs ++ [stripF g], wants := r.wants ++ wantsI j r.funcs.length (no + 1) 0 g.code } (by omega) (fun x hx => hg x (by simp [hx])) (by simp at hl ⊢; omega) (by rw [List.map_append]; exact hp2)
    rw [List.flatMap_cons, List.append_assoc, List.length_append, fnLines_len]
    generalize (gs.flatMap (fnLines j)).length = q at *
    unfold fnLines at hcode ih ⊢
    rw [List.cons_append, runR_step (by simp [hrest]) hfl, hcode]
    simp only [List.nil_append, List.length_nil]
    refine Eq.trans ih ?_
    congr 1
    · omega
    · simp [stripF, wantsF, Nat.add_assoc]
theorem plainFs_of {nf : Nat} : ∀ {gs : List FN} {seen : List BS}, (∀ g ∈ gs, plainF nf g = true ∧ g.name ∉ seen) → (gs.map FN.name).Nodup → plainFs nf seen gs = true
  | [], _, _, _ => rfl
  | g :: gs, seen, h, hd => by
    rw [List.map_cons, List.nodup_cons] at hd
    refine plainFs_cons.2 ⟨(h g (by simp)).2, (h g (by simp)).1, plainFs_of (fun x hx => ⟨(h x (by simp [hx])).1, fun hm => ?_⟩) hd.2⟩
    rcases List.mem_append.1 hm with hm | hm
    · exact (h x (by simp [hx])).2 hm
    · rw [List.mem_singleton] at hm
      exact hd.1 (by rw [← hm]; exact List.mem_map_of_mem hx)
theorem nodup_names {m : Nat} {F : Nat → FN} (h : ∀ i, (F i).name = nmK i) : (((List.range m).map F).map FN.name).Nodup := by
  rw [List.map_map]
  unfold List.Nodup
  rw [List.pairwise_map]
  refine List.Pairwise.imp ?_ (List.nodup_range (n := m))
  intro a b hab e
  simp only [Function.comp_apply, h] at e
  exact hab (nmK_inj e)
/-! ### the jobs -/
def JL0 (n : Nat) : JB := ⟨[⟨nmK 0, 0, 0, []⟩], 0, List.replicate n 7, 1, 1⟩
def JL1 (n : Nat) : JB := ⟨[⟨nmK 0, 0, 0, List.replicate n ⟨2, 0⟩⟩], 0, [], 1, 1⟩
def fL (i : Nat) : FN := ⟨nmK i, 0, 0, []⟩
def JL2 (n : Nat) : JB := ⟨(List.range (n + 1)).map fL, 0, [], 1, 1⟩
def fS (a b i : Nat) : FN := ⟨nmK i, 0, 0, if i = a then [⟨16, (b : Int)⟩] else []⟩
def JS (m a b : Nat) : JB := ⟨(List.range m).map (fS a b), 0, [], 5, 5⟩
theorem nm0 : nameL (nmK 0) = true := nmK_ok (by omega)
theorem JL0_in (n : Nat) : (JL0 n).In := ⟨fun f hf => by
    rw [show f = _ from List.mem_singleton.1 hf]
    exact ⟨by simp [In64], by simp [In64], fun i hi => by simp at hi⟩, by simp [In64, JL0], fun x hx => by rw [(List.mem_replicate.1 hx).2]; simp [In64], by simp [In64, JL0], by simp [In64, JL0]⟩
theorem JL1_in (n : Nat) : (JL1 n).In := ⟨fun f hf => by
    rw [show f = _ from List.mem_singleton.1 hf]
    exact ⟨by simp [In64], by simp [In64], fun i hi => by rw [(List.mem_replicate.1 hi).2]; exact ⟨by simp [In64], by simp [In64]⟩⟩, by simp [In64, JL1], fun x hx => by simp [JL1] at hx, by simp [In64, JL1], by simp [In64, JL1]⟩
theorem fL_in (i : Nat) : (fL i).In := ⟨by simp [In64, fL], by simp [In64, fL], fun i hi => by simp [fL] at hi⟩
theorem JL2_in (n : Nat) : (JL2 n).In := ⟨fun f hf => by
    obtain ⟨i, _, rfl⟩ := List.mem_map.1 hf
    exact fL_in i, by simp [In64, JL2], fun x hx => by simp [JL2] at hx, by simp [In64, JL2], by simp [In64, JL2]⟩
theorem fS_in {a b : Nat} (hb : b ≤ 1000) (i : Nat) : (fS a b i).In := ⟨by simp [In64, fS], by simp [In64, fS], fun x hx => by
    unfold fS at hx
    simp only at hx
    split at hx
    · rw [List.mem_singleton.1 hx]; exact ⟨by simp [In64], by simp [In64]; omega⟩
    · cases hx⟩
theorem JS_in {m a b : Nat} (hb : b ≤ 1000) : (JS m a b).In := ⟨fun f hf => by
    obtain ⟨i, _, rfl⟩ := List.mem_map.1 hf
    exact fS_in hb i, by simp [In64, JS], fun x hx => by simp [JS] at hx, by simp [In64, JS], by simp [In64, JS]⟩
theorem JL0_main (n : Nat) : fnAt (JL0 n) (JL0 n).main = nmK 0 := rfl
theorem JL1_main (n : Nat) : fnAt (JL1 n) (JL1 n).main = nmK 0 := rfl
theorem JL2_main (n : Nat) : fnAt (JL2 n) (JL2 n).main = nmK 0 := by
  unfold fnAt JL2
  simp [List.range_succ_eq_map, fL]
theorem JS_at {m a b k : Nat} (h : k < m) : fnAt (JS m a b) (k : Int) = nmK k := by
  unfold fnAt JS
  simp [h, fS]
theorem JS_main {m a b : Nat} (h : 0 < m) : fnAt (JS m a b) (JS m a b).main = nmK 0 := JS_at (k := 0) h
/-! ### which are plain -/
theorem JL0_plain {n : Nat} (h : n ≤ 8) : PlainJ (JL0 n) := by
  refine ⟨by simp [JL0], by simpa [JL0] using h, by simp [JL0], by simp [JL0], ?_⟩
  refine plainFs_of (fun g hg => ?_) (by simp [JL0])
  rw [show g = _ from List.mem_singleton.1 hg]
  exact ⟨by unfold plainF; simp [nm0], by simp⟩
theorem JL1_plain {n : Nat} (h : n ≤ 256) : PlainJ (JL1 n) := by
  refine ⟨by simp [JL1], by simp [JL1], by simp [JL1], by simp [JL1], ?_⟩
  refine plainFs_of (fun g hg => ?_) (by simp [JL1])
  rw [show g = _ from List.mem_singleton.1 hg]
  refine ⟨?_, by simp⟩
  unfold plainF
  simp only [nm0, List.length_replicate, decide_eq_true h, Bool.true_and]
  rw [List.all_eq_true]
  intro x hx
  rw [(List.mem_replicate.1 hx).2]
  rfl
theorem fL_plain {nf i : Nat} (h : i ≤ 1000) : plainF nf (fL i) = true := by
  unfold plainF fL
  simp [nmK_ok h]
theorem JL2_plain {n : Nat} (h : n ≤ 31) : PlainJ (JL2 n) := by
  refine ⟨by simp [JL2] <;> omega, by simp [JL2], by simp [JL2], by simp [JL2] <;> omega, ?_⟩
  refine plainFs_of (fun g hg => ?_) (nodup_names (fun i => rfl))
  obtain ⟨i, hi, rfl⟩ := List.mem_map.1 hg
  exact ⟨fL_plain (by have := List.mem_range.1 hi; omega), by simp⟩
theorem fS_plain {nf a b i : Nat} (h : i ≤ 1000) (hb : b < nf) : plainF nf (fS a b i) = true := by
  unfold plainF fS
  simp only [nmK_ok h, Bool.true_and]
  split
  · have : plainI nf ⟨16, (b : Int)⟩ = true := by
      have h1 : opName 16 ≠ [] := by decide
      have h2 : hasN 16 = true := rfl
      unfold plainI
      simp [hb, h1, h2]
    simp [this]
  · rfl
theorem JS_plain {m a b : Nat} (h : m ≤ 32) (hb : b < m) : PlainJ (JS m a b) := by
  refine ⟨by simp [JS] <;> omega, by simp [JS], by simp [JS], by simp [JS] <;> omega, ?_⟩
  refine plainFs_of (fun g hg => ?_) (nodup_names (fun i => rfl))
  obtain ⟨i, hi, rfl⟩ := List.mem_map.1 hg
  refine ⟨?_, by simp⟩
  have hl : (JS m a b).funcs.length = m := by simp [JS]
  rw [hl]
  exact fS_plain (by have := List.mem_range.1 hi; omega) hb
/-! ### what is read -/
theorem read_ok {j : JB} (h : PlainJ j) (hj : j.In) : readP (textL (linesJ j)) = ⟨j, 0, 0⟩ := by
  rw [← printJ_plain h]
  exact readP_print h hj
theorem readP_err {ls : List BS} (hno : ∀ l ∈ ls, ∀ b ∈ l, b ≠ 10) {n : Nat} (h : runR 1 (ls ++ [[]]) AR0 = .error n) : readP (textL ls) = ⟨JB0, n, 2⟩ := by
  unfold readP
  rw [pieces_text _ hno, h]
theorem mainLine_ne (j : JB) : mainLine j ≠ wEnd := by
  intro e
  have := congrArg List.head? e
  simp [mainLine, glue, wMain, wEnd] at this
theorem funcLine_ne (f : FN) : funcLine f ≠ wEnd := by
  intro e
  have := congrArg List.head? e
  simp [funcLine, glue, wFunc, wEnd] at this
theorem insLine_ne (j : JB) (i : IN) : insLine j i ≠ wEnd := by
  intro e
  have := congrArg List.head? e
  simp [insLine, wEnd] at this
theorem read0 {n : Nat} (h : 8 < n) : readP (textL (linesJ (JL0 n))) = ⟨JB0, 2, 2⟩ := by
  refine readP_err (linesF_no (j := JL0 n) (gs := (JL0 n).funcs) nm0 (fun g hg => ?_)) ?_
  · rw [show g = _ from List.mem_singleton.1 hg]
    exact ⟨nm0, fun i hi => by simp at hi⟩
  · show runR 1 (linesJ (JL0 n) ++ [[]]) AR0 = _
    unfold linesJ
    rw [List.cons_append, List.cons_append, runR_step (by simp) (jobR_line (JL0_in n) AR0)]
    refine runR_fail (mainLine_ne _) ?_
    unfold lineR
    rw [if_neg (by decide), if_pos rfl, pieces_main (j := JL0 n) nm0]
    unfold mainR
    rw [JL0_main]
    simp only [JL0, List.map_replicate, List.length_replicate]
    rw [if_neg (by omega)]
theorem read1 {n : Nat} (h : 256 < n) : readP (textL (linesJ (JL1 n))) = ⟨JB0, 260, 2⟩ := by
  refine readP_err (linesF_no (j := JL1 n) (gs := (JL1 n).funcs) nm0 (fun g hg => ?_)) ?_
  · rw [show g = _ from List.mem_singleton.1 hg]
    exact ⟨nm0, fun i hi h16 => by rw [(List.mem_replicate.1 hi).2] at h16; exact absurd h16 (by decide)⟩
  · obtain ⟨m, hm256⟩ : ∃ m, m = 256 := ⟨_, rfl⟩
    obtain ⟨q, rfl⟩ : ∃ q, n = m + (q + 1) := ⟨n - 257, by omega⟩
    show runR 1 (linesJ (JL1 (m + (q + 1))) ++ [[]]) AR0 = _
    generalize hj : JL1 (m + (q + 1)) = j
    have hin : j.In := hj ▸ JL1_in _
    have hm : nameL (fnAt j j.main) = true := by rw [← hj]; exact nm0
    have ha : j.args.length ≤ 8 := by rw [← hj]; simp [JL1]
    have hf : j.funcs = [⟨nmK 0, 0, 0, List.replicate m ⟨2, 0⟩ ++ List.replicate (q + 1) ⟨2, 0⟩⟩] := by rw [← hj, List.replicate_append_replicate]; rfl
    have e1 : linesJ j ++ [[]] = jobLine j :: mainLine j :: (funcLine ⟨nmK 0, 0, 0, []⟩ :: ((List.replicate m (⟨2, 0⟩ : IN)).map (insLine j) ++ ((List.replicate (q + 1) (⟨2, 0⟩ : IN)).map (insLine j) ++ [wEnd, []]))) := by
      unfold linesJ
      rw [hf]
      simp only [fnLines, funcLine, List.flatMap_cons, List.flatMap_nil, List.append_nil, List.map_append, List.cons_append, List.append_assoc, List.nil_append]
    rw [e1, run_two hin hm ha (by simp), runR_step (by simp) (funcR_line (f := ⟨nmK 0, 0, 0, []⟩) ⟨by simp [In64], by simp [In64], fun i hi => by simp at hi⟩ nm0 (by omega) (by simp) (by simp)),
      run_code (j := j) (by simp) (List.replicate m ⟨2, 0⟩) 4 _ [] ⟨nmK 0, 0, 0, []⟩ (by omega) (fun x hx => by
        rw [(List.mem_replicate.1 hx).2]
        exact ⟨⟨by simp [In64], by simp [In64]⟩, by rw [hf]; rfl, fun h16 => absurd h16 (by decide)⟩) rfl (by simp; omega)]
    rw [List.replicate_succ, List.map_cons, List.cons_append]
    have e2 : 4 + (List.replicate m (⟨2, 0⟩ : IN)).length = 260 := by rw [List.length_replicate]; omega
    rw [e2]
    refine runR_fail (insLine_ne _ _) ?_
    rw [lineR_ge (by omega), if_pos (by simp [insLine])]
    unfold insR
    rw [if_pos (Or.inr ?_)]
    rw [lastLen_snoc]
    simp
    omega
theorem fL_lines (j : JB) : ∀ l : List Nat, ((l.map fL).flatMap (fnLines j)).length = l.length
  | [] => rfl
  | i :: l => by rw [List.map_cons, List.flatMap_cons, List.length_append, fnLines_len, fL_lines j l]; simp [fL]; omega
theorem read2 {n : Nat} (h : 31 < n) (h2 : n ≤ 1000) : readP (textL (linesJ (JL2 n))) = ⟨JB0, 35, 2⟩ := by
  have hm : nameL (fnAt (JL2 n) (JL2 n).main) = true := by rw [JL2_main]; exact nm0
  refine readP_err (linesF_no (j := JL2 n) (gs := (JL2 n).funcs) hm (fun g hg => ?_)) ?_
  · obtain ⟨i, hi, rfl⟩ := List.mem_map.1 hg
    exact ⟨nmK_ok (by have := List.mem_range.1 hi; omega), fun i hi => by simp [fL] at hi⟩
  · obtain ⟨q, hq⟩ : ∃ q, n + 1 = 32 + (q + 1) := ⟨n - 32, by omega⟩
    have hin := JL2_in n
    have ha : (JL2 n).args.length ≤ 8 := by simp [JL2]
    have hf : (JL2 n).funcs = (List.range 32).map fL ++ (fL 32 :: ((List.range q).map fun i => fL (32 + (i + 1)))) := by
      show (List.range (n + 1)).map fL = _
      rw [hq, List.range_add, List.map_append, List.map_map, List.range_succ_eq_map (n := q), List.map_cons, List.map_map]
      rfl
    show runR 1 (linesJ (JL2 n) ++ [[]]) AR0 = _
    generalize JL2 n = j at *
    generalize ((List.range q).map fun i => fL (32 + (i + 1))) = tl at hf
    have e1 : linesJ j ++ [[]] = jobLine j :: mainLine j :: (((List.range 32).map fL).flatMap (fnLines j) ++ (funcLine (fL 32) :: (tl.flatMap (fnLines j) ++ [wEnd, []]))) := by
      unfold linesJ
      rw [hf]
      simp [fnLines, funcLine, fL]
    rw [e1, run_two hin hm ha (by simp), run_funcs2 (by simp) ((List.range 32).map fL) 3 _ (by omega) (fun g hg => by
      obtain ⟨i, hi, rfl⟩ := List.mem_map.1 hg
      exact ⟨fL_in i, fun x hx => by simp [fL] at hx⟩) (by simp) (plainFs_of (fun g hg => by
      obtain ⟨i, hi, rfl⟩ := List.mem_map.1 hg
      exact ⟨fL_plain (by have := List.mem_range.1 hi; omega), by simp⟩) (nodup_names (fun i => rfl)))]
    have e2 : 3 + (((List.range 32).map fL).flatMap (fnLines j)).length = 35 := by rw [fL_lines, List.length_range]
    rw [e2]
    refine runR_fail (funcLine_ne _) ?_
    rw [lineR_ge (by omega), if_neg (funcLine_take _), pieces_func (nmK_ok (by omega))]
    unfold funcR
    simp only [List.nil_append, List.length_map, List.length_range]
    rw [if_neg (by omega)]
/-! ### spawn -/
theorem wantsF_cons (j : JB) (no f : Nat) (g : FN) (gs : List FN) : wantsF j no f (g :: gs) = wantsI j f (no + 1) 0 g.code ++ wantsF j (no + 1 + g.code.length) (f + 1) gs := rfl
theorem wantsF_app (j : JB) : ∀ (g1 g2 : List FN) (no f : Nat), wantsF j no f (g1 ++ g2) = wantsF j no f g1 ++ wantsF j (no + (g1.flatMap (fnLines j)).length) (f + g1.length) g2
  | [], g2, no, f => by simp [wantsF]
  | g :: g1, g2, no, f => by
    rw [List.cons_append]
    rw [wantsF_cons, wantsF_cons, wantsF_app j g1 g2, List.append_assoc, List.flatMap_cons, List.length_append, fnLines_len, List.length_cons]
    generalize (g1.flatMap (fnLines j)).length = q
    rw [show no + (1 + g.code.length + q) = no + 1 + g.code.length + q by omega, show f + (g1.length + 1) = f + 1 + g1.length by omega]
theorem wants_none (j : JB) (a b : Nat) : ∀ (l : List Nat) (no f : Nat), a ∉ l → wantsF j no f (l.map (fS a b)) = [] ∧ ((l.map (fS a b)).flatMap (fnLines j)).length = l.length
  | [], _, _, _ => ⟨rfl, rfl⟩
  | x :: l, no, f, h => by
    rw [List.mem_cons, not_or] at h
    have hc : (fS a b x).code = [] := by unfold fS; simp only; rw [if_neg (Ne.symm h.1)]
    obtain ⟨h1, h2⟩ := wants_none j a b l (no + 1 + (fS a b x).code.length) (f + 1) h.2
    constructor
    · rw [List.map_cons, wantsF_cons, h1, hc]
      rfl
    · rw [List.map_cons, List.flatMap_cons, List.length_append, fnLines_len, h2, hc, List.length_nil, List.length_cons]
      omega
theorem readS {n a b : Nat} (hn : n ≤ 20) (ha : a < n) (hb : n ≤ b) (hb2 : b ≤ 30) : readP (textL (linesF (JS (b + 1) a b) ((List.range n).map (fS a b)))) = ⟨JB0, 4 + a, 2⟩ := by
  have hin : (JS (b + 1) a b).In := JS_in (by omega)
  have hmn : fnAt (JS (b + 1) a b) (JS (b + 1) a b).main = nmK 0 := JS_main (by omega)
  have hm : nameL (fnAt (JS (b + 1) a b) (JS (b + 1) a b).main) = true := by rw [hmn]; exact nm0
  have hbn : fnAt (JS (b + 1) a b) (b : Int) = nmK b := JS_at (by omega)
  have hl : (JS (b + 1) a b).funcs.length = b + 1 := by simp [JS]
  have har : (JS (b + 1) a b).args = [] := rfl
  have hal : (JS (b + 1) a b).args.length ≤ 8 := by rw [har]; simp
  generalize JS (b + 1) a b = j at *
  have hg : ∀ g ∈ (List.range n).map (fS a b), g.In ∧ ∀ x ∈ g.code, x.op = 16 → nameL (fnAt j x.n) = true := by
    intro g hg
    obtain ⟨i, hi, rfl⟩ := List.mem_map.1 hg
    refine ⟨fS_in (by omega) i, fun x hx h16 => ?_⟩
    unfold fS at hx
    simp only at hx
    split at hx
    · rw [List.mem_singleton.1 hx]
      show nameL (fnAt j (b : Int)) = true
      rw [hbn]
      exact nmK_ok (by omega)
    · cases hx
  have hno : ∀ l ∈ linesF j ((List.range n).map (fS a b)), ∀ c ∈ l, c ≠ 10 := linesF_no hm (fun g h => ⟨by
    obtain ⟨i, hi, rfl⟩ := List.mem_map.1 h
    exact nmK_ok (by have := List.mem_range.1 hi; omega), (hg g h).2⟩)
  have hw : wantsF j 3 0 ((List.range n).map (fS a b)) = ⟨nmK b, 4 + a, some (a, 0)⟩ :: wantsF j (3 + a + 1 + 1) (a + 1) ((List.range (n - (a + 1))).map fun i => fS a b (a + (i + 1))) := by
    obtain ⟨q, rfl⟩ : ∃ q, n = a + (q + 1) := ⟨n - (a + 1), by omega⟩
    have er : List.range (a + (q + 1)) = List.range a ++ a :: (List.range q).map (fun i => a + (i + 1)) := by
      rw [List.range_add, List.range_succ_eq_map]
      simp [Function.comp_def]
    obtain ⟨h1, h2⟩ := wants_none j a b (List.range a) 3 0 (by simp)
    rw [er, List.map_append, wantsF_app, h1, h2, List.length_map, List.length_range, List.map_cons, wantsF_cons]
    have hc : (fS a b a).code = [⟨16, (b : Int)⟩] := by unfold fS; simp
    rw [hc]
    simp only [wantsI, hbn, List.nil_append, List.length_singleton, if_true, List.append_nil, List.singleton_append, List.map_map, Nat.zero_add]
    rw [show a + (q + 1) - (a + 1) = q by omega, show 3 + a + 1 = 4 + a by omega]
    first | rfl | (simp [Function.comp_def])
  have hr : runR 1 (linesF j ((List.range n).map (fS a b)) ++ [[]]) AR0 = .ok ⟨((List.range n).map (fS a b)).map stripF, j.args, j.fuel, j.tasks, ⟨fnAt j j.main, 2, none⟩ :: wantsF j 3 0 ((List.range n).map (fS a b))⟩ := by
    unfold linesF
    rw [List.cons_append, List.cons_append, List.append_assoc, run_two hin hm hal (by simp), run_funcs2 (by simp) _ 3 _ (by omega) hg (by simp; omega) (plainFs_of (fun g h => by
      obtain ⟨i, hi, rfl⟩ := List.mem_map.1 h
      exact ⟨fS_plain (by have := List.mem_range.1 hi; omega) (by omega), by simp⟩) (nodup_names (fun i => rfl)))]
    show (if 3 ≤ _ ∧ wEnd = wEnd then _ else _) = _
    rw [if_pos ⟨by omega, rfl⟩, if_pos rfl]
    simp
  unfold readP
  rw [pieces_text _ hno, hr]
  have hf0 : findF (((List.range n).map (fS a b)).map stripF) (nmK 0) = some 0 := by
    obtain ⟨q, rfl⟩ : ∃ q, n = q + 1 := ⟨n - 1, by omega⟩
    rw [List.range_succ_eq_map]
    unfold findF
    simp [List.findIdx?_cons, stripF, fS]
  have hfb : findF (((List.range n).map (fS a b)).map stripF) (nmK b) = none := by
    unfold findF
    rw [List.findIdx?_eq_none_iff]
    intro f hf
    obtain ⟨g, hg, rfl⟩ := List.mem_map.1 hf
    obtain ⟨i, hi, rfl⟩ := List.mem_map.1 hg
    have hi := List.mem_range.1 hi
    have : nmK i ≠ nmK b := fun e => by have := nmK_inj e; omega
    simpa [stripF, fS] using this
  have hnn : namesR (⟨fnAt j j.main, 2, none⟩ :: wantsF j 3 0 ((List.range n).map (fS a b))) (((List.range n).map (fS a b)).map stripF) 0 = .error (4 + a) := by
    rw [hmn, hw]
    unfold namesR
    simp only [hf0]
    unfold namesR
    simp only [hfb]
  simp only [hnn]
/-! ### the texts, as the laws make them -/
theorem it0 : itoa 0 = [48] := by decide +kernel
theorem it1 : itoa 1 = [49] := by decide +kernel
theorem it5 : itoa 5 = [53] := by decide +kernel
theorem it7 : itoa 7 = [55] := by decide +kernel
theorem dg0 : decDigits 0 = [48] := by decide +kernel
def tA : BS := [106, 111, 98, 32, 49, 32, 49, 10, 109, 97, 105, 110, 32, 102, 48]
def tF : BS := [10, 102, 117, 110, 99, 32, 102, 48, 32, 48, 32, 48, 10]
def tE : BS := [101, 110, 100, 10]
def tS : BS := [106, 111, 98, 32, 53, 32, 53, 10, 109, 97, 105, 110, 32, 102, 48, 10]
def fnT (i : Nat) : BS := [102, 117, 110, 99, 32, 102] ++ decDigits i ++ [32, 48, 32, 48, 10]
def spT (b : Nat) : BS := [32, 32, 115, 112, 97, 119, 110, 32, 102] ++ decDigits b ++ [10]
def tx0 (n : Nat) : BS := tA ++ (List.replicate n [32, 55]).flatten
def tx1 (n : Nat) : BS := tA ++ tF ++ (List.replicate n [32, 32, 112, 111, 112, 10]).flatten
def tx2 (n : Nat) : BS := tA ++ [10] ++ (List.range n).flatMap fnT
def txS (a b n : Nat) : BS := tS ++ (List.range n).flatMap fun i => fnT i ++ if i = a then spT b else []
theorem tx0_succ (n : Nat) : tx0 (n + 1) = tx0 n ++ [32, 55] := by unfold tx0; rw [List.replicate_succ', List.flatten_append]; simp
theorem tx1_succ (n : Nat) : tx1 (n + 1) = tx1 n ++ [32, 32, 112, 111, 112, 10] := by unfold tx1; rw [List.replicate_succ', List.flatten_append]; simp
theorem tx2_succ (n : Nat) : tx2 (n + 1) = tx2 n ++ fnT n := by unfold tx2; rw [List.range_succ, List.flatMap_append]; simp
theorem txS_succ (a b n : Nat) : txS a b (n + 1) = txS a b n ++ (fnT n ++ if n = a then spT b else []) := by unfold txS; rw [List.range_succ, List.flatMap_append]; simp
theorem tx0_len (n : Nat) : (tx0 n).length = 15 + 2 * n := by
  induction n with
  | zero => rfl
  | succ n ih => rw [tx0_succ, List.length_append, ih]; simp; omega
theorem tx1_len (n : Nat) : (tx1 n).length = 28 + 6 * n := by
  induction n with
  | zero => rfl
  | succ n ih => rw [tx1_succ, List.length_append, ih]; simp; omega
theorem fnT_len {i : Nat} (h : i ≤ 1000) : (fnT i).length ≤ 30 := by have := dec_len (u := i) (by omega); unfold fnT; simp; omega
theorem spT_len {i : Nat} (h : i ≤ 1000) : (spT i).length ≤ 29 := by have := dec_len (u := i) (by omega); unfold spT; simp; omega
theorem tx2_len (n : Nat) (h : n ≤ 1000) : (tx2 n).length ≤ 16 + 30 * n := by
  induction n with
  | zero => decide
  | succ n ih => rw [tx2_succ, List.length_append]; have := ih (by omega); have := fnT_len (i := n) (by omega); omega
theorem txS_len (a b n : Nat) (h : n ≤ 1000) (hb : b ≤ 1000) : (txS a b n).length ≤ 16 + 60 * n := by
  induction n with
  | zero => simp [txS, tS]
  | succ n ih =>
    rw [txS_succ, List.length_append, List.length_append]
    have := ih (by omega)
    have := fnT_len (i := n) (by omega)
    have := spT_len hb
    split
    · omega
    · simp; omega
theorem text_fn (j : JB) (i : Nat) (f : FN) (hn : f.name = nmK i) (ha : f.args = 0) (hl : f.locals = 0) : textL (fnLines j f) = fnT i ++ textL (f.code.map (insLine j)) := by
  unfold fnLines
  show funcLine f ++ [10] ++ textL _ = _
  congr 1
  unfold funcLine fnT
  rw [hn, ha, hl, it0]
  simp [glue, wFunc, nmK]
theorem text_flat (f : FN → List BS) : ∀ gs : List FN, textL (gs.flatMap f) = gs.flatMap fun g => textL (f g)
  | [] => rfl
  | g :: gs => by rw [List.flatMap_cons, textL_apl, text_flat f gs, List.flatMap_cons]
theorem flat_rep {α β : Type} (f : α → List β) (a : α) : ∀ n : Nat, (List.replicate n a).flatMap f = (List.replicate n (f a)).flatten
  | 0 => rfl
  | n + 1 => by rw [List.replicate_succ, List.flatMap_cons, flat_rep f a n, List.replicate_succ, List.flatten_cons]
theorem textL_two (a b : BS) (c : List BS) : textL (a :: b :: c) = a ++ [10] ++ (b ++ [10] ++ textL c) := by simp [textL]
theorem text0 (n : Nat) : textL (linesJ (JL0 n)) = tx0 n ++ tF ++ tE := by
  unfold linesJ
  rw [textL_two, textL_apl, text_flat]
  simp only [JL0, List.flatMap_cons, List.flatMap_nil, List.append_nil]
  rw [text_fn _ 0 _ rfl rfl rfl]
  unfold jobLine mainLine tx0
  simp only [it1, List.map_replicate, it7]
  simp [glue, textL, fnT, dg0, wJob, wMain, fnAt, nmK, tA, tF, tE, wEnd, flat_rep]
theorem text1 (n : Nat) : textL (linesJ (JL1 n)) = tx1 n ++ tE := by
  unfold linesJ
  rw [textL_two, textL_apl, text_flat]
  simp only [JL1, List.flatMap_cons, List.flatMap_nil, List.append_nil]
  rw [text_fn _ 0 _ rfl rfl rfl]
  unfold jobLine mainLine tx1
  have e2 : ∀ j : JB, insLine j ⟨2, 0⟩ = [32, 32, 112, 111, 112] := fun j => rfl
  simp only [it1, List.map_replicate, e2]
  simp [glue, textL, fnT, dg0, wJob, wMain, fnAt, nmK, tA, tF, tE, wEnd, flat_rep]
theorem text2 (n : Nat) : textL (linesJ (JL2 n)) = tx2 (n + 1) ++ tE := by
  have hm := JL2_main n
  have hj : jobLine (JL2 n) = [106, 111, 98, 32, 49, 32, 49] := by unfold jobLine; simp [JL2, it1, glue, wJob]
  have hml : mainLine (JL2 n) = [109, 97, 105, 110, 32, 102, 48] := by unfold mainLine; rw [hm]; simp [JL2, glue, wMain, nmK, dg0]
  unfold linesJ
  rw [textL_two, textL_apl, text_flat, hj, hml]
  have e : ∀ i, textL (fnLines (JL2 n) (fL i)) = fnT i := fun i => by rw [text_fn _ i _ rfl rfl rfl]; simp [fL, textL]
  unfold tx2
  show _ ++ (_ ++ (((List.range (n + 1)).map fL).flatMap _ ++ _)) = _
  rw [List.flatMap_map]
  simp only [e]
  simp [textL, tA, tE, wEnd]
theorem textS {m n a b : Nat} (hn : 0 < m) (hb : b < m) : textL (linesF (JS m a b) ((List.range n).map (fS a b))) = txS a b n ++ tE := by
  have hm : fnAt (JS m a b) (JS m a b).main = nmK 0 := JS_main hn
  have hbn : fnAt (JS m a b) (b : Int) = nmK b := JS_at hb
  have hj : jobLine (JS m a b) = [106, 111, 98, 32, 53, 32, 53] := by unfold jobLine; simp [JS, it5, glue, wJob]
  have hml : mainLine (JS m a b) = [109, 97, 105, 110, 32, 102, 48] := by unfold mainLine; rw [hm]; simp [JS, glue, wMain, nmK, dg0]
  generalize JS m a b = j at *
  unfold linesF
  rw [textL_two, textL_apl, text_flat, hj, hml]
  have e : ∀ i, textL (fnLines j (fS a b i)) = fnT i ++ if i = a then spT b else [] := fun i => by
    rw [text_fn _ i _ rfl rfl rfl]
    congr 1
    unfold fS
    simp only
    split
    · show insLine j ⟨16, (b : Int)⟩ ++ [10] ++ [] = _
      unfold insLine insW
      simp only [if_true]
      rw [hbn]
      show [32, 32] ++ glue 32 [[115, 112, 97, 119, 110], nmK b] ++ [10] ++ [] = _
      simp [glue, spT, nmK]
    · rfl
  unfold txS
  rw [List.flatMap_map]
  simp only [e]
  simp [textL, tS, tE, wEnd]
/-! ### what the laws want -/
theorem limit0 {n : Nat} (h : n ≤ 300) : readJ (tx0 n ++ tF ++ tE) = if n ≤ 8 then ⟨JL0 n, 0, 0⟩ else ⟨JB0, 2, 2⟩ := by
  unfold readJ
  rw [if_neg (by simp only [List.length_append, tx0_len]; simp [tF, tE]; omega), ← text0]
  split
  · exact read_ok (JL0_plain (by omega)) (JL0_in n)
  · exact read0 (by omega)
theorem limit1 {n : Nat} (h : n ≤ 300) : readJ (tx1 n ++ tE) = if n ≤ 256 then ⟨JL1 n, 0, 0⟩ else ⟨JB0, 260, 2⟩ := by
  unfold readJ
  rw [if_neg (by simp only [List.length_append, tx1_len]; simp [tE]; omega), ← text1]
  split
  · exact read_ok (JL1_plain (by omega)) (JL1_in n)
  · exact read1 (by omega)
theorem limit2 {n : Nat} (h : n ≤ 300) : readJ (tx2 (n + 1) ++ tE) = if n ≤ 31 then ⟨JL2 n, 0, 0⟩ else ⟨JB0, 35, 2⟩ := by
  unfold readJ
  rw [if_neg (by have := tx2_len (n + 1) (by omega); simp only [List.length_append]; simp [tE]; omega), ← text2]
  split
  · exact read_ok (JL2_plain (by omega)) (JL2_in n)
  · exact read2 (by omega) (by omega)
theorem spawns {n a b : Nat} (hn : n ≤ 20) (ha : a < n) (hb : b ≤ 30) : readJ (txS a b n ++ tE) = if b < n then ⟨JS n a b, 0, 0⟩ else ⟨JB0, 4 + a, 2⟩ := by
  unfold readJ
  rw [if_neg (by have := txS_len a b n (by omega) (by omega); simp only [List.length_append]; simp [tE]; omega)]
  split
  · rename_i h
    rw [← textS (m := n) (by omega) h]
    exact read_ok (JS_plain (by omega) h) (JS_in (by omega))
  · rename_i h
    rw [← textS (m := b + 1) (by omega) (by omega)]
    exact readS hn ha (by omega) hb
end Go.Proofs.YtbdkmfcgnolihaaGreatDoor
