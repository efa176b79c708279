/- asm, plain: what is written is read as it was. -/
import Derived.Test.YtbdkmfcgnolihaaGreatDoorAPlain
namespace Go.Proofs.YtbdkmfcgnolihaaGreatDoor
set_option linter.unusedSimpArgs false
set_option linter.unnecessarySimpa false
set_option linter.unusedVariables false
open Go.Lib
theorem pieces_text : ∀ (ls : List BS), (∀ l ∈ ls, ∀ b ∈ l, b ≠ 10) → pieces 10 (textL ls) = ls ++ [[]]
  | [], _ => rfl
  | l :: ls, h => by
    have ih := pieces_text ls (fun x hx => h x (by simp [hx]))
    unfold textL at ih ⊢
    rw [List.flatMap_cons, List.append_assoc, List.singleton_append, pieces_app _ (h l (by simp)), ih]
    rfl
theorem glue_no {c d : UInt8} {ps : List BS} (hd : c ≠ d) (h : ∀ p ∈ ps, ∀ b ∈ p, b ≠ d) : ∀ b ∈ glue c ps, b ≠ d := by
  intro b hb
  rcases glue_mem hb with rfl | ⟨p, hp, hb⟩
  · exact hd
  · exact h p hp b hb
theorem itoa32 (n : Int) : ∀ b ∈ itoa n, b ≠ 32 := itoa_no 32 n (Or.inl (by decide))
theorem itoa10 (n : Int) : ∀ b ∈ itoa n, b ≠ 10 := itoa_no 10 n (Or.inl (by decide))
theorem words_no : (∀ b ∈ wJob, b ≠ 32 ∧ b ≠ 10) ∧ (∀ b ∈ wMain, b ≠ 32 ∧ b ≠ 10) ∧ (∀ b ∈ wFunc, b ≠ 32 ∧ b ≠ 10) ∧ (∀ b ∈ wEnd, b ≠ 32 ∧ b ≠ 10) := by decide
theorem readInts_map : ∀ {l : List Int}, (∀ n ∈ l, In64 n) → readInts (l.map itoa) = some l
  | [], _ => rfl
  | n :: l, h => by
    have ih := readInts_map (l := l) (fun x hx => h x (by simp [hx]))
    show (match readInt (itoa n) with | none => none | some n => (readInts (l.map itoa)).map fun l => n :: l) = _
    rw [readInt_itoa (h n (by simp)), ih]
    rfl
/-! ### one line -/
theorem pieces_job (j : JB) : pieces 32 (jobLine j) = [wJob, itoa j.fuel, itoa j.tasks] :=
  pieces_glue (fun q hq => by
    simp at hq
    rcases hq with rfl | rfl | rfl
    · exact fun b hb => (words_no.1 b hb).1
    · exact itoa32 _
    · exact itoa32 _)
theorem pieces_main {j : JB} (h : nameL (fnAt j j.main) = true) : pieces 32 (mainLine j) = wMain :: fnAt j j.main :: j.args.map itoa :=
  pieces_glue (fun q hq => by
    rcases List.mem_cons.1 hq with rfl | hq
    · exact fun b hb => (words_no.2.1 b hb).1
    · rcases List.mem_cons.1 hq with rfl | hq
      · exact nameL_no h 32 (by decide)
      · obtain ⟨n, _, rfl⟩ := List.mem_map.1 hq
        exact itoa32 n)
theorem pieces_func {f : FN} (h : nameL f.name = true) : pieces 32 (funcLine f) = [wFunc, f.name, itoa f.args, itoa f.locals] :=
  pieces_glue (fun q hq => by
    simp at hq
    rcases hq with rfl | rfl | rfl | rfl
    · exact fun b hb => (words_no.2.2.1 b hb).1
    · exact nameL_no h 32 (by decide)
    · exact itoa32 _
    · exact itoa32 _)
theorem insW_ok {j : JB} {i : IN} (h : i.op = 16 → nameL (fnAt j i.n) = true) (c : UInt8) (hc : c.toNat < 45) : ∀ q ∈ insW j i, ∀ b ∈ q, b ≠ c := by
  unfold insW
  intro q hq
  split at hq
  · rename_i h16
    simp at hq
    rcases hq with rfl | rfl
    · exact opName_no _ c (by omega)
    · exact nameL_no (h h16) c (by omega)
  · split at hq
    · simp at hq
      rcases hq with rfl | rfl
      · exact opName_no _ c (by omega)
      · exact itoa_no c _ (Or.inl hc)
    · simp at hq
      subst hq
      exact opName_no _ c (by omega)
theorem insW_ne (j : JB) (i : IN) : ∃ q qs, insW j i = q :: qs := by
  unfold insW
  split
  · exact ⟨_, _, rfl⟩
  · split <;> exact ⟨_, _, rfl⟩
theorem pieces_ins {j : JB} {i : IN} (h : i.op = 16 → nameL (fnAt j i.n) = true) : pieces 32 (glue 32 (insW j i)) = insW j i := by
  have h1 := insW_ok h 32 (by decide)
  obtain ⟨q, qs, e⟩ := insW_ne j i
  rw [e] at h1 ⊢
  exact pieces_glue h1
theorem jobR_line {j : JB} (hj : j.In) (r : AR) : lineR 1 (jobLine j) r = some { r with fuel := j.fuel, tasks := j.tasks } := by
  unfold lineR
  rw [if_pos rfl, pieces_job]
  unfold jobR
  simp [readInt_itoa hj.fuel, readInt_itoa hj.tasks]
theorem mainR_line {j : JB} (hj : j.In) (hn : nameL (fnAt j j.main) = true) (ha : j.args.length ≤ 8) (r : AR) : lineR 2 (mainLine j) r = some { r with args := j.args, wants := r.wants ++ [⟨fnAt j j.main, 2, none⟩] } := by
  unfold lineR
  rw [if_neg (by decide), if_pos rfl, pieces_main hn]
  unfold mainR
  simp [hn, ha, readInts_map hj.args]
theorem funcLine_take (f : FN) : ¬ (funcLine f).take 2 = [32, 32] := by
  unfold funcLine
  rw [glue_cons]
  simp [wFunc]
theorem lineR_ge {no : Nat} (h : 3 ≤ no) (l : BS) (r : AR) : lineR no l r = if l.take 2 = [32, 32] then insR no (pieces 32 (l.drop 2)) r else funcR (pieces 32 l) r := by
  unfold lineR
  rw [if_neg (by omega), if_neg (by omega)]
theorem funcR_line {f : FN} (hf : f.In) (hn : nameL f.name = true) {no : Nat} (h3 : 3 ≤ no) {r : AR} (hl : r.funcs.length < 32) (hd : ∀ g ∈ r.funcs, g.name ≠ f.name) : lineR no (funcLine f) r = some { r with funcs := r.funcs ++ [⟨f.name, f.args, f.locals, []⟩] } := by
  rw [lineR_ge h3, if_neg (funcLine_take f), pieces_func hn]
  unfold funcR
  simp only
  rw [if_pos ⟨trivial, hn, hl, hd⟩, readInt_itoa hf.args, readInt_itoa hf.locals]
def stripI (i : IN) : IN := if i.op = 16 then ⟨16, 0⟩ else i
def stripF (f : FN) : FN := { f with code := f.code.map stripI }
theorem modify_snoc {α : Type} (f : α → α) : ∀ (l : List α) (x : α), (l ++ [x]).modify l.length f = l ++ [f x]
  | [], x => rfl
  | y :: l, x => by
    show y :: (l ++ [x]).modify l.length f = _
    rw [modify_snoc f l x]
    rfl
theorem addI_snoc (fs : List FN) (g : FN) (i : IN) : addI (fs ++ [g]) i = fs ++ [{ g with code := g.code ++ [i] }] := by
  unfold addI
  rw [List.length_append, List.length_singleton, Nat.add_sub_cancel, modify_snoc]
theorem lastLen_snoc (fs : List FN) (g : FN) : lastLen (fs ++ [g]) = g.code.length := by
  unfold lastLen
  simp
/-- an instruction's line -/
theorem insR_line {j : JB} {i : IN} (hi : i.In) (hp : plainI j.funcs.length i = true) (hn : i.op = 16 → nameL (fnAt j i.n) = true) {no : Nat} (h3 : 3 ≤ no) {r : AR} {fs : List FN} {g : FN} (hr : r.funcs = fs ++ [g]) (hl : g.code.length < 256) :
    ∃ ws, lineR no (insLine j i) r = some { r with funcs := fs ++ [{ g with code := g.code ++ [stripI i] }], wants := r.wants ++ ws } ∧ ws = if i.op = 16 then [⟨fnAt j i.n, no, some (fs.length, g.code.length)⟩] else [] := by
  refine ⟨_, ?_, rfl⟩
  have ht : (insLine j i).take 2 = [32, 32] := by simp [insLine]
  have hd : (insLine j i).drop 2 = glue 32 (insW j i) := by simp [insLine]
  rw [lineR_ge h3, if_pos ht, hd, pieces_ins hn]
  have hne : r.funcs ≠ [] := by rw [hr]; simp
  unfold plainI at hp
  simp at hp
  obtain ⟨⟨h1, h2⟩, h4⟩ := hp
  have ho := opOf_name h1
  unfold insR
  rw [if_neg (by rw [hr, lastLen_snoc]; simp; omega)]
  unfold insW stripI
  by_cases h16 : i.op = 16
  · have hh : hasN i.op = true := by rw [h16]; rfl
    simp only [h16, if_true]
    rw [h16] at ho
    simp only [ho, hn h16, if_true]
    rw [hr, addI_snoc, lastLen_snoc]
    simp [show hasN 16 = true from rfl]
  · simp only [h16, if_false]
    by_cases hh : hasN i.op = true
    · simp only [hh, if_true, ho, readInt_itoa hi.n, h16, if_false, List.append_nil]
      rw [hr, addI_snoc]
      simp
    · have hf : hasN i.op = false := by simpa using hh
      have hz : i.n = 0 := by rcases h2 with h2 | h2; exact absurd h2 hh; exact h2
      simp only [hf, ho, Bool.false_eq_true, if_false, List.append_nil]
      rw [hr, addI_snoc]
      obtain ⟨op, n⟩ := i
      simp only at hz
      subst hz
      rfl
/-! ### many lines -/
theorem runR_cons {no : Nat} {l : BS} {ls : List BS} {r r' : AR} (hl : ls ≠ []) (hne : l ≠ wEnd) (h : lineR no l r = some r') : runR no (l :: ls) r = runR (no + 1) ls r' := by
  cases ls with
  | nil => exact absurd rfl hl
  | cons l2 ls =>
    show (if 3 ≤ no ∧ l = wEnd then _ else _) = _
    rw [if_neg (fun h => hne h.2), h]
theorem runR_fail {no : Nat} {l : BS} {ls : List BS} {r : AR} (hne : l ≠ wEnd) (h : lineR no l r = none) : runR no (l :: ls) r = .error no := by
  cases ls with
  | nil => rfl
  | cons l2 ls =>
    show (if 3 ≤ no ∧ l = wEnd then _ else _) = _
    rw [if_neg (fun h => hne h.2), h]
theorem lineR_end {no : Nat} (r : AR) : lineR no wEnd r = none := by
  unfold lineR
  split
  · rfl
  · split
    · rfl
    · rfl
theorem runR_step {no : Nat} {l : BS} {ls : List BS} {r r' : AR} (hl : ls ≠ []) (h : lineR no l r = some r') : runR no (l :: ls) r = runR (no + 1) ls r' :=
  runR_cons hl (fun e => by rw [e, lineR_end] at h; cases h) h
/-- the wants of a row of instructions -/
def wantsI (j : JB) (f : Nat) : Nat → Nat → List IN → List WT
  | _, _, [] => []
  | no, i, x :: xs => (if x.op = 16 then [⟨fnAt j x.n, no, some (f, i)⟩] else []) ++ wantsI j f (no + 1) (i + 1) xs
theorem run_code {j : JB} {rest : List BS} (hrest : rest ≠ []) : ∀ (cs : List IN) (no : Nat) (r : AR) (fs : List FN) (g : FN), 3 ≤ no → (∀ x ∈ cs, x.In ∧ plainI j.funcs.length x = true ∧ (x.op = 16 → nameL (fnAt j x.n) = true)) → r.funcs = fs ++ [g] → g.code.length + cs.length ≤ 256 →
    runR no (cs.map (insLine j) ++ rest) r = runR (no + cs.length) rest { r with funcs := fs ++ [{ g with code := g.code ++ cs.map stripI }], wants := r.wants ++ wantsI j fs.length no g.code.length cs }
  | [], no, r, fs, g, _, _, hr, _ => by
    obtain ⟨rf, ra, rfu, rt, rw⟩ := r
    simp only at hr
    subst hr
    simp [wantsI]
  | x :: cs, no, r, fs, g, h3, hx, hr, hl => by
    obtain ⟨h1, h2, h4⟩ := hx x (by simp)
    obtain ⟨ws, hw, rfl⟩ := insR_line h1 h2 h4 h3 hr (by rw [List.length_cons] at hl; omega)
    have ih := run_code hrest cs (no + 1) { r with funcs := fs ++ [{ g with code := g.code ++ [stripI x] }], wants := r.wants ++ if x.op = 16 then [⟨fnAt j x.n, no, some (fs.length, g.code.length)⟩] else [] } fs { g with code := g.code ++ [stripI x] } (by omega) (fun y hy => hx y (by simp [hy])) rfl (by simp at hl ⊢; omega)
    rw [List.map_cons, List.cons_append, runR_step (by simp [hrest]) hw, ih, List.length_cons]
    simp only [wantsI, List.map_cons, List.append_assoc, List.length_append, List.length_singleton, List.singleton_append]
    congr 1
    omega
def wantsF (j : JB) : Nat → Nat → List FN → List WT
  | _, _, [] => []
  | no, f, g :: gs => wantsI j f (no + 1) 0 g.code ++ wantsF j (no + 1 + g.code.length) (f + 1) gs
theorem plainFs_cons {nf : Nat} {seen : List BS} {f : FN} {r : List FN} : plainFs nf seen (f :: r) = true ↔ f.name ∉ seen ∧ plainF nf f = true ∧ plainFs nf (seen ++ [f.name]) r = true := by
  show (!seen.contains f.name && plainF nf f && plainFs nf (seen ++ [f.name]) r) = true ↔ _
  simp [and_assoc]
theorem run_funcs {j : JB} {rest : List BS} (hrest : rest ≠ []) : ∀ (gs : List FN) (no : Nat) (r : AR), 3 ≤ no → (∀ g ∈ gs, g.In ∧ ∀ x ∈ g.code, x.op = 16 → nameL (fnAt j x.n) = true) → (r.funcs ++ gs).length ≤ 32 → plainFs j.funcs.length (r.funcs.map FN.name) gs = true →
    ∃ k, runR no (gs.flatMap (fnLines j) ++ rest) r = runR (no + k) rest { r with funcs := r.funcs ++ gs.map stripF, wants := r.wants ++ wantsF j no r.funcs.length gs }
  | [], no, r, _, _, _, _ => ⟨0, by simp [wantsF]⟩
  | g :: gs, no, r, h3, hg, hl, hp => by
    obtain ⟨h1, h4⟩ := hg g (by simp)
    obtain ⟨hd, h2, hp2⟩ := plainFs_cons.1 hp
    unfold plainF at h2
    simp at h2
    obtain ⟨⟨hn, hc⟩, hall⟩ := h2
    have hlt : r.funcs.length < 32 := by simp at hl; omega
    have hfl := funcR_line h1 hn h3 hlt (fun x hx e => hd (by rw [← e]; exact List.mem_map_of_mem hx))
    have hcode := run_code (j := j) (rest := gs.flatMap (fnLines j) ++ rest) (by simp [hrest]) g.code (no + 1) { r with funcs := r.funcs ++ [⟨g.name, g.args, g.locals, []⟩] } r.funcs ⟨g.name, g.args, g.locals, []⟩ (by omega) (fun x hx => ⟨h1.code x hx, hall x hx, h4 x hx⟩) rfl (by simpa using hc)
    obtain ⟨k, ih⟩ := run_funcs hrest gs (no + 1 + g.code.length) { r with funcs := r.funcs ++ [stripF g], wants := r.wants ++ wantsI j r.funcs.length (no + 1) 0 g.code } (by omega) (fun x hx => hg x (by simp [hx])) (by simp at hl ⊢; omega) (by rw [List.map_append]; exact hp2)
    refine ⟨1 + g.code.length + k, ?_⟩
    rw [List.flatMap_cons, List.append_assoc]
    unfold fnLines at hcode ih ⊢
    rw [List.cons_append, runR_step (by simp [hrest]) hfl, hcode]
    simp only [List.nil_append, List.length_nil]
    refine Eq.trans ih ?_
    congr 1
    · omega
    · simp [stripF, wantsF, Nat.add_assoc]
/-! ### the names -/
def PartJ (T fs : List FN) (ws : List WT) : Prop := fs.length = T.length ∧ ∀ (f : Nat) (g : FN), T[f]? = some g → ∃ g', fs[f]? = some g' ∧ g'.name = g.name ∧ g'.args = g.args ∧ g'.locals = g.locals ∧ g'.code.length = g.code.length ∧
  ∀ (i : Nat) (x : IN), g.code[i]? = some x → ∃ y, g'.code[i]? = some y ∧ (y = x ∨ (x.op = 16 ∧ y.op = 16 ∧ ∃ w ∈ ws, w.at_ = some (f, i)))
def WOk (T : List FN) (ws : List WT) : Prop := ∀ w ∈ ws, ∃ (f i k : Nat) (g h : FN), w.at_ = some (f, i) ∧ T[f]? = some g ∧ g.code[i]? = some ⟨16, (k : Int)⟩ ∧ T[k]? = some h ∧ w.name = h.name
theorem findF_at {T fs : List FN} {k : Nat} {h : FN} (hl : fs.length = T.length) (hn : ∀ (f : Nat) (g : FN), T[f]? = some g → ∃ g', fs[f]? = some g' ∧ g'.name = g.name) (hd : (T.map FN.name).Nodup) (hk : T[k]? = some h) : findF fs h.name = some k := by
  unfold findF
  rw [List.findIdx?_eq_some_iff_getElem]
  obtain ⟨hkl, hke⟩ := List.getElem?_eq_some_iff.1 hk
  refine ⟨by omega, ?_, fun j hj => ?_⟩
  · obtain ⟨g', h1, h2⟩ := hn k h hk
    rw [(List.getElem?_eq_some_iff.1 h1).2, h2]
    simp
  · obtain ⟨g', h1, h2⟩ := hn j (T[j]'(by omega)) (List.getElem?_eq_getElem (by omega))
    rw [(List.getElem?_eq_some_iff.1 h1).2, h2]
    have : (T[j]'(by omega)).name ≠ h.name := by
      rw [← hke]
      intro e
      have e2 : (T.map FN.name)[j]'(by simp; omega) = (T.map FN.name)[k]'(by simp; omega) := by simpa using e
      have := nodup_at hd e2
      omega
    simpa using this
theorem setN_get (fs : List FN) (f i : Nat) (k : Int) (j : Nat) : (setN fs f i k)[j]? = (fs[j]?).map fun g => if f = j then { g with code := g.code.modify i fun x => { x with n := k } } else g := by
  unfold setN
  rw [List.getElem?_modify]
  cases fs[j]? with
  | none => rfl
  | some g => simp
theorem setN_len (fs : List FN) (f i : Nat) (k : Int) : (setN fs f i k).length = fs.length := by unfold setN; simp
theorem names_ok {T : List FN} (hd : (T.map FN.name).Nodup) : ∀ (ws : List WT) (fs : List FN) (m : Int), WOk T ws → PartJ T fs ws → namesR ws fs m = .ok (T, m)
  | [], fs, m, _, hp => by
    obtain ⟨hl, hp⟩ := hp
    have : fs = T := by
      apply List.ext_getElem?
      intro f
      rcases Nat.lt_or_ge f T.length with hf | hf
      · obtain ⟨g', h1, h2, h3, h4, h5, h6⟩ := hp f T[f] (List.getElem?_eq_getElem hf)
        rw [h1, List.getElem?_eq_getElem hf]
        congr 1
        have hc : g'.code = T[f].code := by
          apply List.ext_getElem?
          intro i
          rcases Nat.lt_or_ge i T[f].code.length with hi | hi
          · obtain ⟨y, hy, hy2⟩ := h6 i _ (List.getElem?_eq_getElem hi)
            rw [hy, List.getElem?_eq_getElem hi]
            rcases hy2 with rfl | ⟨_, _, w, hw, _⟩
            · rfl
            · cases hw
          · rw [List.getElem?_eq_none hi, List.getElem?_eq_none (by omega)]
        cases hg : T[f]
        rw [hg] at h2 h3 h4 hc
        cases g'
        simp_all
      · rw [List.getElem?_eq_none hf, List.getElem?_eq_none (by omega)]
    rw [this]
    rfl
  | w :: ws, fs, m, hw, hp => by
    obtain ⟨f, i, k, g, h, hat, hg, hx, hh, hnm⟩ := hw w (by simp)
    have hfind : findF fs w.name = some k := by
      rw [hnm]
      exact findF_at hp.1 (fun f g hg => by obtain ⟨g', h1, h2, _⟩ := hp.2 f g hg; exact ⟨g', h1, h2⟩) hd hh
    show (match findF fs w.name with | none => _ | some k => _) = _
    rw [hfind]
    simp only [hat]
    refine names_ok hd ws _ m (fun x hx => hw x (by simp [hx])) ⟨by rw [setN_len]; exact hp.1, fun f2 g2 hg2 => ?_⟩
    obtain ⟨g', h1, h2, h3, h4, h5, h6⟩ := hp.2 f2 g2 hg2
    rw [setN_get, h1]
    by_cases hf : f = f2
    · subst hf
      rw [hg] at hg2
      cases hg2
      refine ⟨_, rfl, by simp [h2], by simp [h3], by simp [h4], by simp [h5], fun i2 x2 hx2 => ?_⟩
      obtain ⟨y, hy, hy2⟩ := h6 i2 x2 hx2
      simp only [if_true, List.getElem?_modify, hy]
      by_cases hi : i = i2
      · subst hi
        rw [hx] at hx2
        cases hx2
        refine ⟨_, rfl, Or.inl ?_⟩
        rcases hy2 with rfl | ⟨_, hy3, _⟩
        · simp
        · obtain ⟨a, b⟩ := y
          simp only at hy3
          subst hy3
          simp
      · refine ⟨y, by simp [hi], ?_⟩
        rcases hy2 with hy2 | ⟨a, b, w', hw', hat'⟩
        · exact Or.inl hy2
        · refine Or.inr ⟨a, b, w', ?_, hat'⟩
          rcases List.mem_cons.1 hw' with rfl | hw'
          · rw [hat] at hat'
            cases hat'
            exact absurd rfl hi
          · exact hw'
    · refine ⟨g', by simp [hf], h2, h3, h4, h5, fun i2 x2 hx2 => ?_⟩
      obtain ⟨y, hy, hy2⟩ := h6 i2 x2 hx2
      refine ⟨y, hy, ?_⟩
      rcases hy2 with hy2 | ⟨a, b, w', hw', hat'⟩
      · exact Or.inl hy2
      · refine Or.inr ⟨a, b, w', ?_, hat'⟩
        rcases List.mem_cons.1 hw' with rfl | hw'
        · rw [hat] at hat'
          cases hat'
          exact absurd rfl hf
        · exact hw'
/-- which wants there are -/
theorem wantsI_mem {j : JB} {f : Nat} : ∀ (cs : List IN) (no i : Nat) (w : WT), w ∈ wantsI j f no i cs → ∃ k x, cs[k]? = some x ∧ x.op = 16 ∧ w.at_ = some (f, i + k) ∧ w.name = fnAt j x.n
  | [], _, _, _, h => by cases h
  | x :: cs, no, i, w, h => by
    simp only [wantsI, List.mem_append] at h
    rcases h with h | h
    · split at h
      · rename_i h16
        simp at h
        subst h
        exact ⟨0, x, rfl, h16, rfl, rfl⟩
      · cases h
    · obtain ⟨k, y, h1, h2, h3, h4⟩ := wantsI_mem cs (no + 1) (i + 1) w h
      exact ⟨k + 1, y, h1, h2, by rw [h3]; congr 2; omega, h4⟩
theorem wantsI_all {j : JB} {f : Nat} : ∀ (cs : List IN) (no i k : Nat) (x : IN), cs[k]? = some x → x.op = 16 → ∃ w ∈ wantsI j f no i cs, w.at_ = some (f, i + k)
  | [], _, _, _, _, h, _ => by cases h
  | y :: cs, no, i, 0, x, h, h16 => by
    cases h
    exact ⟨⟨fnAt j y.n, no, some (f, i)⟩, by simp [wantsI, h16], rfl⟩
  | y :: cs, no, i, k + 1, x, h, h16 => by
    obtain ⟨w, hw, he⟩ := wantsI_all (j := j) (f := f) cs (no + 1) (i + 1) k x h h16
    rw [show i + 1 + k = i + (k + 1) by omega] at he
    exact ⟨w, by simp [wantsI, hw], he⟩
theorem wantsF_mem {j : JB} : ∀ (gs : List FN) (no f : Nat) (w : WT), w ∈ wantsF j no f gs → ∃ k g i x, gs[k]? = some g ∧ g.code[i]? = some x ∧ x.op = 16 ∧ w.at_ = some (f + k, i) ∧ w.name = fnAt j x.n
  | [], _, _, _, h => by cases h
  | g :: gs, no, f, w, h => by
    simp only [wantsF, List.mem_append] at h
    rcases h with h | h
    · obtain ⟨k, x, h1, h2, h3, h4⟩ := wantsI_mem g.code (no + 1) 0 w h
      exact ⟨0, g, k, x, rfl, h1, h2, by rw [h3]; congr 2; omega, h4⟩
    · obtain ⟨k, g2, i, x, h1, h2, h3, h4, h5⟩ := wantsF_mem gs _ (f + 1) w h
      exact ⟨k + 1, g2, i, x, h1, h2, h3, by rw [h4]; congr 2; omega, h5⟩
theorem wantsF_all {j : JB} : ∀ (gs : List FN) (no f k : Nat) (g : FN) (i : Nat) (x : IN), gs[k]? = some g → g.code[i]? = some x → x.op = 16 → ∃ w ∈ wantsF j no f gs, w.at_ = some (f + k, i)
  | [], _, _, _, _, _, _, h, _, _ => by cases h
  | g :: gs, no, f, 0, g2, i, x, h, hx, h16 => by
    cases h
    obtain ⟨w, hw, he⟩ := wantsI_all (j := j) (f := f) g.code (no + 1) 0 i x hx h16
    exact ⟨w, by simp [wantsF, hw], by rw [he]; congr 2; omega⟩
  | g :: gs, no, f, k + 1, g2, i, x, h, hx, h16 => by
    obtain ⟨w, hw, he⟩ := wantsF_all (j := j) gs (no + 1 + g.code.length) (f + 1) k g2 i x h hx h16
    exact ⟨w, by simp [wantsF, hw], by rw [he]; congr 2; omega⟩
/-! ### the whole -/
theorem plainFs_all {nf : Nat} : ∀ {gs : List FN} {seen : List BS}, plainFs nf seen gs = true → (∀ g ∈ gs, plainF nf g = true ∧ g.name ∉ seen) ∧ (gs.map FN.name).Nodup
  | [], _, _ => ⟨by simp, by simp⟩
  | g :: gs, seen, h => by
    obtain ⟨h1, h2, h3⟩ := plainFs_cons.1 h
    obtain ⟨h4, h5⟩ := plainFs_all h3
    refine ⟨fun x hx => ?_, ?_⟩
    · rcases List.mem_cons.1 hx with rfl | hx
      · exact ⟨h2, h1⟩
      · exact ⟨(h4 x hx).1, fun hm => (h4 x hx).2 (by simp [hm])⟩
    · rw [List.map_cons, List.nodup_cons]
      refine ⟨fun hm => ?_, h5⟩
      obtain ⟨x, hx, e⟩ := List.mem_map.1 hm
      exact (h4 x hx).2 (by simp [e])
structure PlainJ (j : JB) : Prop where
  few : j.funcs.length ≤ 32
  args : j.args.length ≤ 8
  main0 : 0 ≤ j.main
  main : j.main < j.funcs.length
  fs : plainFs j.funcs.length [] j.funcs = true
theorem plainJ_iff (j : JB) : plainJ j = true ↔ PlainJ j := by
  unfold plainJ
  constructor
  · intro h
    simp at h
    obtain ⟨⟨⟨⟨h1, h2⟩, h3⟩, h4⟩, h5⟩ := h
    exact ⟨h1, h2, h3, h4, h5⟩
  · rintro ⟨h1, h2, h3, h4, h5⟩
    simp [h1, h2, h3, h4, h5]
theorem PlainJ.name {j : JB} (h : PlainJ j) {n : Int} (h0 : 0 ≤ n) (h1 : n < j.funcs.length) : ∃ g, j.funcs[n.toNat]? = some g ∧ fnAt j n = g.name ∧ nameL (fnAt j n) = true := by
  have hl : n.toNat < j.funcs.length := by omega
  refine ⟨_, List.getElem?_eq_getElem hl, ?_, ?_⟩
  · unfold fnAt; rw [List.getElem?_eq_getElem hl]; rfl
  · unfold fnAt
    rw [List.getElem?_eq_getElem hl]
    have := ((plainFs_all h.fs).1 _ (List.getElem_mem hl)).1
    unfold plainF at this
    simp at this
    exact this.1.1
theorem plainI_16 {nf : Nat} {i : IN} (h : plainI nf i = true) (h16 : i.op = 16) : 0 ≤ i.n ∧ i.n < nf := by
  unfold plainI at h
  simp [h16] at h
  exact h.2
theorem PlainJ.ins {j : JB} (h : PlainJ j) {g : FN} (hg : g ∈ j.funcs) {i : IN} (hi : i ∈ g.code) : plainI j.funcs.length i = true := by
  have := ((plainFs_all h.fs).1 g hg).1
  unfold plainF at this
  simp at this
  exact this.2 i hi
theorem linesJ_no {j : JB} (h : PlainJ j) : ∀ l ∈ linesJ j, ∀ b ∈ l, b ≠ 10 := by
  have hm := h.name h.main0 h.main
  intro l hl
  unfold linesJ at hl
  rcases List.mem_cons.1 hl with rfl | hl
  · exact glue_no (by decide) (fun p hp => by
      simp at hp
      rcases hp with rfl | rfl | rfl
      · exact fun b hb => (words_no.1 b hb).2
      · exact itoa10 _
      · exact itoa10 _)
  rcases List.mem_cons.1 hl with rfl | hl
  · exact glue_no (by decide) (fun p hp => by
      rcases List.mem_cons.1 hp with rfl | hp
      · exact fun b hb => (words_no.2.1 b hb).2
      rcases List.mem_cons.1 hp with rfl | hp
      · exact nameL_no hm.choose_spec.2.2 10 (by decide)
      · obtain ⟨n, _, rfl⟩ := List.mem_map.1 hp
        exact itoa10 n)
  rcases List.mem_append.1 hl with hl | hl
  · obtain ⟨g, hg, hl⟩ := List.mem_flatMap.1 hl
    unfold fnLines at hl
    rcases List.mem_cons.1 hl with rfl | hl
    · have hn : nameL g.name = true := by
        have := ((plainFs_all h.fs).1 g hg).1
        unfold plainF at this
        simp at this
        exact this.1.1
      exact glue_no (by decide) (fun p hp => by
        simp at hp
        rcases hp with rfl | rfl | rfl | rfl
        · exact fun b hb => (words_no.2.2.1 b hb).2
        · exact nameL_no hn 10 (by decide)
        · exact itoa10 _
        · exact itoa10 _)
    · obtain ⟨i, hi, rfl⟩ := List.mem_map.1 hl
      have hp := h.ins hg hi
      have hq := insW_ok (j := j) (i := i) (fun h16 => (h.name (plainI_16 hp h16).1 (plainI_16 hp h16).2).choose_spec.2.2) 10 (by decide)
      intro b hb
      unfold insLine at hb
      rcases List.mem_append.1 hb with hb | hb
      · simp at hb; subst hb; decide
      · exact glue_no (by decide) hq b hb
  · simp at hl
    subst hl
    exact fun b hb => (words_no.2.2.2 b hb).2
theorem printJ_plain {j : JB} (h : PlainJ j) : printJ j = textL (linesJ j) := by
  unfold printJ
  rw [if_pos ((plainJ_iff j).2 h)]
theorem run_print {j : JB} (h : PlainJ j) (hj : j.In) : ∃ r, runR 1 (linesJ j ++ [[]]) AR0 = .ok r ∧ namesR r.wants r.funcs 0 = .ok (j.funcs, j.main) ∧ r.args = j.args ∧ r.fuel = j.fuel ∧ r.tasks = j.tasks := by
  obtain ⟨gm, hgm, hmn, hml⟩ := h.name h.main0 h.main
  have hcode : ∀ g ∈ j.funcs, g.In ∧ ∀ x ∈ g.code, x.op = 16 → nameL (fnAt j x.n) = true := fun g hg => ⟨hj.funcs g hg, fun x hx h16 => (h.name (plainI_16 (h.ins hg hx) h16).1 (plainI_16 (h.ins hg hx) h16).2).choose_spec.2.2⟩
  obtain ⟨k, hk⟩ := run_funcs (j := j) (rest := [wEnd, []]) (by simp) j.funcs 3 ⟨[], j.args, j.fuel, j.tasks, [⟨fnAt j j.main, 2, none⟩]⟩ (by omega) hcode (by simpa using h.few) (by simpa using h.fs)
  have e1 : runR 1 (linesJ j ++ [[]]) AR0 = runR 3 (j.funcs.flatMap (fnLines j) ++ [wEnd, []]) ⟨[], j.args, j.fuel, j.tasks, [⟨fnAt j j.main, 2, none⟩]⟩ := by
    unfold linesJ
    rw [List.cons_append, List.cons_append, runR_step (by simp) (jobR_line hj AR0), runR_step (by simp) (mainR_line hj hml h.args _)]
    simp [AR0]
  refine ⟨⟨j.funcs.map stripF, j.args, j.fuel, j.tasks, [⟨fnAt j j.main, 2, none⟩] ++ wantsF j 3 0 j.funcs⟩, ?_, ?_, rfl, rfl, rfl⟩
  · rw [e1, hk]
    show (if 3 ≤ 3 + k ∧ wEnd = wEnd then _ else _) = _
    rw [if_pos ⟨by omega, rfl⟩, if_pos rfl]
    simp
  · have hd := (plainFs_all h.fs).2
    have hlen : (j.funcs.map stripF).length = j.funcs.length := by simp
    have hgt : ∀ (f : Nat) (g : FN), j.funcs[f]? = some g → (j.funcs.map stripF)[f]? = some (stripF g) := fun f g hg => by rw [List.getElem?_map, hg]; rfl
    have hfm : findF (j.funcs.map stripF) (fnAt j j.main) = some j.main.toNat := by
      rw [hmn]
      exact findF_at hlen (fun f g hg => ⟨stripF g, hgt f g hg, rfl⟩) hd hgm
    show (match findF _ (fnAt j j.main) with | none => _ | some k => _) = _
    rw [hfm]
    show namesR (wantsF j 3 0 j.funcs) (j.funcs.map stripF) (j.main.toNat : Int) = _
    rw [names_ok hd, show ((j.main.toNat : Nat) : Int) = j.main by have := h.main0; omega]
    · intro w hw
      obtain ⟨k, g, i, x, h1, h2, h3, h4, h5⟩ := wantsF_mem _ _ _ _ hw
      have hp := h.ins (List.mem_of_getElem? h1) (List.mem_of_getElem? h2)
      obtain ⟨g2, h6, h7, _⟩ := h.name (plainI_16 hp h3).1 (plainI_16 hp h3).2
      refine ⟨k, i, x.n.toNat, g, g2, by rw [h4]; congr 2; omega, h1, ?_, h6, by rw [h5, h7]⟩
      rw [h2]
      obtain ⟨op, n⟩ := x
      simp only at h3
      subst h3
      congr 2
      have h9 : 0 ≤ n := (plainI_16 hp rfl).1
      show n = ((n.toNat : Nat) : Int)
      omega
    · refine ⟨hlen, fun f g hg => ⟨stripF g, hgt f g hg, rfl, rfl, rfl, by simp [stripF], fun i x hx => ⟨stripI x, by simp [stripF, hx], ?_⟩⟩⟩
      by_cases h16 : x.op = 16
      · refine Or.inr ⟨h16, by unfold stripI; rw [if_pos h16], ?_⟩
        obtain ⟨w, hw, he⟩ := wantsF_all j.funcs 3 0 f g i x hg hx h16
        exact ⟨w, hw, by rw [he]; congr 2; omega⟩
      · exact Or.inl (by unfold stripI; rw [if_neg h16])
theorem readP_print {j : JB} (h : PlainJ j) (hj : j.In) : readP (printJ j) = ⟨j, 0, 0⟩ := by
  obtain ⟨r, h1, h2, h3, h4, h5⟩ := run_print h hj
  unfold readP
  rw [printJ_plain h, pieces_text _ (linesJ_no h), h1]
  simp only [h2, h3, h4, h5]
end Go.Proofs.YtbdkmfcgnolihaaGreatDoor
