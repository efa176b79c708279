/- How arguments that came in are read, with the bound on what each string and slice takes; a job that came in. -/
import Derived.Test.YtbdkmfcgnolihaaGreatDoorOpens
import Derived.Test.YtbdkmfcgnolihaaGreatDoorAObj
import Derived.Test.YtbdkmfcgnolihaaGreatDoorCEnv
import Derived.SizedLaws
import Derived.ChangeMaps5
namespace Go.Proofs.YtbdkmfcgnolihaaGreatDoor
set_option linter.unusedSimpArgs false
set_option linter.unnecessarySimpa false
set_option linter.unusedVariables false
open Go Go.ChangeShapes Go.WideShapes Go.RowKit Go.Deep Go.ChangeAt
section
variable {H : Type} {enc : TypeId × Value → H} {P : Program} {w : World}
abbrev RS (enc : TypeId × Value → H) (P : Program) (w : World) (t : TypeId) (cs : List Value) : Prop := ∃ n d p, DataW.trod enc P w 0 (fun _ => true) true n t cs = some (d, p) ∧ ∀ m ∈ d.weights P t, m ≤ reachBytes
theorem weightsAll_in {e : TypeId} : ∀ {l : List (DataW H)} {d : DataW H}, d ∈ l → ∀ n ∈ d.weights P e, n ∈ DataW.weightsAll P e l
  | x :: l, d, hd, n, hn => by
    unfold DataW.weightsAll
    rcases List.mem_cons.1 hd with rfl | hd
    · exact List.mem_append_left _ hn
    · exact List.mem_append_right _ (weightsAll_in hd n hn)
theorem RS.reads {t : TypeId} {cs : List Value} (h : RS enc P w t cs) : Reads enc P w t cs := by
  obtain ⟨n, d, p, h, _⟩ := h
  exact ⟨n, _, h⟩
theorem rs_rows {t e : TypeId} {cs : List Value} (sz : Nat) (ht : P.underlying t = some (.slice e)) (hC : P.cellsOf e = sz) (hsz : 0 < sz) (h : RS enc P w t cs) :
    ∃ v css, cs = [v] ∧ Rows_ w v sz css ∧ (∀ cs ∈ css, RS enc P w e cs) ∧ css.length * P.bytesOf e ≤ reachBytes := by
  obtain ⟨fuel, d, p, hf, hwt⟩ := h
  rcases open_slice ht hf with ⟨hcs, _⟩ | ⟨a', len, cap', m, n, D, Pl, hcs, _, hl, _, hm, hx, hi⟩
  · exact ⟨_, [], hcs, ⟨none, 0, rfl, fun h => absurd rfl h⟩, by simp, by simp⟩
  · simp only [if_true] at hm
    subst hm
    rw [hC] at hi
    injection hx with hx _
    subst hx
    have hw1 : (len + (m - len)) * P.bytesOf e ≤ reachBytes := hwt _ (by simp [DataW.weights, ht])
    have hw2 : ∀ i, i < len → ∀ q ∈ (D i).weights P e, q ≤ reachBytes := fun i hi q hq => by
      refine hwt q ?_
      simp only [DataW.weights, ht]
      exact List.mem_cons_of_mem _ (List.mem_append_left _ (weightsAll_in (List.mem_map_of_mem (List.mem_range.2 hi)) q hq))
    have hch : ∀ i, ∃ cs', i < len → w.cells? 0 (a'.add (i * sz)) sz = some cs' ∧ DataW.trod enc P w 0 (fun _ => true) true n e cs' = some (D i, Pl i) := fun i => by
      by_cases h : i < len
      · obtain ⟨cs', h1, h2⟩ := hi i (by omega)
        exact ⟨cs', fun _ => ⟨h1, h2⟩⟩
      · exact ⟨[], fun h' => absurd h' h⟩
    obtain ⟨f, hf'⟩ := Classical.axiomOfChoice hch
    refine ⟨_, (List.range len).map f, hcs, ⟨some a', m, by simp, fun hne => ?_⟩, fun cs hcs => ?_, ?_⟩
    · have hlen : 0 < len := by
        rcases Nat.eq_zero_or_pos len with h0 | h0
        · subst h0; simp at hne
        · exact h0
      obtain ⟨h1, _⟩ := hf' 0 hlen
      obtain ⟨_, hl0, hat⟩ := World.cells?_some h1
      have h2 := hat 0 hsz
      rw [List.getElem?_eq_getElem (by omega)] at h2
      have hspot : a'.spot = none := by
        rw [Nat.zero_mul] at h2
        simpa [Addr.add] using World.cell?_spot h2
      obtain ⟨b, off, spot⟩ := a'
      simp only at hspot
      subst hspot
      refine ⟨b, off, rfl, ?_, fun i cs hi' => ?_⟩
      · have := World.block_lt_of_cell? _ _ h2
        simpa [add_none] using this
      · have hil : i < len := by
          rcases Nat.lt_or_ge i len with h | h
          · exact h
          · rw [List.getElem?_eq_none (by simpa using h)] at hi'; cases hi'
        rw [List.getElem?_map, List.getElem?_range hil] at hi'
        simp only [Option.map_some, Option.some.injEq] at hi'
        subst hi'
        obtain ⟨h4, _⟩ := hf' i hil
        obtain ⟨_, hl4, hat4⟩ := World.cells?_some h4
        refine ⟨hl4, fun j x hx => ?_⟩
        have hj : j < sz := by
          rcases Nat.lt_or_ge j sz with h | h
          · exact h
          · rw [List.getElem?_eq_none (by omega)] at hx; cases hx
        have h5 := hat4 j hj
        rw [add_none, add_none] at h5
        rw [h5, hx]
    · obtain ⟨i, hi', rfl⟩ := List.mem_map.1 hcs
      exact ⟨n, _, _, (hf' i (List.mem_range.1 hi')).2, hw2 i (List.mem_range.1 hi')⟩
    · rw [List.length_map, List.length_range]
      exact Nat.le_trans (Nat.mul_le_mul_right _ (Nat.le_add_right _ _)) hw1
theorem rs_field {e : TypeId} {fs : Array Field} {cs : List Value} (he : P.underlying e = some (.struct fs)) (h : RS enc P w e cs) : cs.length = P.cellsOf e ∧ ∀ (i : Nat) (f : Field), fs[i]? = some f → RS enc P w f.type ((cs.drop f.offset).take (P.cellsOf f.type)) := by
  obtain ⟨n, d, p, hy, hwt⟩ := h
  obtain ⟨ys, m, _, hx, hlen, hyl, hf⟩ := DataW.trod_struct he hy
  injection hx with hx _
  subst hx
  refine ⟨hlen, fun i f hi => ?_⟩
  have h2 := hf i f hi
  have hi' : i < ys.length := by
    rw [hyl]
    rcases Nat.lt_or_ge i fs.size with h' | h'
    · exact h'
    · rw [Array.getElem?_eq_none h'] at hi; cases hi
  rw [List.getElem?_eq_getElem hi'] at h2
  refine ⟨m, ys[i].1, ys[i].2, h2, fun q hq => hwt q ?_⟩
  simp only [DataW.weights, he]
  exact DataW.weights_mem_each (j := i) (by rw [List.getElem?_map, Array.getElem?_toList, hi]; rfl) (by rw [List.getElem?_map, List.getElem?_eq_getElem hi']; rfl) q hq
theorem rs_at {e : TypeId} {fs : Array Field} {L : Array (TypeId × Nat)} {cs : List Value} (he : P.underlying e = some (.struct fs)) (hm : (fs.map fun f => (f.type, f.offset)) = L) (h : RS enc P w e cs) {i : Nat} {t : TypeId} {o : Nat} (hi : L[i]? = some (t, o)) : RS enc P w t ((cs.drop o).take (P.cellsOf t)) := by
  subst hm
  rw [Array.getElem?_map] at hi
  cases hf : fs[i]? with
  | none => rw [hf] at hi; cases hi
  | some f =>
    rw [hf] at hi
    simp only [Option.map_some, Option.some.injEq, Prod.mk.injEq] at hi
    have := (rs_field he h).2 i f hf
    rw [hi.1, hi.2] at this
    exact this
theorem rs_string {t : TypeId} {cs : List Value} (ht : P.underlying t = some .string) (h : RS enc P w t cs) : ∃ s : ByteArray, cs = [.string s] ∧ s.size ≤ reachBytes := by
  obtain ⟨n, d, p, hy, hwt⟩ := h
  obtain ⟨s, h1, hx, _⟩ := DataW.trod_string ht hy
  injection hx with hx _
  subst hx
  have := hwt s.data.toList.length (by simp [DataW.weights])
  refine ⟨s, h1, ?_⟩
  show s.data.size ≤ reachBytes
  rw [← Array.length_toList]
  exact this
theorem rs_ints {t e : TypeId} {cs : List Value} (ht : P.underlying t = some (.slice e)) (he : P.underlying e = some (.int .i64)) (hC : P.cellsOf e = 1) (h : RS enc P w t cs) :
    ∃ v ys, cs = [v] ∧ IntsOf w v ys ∧ (∀ x ∈ ys, (Lit.int .i64 x).wf = true) ∧ ys.length * P.bytesOf e ≤ reachBytes := by
  obtain ⟨v, ys, h1, h2, h3⟩ := reads_ints ht he hC h.reads
  obtain ⟨v', css, h4, ⟨a, c, hv, _⟩, _, h6⟩ := rs_rows 1 ht hC (by omega) h
  refine ⟨v, ys, h1, h2, h3, ?_⟩
  obtain ⟨a', c', hv'⟩ := h2.shape
  rw [h1] at h4
  injection h4 with h4 _
  rw [h4, hv] at hv'
  injection hv' with _ e2 _
  rw [← e2]
  exact h6
theorem take_one {cs : List Value} {o : Nat} {v : Value} (h : (cs.drop o).take 1 = [v]) : cs[o]? = some v := one_at h
end
/-! ### a job -/
def fs25 : Array (TypeId × Nat) := #[(22, 0), (3, 1), (23, 2), (3, 3), (3, 4)]
def fs36 : Array (TypeId × Nat) := #[(9, 0), (3, 1), (3, 2), (34, 3)]
def fs47 : Array (TypeId × Nat) := #[(3, 0), (3, 1)]
section
variable {H : Type} {enc : TypeId × Value → H} {w : World}
theorem wf64 {x : Int} (h : (Lit.int .i64 x).wf = true) : In64 x := by
  simpa [Lit.wf, IntKind.min, IntKind.max, IntKind.signed, IntKind.bits, In64] using h
set_option maxRecDepth 100000 in
theorem ins_open {cs : List Value} (h : RS enc Tryz.prog w 47 cs) : ∃ x : IN, cs = inC x ∧ x.In := by
  obtain ⟨h1, _⟩ := rs_field Tryz.underlying47 h
  obtain ⟨a, ha, ha2⟩ := reads_int_at (L := fs47) Tryz.underlying47 (by simp [fs47]) h.reads (i := 0) (t := 3) (o := 0) rfl Tryz.underlying3 (by kernel_rfl)
  obtain ⟨b, hb, hb2⟩ := reads_int_at (L := fs47) Tryz.underlying47 (by simp [fs47]) h.reads (i := 1) (t := 3) (o := 1) rfl Tryz.underlying3 (by kernel_rfl)
  have hc : Tryz.prog.cellsOf 47 = 2 := by kernel_rfl
  rw [hc] at h1
  match cs, h1, ha, hb with
  | [x, y], _, ha, hb =>
    simp at ha hb
    subst ha hb
    exact ⟨⟨a, b⟩, rfl, wf64 ha2, wf64 hb2⟩
set_option maxRecDepth 100000 in
theorem code_open {cs : List Value} (h : RS enc Tryz.prog w 34 cs) : ∃ v l, cs = [v] ∧ CodeRd w v l ∧ (∀ i ∈ l, i.In) ∧ l.length * 16 ≤ reachBytes := by
  have hc : Tryz.prog.cellsOf 47 = 2 := by kernel_rfl
  have hb : Tryz.prog.bytesOf 47 = 16 := by kernel_rfl
  obtain ⟨v, css, h1, ⟨a, c, hv, hr⟩, h3, h4⟩ := rs_rows 2 Tryz.underlying34 hc (by omega) h
  rw [hb] at h4
  obtain ⟨l, hl, hx⟩ := choose_list (fun cs x => cs = inC x ∧ x.In) css (fun cs hcs => ins_open (h3 cs hcs))
  refine ⟨v, l, h1, ⟨a, c, by rw [hl]; exact hv, fun i x hxi => ?_⟩, fun i hi => ?_, by rw [hl]; exact h4⟩
  · have hil := get_lt hxi
    obtain ⟨cs', hcs'⟩ := get_ex (show i < css.length by omega)
    obtain ⟨b, off, ha, hb, hcell⟩ := hr (by rintro rfl; simp at hcs')
    obtain ⟨e1, _⟩ := hx i _ _ hcs' hxi
    obtain ⟨_, hc2⟩ := hcell i cs' hcs'
    exact ⟨b, off, ha, hb, by simpa using hc2 0 (.int .i64 x.op) (by rw [e1]; rfl), hc2 1 (.int .i64 x.n) (by rw [e1]; rfl)⟩
  · obtain ⟨k, hk⟩ := List.mem_iff_getElem?.1 hi
    obtain ⟨cs', hcs'⟩ := get_ex (show k < css.length by have := get_lt hk; omega)
    exact (hx k _ _ hcs' hk).2
def FnSz (f : FN) : Prop := f.name.length ≤ reachBytes ∧ f.code.length * 16 ≤ reachBytes
set_option maxRecDepth 100000 in
theorem fn_open {cs : List Value} (h : RS enc Tryz.prog w 36 cs) : ∃ p : FN × Value, cs = fnC p.1 p.2 ∧ CodeRd w p.2 p.1.code ∧ p.1.In ∧ FnSz p.1 := by
  obtain ⟨h1, _⟩ := rs_field Tryz.underlying36 h
  have hc : Tryz.prog.cellsOf 36 = 4 := by kernel_rfl
  rw [hc] at h1
  obtain ⟨a, ha, ha2⟩ := reads_int_at (L := fs36) Tryz.underlying36 (by simp [fs36]) h.reads (i := 1) (t := 3) (o := 1) rfl Tryz.underlying3 (by kernel_rfl)
  obtain ⟨b, hb, hb2⟩ := reads_int_at (L := fs36) Tryz.underlying36 (by simp [fs36]) h.reads (i := 2) (t := 3) (o := 2) rfl Tryz.underlying3 (by kernel_rfl)
  have h9 := rs_at (L := fs36) Tryz.underlying36 (by simp [fs36]) h (i := 0) (t := 9) (o := 0) rfl
  have hc9 : Tryz.prog.cellsOf 9 = 1 := by kernel_rfl
  rw [hc9] at h9
  obtain ⟨s, hs, hs2⟩ := rs_string Tryz.underlying9 h9
  have hs := one_at hs
  have h34 := rs_at (L := fs36) Tryz.underlying36 (by simp [fs36]) h (i := 3) (t := 34) (o := 3) rfl
  have hc34 : Tryz.prog.cellsOf 34 = 1 := by kernel_rfl
  rw [hc34] at h34
  obtain ⟨v, l, hv, hcd, hin, hsz⟩ := code_open h34
  have hv := one_at hv
  match cs, h1, ha, hb, hs, hv with
  | [x, y, z, u], _, ha, hb, hs, hv =>
    simp at ha hb hs hv
    subst ha hb hs hv
    exact ⟨(⟨s.data.toList, a, b, l⟩, u), by simp [fnC, strB_of], hcd, ⟨wf64 ha2, wf64 hb2, hin⟩, by show s.data.toList.length ≤ reachBytes; rw [Array.length_toList]; exact hs2, hsz⟩
set_option maxRecDepth 100000 in
theorem fns_open {cs : List Value} (h : RS enc Tryz.prog w 22 cs) : ∃ v fs, cs = [v] ∧ FnsRd w v fs ∧ (∀ f ∈ fs, f.In ∧ FnSz f) ∧ fs.length * 56 ≤ reachBytes := by
  have hc : Tryz.prog.cellsOf 36 = 4 := by kernel_rfl
  have hb : Tryz.prog.bytesOf 36 = 56 := by kernel_rfl
  obtain ⟨v, css, h1, ⟨a, c, hv, hr⟩, h3, h4⟩ := rs_rows 4 Tryz.underlying22 hc (by omega) h
  rw [hb] at h4
  obtain ⟨l, hl, hx⟩ := choose_list (fun cs (p : FN × Value) => cs = fnC p.1 p.2 ∧ CodeRd w p.2 p.1.code ∧ p.1.In ∧ FnSz p.1) css (fun cs hcs => fn_open (h3 cs hcs))
  refine ⟨v, l.map Prod.fst, h1, ⟨a, c, by rw [List.length_map, hl]; exact hv, fun i f hf => ?_⟩, fun f hf => ?_, by rw [List.length_map, hl]; exact h4⟩
  · rw [List.getElem?_map] at hf
    obtain ⟨p, hp, rfl⟩ := Option.map_eq_some_iff.1 hf
    obtain ⟨cs', hcs'⟩ := get_ex (show i < css.length by have := get_lt hp; omega)
    obtain ⟨b, off, ha, hb, hcell⟩ := hr (by rintro rfl; simp at hcs')
    obtain ⟨e1, e2, _⟩ := hx i _ _ hcs' hp
    obtain ⟨_, hc2⟩ := hcell i cs' hcs'
    exact ⟨b, off, p.2, ha, hb, by simpa using hc2 0 (.string (strB p.1.name)) (by rw [e1]; rfl), hc2 1 (.int .i64 p.1.args) (by rw [e1]; rfl), hc2 2 (.int .i64 p.1.locals) (by rw [e1]; rfl), hc2 3 p.2 (by rw [e1]; rfl), e2⟩
  · obtain ⟨p, hp, rfl⟩ := List.mem_map.1 hf
    obtain ⟨k, hk⟩ := List.mem_iff_getElem?.1 hp
    obtain ⟨cs', hcs'⟩ := get_ex (show k < css.length by have := get_lt hk; omega)
    exact (hx k _ _ hcs' hk).2.2
/-- what a job that came in takes -/
structure JobSz (j : JB) : Prop where
  funcs : j.funcs.length * 56 ≤ reachBytes
  fns : ∀ f ∈ j.funcs, FnSz f
  args : j.args.length * 8 ≤ reachBytes
set_option maxRecDepth 100000 in
theorem job_open {v : Value} {d : DataW H} {p : List MemPlace} {b0 : Nat} (ho : Value.okWide Tryz.prog w .any b0 25 v) (h : DataW.Trod enc Tryz.prog w 0 (fun _ => true) true 25 v d p) (hwt : ∀ m ∈ d.weights Tryz.prog 25, m ≤ reachBytes) : ∃ j, JobRd w v j ∧ j.In ∧ JobSz j := by
  unfold Value.okWide at ho
  rw [Tryz.underlying25] at ho
  obtain ⟨ca, rfl, hcs, _⟩ := ho
  obtain ⟨fuel, hf⟩ := h
  have hR : RS enc Tryz.prog w 25 ca.toList := ⟨fuel, d, p, hf, hwt⟩
  obtain ⟨h1, _⟩ := rs_field Tryz.underlying25 hR
  have hc : Tryz.prog.cellsOf 25 = 5 := by kernel_rfl
  rw [hc] at h1
  have h22 := rs_at (L := fs25) Tryz.underlying25 (by simp [fs25]) hR (i := 0) (t := 22) (o := 0) rfl
  have hc22 : Tryz.prog.cellsOf 22 = 1 := by kernel_rfl
  rw [hc22] at h22
  obtain ⟨fv, fs, hfv, hfr, hfi, hfz⟩ := fns_open h22
  have hfv := one_at hfv
  have h23 := rs_at (L := fs25) Tryz.underlying25 (by simp [fs25]) hR (i := 2) (t := 23) (o := 2) rfl
  have hc23 : Tryz.prog.cellsOf 23 = 1 := by kernel_rfl
  rw [hc23] at h23
  have hb3 : Tryz.prog.bytesOf 3 = 8 := by kernel_rfl
  obtain ⟨av, al, hav, har, hai, haz⟩ := rs_ints Tryz.underlying23 Tryz.underlying3 (by kernel_rfl) h23
  have hav := one_at hav
  rw [hb3] at haz
  obtain ⟨m, hm, hm2⟩ := reads_int_at (L := fs25) Tryz.underlying25 (by simp [fs25]) hR.reads (i := 1) (t := 3) (o := 1) rfl Tryz.underlying3 (by kernel_rfl)
  obtain ⟨u, hu, hu2⟩ := reads_int_at (L := fs25) Tryz.underlying25 (by simp [fs25]) hR.reads (i := 3) (t := 3) (o := 3) rfl Tryz.underlying3 (by kernel_rfl)
  obtain ⟨t, ht, ht2⟩ := reads_int_at (L := fs25) Tryz.underlying25 (by simp [fs25]) hR.reads (i := 4) (t := 3) (o := 4) rfl Tryz.underlying3 (by kernel_rfl)
  obtain ⟨cl⟩ := ca
  simp only at h1 hfv hav hm hu ht
  match cl, h1, hfv, hav, hm, hu, ht with
  | [x0, x1, x2, x3, x4], _, hfv, hav, hm, hu, ht =>
    simp at hfv hav hm hu ht
    subst hfv hav hm hu ht
    exact ⟨⟨fs, m, al, u, t⟩, ⟨x0, x2, rfl, hfr, har⟩, ⟨fun f hf => (hfi f hf).1, wf64 hm2, fun n hn => wf64 (hai n hn), wf64 hu2, wf64 ht2⟩, ⟨hfz, fun f hf => (hfi f hf).2, haz⟩⟩
end
/-- THE WRAP, as the one of CEnv, and what each string and slice takes is handed on. -/
theorem returnsInHanded_and_sized {H : Type} {enc : TypeId × Value → H} {a : Assume} {C : Checked} {os : Os} {f : FuncId} {fn : Func} {s : ChangeSpec} {conds : List PathCond} {apart fresh handsOn again : Bool} {X : World → Array Value → Prop}
    (hX : ∀ (w w' : World) (args : Array Value), w.heap = w'.heap → X w args → X w' args)
    (own : ownKnob C.prog.godebug = none) (started : os.Started) (noInit : C.prog.inits.idxOf? f = none) (hfn : C.prog.funcs[f]? = some fn)
    (witness : ∃ (w : World) (tape : Tape) (i : Input), w.os = os ∧ (w.forCall tape i).Shaped C.prog ∧ i.vars = [] ∧ Input.okWide C.prog (w.forCall tape i) .any w.heap.size f i ∧
      ((s.pre enc C.prog fn conds apart (w.forCall tape i).memory i.args ∧ X (w.forCall tape i).memory i.args) ∧ sizedMet enc C.prog fn (OpenSpec.ofChange s) apart (w.forCall tape i).memory i.args) ∧ a.holds C.prog (lone (Frame.enter C.prog f i.args .normal) [] (w.forCall tape i)))
    (contract : ∀ (W : World) (base : Nat) (args : Array Value) (ds gs : List (DataW H)) (before : List MemPlace),
      (∀ (j : Nat) t v, fn.params[j]? = some t → args[j]? = some v → Value.okWide C.prog W .any base t v) →
      DataW.Whole enc C.prog fn.params.toList s.vars apart W args.toList ds gs before →
      conds.all (PathCond.test C.prog ⟨fn.params.toList, ds, s.plain.varTypes C.prog, gs⟩) = true → X W args → W.ShapedOpen C.prog →
      (DataW.weightsEach C.prog (fn.params.toList ++ s.plain.varTypes C.prog) (ds ++ gs)).all (· ≤ reachBytes) = true →
      Calls C.prog f args W fun e W' => ∃ v, e = .returned v ∧ s.post enc C.prog fn apart fresh handsOn again W args v W') :
    ReturnsInHanded a C os f .any (fun w args => (s.pre enc C.prog fn conds apart w args ∧ X w args) ∧ sizedMet enc C.prog fn (OpenSpec.ofChange s) apart w args) (s.post enc C.prog fn apart fresh handsOn again) := by
  refine returnsInHanded_of_calls own started noInit witness ?_
  intro w tape i _ hsh _ hok hpre hholds
  obtain ⟨_, _, _, fn', hfn', _, _, _, _, hval⟩ := hok
  have e : fn' = fn := Option.some.inj (hfn'.symm.trans hfn)
  subst e
  obtain ⟨⟨⟨ds, gs, before, hw, hc⟩, hx⟩, hz⟩ := hpre
  have hw' := DataW.Whole.of_heap (w' := w.forCall tape i) (by rfl) hw
  refine (contract (w.forCall tape i) w.heap.size i.args ds gs before hval hw' hc (hX _ _ _ (by rfl) hx) hsh (hz.weights hw)).mono fun e W' ⟨v, he, hp⟩ => ?_
  subst he
  exact ChangeSpec.post_blind hp
end Go.Proofs.YtbdkmfcgnolihaaGreatDoor
