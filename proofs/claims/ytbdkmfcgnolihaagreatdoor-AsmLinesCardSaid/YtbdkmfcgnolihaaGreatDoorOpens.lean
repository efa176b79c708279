/- How arguments that came in are read, deeper: from a row's cells. No program in sight. -/
import Derived.Test.YtbdkmfcgnolihaaGreatDoorArgs
namespace Go.Proofs.YtbdkmfcgnolihaaGreatDoor
set_option linter.unusedSimpArgs false
set_option linter.unnecessarySimpa false
set_option linter.unusedVariables false
open Go.ChangeShapes Go.WideShapes Go.RowKit Go.Deep
section
variable {H : Type} {enc : TypeId × Value → H} {P : Program} {w : World}
abbrev Reads (enc : TypeId × Value → H) (P : Program) (w : World) (t : TypeId) (cs : List Value) : Prop := ∃ n y, DataW.trod enc P w 0 (fun _ => true) true n t cs = some y
theorem reads_rows {t e : TypeId} {cs : List Value} (sz : Nat) (ht : P.underlying t = some (.slice e)) (hC : P.cellsOf e = sz) (hsz : 0 < sz) (h : Reads enc P w t cs) :
    ∃ v css, cs = [v] ∧ Rows_ w v sz css ∧ ∀ cs ∈ css, Reads enc P w e cs := by
  obtain ⟨fuel, y, hf⟩ := h
  rcases open_slice ht hf with ⟨hcs, _⟩ | ⟨a', len, cap', m, n, D, Pl, hcs, _, hl, _, hm, _, hi⟩
  · exact ⟨_, [], hcs, ⟨none, 0, rfl, fun h => absurd rfl h⟩, by simp⟩
  · simp only [if_true] at hm
    subst hm
    rw [hC] at hi
    have hch : ∀ i, ∃ cs', i < len → w.cells? 0 (a'.add (i * sz)) sz = some cs' ∧ DataW.trod enc P w 0 (fun _ => true) true n e cs' = some (D i, Pl i) := fun i => by
      by_cases h : i < len
      · obtain ⟨cs', h1, h2⟩ := hi i (by omega)
        exact ⟨cs', fun _ => ⟨h1, h2⟩⟩
      · exact ⟨[], fun h' => absurd h' h⟩
    obtain ⟨f, hf'⟩ := Classical.axiomOfChoice hch
    refine ⟨_, (List.range len).map f, hcs, ⟨some a', m, by simp, fun hne => ?_⟩, fun cs hcs => ?_⟩
    · have hlen : 0 < len := by
        rcases Nat.eq_zero_or_pos len with h0 | h0
        · subst h0; simp at hne
        · exact h0
      obtain ⟨h1, _⟩ := hf' 0 hlen
      obtain ⟨_, hl0, hat⟩ := World.cells?_some h1
      have h2 := hat 0 hsz
      rw [List.getElem?_eq_getElem (by omega)] at h2
      have hspot : a'.spot = none := by
        rw [Nat.zero_mul] at h2
        simpa [Addr.add] using World.cell?_spot h2
      obtain ⟨b, off, spot⟩ := a'
      simp only at hspot
      subst hspot
      refine ⟨b, off, rfl, ?_, fun i cs hi' => ?_⟩
      · have := World.block_lt_of_cell? _ _ h2
        simpa [add_none] using this
      · have hil : i < len := by
          rcases Nat.lt_or_ge i len with h | h
          · exact h
          · rw [List.getElem?_eq_none (by simpa using h)] at hi'; cases hi'
        rw [List.getElem?_map, List.getElem?_range hil] at hi'
        simp only [Option.map_some, Option.some.injEq] at hi'
        subst hi'
        obtain ⟨h4, _⟩ := hf' i hil
        obtain ⟨_, hl4, hat4⟩ := World.cells?_some h4
        refine ⟨hl4, fun j x hx => ?_⟩
        have hj : j < sz := by
          rcases Nat.lt_or_ge j sz with h | h
          · exact h
          · rw [List.getElem?_eq_none (by omega)] at hx; cases hx
        have h5 := hat4 j hj
        rw [add_none, add_none] at h5
        rw [h5, hx]
    · obtain ⟨i, hi', rfl⟩ := List.mem_map.1 hcs
      exact ⟨n, _, (hf' i (List.mem_range.1 hi')).2⟩
theorem reads_int {t : TypeId} {k : IntKind} {cs : List Value} (ht : P.underlying t = some (.int k)) (h : Reads enc P w t cs) : ∃ x, cs = [.int k x] ∧ (Lit.int k x).wf = true := by
  obtain ⟨n, y, hy⟩ := h
  obtain ⟨x, hx, _, hw⟩ := DataW.trod_int ht hy
  exact ⟨x, hx, hw⟩
theorem reads_field {e : TypeId} {fs : Array Field} {cs : List Value} (he : P.underlying e = some (.struct fs)) (h : Reads enc P w e cs) : cs.length = P.cellsOf e ∧ ∀ (i : Nat) (f : Field), fs[i]? = some f → Reads enc P w f.type ((cs.drop f.offset).take (P.cellsOf f.type)) := by
  obtain ⟨n, y, hy⟩ := h
  obtain ⟨ys, m, _, _, hlen, hyl, hf⟩ := DataW.trod_struct he hy
  refine ⟨hlen, fun i f hi => ?_⟩
  have h2 := hf i f hi
  have hi' : i < ys.length := by
    rw [hyl]
    rcases Nat.lt_or_ge i fs.size with h' | h'
    · exact h'
    · rw [Array.getElem?_eq_none h'] at hi; cases hi
  rw [List.getElem?_eq_getElem hi'] at h2
  exact ⟨m, _, h2⟩
theorem reads_at {e : TypeId} {fs : Array Field} {L : Array (TypeId × Nat)} {cs : List Value} (he : P.underlying e = some (.struct fs)) (hm : (fs.map fun f => (f.type, f.offset)) = L) (h : Reads enc P w e cs) {i : Nat} {t : TypeId} {o : Nat} (hi : L[i]? = some (t, o)) : Reads enc P w t ((cs.drop o).take (P.cellsOf t)) := by
  subst hm
  rw [Array.getElem?_map] at hi
  cases hf : fs[i]? with
  | none => rw [hf] at hi; cases hi
  | some f =>
    rw [hf] at hi
    simp only [Option.map_some, Option.some.injEq, Prod.mk.injEq] at hi
    have := (reads_field he h).2 i f hf
    rw [hi.1, hi.2] at this
    exact this
theorem reads_int_at {e : TypeId} {fs : Array Field} {L : Array (TypeId × Nat)} {cs : List Value} (he : P.underlying e = some (.struct fs)) (hm : (fs.map fun f => (f.type, f.offset)) = L) (h : Reads enc P w e cs) {i : Nat} {t : TypeId} {o : Nat} {k : IntKind} (hi : L[i]? = some (t, o)) (ht : P.underlying t = some (.int k)) (hC : P.cellsOf t = 1) : ∃ x, cs[o]? = some (.int k x) ∧ (Lit.int k x).wf = true := by
  have h1 := reads_at he hm h hi
  rw [hC] at h1
  obtain ⟨x, hx, hw⟩ := reads_int ht h1
  refine ⟨x, ?_, hw⟩
  have := congrArg (fun l => l[0]?) hx
  simpa [List.getElem?_take, List.getElem?_drop] using this
theorem one_at {cs : List Value} {o : Nat} {v : Value} (h : (cs.drop o).take 1 = [v]) : cs[o]? = some v := by
  have := congrArg (fun l => l[0]?) h
  simpa [List.getElem?_take, List.getElem?_drop] using this
theorem reads_ints {t e : TypeId} {cs : List Value} (ht : P.underlying t = some (.slice e)) (he : P.underlying e = some (.int .i64)) (hC : P.cellsOf e = 1) (h : Reads enc P w t cs) :
    ∃ v ys, cs = [v] ∧ IntsOf w v ys ∧ ∀ x ∈ ys, (Lit.int .i64 x).wf = true := by
  obtain ⟨v, css, hcs, ⟨a, c, hv, hr⟩, hall'⟩ := reads_rows 1 ht hC (by omega) h
  obtain ⟨ys, hlen, hx⟩ := choose_list (fun cs x => cs = [Value.int .i64 x] ∧ (Lit.int .i64 x).wf = true) css (fun cs hcs => reads_int he (hall' cs hcs))
  refine ⟨v, ys, hcs, ⟨a, c, by rw [hlen]; exact hv, fun hne => ?_⟩, fun x hxs => ?_⟩
  · obtain ⟨b, off, ha, hb, hc⟩ := hr (by intro h; subst h; simp at hlen; exact hne hlen)
    refine ⟨b, off, ha, hb, fun k x hk => ?_⟩
    have hk' : k < ys.length := by
      rcases Nat.lt_or_ge k ys.length with h | h
      · exact h
      · rw [List.getElem?_eq_none h] at hk; cases hk
    have h1 := (hx k _ _ (List.getElem?_eq_getElem (by omega)) hk).1
    have h2 := (hc k _ (List.getElem?_eq_getElem (by omega))).2 0 (.int .i64 x) (by rw [h1]; rfl)
    simpa using h2
  · obtain ⟨i, hi, rfl⟩ := List.mem_iff_getElem.1 hxs
    exact (hx i _ _ (List.getElem?_eq_getElem (by omega)) (List.getElem?_eq_getElem hi)).2
theorem reads_of {t : TypeId} {v : Value} {d : DataW H} {p : List MemPlace} {r : Reach} {b0 : Nat} {e : TypeId} (ht : P.underlying t = some (.slice e)) (ho : Value.okWide P w r b0 t v) (h : DataW.Trod enc P w 0 (fun _ => true) true t v d p) : Reads enc P w t [v] := by
  obtain ⟨a0, len, cap, rfl⟩ := okWide_slice ht ho
  obtain ⟨fuel, hf⟩ := h
  exact ⟨fuel, _, hf⟩
end
end Go.Proofs.YtbdkmfcgnolihaaGreatDoor
