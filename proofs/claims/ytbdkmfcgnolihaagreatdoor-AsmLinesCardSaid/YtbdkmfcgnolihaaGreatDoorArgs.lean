/- How arguments that came in are read: slices of numbers, slices of structs of numbers. No program in sight. -/
import Derived.Test.YtbdkmfcgnolihaaGreatDoorBase
import Derived.ProofKit
import Derived.OpenShut
import Derived.Deep.Slices
import Derived.Deep.Fields
namespace Go.Proofs.YtbdkmfcgnolihaaGreatDoor
set_option linter.unusedSimpArgs false
set_option linter.unnecessarySimpa false
set_option linter.unusedVariables false
open Go.ChangeShapes Go.WideShapes Go.RowKit Go.Deep

/-- The slice value v reads, in w, as the rows css of sz cells each. -/
def Rows_ (w : World) (v : Value) (sz : Nat) (css : List (List Value)) : Prop :=
  ∃ a c, v = .slice a css.length c ∧ (css ≠ [] → ∃ b off, a = some ⟨b, off, none⟩ ∧ b < w.heap.size ∧
    ∀ i cs, css[i]? = some cs → cs.length = sz ∧ ∀ j x, cs[j]? = some x → w.cell? ⟨b, off + i * sz + j, none⟩ = some x)
theorem Rows_.keep {w w' : World} {v : Value} {sz : Nat} {css : List (List Value)} (h : Rows_ w v sz css) (hk : Keep [] w w') : Rows_ w' v sz css := by
  obtain ⟨a, c, rfl, h⟩ := h
  refine ⟨a, c, rfl, fun hy => ?_⟩
  obtain ⟨b, off, rfl, hb, hc⟩ := h hy
  exact ⟨b, off, rfl, Nat.lt_of_lt_of_le hb hk.size, fun i cs hi => ⟨(hc i cs hi).1, fun j x hx => (hk.cell hb (by simp)).trans ((hc i cs hi).2 j x hx)⟩⟩
theorem IntsOf.keep0 {w w' : World} {v : Value} {ys : List Int} (h : IntsOf w v ys) (hk : Keep [] w w') : IntsOf w' v ys := h.keep hk (by simp)

section
variable {H : Type} {enc : TypeId × Value → H} {P : Program} {w : World}
theorem add_none (b off n : Nat) : (⟨b, off, none⟩ : Addr).add n = ⟨b, off + n, none⟩ := by
  unfold Addr.add
  by_cases h : n = 0 <;> simp [h]
theorem rows_open {r : Reach} {b0 : Nat} {t e : TypeId} {v : Value} {d : DataW H} {p : List MemPlace} (sz : Nat) (ht : P.underlying t = some (.slice e)) (hC : P.cellsOf e = sz) (hsz : 0 < sz)
    (ho : Value.okWide P w r b0 t v) (h : DataW.Trod enc P w 0 (fun _ => true) true t v d p) :
    ∃ css, Rows_ w v sz css ∧ ∀ cs ∈ css, ∃ n y, DataW.trod enc P w 0 (fun _ => true) true n e cs = some y := by
  obtain ⟨a, len, cap, rfl⟩ := okWide_slice ht ho
  obtain ⟨fuel, hf⟩ := h
  rcases open_slice ht hf with ⟨hcs, _⟩ | ⟨a', len', cap', m, n, D, Pl, hcs, _, hl, _, hm, _, hi⟩
  · simp [Value.cells] at hcs
    obtain ⟨rfl, rfl, rfl⟩ := hcs
    exact ⟨[], ⟨none, 0, rfl, fun h => absurd rfl h⟩, by simp⟩
  · simp [Value.cells] at hcs
    obtain ⟨rfl, rfl, rfl⟩ := hcs
    simp only [if_true] at hm
    subst hm
    rw [hC] at hi
    have hch : ∀ i, ∃ cs', i < len → w.cells? 0 (a'.add (i * sz)) sz = some cs' ∧ DataW.trod enc P w 0 (fun _ => true) true n e cs' = some (D i, Pl i) := fun i => by
      by_cases h : i < len
      · obtain ⟨cs', h1, h2⟩ := hi i (by omega)
        exact ⟨cs', fun _ => ⟨h1, h2⟩⟩
      · exact ⟨[], fun h' => absurd h' h⟩
    obtain ⟨f, hf'⟩ := Classical.axiomOfChoice hch
    refine ⟨(List.range len).map f, ⟨some a', m, by simp, fun hne => ?_⟩, fun cs hcs => ?_⟩
    · have hlen : 0 < len := by
        rcases Nat.eq_zero_or_pos len with h0 | h0
        · subst h0; simp at hne
        · exact h0
      obtain ⟨h1, _⟩ := hf' 0 hlen
      obtain ⟨_, hl0, hat⟩ := World.cells?_some h1
      have h2 := hat 0 hsz
      rw [List.getElem?_eq_getElem (by omega)] at h2
      have hspot : a'.spot = none := by
        rw [Nat.zero_mul] at h2
        simpa [Addr.add] using World.cell?_spot h2
      obtain ⟨b, off, spot⟩ := a'
      simp only at hspot
      subst hspot
      refine ⟨b, off, rfl, ?_, fun i cs hi' => ?_⟩
      · have := World.block_lt_of_cell? _ _ h2
        simpa [add_none] using this
      · have hil : i < len := by
          rcases Nat.lt_or_ge i len with h | h
          · exact h
          · rw [List.getElem?_eq_none (by simpa using h)] at hi'; cases hi'
        rw [List.getElem?_map, List.getElem?_range hil] at hi'
        simp only [Option.map_some, Option.some.injEq] at hi'
        subst hi'
        obtain ⟨h4, _⟩ := hf' i hil
        obtain ⟨_, hl4, hat4⟩ := World.cells?_some h4
        refine ⟨hl4, fun j x hx => ?_⟩
        have hj : j < sz := by
          rcases Nat.lt_or_ge j sz with h | h
          · exact h
          · rw [List.getElem?_eq_none (by omega)] at hx; cases hx
        have h5 := hat4 j hj
        rw [add_none, add_none] at h5
        rw [h5, hx]
    · obtain ⟨i, hi', rfl⟩ := List.mem_map.1 hcs
      exact ⟨n, _, (hf' i (List.mem_range.1 hi')).2⟩
/-- a struct all of whose fields are int -/
def allInts (P : Program) (fs : Array Field) : Bool :=
  (List.range fs.size).all fun i => match fs[i]? with | some f => f.offset == i && (P.cellsOf f.type == 1 && (match P.underlying f.type with | some (.int .i64) => true | _ => false)) | none => false
theorem ints_of_struct {e : TypeId} {fs : Array Field} {n : Nat} {cs : List Value} {y : DataW H × List MemPlace} (he : P.underlying e = some (.struct fs)) (hall : allInts P fs = true) (hC : P.cellsOf e = fs.size)
    (h : DataW.trod enc P w 0 (fun _ => true) true n e cs = some y) : ∃ xs : List Int, cs = xs.map (.int .i64) ∧ xs.length = fs.size ∧ ∀ x ∈ xs, (Lit.int .i64 x).wf = true := by
  obtain ⟨ys, m, _, _, hlen, hyl, hf⟩ := DataW.trod_struct he h
  have key : ∀ i, i < fs.size → ∃ x : Int, cs[i]? = some (.int .i64 x) ∧ (Lit.int .i64 x).wf = true := by
    intro i hi
    have h1 := List.all_eq_true.1 hall i (List.mem_range.2 hi)
    rw [Array.getElem?_eq_getElem hi] at h1
    simp only [Bool.and_eq_true, beq_iff_eq] at h1
    obtain ⟨ho, hk, hu⟩ := h1
    have h2 := hf i fs[i] (Array.getElem?_eq_getElem hi)
    rw [ho, hk] at h2
    have hcl : i < cs.length := by omega
    have hone : (cs.drop i).take 1 = [cs[i]] := by
      rw [List.drop_eq_getElem_cons hcl]; rfl
    rw [hone, List.getElem?_eq_getElem (by omega)] at h2
    have hu' : P.underlying fs[i].type = some (.int .i64) := by
      split at hu <;> first | assumption | cases hu
    obtain ⟨x, hx, _, hw⟩ := DataW.trod_int hu' h2
    simp at hx
    exact ⟨x, by rw [List.getElem?_eq_getElem hcl, hx], hw⟩
  have hch : ∀ i, ∃ x : Int, i < fs.size → cs[i]? = some (.int .i64 x) ∧ (Lit.int .i64 x).wf = true := fun i => by
    by_cases h : i < fs.size
    · obtain ⟨x, hx⟩ := key i h; exact ⟨x, fun _ => hx⟩
    · exact ⟨0, fun h' => absurd h' h⟩
  obtain ⟨f, hf'⟩ := Classical.axiomOfChoice hch
  refine ⟨(List.range fs.size).map f, ?_, by simp, fun x hx => ?_⟩
  · apply List.ext_getElem?
    intro i
    rcases Nat.lt_or_ge i fs.size with hi | hi
    · rw [(hf' i hi).1]
      simp [List.getElem?_range hi]
    · rw [List.getElem?_eq_none (by omega), List.getElem?_eq_none (by simpa using hi)]
  · obtain ⟨i, hi, rfl⟩ := List.mem_map.1 hx
    exact (hf' i (List.mem_range.1 hi)).2
/-- The slice value v reads as rows of sz numbers each. -/
def IntRows (w : World) (v : Value) (sz : Nat) (xss : List (List Int)) : Prop := Rows_ w v sz (xss.map (·.map (.int .i64)))
theorem IntRows.keep {w w' : World} {v : Value} {sz : Nat} {xss : List (List Int)} (h : IntRows w v sz xss) (hk : Keep [] w w') : IntRows w' v sz xss := Rows_.keep h hk
theorem choose_list {α β : Type} (R : α → β → Prop) : ∀ l : List α, (∀ a ∈ l, ∃ b, R a b) → ∃ m : List β, m.length = l.length ∧ ∀ (i : Nat) (a : α) (b : β), l[i]? = some a → m[i]? = some b → R a b
  | [], _ => ⟨[], rfl, by simp⟩
  | a :: l, h => by
    obtain ⟨b, hb⟩ := h a (by simp)
    obtain ⟨m, hm, hR⟩ := choose_list R l (fun x hx => h x (by simp [hx]))
    refine ⟨b :: m, by simp [hm], fun i x y hx hy => ?_⟩
    cases i with
    | zero => simp at hx hy; subst hx; subst hy; exact hb
    | succ i => simp at hx hy; exact hR i x y hx hy
theorem intRows_open {r : Reach} {b0 : Nat} {t e : TypeId} {fs : Array Field} {v : Value} {d : DataW H} {p : List MemPlace} (ht : P.underlying t = some (.slice e)) (he : P.underlying e = some (.struct fs)) (hall : allInts P fs = true) (hC : P.cellsOf e = fs.size) (hsz : 0 < fs.size)
    (ho : Value.okWide P w r b0 t v) (h : DataW.Trod enc P w 0 (fun _ => true) true t v d p) :
    ∃ xss, IntRows w v fs.size xss ∧ ∀ xs ∈ xss, xs.length = fs.size ∧ ∀ x ∈ xs, (Lit.int .i64 x).wf = true := by
  obtain ⟨css, hr, hall'⟩ := rows_open fs.size ht hC hsz ho h
  obtain ⟨xss, hlen, hx⟩ := choose_list (fun cs xs => cs = List.map (Value.int .i64) xs ∧ xs.length = fs.size ∧ ∀ x ∈ xs, (Lit.int .i64 x).wf = true) css (fun cs hcs => by
    obtain ⟨n, y, hy⟩ := hall' cs hcs
    exact ints_of_struct he hall hC hy)
  have e : css = xss.map (·.map (.int .i64)) := by
    apply List.ext_getElem?
    intro i
    rcases Nat.lt_or_ge i css.length with hi | hi
    · have hi' : i < xss.length := by omega
      rw [List.getElem?_eq_getElem hi, List.getElem?_map, List.getElem?_eq_getElem hi']
      simp only [Option.map_some, Option.some.injEq]
      exact (hx i _ _ (List.getElem?_eq_getElem hi) (List.getElem?_eq_getElem hi')).1
    · rw [List.getElem?_eq_none hi, List.getElem?_eq_none (by simp; omega)]
  refine ⟨xss, by unfold IntRows; rw [← e]; exact hr, fun xs hxs => ?_⟩
  obtain ⟨i, hi, rfl⟩ := List.mem_iff_getElem.1 hxs
  exact (hx i _ _ (List.getElem?_eq_getElem (by omega)) (List.getElem?_eq_getElem hi)).2
theorem ints_open {r : Reach} {b0 : Nat} {t e : TypeId} {v : Value} {d : DataW H} {p : List MemPlace} (ht : P.underlying t = some (.slice e)) (he : P.underlying e = some (.int .i64)) (hC : P.cellsOf e = 1)
    (ho : Value.okWide P w r b0 t v) (h : DataW.Trod enc P w 0 (fun _ => true) true t v d p) :
    ∃ ys, IntsOf w v ys ∧ ∀ x ∈ ys, (Lit.int .i64 x).wf = true := by
  obtain ⟨css, ⟨a, c, hv, hr⟩, hall'⟩ := rows_open 1 ht hC (by omega) ho h
  obtain ⟨ys, hlen, hx⟩ := choose_list (fun cs x => cs = [Value.int .i64 x] ∧ (Lit.int .i64 x).wf = true) css (fun cs hcs => by
    obtain ⟨n, y, hy⟩ := hall' cs hcs
    obtain ⟨i, hi, rfl⟩ := List.mem_iff_getElem.1 hcs
    obtain ⟨_, _, _, _, h1⟩ := hr (by intro h; subst h; simp at hi)
    have h2 := (h1 i _ (List.getElem?_eq_getElem hi)).1
    obtain ⟨u, hu⟩ := List.length_eq_one_iff.1 h2
    rw [hu] at hy ⊢
    obtain ⟨x, hx, _, hw⟩ := DataW.trod_int he hy
    simp at hx
    exact ⟨x, by rw [hx], hw⟩)
  refine ⟨ys, ⟨a, c, by rw [hlen]; exact hv, fun hne => ?_⟩, fun x hxs => ?_⟩
  · obtain ⟨b, off, ha, hb, hc⟩ := hr (by intro h; subst h; simp at hlen; exact hne hlen)
    refine ⟨b, off, ha, hb, fun k x hk => ?_⟩
    have hk' : k < ys.length := by
      rcases Nat.lt_or_ge k ys.length with h | h
      · exact h
      · rw [List.getElem?_eq_none h] at hk; cases hk
    have h1 := (hx k _ _ (List.getElem?_eq_getElem (by omega)) hk).1
    have h2 := (hc k _ (List.getElem?_eq_getElem (by omega))).2 0 (.int .i64 x) (by rw [h1]; rfl)
    simpa using h2
  · obtain ⟨i, hi, rfl⟩ := List.mem_iff_getElem.1 hxs
    exact (hx i _ _ (List.getElem?_eq_getElem (by omega)) (List.getElem?_eq_getElem hi)).2
end
end Go.Proofs.YtbdkmfcgnolihaaGreatDoor
