/- Appends onto slices of the call's own, from whatever source; slices of the call's own, read and written. No program in sight. -/
import Derived.Test.YtbdkmfcgnolihaaGreatDoorArgs
import Derived.Maps.AppendAt
import Derived.Laws.OwnMore
import Derived.OwnWalk
namespace Go.Proofs.YtbdkmfcgnolihaaGreatDoor
set_option linter.unusedSimpArgs false
set_option linter.unnecessarySimpa false
set_option linter.unusedVariables false
open Go.RowKit

/-- What is known of a slice type t: its elements' type e, their zero value, cells and bytes. -/
structure SliceTy (P : Program) (t e : TypeId) (z : Value) (size bytes : Nat) : Prop where
  und : P.underlying t = some (.slice e)
  info : (P.info? e).map (fun i => (i.zero, i.size, i.bytes)) = some (some z, size, bytes)
  zs : z.cells.size = size
  pos : 0 < size

/-- The slice value src has m elements of size cells each; the cells are news. -/
def SrcOf (w : World) (src : Value) (size m : Nat) (news : List Value) : Prop :=
  ∃ a c, src = .slice a m c ∧ news.length = m * size ∧ (news ≠ [] → ∃ ad, a = some ad ∧ ∀ (j : Nat) (u : Value), news[j]? = some u → w.cell? (ad.add j) = some u)

theorem SrcOf.of_ints {w : World} {v : Value} {ys : List Int} (h : IntsOf w v ys) : SrcOf w v 1 ys.length (ys.map (.int .i64)) := by
  obtain ⟨a, c, rfl, h⟩ := h
  refine ⟨a, c, rfl, by simp, fun hne => ?_⟩
  obtain ⟨b, off, rfl, _, hc⟩ := h (by simpa using hne)
  refine ⟨_, rfl, fun j u hu => ?_⟩
  rw [add_none]
  rw [List.getElem?_map] at hu
  cases hx : ys[j]? with
  | none => rw [hx] at hu; cases hu
  | some x => rw [hx] at hu; cases hu; exact hc j x hx

/-- the blocks of a slice of the call's own: none or one -/
def ownBlocks (v : Value) : List Nat := v.ownBlock.toList

section
variable {P : Program} {w : World}
theorem run_append_any {t e : TypeId} {z : Value} {size bytes : Nat} (st : SliceTy P t e z size bytes) (ty : TypeId) (B : Nat) (v : Value) (n : Nat) (xs : List Value) (hown : w.ownsRow B e size v n xs)
    (src : Value) (m : Nat) (news : List Value) (hsrc : SrcOf w src size m news) (h1 : ∀ u ∈ news, u.oneCell' = true) (h63 : n + m ≤ maxLen) (hbytes : (n + m) * bytes ≤ 140737488355328) (hB : B ≤ w.heap.size) :
    ∃ v' w', (Builtin.append_ #[t, t] ty #[v, src]).run P w = .ok v' w' ∧ w'.ownsRow B e size v' (n + m) (xs ++ news) ∧ Keep (ownBlocks v) w w' ∧ (v'.ownBlock = v.ownBlock ∨ v'.ownBlock = some w.heap.size) := by
  obtain ⟨i, hi, hz0, hz1, hz2⟩ := info_parts st.info
  obtain ⟨a, c, rfl, hl, hc⟩ := hsrc
  have pos := st.pos
  have fin : ∀ {w' : World}, w.grownBy w' v.ownBlock → Keep (ownBlocks v) w w' := fun h => Keep.of_grown h (fun k hk => Or.inl (by simp [ownBlocks, hk]))
  rcases a with _ | ad
  · have hn : news = [] := by
      refine Classical.byContradiction fun hne => ?_
      obtain ⟨_, h, _⟩ := hc hne
      cases h
    subst hn
    have hm : m = 0 := by
      rcases Nat.eq_zero_or_pos m with h | h
      · exact h
      · have := Nat.mul_pos h pos
        simp at hl
        omega
    subst hm
    refine ⟨v, w, ?_, by simpa using hown, Keep.refl _ _, Or.inl rfl⟩
    rcases hown.2 with ⟨rfl, rfl⟩ | ⟨g, cap, cur, rfl, _, _, hnc, _⟩
    · simp [Builtin.append_, run_underlying st.und, sizeOf, typeInfo, hi, Builtin.lenOf, Builtin.firstCells]
    · simp [Builtin.append_, run_underlying st.und, sizeOf, typeInfo, hi, Builtin.lenOf, Builtin.firstCells, hnc, storeCells]
  · have hcells : ∀ (j : Nat) (u : Value), news[j]? = some u → w.cell? (ad.add j) = some u := by
      intro j u hu
      obtain ⟨ad', h, hc'⟩ := hc (by rintro rfl; simp at hu)
      injection h with h
      subst h
      exact hc' j u hu
    obtain ⟨v', w', hr, h2, h3, _, h5⟩ := run_append_own_at (P := P) w B t ty e i z size bytes st.und hi hz0 hz1 hz2 st.zs pos v n xs hown ad m c news hl hcells h1 h63 hbytes hB
    exact ⟨v', w', hr, h2, fin h3, h5⟩
theorem wpList_append_src {ops : Array Oper} {rest : List Oper} {o : Oper} {a : Act} {Q : Exit → Act → World → Prop} (hgd : o.guard = none) (s x : Operand) {t e : TypeId}
    (ho : o.op = .call { callee := .builtin .append, args := #[s, x], argTypes := #[t, t] }) {z : Value} {size bytes : Nat} (st : SliceTy P t e z size bytes) (B : Nat)
    (v : Value) (n : Nat) (xs : List Value) (hs : a.eval s = v) (hown : w.ownsRow B e size v n xs)
    (src : Value) (m : Nat) (news : List Value) (hx : a.eval x = src) (hsrc : SrcOf w src size m news) (h1 : ∀ u ∈ news, u.oneCell' = true) (h63 : n + m ≤ maxLen) (hbytes : (n + m) * bytes ≤ 140737488355328) (hB : B ≤ w.heap.size)
    (h : ∀ v' w', w'.ownsRow B e size v' (n + m) (xs ++ news) → Keep (ownBlocks v) w w' → (v'.ownBlock = v.ownBlock ∨ v'.ownBlock = some w.heap.size) → wpList P ops Q rest (a.put o.dst v') w') : wpList P ops Q (o :: rest) a w := by
  refine wpList_plain hgd fun K hK => ?_
  obtain ⟨v', w', hr, h2, h3, h4⟩ := run_append_any (w := w) st o.type B v n xs hown src m news hsrc h1 h63 hbytes hB
  unfold Oper.wp execOp
  simp only [ho, resolve, invoke, builtin, Sem.run_bind, Sem.run_pure, Result.andThen_ok, List.map_toArray, List.map_cons, List.map_nil, hs, hx, hr]
  exact hK _ _ (h v' w' h2 h3 h4)
end
/-- A slice of the call's own reads as its numbers. -/
theorem ints_of_own {w : World} {B : Nat} {e : TypeId} {v : Value} {ys : List Int} (h : w.ownsRow B e 1 v ys.length (ys.map (.int .i64))) : IntsOf w v ys := by
  rcases h.2 with ⟨rfl, hn⟩ | ⟨g, cap, cur, rfl, hb, hg, _, _, hcs, htake⟩
  · have : ys = [] := List.eq_nil_of_length_eq_zero hn
    subst this
    exact IntsOf.nil w
  · refine ⟨_, _, rfl, fun _ => ⟨g, 0, rfl, lt_of_block hg, fun k x hx => ?_⟩⟩
    have := h.cells (g := g) rfl k (.int .i64 x) (by rw [List.getElem?_map, hx]; rfl)
    simpa [add_none] using this
theorem ownsRow_keep {w w' : World} {B : Nat} {e : TypeId} {size n : Nat} {v : Value} {xs : List Value} {S : List Nat} (h : w.ownsRow B e size v n xs) (hk : Keep S w w') (hn : ∀ g, v.ownBlock = some g → g ∉ S) : w'.ownsRow B e size v n xs := by
  refine ⟨h.1, ?_⟩
  rcases h.2 with h0 | ⟨g, cap, cur, rfl, hb, hg, rest⟩
  · exact Or.inl h0
  · exact Or.inr ⟨g, cap, cur, rfl, hb, (hk.block g (lt_of_block hg) (hn g rfl)).trans hg, rest⟩
theorem own_shape {w : World} {B : Nat} {e : TypeId} {size n : Nat} {v : Value} {xs : List Value} (h : w.ownsRow B e size v n xs) : ∃ a c, v = .slice a n c := by
  rcases h.2 with ⟨rfl, hn⟩ | ⟨g, cap, cur, rfl, _⟩
  · subst hn; exact ⟨none, 0, rfl⟩
  · exact ⟨_, _, rfl⟩
end Go.Proofs.YtbdkmfcgnolihaaGreatDoor
