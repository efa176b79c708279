/- Slices of structs: rows of a fixed number of cells; slices of bytes. No program in sight. -/
import Derived.Test.YtbdkmfcgnolihaaGreatDoorOffs
import Derived.Deep.RegionLaw
namespace Go.Proofs.YtbdkmfcgnolihaaGreatDoor
set_option linter.unusedSimpArgs false
set_option linter.unnecessarySimpa false
set_option linter.unusedVariables false
open Go.RowKit

section
variable {α β : Type} {c : α → List β} {sz : Nat}
theorem flat_len (hc : ∀ a, (c a).length = sz) : ∀ l : List α, (l.flatMap c).length = l.length * sz
  | [] => by simp
  | a :: l => by rw [List.flatMap_cons, List.length_append, hc, flat_len hc l, List.length_cons, Nat.succ_mul]; omega
theorem flat_at (hc : ∀ a, (c a).length = sz) : ∀ (l : List α) (n : Nat) (a : α) (j : Nat), l[n]? = some a → j < sz → (l.flatMap c)[n * sz + j]? = (c a)[j]?
  | [], n, a, j, h, _ => by simp at h
  | x :: l, 0, a, j, h, hj => by
    simp only [List.getElem?_cons_zero, Option.some.injEq] at h
    subst h
    rw [List.flatMap_cons, Nat.zero_mul, Nat.zero_add, List.getElem?_append_left (by rw [hc]; omega)]
  | x :: l, n + 1, a, j, h, hj => by
    rw [List.getElem?_cons_succ] at h
    rw [List.flatMap_cons, List.getElem?_append_right (by rw [hc, Nat.succ_mul]; omega), hc, show (n + 1) * sz + j - sz = n * sz + j by rw [Nat.succ_mul]; omega]
    exact flat_at hc l n a j h hj
theorem flat_take (hc : ∀ a, (c a).length = sz) : ∀ (l : List α) (n : Nat), (l.flatMap c).take (n * sz) = (l.take n).flatMap c
  | [], n => by simp
  | x :: l, 0 => by simp
  | x :: l, n + 1 => by
    rw [List.flatMap_cons, List.take_succ_cons, List.flatMap_cons, Nat.succ_mul, ← flat_take hc l n, Nat.add_comm, ← hc x, List.take_length_add_append]
theorem flat_drop (hc : ∀ a, (c a).length = sz) : ∀ (l : List α) (n : Nat), (l.flatMap c).drop (n * sz) = (l.drop n).flatMap c
  | [], n => by simp
  | x :: l, 0 => by simp
  | x :: l, n + 1 => by
    rw [List.flatMap_cons, List.drop_succ_cons, Nat.succ_mul, ← flat_drop hc l n, Nat.add_comm, ← hc x, List.drop_length_add_append]
/-- one cell of one row turned -/
theorem flat_set_ (hc : ∀ a, (c a).length = sz) : ∀ (l : List α) (n : Nat) (a a' : α) (j : Nat) (x : β), l[n]? = some a → j < sz → c a' = (c a).set j x → (l.flatMap c).set (n * sz + j) x = (l.set n a').flatMap c
  | [], n, a, a', j, x, h, _, _ => by simp at h
  | y :: l, 0, a, a', j, x, h, hj, hr => by
    simp only [List.getElem?_cons_zero, Option.some.injEq] at h
    subst h
    rw [List.flatMap_cons, List.set_cons_zero, List.flatMap_cons, Nat.zero_mul, Nat.zero_add, List.set_append_left _ _ (by rw [hc]; omega), hr]
  | y :: l, n + 1, a, a', j, x, h, hj, hr => by
    rw [List.getElem?_cons_succ] at h
    rw [List.flatMap_cons, List.set_cons_succ, List.flatMap_cons, List.set_append_right _ _ (by rw [hc, Nat.succ_mul]; omega), hc, show (n + 1) * sz + j - sz = n * sz + j by rw [Nat.succ_mul]; omega, flat_set_ hc l n a a' j x h hj hr]
end

/-! ### Own slices, a cell set -/
section
variable {w w' : World} {B : Nat} {e : TypeId} {size n : Nat} {v : Value} {xs : List Value}
/-- the block's cells where something lies: they are not frozen -/
theorem OwnsAt.free {g off cap : Nat} (h : OwnsAt w B e size (.slice (some ⟨g, off, none⟩) n cap) n xs) (i : Nat) : w.frozen? ⟨g, i, none⟩ = false := by
  rcases h.2 with ⟨h0, _⟩ | ⟨g', off', cap', cur, hv, hb, hg, _⟩
  · cases h0
  · injection hv with e1 e2 e3
    injection e1 with e1
    injection e1 with e1 e4
    subst e1
    simp [World.frozen?, hg]
theorem OwnsAt.set_ {g off cap : Nat} (h : OwnsAt w B e size (.slice (some ⟨g, off, none⟩) n cap) n xs) (j : Nat) (u : Value) : OwnsAt (w.setCell ⟨g, off + j, none⟩ u) B e size (.slice (some ⟨g, off, none⟩) n cap) n (xs.set j u) := by
  refine ⟨by rw [List.length_set]; exact h.1, ?_⟩
  rcases h.2 with ⟨h0, _⟩ | ⟨g', off', cap', cur, hv, hb, hg, h1, h2, h3, h4⟩
  · cases h0
  · injection hv with e1 e2 e3
    injection e1 with e1
    injection e1 with e1 e4
    subst e1 e3 e4
    refine Or.inr ⟨g, off, cap, cur.setIfInBounds (off + j) u, rfl, hb, ?_, h1, h2, by simpa using h3, ?_⟩
    · simp [World.setCell, Array.getElem?_modify, hg]
    · have h5 : ((cur.toList.set (off + j) u).drop off).take (n * size) = xs.set j u := by
        rw [List.drop_set, if_neg (by omega), show off + j - off = j by omega, List.take_set, h4]
      simpa using h5
end

/-! ### Appends that fit, and clear -/
section
variable {P : Program} {w : World}
/-- an append that fits stays where it is -/
theorem run_append_fit {t e : TypeId} {z : Value} {size bytes : Nat} (st : SliceTy P t e z size bytes) (ty : TypeId) (B g off cap n : Nat) (xs : List Value) (hown : OwnsAt w B e size (.slice (some ⟨g, off, none⟩) n cap) n xs)
    (src : Value) (m : Nat) (news : List Value) (hsrc : SrcOf w src size m news) (h1 : ∀ u ∈ news, u.oneCell' = true) (hroom : n + m ≤ cap) :
    ∃ w', (Builtin.append_ #[t, t] ty #[.slice (some ⟨g, off, none⟩) n cap, src]).run P w = .ok (.slice (some ⟨g, off, none⟩) (n + m) cap) w' ∧ OwnsAt w' B e size (.slice (some ⟨g, off, none⟩) (n + m) cap) (n + m) (xs ++ news) ∧ Keep [g] w w' := by
  rcases hown.2 with ⟨h0, _⟩ | ⟨g', off', cap', cur, hv, hbg, hg, hnc, hcm, hcs, htake⟩
  · cases h0
  · injection hv with e1 e2 e3
    injection e1 with e1
    injection e1 with e1 e4
    subst e1 e3 e4
    obtain ⟨i, hi, hz0, hz1, hz2⟩ := info_parts st.info
    obtain ⟨a, c, rfl, hl, hc⟩ := hsrc
    have pos := st.pos
    subst hz1
    rcases a with _ | ad
    · have hn : news = [] := by
        refine Classical.byContradiction fun hne => ?_
        obtain ⟨_, h, _⟩ := hc hne
        cases h
      subst hn
      have hm : m = 0 := by
        rcases Nat.eq_zero_or_pos m with h | h
        · exact h
        · have := Nat.mul_pos h pos
          simp at hl
          omega
      subst hm
      refine ⟨w, ?_, by simpa using hown, Keep.refl _ _⟩
      simp [Builtin.append_, run_underlying st.und, sizeOf, typeInfo, hi, Builtin.lenOf, Builtin.firstCells, hnc, storeCells]
    · have hcells : ∀ (j : Nat) (u : Value), news[j]? = some u → w.cell? (ad.add j) = some u := by
        intro j u hu
        obtain ⟨ad', h, hc'⟩ := hc (by rintro rfl; simp at hu)
        injection h with h
        subst h
        exact hc' j u hu
      have hmul : n * i.size + m * i.size ≤ cap * i.size := by rw [← Nat.add_mul]; exact Nat.mul_le_mul_right _ hroom
      have hf := run_firstCells_some (P := P) w i.size m ad m c news hl hcells
      have hst := run_storeCells_at P g (off + n * i.size) e news 0 cur w hg (by omega) h1
      simp only [Nat.add_zero] at hst
      refine ⟨w.setRow g (cur.toList.take (off + n * i.size) ++ news ++ cur.toList.drop (off + n * i.size + news.length)).toArray, ?_, ?_, ?_⟩
      · simp [Builtin.append_, run_underlying st.und, sizeOf, typeInfo, hi, Builtin.lenOf, hroom, hf, add_none, hst]
      · refine ⟨by rw [List.length_append, hown.1, hl, Nat.add_mul], Or.inr ⟨g, off, cap, _, rfl, hbg, setRow_heap w g cur _ e _ hg, hroom, hcm, ?_, ?_⟩⟩
        · simp only [List.size_toArray, List.length_append, List.length_take, List.length_drop, Array.length_toList]
          omega
        · have h0 : off ≤ cur.toList.length := by simp only [Array.length_toList]; omega
          have e1 : cur.toList.take (off + n * i.size) = cur.toList.take off ++ xs := by rw [List.take_add, htake]
          rw [e1]
          simp only [List.append_assoc]
          rw [List.drop_left' (by rw [List.length_take]; omega)]
          rw [← List.append_assoc]
          exact List.take_left' (by rw [List.length_append, hown.1, hl, Nat.add_mul])
      · exact Keep.of_grown (row := some g) ⟨rfl, rfl, rfl, by simp, fun k _ hk => setRow_other w g k _ (fun e => hk (by rw [e]))⟩ (fun k hk => Or.inl (by cases hk; simp))
theorem wpList_append_fit {ops : Array Oper} {rest : List Oper} {o : Oper} {a : Act} {Q : Exit → Act → World → Prop} (hgd : o.guard = none) (s x : Operand) {t e : TypeId}
    (ho : o.op = .call { callee := .builtin .append, args := #[s, x], argTypes := #[t, t] }) {z : Value} {size bytes : Nat} (st : SliceTy P t e z size bytes) (B g off cap n : Nat) (xs : List Value)
    (hs : a.eval s = .slice (some ⟨g, off, none⟩) n cap) (hown : OwnsAt w B e size (.slice (some ⟨g, off, none⟩) n cap) n xs)
    (src : Value) (m : Nat) (news : List Value) (hx : a.eval x = src) (hsrc : SrcOf w src size m news) (h1 : ∀ u ∈ news, u.oneCell' = true) (hroom : n + m ≤ cap)
    (h : ∀ w', OwnsAt w' B e size (.slice (some ⟨g, off, none⟩) (n + m) cap) (n + m) (xs ++ news) → Keep [g] w w' → wpList P ops Q rest (a.put o.dst (.slice (some ⟨g, off, none⟩) (n + m) cap)) w') : wpList P ops Q (o :: rest) a w := by
  refine wpList_plain hgd fun K hK => ?_
  obtain ⟨w', hr, h2, h3⟩ := run_append_fit (w := w) st o.type B g off cap n xs hown src m news hsrc h1 hroom
  unfold Oper.wp execOp
  simp only [ho, resolve, invoke, builtin, Sem.run_bind, Sem.run_pure, Result.andThen_ok, List.map_toArray, List.map_cons, List.map_nil, hs, hx, hr]
  exact hK _ _ (h w' h2 h3)
/-- 'clear' of what lies behind an own slice's elements -/
theorem run_clear_own {t e : TypeId} {z : Value} {size : Nat} (hu : P.underlying t = some (.slice e)) (hz : ∀ w, (zeroValue e).run P w = .ok z w) (hzs : z.cells.size = size) (hz1 : ∀ u ∈ z.cells, u.oneCell' = true) (ty : TypeId) (B g off cap n m c : Nat) (xs : List Value)
    (hown : OwnsAt w B e size (.slice (some ⟨g, off, none⟩) n cap) n xs) (hroom : n + m ≤ cap) :
    ∃ w', (Builtin.clear_ #[t] ty #[.slice (some ⟨g, off + n * size, none⟩) m c]).run P w = .ok (.tuple #[]) w' ∧ OwnsAt w' B e size (.slice (some ⟨g, off, none⟩) n cap) n xs ∧ Keep [g] w w' := by
  rcases Nat.eq_zero_or_pos m with hm | hm
  · subst hm
    refine ⟨w, ?_, hown, Keep.refl _ _⟩
    simp [Builtin.clear_, run_underlying hu]
  · rcases hown.2 with ⟨h0, _⟩ | ⟨g', off', cap', cur, hv, hbg, hg, hnc, hcm, hcs, htake⟩
    · cases h0
    · injection hv with e1 e2 e3
      injection e1 with e1
      injection e1 with e1 e4
      subst e1 e3 e4
      subst hzs
      have hmul : n * z.cells.size + m * z.cells.size ≤ cap * z.cells.size := by rw [← Nat.add_mul]; exact Nat.mul_le_mul_right _ hroom
      have hlen : (Builtin.zeroCells z.cells m).toList.length = m * z.cells.size := by rw [Array.length_toList, size_zeroCells]
      have hst := run_storeCells_at P g (off + n * z.cells.size) e (Builtin.zeroCells z.cells m).toList 0 cur w hg (by omega) (by
        intro u hu'
        unfold Builtin.zeroCells at hu'
        simp at hu'
        obtain ⟨i, hi, rfl⟩ := hu'
        by_cases hs : i % z.cells.size < z.cells.size
        · rw [getElem!_pos z.cells _ hs]
          exact hz1 _ (Array.getElem_mem hs)
        · exfalso
          rcases Nat.eq_zero_or_pos z.cells.size with h0 | h0
          · rw [h0] at hi; simp at hi
          · exact hs (Nat.mod_lt _ h0))
      simp only [Nat.add_zero] at hst
      obtain ⟨m', rfl⟩ : ∃ m', m = m' + 1 := ⟨m - 1, by omega⟩
      refine ⟨w.setRow g (cur.toList.take (off + n * z.cells.size) ++ (Builtin.zeroCells z.cells (m' + 1)).toList ++ cur.toList.drop (off + n * z.cells.size + (Builtin.zeroCells z.cells (m' + 1)).toList.length)).toArray, ?_, ?_, ?_⟩
      · simp [Builtin.clear_, run_underlying hu, hz, hst]
      · refine ⟨hown.1, Or.inr ⟨g, off, cap, _, rfl, hbg, setRow_heap w g cur _ e _ hg, hnc, hcm, ?_, ?_⟩⟩
        · simp only [List.size_toArray, List.length_append, List.length_take, List.length_drop, hlen]
          simp only [Array.length_toList]
          omega
        · have h0 : off ≤ cur.toList.length := by simp only [Array.length_toList]; omega
          have e1 : cur.toList.take (off + n * z.cells.size) = cur.toList.take off ++ xs := by rw [List.take_add, htake]
          rw [e1]
          simp only [List.append_assoc]
          rw [List.drop_left' (by rw [List.length_take]; omega)]
          exact List.take_left' hown.1
      · exact Keep.of_grown (row := some g) ⟨rfl, rfl, rfl, by simp, fun k _ hk => setRow_other w g k _ (fun e => hk (by rw [e]))⟩ (fun k hk => Or.inl (by cases hk; simp))
/-- an append at a step of a region that draws its order -/
theorem step_append_off {ops : Array Oper} {o : Oper} {a : Act} {K : Act → World → Prop} {Q : Exit → Act → World → Prop} {E : Prop} (hgd : o.guard = none) (s x : Operand) {t e : TypeId}
    (ho : o.op = .call { callee := .builtin .append, args := #[s, x], argTypes := #[t, t] }) {z : Value} {size bytes : Nat} (st : SliceTy P t e z size bytes) (B : Nat)
    (v : Value) (n : Nat) (xs : List Value) (hs : a.eval s = v) (hown : OwnsAt w B e size v n xs)
    (src : Value) (m : Nat) (news : List Value) (hx : a.eval x = src) (hsrc : SrcOf w src size m news) (h1 : ∀ u ∈ news, u.oneCell' = true) (h63 : n + m ≤ maxLen) (hbytes : (n + m) * bytes ≤ 140737488355328) (hB : B ≤ w.heap.size)
    (h : ∀ v' w', OwnsAt w' B e size v' (n + m) (xs ++ news) → Keep (ownBlocks v) w w' → (v'.ownBlock = v.ownBlock ∨ v'.ownBlock = some w.heap.size) → K (a.put o.dst v') w') :
    if Region.wanted o (yielded ops a.tmps) = true then Oper.wp P o a w K Q else E := by
  have hw : Region.wanted o (yielded ops a.tmps) = true := by simp [Region.wanted, hgd]
  rw [if_pos hw]
  obtain ⟨v', w', hr, h2, h3, h4⟩ := run_append_off (w := w) st o.type B v n xs hown src m news hsrc h1 h63 hbytes hB
  unfold Oper.wp execOp
  simp only [ho, resolve, invoke, builtin, Sem.run_bind, Sem.run_pure, Result.andThen_ok, List.map_toArray, List.map_cons, List.map_nil, hs, hx, hr]
  exact h v' w' h2 h3 h4
end
end Go.Proofs.YtbdkmfcgnolihaaGreatDoor
