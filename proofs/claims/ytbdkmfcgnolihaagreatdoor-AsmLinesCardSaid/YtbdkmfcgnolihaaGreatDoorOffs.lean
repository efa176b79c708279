/- Slices of the call's own that begin anywhere in their block: appended to, cut at either end, read. No program in sight. -/
import Derived.Test.YtbdkmfcgnolihaaGreatDoorAppend
namespace Go.Proofs.YtbdkmfcgnolihaaGreatDoor
set_option linter.unusedSimpArgs false
set_option linter.unnecessarySimpa false
set_option linter.unusedVariables false
open Go.RowKit

/-- v has n elements of size cells each, the cells xs, somewhere in a block of its own, from B on; or it is nil. -/
def OwnsAt (w : World) (B : Nat) (e : TypeId) (size : Nat) (v : Value) (n : Nat) (xs : List Value) : Prop :=
  xs.length = n * size ∧ ((v = .slice none 0 0 ∧ n = 0) ∨ ∃ g off cap cur, v = .slice (some ⟨g, off, none⟩) n cap ∧ B ≤ g ∧ w.heap[g]? = some (.cells cur e (0, 0)) ∧ n ≤ cap ∧ cap ≤ maxLen ∧
    off + cap * size ≤ cur.size ∧ (cur.toList.drop off).take (n * size) = xs)
section
variable {w w' : World} {B : Nat} {e : TypeId} {size n : Nat} {v : Value} {xs : List Value}
theorem OwnsAt.nil (w : World) (B : Nat) (e : TypeId) (size : Nat) : OwnsAt w B e size (.slice none 0 0) 0 [] := ⟨by simp, Or.inl ⟨rfl, rfl⟩⟩
theorem OwnsAt.of_owns (h : w.ownsRow B e size v n xs) : OwnsAt w B e size v n xs := by
  refine ⟨h.1, ?_⟩
  rcases h.2 with h0 | ⟨g, cap, cur, h1, h2, h3, h4, h5, h6, h7⟩
  · exact Or.inl h0
  · exact Or.inr ⟨g, 0, cap, cur, h1, h2, h3, h4, h5, by omega, by simpa using h7⟩
theorem OwnsAt.shape (h : OwnsAt w B e size v n xs) : ∃ a c, v = .slice a n c := by
  rcases h.2 with ⟨rfl, rfl⟩ | ⟨g, off, cap, cur, rfl, _⟩
  · exact ⟨none, 0, rfl⟩
  · exact ⟨_, _, rfl⟩
theorem OwnsAt.form (h : OwnsAt w B e size v n xs) (hn : 0 < n) : ∃ g off cap, v = .slice (some ⟨g, off, none⟩) n cap ∧ n ≤ cap ∧ cap ≤ maxLen ∧ B ≤ g ∧ g < w.heap.size ∧ ∀ j u, xs[j]? = some u → w.cell? ⟨g, off + j, none⟩ = some u := by
  rcases h.2 with ⟨_, h0⟩ | ⟨g, off, cap, cur, rfl, hb, hg, h1, h2, h3, h4⟩
  · omega
  · refine ⟨g, off, cap, rfl, h1, h2, hb, lt_of_block hg, fun j u hu => ?_⟩
    rw [cell_of_row w g (off + j) cur e (0, 0) hg]
    rw [← h4, List.getElem?_take] at hu
    split at hu
    · simpa [List.getElem?_drop] using hu
    · cases hu
theorem OwnsAt.lt (h : OwnsAt w B e size v n xs) : ∀ k, v.ownBlock = some k → B ≤ k ∧ k < w.heap.size := by
  intro k hk
  rcases h.2 with ⟨rfl, _⟩ | ⟨g, off, cap, cur, rfl, hb, hg, _⟩
  · simp [Value.ownBlock] at hk
  · simp [Value.ownBlock] at hk
    subst hk
    exact ⟨hb, lt_of_block hg⟩
theorem OwnsAt.keep {S : List Nat} (h : OwnsAt w B e size v n xs) (hk : Keep S w w') (hn : ∀ g, v.ownBlock = some g → g ∉ S) : OwnsAt w' B e size v n xs := by
  refine ⟨h.1, ?_⟩
  rcases h.2 with h0 | ⟨g, off, cap, cur, rfl, hb, hg, rest⟩
  · exact Or.inl h0
  · exact Or.inr ⟨g, off, cap, cur, rfl, hb, (hk.block g (lt_of_block hg) (hn g rfl)).trans hg, rest⟩
/-- cut at the front by one -/
theorem OwnsAt.tail {g off cap : Nat} {one : List Value} (h : OwnsAt w B e size (.slice (some ⟨g, off, none⟩) (n + 1) cap) (n + 1) (one ++ xs)) (h1 : one.length = size) : OwnsAt w B e size (.slice (some ⟨g, off + size, none⟩) n (cap - 1)) n xs := by
  have hl := h.1
  rw [List.length_append, h1, Nat.succ_mul] at hl
  refine ⟨by omega, ?_⟩
  rcases h.2 with ⟨h0, _⟩ | ⟨g', off', cap', cur, hv, hb, hg, h3, h4, h5, h6⟩
  · cases h0
  · injection hv with e1 e2 e3
    injection e1 with e1
    injection e1 with e1 e4
    subst e1 e3 e4
    refine Or.inr ⟨g, off + size, cap - 1, cur, rfl, hb, hg, by omega, by omega, ?_, ?_⟩
    · obtain ⟨c, rfl⟩ : ∃ c, cap = c + 1 := ⟨cap - 1, by omega⟩
      rw [Nat.succ_mul] at h5
      simp only [Nat.add_sub_cancel]
      omega
    · have : (List.drop off cur.toList).take ((n + 1) * size) = one ++ xs := h6
      have h8 := congrArg (List.drop size) this
      rw [List.drop_left' h1, List.drop_take, List.drop_drop] at h8
      rw [← h8]
      congr 1
      rw [Nat.succ_mul]
      omega
/-- cut to nothing, wherever -/
theorem OwnsAt.none_left {g off cap n' : Nat} (h : OwnsAt w B e size (.slice (some ⟨g, off, none⟩) n' cap) n' xs) {off' : Nat} (ho : off' ≤ off + cap * size) : OwnsAt w B e size (.slice (some ⟨g, off', none⟩) 0 0) 0 [] := by
  refine ⟨by simp, ?_⟩
  rcases h.2 with ⟨h0, _⟩ | ⟨g', off'', cap', cur, hv, hb, hg, h3, h4, h5, h6⟩
  · cases h0
  · injection hv with e1 e2 e3
    injection e1 with e1
    injection e1 with e1 e4
    subst e1 e3 e4
    exact Or.inr ⟨g, off', 0, cur, rfl, hb, hg, by omega, by omega, by omega, by simp⟩
/-- cut at the end by one -/
theorem OwnsAt.init {g off cap : Nat} {one : List Value} (h : OwnsAt w B e size (.slice (some ⟨g, off, none⟩) (n + 1) cap) (n + 1) (xs ++ one)) (h1 : one.length = size) : OwnsAt w B e size (.slice (some ⟨g, off, none⟩) n cap) n xs := by
  have hl := h.1
  rw [List.length_append, h1, Nat.succ_mul] at hl
  refine ⟨by omega, ?_⟩
  rcases h.2 with ⟨h0, _⟩ | ⟨g', off', cap', cur, hv, hb, hg, h3, h4, h5, h6⟩
  · cases h0
  · injection hv with e1 e2 e3
    injection e1 with e1
    injection e1 with e1 e4
    subst e1 e3 e4
    refine Or.inr ⟨g, off, cap, cur, rfl, hb, hg, by omega, h4, h5, ?_⟩
    have h8 := congrArg (List.take (n * size)) h6
    rw [List.take_take, List.take_left' (by omega)] at h8
    rw [← h8]
    congr 1
    rw [Nat.succ_mul]
    omega
end
section
variable {P : Program} {w : World}
theorem run_append_off {t e : TypeId} {z : Value} {size bytes : Nat} (st : SliceTy P t e z size bytes) (ty : TypeId) (B : Nat) (v : Value) (n : Nat) (xs : List Value) (hown : OwnsAt w B e size v n xs)
    (src : Value) (m : Nat) (news : List Value) (hsrc : SrcOf w src size m news) (h1 : ∀ u ∈ news, u.oneCell' = true) (h63 : n + m ≤ maxLen) (hbytes : (n + m) * bytes ≤ 140737488355328) (hB : B ≤ w.heap.size) :
    ∃ v' w', (Builtin.append_ #[t, t] ty #[v, src]).run P w = .ok v' w' ∧ OwnsAt w' B e size v' (n + m) (xs ++ news) ∧ Keep (ownBlocks v) w w' ∧ (v'.ownBlock = v.ownBlock ∨ v'.ownBlock = some w.heap.size) := by
  rcases hown.2 with ⟨rfl, rfl⟩ | ⟨g, off, cap, cur, rfl, hbg, hg, hnc, hcm, hcs, htake⟩
  · have hx : xs = [] := List.eq_nil_of_length_eq_zero (by simpa using hown.1)
    subst hx
    obtain ⟨v', w', h2, h3, h4, h5⟩ := run_append_any (w := w) st ty B _ 0 [] (World.ownsRow_nil _ _ _ _) src m news hsrc h1 h63 hbytes hB
    exact ⟨v', w', h2, OwnsAt.of_owns h3, h4, h5⟩
  · obtain ⟨i, hi, hz0, hz1, hz2⟩ := info_parts st.info
    obtain ⟨a, c, rfl, hl, hc⟩ := hsrc
    have pos := st.pos
    subst hz1
    subst hz2
    have holds : ∀ j u, xs[j]? = some u → w.cell? ((⟨g, off, none⟩ : Addr).add j) = some u := by
      intro j u hu
      rw [add_none, cell_of_row w g (off + j) cur e (0, 0) hg]
      rw [← htake, List.getElem?_take] at hu
      split at hu
      · simpa [List.getElem?_drop] using hu
      · cases hu
    rcases a with _ | ad
    · have hn : news = [] := by
        refine Classical.byContradiction fun hne => ?_
        obtain ⟨_, h, _⟩ := hc hne
        cases h
      subst hn
      have hm : m = 0 := by
        rcases Nat.eq_zero_or_pos m with h | h
        · exact h
        · have := Nat.mul_pos h pos
          simp at hl
          omega
      subst hm
      refine ⟨_, w, ?_, by simpa using hown, Keep.refl _ _, Or.inl rfl⟩
      simp [Builtin.append_, run_underlying st.und, sizeOf, typeInfo, hi, Builtin.lenOf, Builtin.firstCells, hnc, storeCells]
    · have hcells : ∀ (j : Nat) (u : Value), news[j]? = some u → w.cell? (ad.add j) = some u := by
        intro j u hu
        obtain ⟨ad', h, hc'⟩ := hc (by rintro rfl; simp at hu)
        injection h with h
        subst h
        exact hc' j u hu
      by_cases hroom : n + m ≤ cap
      · have hmul : n * i.size + m * i.size ≤ cap * i.size := by rw [← Nat.add_mul]; exact Nat.mul_le_mul_right _ hroom
        have hf := run_firstCells_some (P := P) w i.size m ad m c news hl hcells
        have hst := run_storeCells_at P g (off + n * i.size) e news 0 cur w hg (by omega) h1
        simp only [Nat.add_zero] at hst
        refine ⟨.slice (some ⟨g, off, none⟩) (n + m) cap, w.setRow g (cur.toList.take (off + n * i.size) ++ news ++ cur.toList.drop (off + n * i.size + news.length)).toArray, ?_, ?_, ?_, Or.inl rfl⟩
        · simp [Builtin.append_, run_underlying st.und, sizeOf, typeInfo, hi, Builtin.lenOf, hroom, hf, add_none, hst]
        · refine ⟨by rw [List.length_append, hown.1, hl, Nat.add_mul], Or.inr ⟨g, off, cap, _, rfl, hbg, setRow_heap w g cur _ e _ hg, hroom, hcm, ?_, ?_⟩⟩
          · simp only [List.size_toArray, List.length_append, List.length_take, List.length_drop, Array.length_toList]
            omega
          · have h0 : off ≤ cur.toList.length := by simp only [Array.length_toList]; omega
            have e1 : cur.toList.take (off + n * i.size) = cur.toList.take off ++ xs := by rw [List.take_add, htake]
            rw [e1]
            simp only [List.append_assoc]
            rw [List.drop_left' (by rw [List.length_take]; omega)]
            rw [← List.append_assoc]
            exact List.take_left' (by rw [List.length_append, hown.1, hl, Nat.add_mul])
        · exact Keep.of_grown (row := some g) ⟨rfl, rfl, rfl, by simp, fun k _ hk => setRow_other w g k _ (fun e => hk (by rw [e]))⟩ (fun k hk => Or.inl (by cases hk; simp [ownBlocks, Value.ownBlock]))
      · have hr := run_append_grow (P := P) w t ty e i z st.und hi hz0 ⟨g, off, none⟩ n cap xs hown.1 holds ad m c news hl hcells (by omega) (by simp only [maxLen] at h63; omega) (growslice_fits (by omega) hbytes)
        have hge := grownCap_ge w (n + m) cap e
        have hcm : grownCap w (n + m) cap e ≤ maxLen := grownCap_le_maxLen w (n + m) cap e h63
        have hlen : (xs ++ news).length = (n + m) * i.size := by rw [List.length_append, hown.1, hl, Nat.add_mul]
        refine ⟨_, _, hr, OwnsAt.of_owns ⟨hlen, .inr ⟨w.heap.size, _, _, rfl, hB, heap_alloc_new w.drew _, hge, hcm, ?_, ?_⟩⟩, Keep.of_grown (row := none) ⟨rfl, rfl, rfl, by simp, fun k hk _ => Below.heap_alloc w.drew _ k hk⟩ (by simp), Or.inr rfl⟩
        · simp only [Array.size_append, List.size_toArray, size_zeroCells, st.zs, hown.1, hl, ← Nat.add_mul]
          congr 1
          omega
        · simp only [Array.toList_append, List.append_assoc]
          rw [← List.append_assoc, ← hlen]
          exact List.take_left
theorem wpList_append_off {ops : Array Oper} {rest : List Oper} {o : Oper} {a : Act} {Q : Exit → Act → World → Prop} (hgd : o.guard = none) (s x : Operand) {t e : TypeId}
    (ho : o.op = .call { callee := .builtin .append, args := #[s, x], argTypes := #[t, t] }) {z : Value} {size bytes : Nat} (st : SliceTy P t e z size bytes) (B : Nat)
    (v : Value) (n : Nat) (xs : List Value) (hs : a.eval s = v) (hown : OwnsAt w B e size v n xs)
    (src : Value) (m : Nat) (news : List Value) (hx : a.eval x = src) (hsrc : SrcOf w src size m news) (h1 : ∀ u ∈ news, u.oneCell' = true) (h63 : n + m ≤ maxLen) (hbytes : (n + m) * bytes ≤ 140737488355328) (hB : B ≤ w.heap.size)
    (h : ∀ v' w', OwnsAt w' B e size v' (n + m) (xs ++ news) → Keep (ownBlocks v) w w' → (v'.ownBlock = v.ownBlock ∨ v'.ownBlock = some w.heap.size) → wpList P ops Q rest (a.put o.dst v') w') : wpList P ops Q (o :: rest) a w := by
  refine wpList_plain hgd fun K hK => ?_
  obtain ⟨v', w', hr, h2, h3, h4⟩ := run_append_off (w := w) st o.type B v n xs hown src m news hsrc h1 h63 hbytes hB
  unfold Oper.wp execOp
  simp only [ho, resolve, invoke, builtin, Sem.run_bind, Sem.run_pure, Result.andThen_ok, List.map_toArray, List.map_cons, List.map_nil, hs, hx, hr]
  exact hK _ _ (h v' w' h2 h3 h4)
end
/-- A slice of the call's own reads as its numbers. -/
theorem ints_of_off {w : World} {B : Nat} {e : TypeId} {v : Value} {ys : List Int} (h : OwnsAt w B e 1 v ys.length (ys.map (.int .i64))) : IntsOf w v ys := by
  obtain ⟨a, c, hv⟩ := h.shape
  refine ⟨a, c, hv, fun hne => ?_⟩
  obtain ⟨g, off, cap, hv', h1, h2, h3, h4, h5⟩ := h.form (List.length_pos_iff.2 hne)
  rw [hv] at hv'
  injection hv' with e1 e2 e3
  exact ⟨g, off, e1, h4, fun k x hk => h5 k _ (by rw [List.getElem?_map, hk]; rfl)⟩
end Go.Proofs.YtbdkmfcgnolihaaGreatDoor
