/- A region that draws its order, whose last operation waits for all the others: the others first, in whatever order, then the last one. No program in sight. -/
import Derived.StillTail
import Derived.Test.YtbdkmfcgnolihaaGreatDoorStructs
import Derived.BigQuiet
import Derived.Deep.RegionHeld3
namespace Go.Proofs.YtbdkmfcgnolihaaGreatDoor
set_option linter.unusedSimpArgs false
set_option linter.unnecessarySimpa false
set_option linter.unusedVariables false
section
variable {P : Program} {md : Region.Mode}
/-- Q, but N behind a normal end -/
def Ahead (Q : Exit → Act → World → Prop) (N : Act → World → Prop) : Exit → Act → World → Prop
  | .normal, a, w => N a w
  | e, a, w => Q e a w
theorem wp_swap {o : Oper} {a : Act} {w : World} {K K' : Act → World → Prop} {Q : Exit → Act → World → Prop} {N : Act → World → Prop} (h : ∀ a w, K a w → K' a w) (hh : o.wp P a w K (Ahead Q N)) : o.wp P a w K' Q := by
  unfold Oper.wp at *
  generalize (execOp a.eval o).run P w = r at *
  unfold Oper.upon at *
  split at hh
  · exact h _ _ hh
  · exact h _ _ hh
  · exact h _ _ hh
  · refine hh.mono fun e w' hp => ?_
    cases e with
    | returned v => exact h _ _ hp
    | panicked c => exact hp
    | outgrown => obtain ⟨a', w'', h'⟩ := hp; exact ⟨a', w'', h'⟩
  · exact hh.mono fun v w' hp => h _ _ hp
  · exact hh
  · exact hh.elim
theorem lets_swap {Q : Exit → Act → World → Prop} {N : Act → World → Prop} (h : LetsOut (Ahead Q N)) : LetsOut Q := by obtain ⟨a', w'', h'⟩ := h; exact ⟨a', w'', h'⟩
theorem wanted_none {o : Oper} (h : o.guard = none) (x : Nat → Option Bool) : Region.wanted o x = true := by simp [Region.wanted, h]
theorem getD_in' {l : Array Bool} {i : Nat} (h : i < l.size) (a b : Bool) : l.getD i a = l.getD i b := by simp [Array.getD, h]
structure Same (n : Nat) (listed listed' : Array Bool) : Prop where
  s1 : listed.size = n + 1
  s2 : listed'.size = n
  at_ : ∀ j, j < n → listed'.getD j true = listed.getD j true
theorem Same.set {n i : Nat} {listed listed' : Array Bool} (h : Same n listed listed') (hi : i < n) : Same n (listed.setIfInBounds i true) (listed'.setIfInBounds i true) := by
  refine ⟨by simp [h.s1], by simp [h.s2], fun j hj => ?_⟩
  have h1 := h.s1
  have h2 := h.s2
  by_cases hij : i = j
  · subst hij
    simp [Array.getD, h1, h2, hj, show i < n + 1 by omega]
  · have := h.at_ j hj
    simpa [Array.getD, h1, h2, hj, show j < n + 1 by omega, Array.getElem_setIfInBounds, hij] using this
/-- what the program that prints the region's text answers for: no guards, edges lead back, the last one waits -/
def splitB (md : Region.Mode) (l : List Oper) (o : Oper) : Bool :=
  ((l ++ [o]).all fun x => x.guard.isNone) && ((List.range (l.length + 1)).all fun i => match (l ++ [o])[i]? with | some x => x.after.all (fun e => decide (e.on < i)) | none => true) &&
    Region.sinkB md (l ++ [o]).toArray l.length && Region.chainB md (l ++ [o]).toArray l.length
theorem wpAny_split {l : List Oper} {o : Oper} {Q : Exit → Act → World → Prop} (hB : splitB md l o = true) :
    ∀ (f : Nat) (listed listed' : Array Bool) (a : Act) (w : World), Same l.length listed listed' → HeadInv md (l ++ [o]).toArray l.length listed → wpAny P md l.toArray (Ahead Q (fun a w => o.wp P a w (Q .normal) Q)) f listed' a w →
      wpAny P md (l ++ [o]).toArray Q (f + 1) listed a w := by
  unfold splitB at hB
  simp only [Bool.and_eq_true] at hB
  obtain ⟨⟨⟨hg, hb⟩, hs⟩, hc⟩ := hB
  have hgd : ∀ (i : Nat) (x : Oper), (l ++ [o])[i]? = some x → x.guard = none := fun i x hx => by
    have := List.all_eq_true.1 hg x (List.mem_of_getElem? hx)
    simpa using this
  have hbk : ∀ (i : Nat) (x : Oper), (l ++ [o])[i]? = some x → ∀ e ∈ x.after, e.on < i := fun i x hx e he => by
    have hi : i < l.length + 1 := by
      rcases Nat.lt_or_ge i (l.length + 1) with h' | h'
      · exact h'
      · rw [List.getElem?_eq_none (by simpa using h')] at hx; cases hx
    have h1 := List.all_eq_true.1 hb i (List.mem_range.2 hi)
    rw [hx] at h1
    simp only at h1
    have := Array.all_eq_true'.1 h1 e he
    simpa using this
  have hlast : (l ++ [o])[l.length]? = some o := by simp
  have hhead : ∀ i, i < l.length → (l ++ [o])[i]? = l[i]? := fun i hi => List.getElem?_append_left hi
  -- which of the head may come up
  have hready : ∀ (listed listed' : Array Bool), Same l.length listed listed' → ∀ i, i < l.length → (i ∈ Region.ready md (l ++ [o]).toArray listed ↔ i ∈ Region.ready md l.toArray listed') := by
    intro listed listed' hS i hi
    have h1 := hS.s1
    have h2 := hS.s2
    rw [mem_ready, mem_ready, hS.at_ i hi]
    simp only [List.getElem?_toArray, hhead i hi]
    constructor
    · rintro ⟨hu, x, hx, hall⟩
      refine ⟨hu, x, hx, fun e he hbd => ?_⟩
      have hlt := hbk i x (by rw [hhead i hi]; exact hx) e he
      have := hall e he hbd
      rw [getD_in' (by omega) false true, hS.at_ _ (by omega), getD_in' (by omega) true false]
      exact this
    · rintro ⟨hu, x, hx, hall⟩
      refine ⟨hu, x, hx, fun e he hbd => ?_⟩
      have hlt := hbk i x (by rw [hhead i hi]; exact hx) e he
      have := hall e he hbd
      rw [getD_in' (by omega) false true, hS.at_ _ (by omega), getD_in' (by omega) true false] at this
      exact this
  -- something may come up as long as not all is listed
  have hsome : ∀ (listed listed' : Array Bool), Same l.length listed listed' → ∀ i, i ≤ l.length → listed.getD i true = false → Region.ready md (l ++ [o]).toArray listed ≠ [] := by
    intro listed listed' hS i
    induction i using Nat.strongRecOn with
    | _ i ih =>
      intro hi hu hnil
      have hx : ∃ x, (l ++ [o])[i]? = some x := ⟨_, List.getElem?_eq_getElem (by simp; omega)⟩
      obtain ⟨x, hx⟩ := hx
      by_cases hall : ∀ e ∈ x.after, listed.getD e.on true = true
      · have : i ∈ Region.ready md (l ++ [o]).toArray listed := mem_ready.2 ⟨hu, x, by simpa using hx, fun e he _ => by
          have hlt := hbk i x hx e he
          have h1 := hS.s1
          rw [getD_in' (by omega) false true]
          exact hall e he⟩
        rw [hnil] at this
        cases this
      · have : ∃ e ∈ x.after, listed.getD e.on true = false := by
          refine Classical.byContradiction fun hn => hall fun e he => ?_
          cases hv : listed.getD e.on true with
          | true => rfl
          | false => exact absurd ⟨e, he, hv⟩ hn
        obtain ⟨e, he, hv⟩ := this
        have hlt := hbk i x hx e he
        exact ih e.on hlt (by omega) hv hnil
  intro f
  induction f with
  | zero =>
    intro listed listed' a w hS inv h
    refine ⟨fun hnil => ?_, fun i hi => ?_⟩
    · exact absurd hnil (hsome _ _ hS l.length (Nat.le_refl _) (inv.tail _ (Nat.le_refl _) (by simp)))
    · obtain ⟨hu, x, hx, _⟩ := mem_ready.1 hi
      have hil : i < l.length + 1 := by
        rcases Nat.lt_or_ge i (l.length + 1) with h' | h'
        · exact h'
        · rw [List.getElem?_toArray, List.getElem?_eq_none (by simpa using h')] at hx; cases hx
      by_cases hin : i < l.length
      · have := (hready _ _ hS i hin).1 hi
        rw [h.1] at this
        cases this
      · obtain rfl : i = l.length := by omega
        have hN : o.wp P a w (Q .normal) Q := h.2
        unfold wpOp
        simp only [List.getElem?_toArray, hlast, wanted_none (hgd _ _ hlast), if_true]
        refine Or.inl (Oper.wp_mono (fun a' w' hq => ?_) hN)
        refine ⟨?_, hq⟩
        have hall : ∀ j, j < l.length → listed.getD j true = true := fun j hj => by
          cases hv : listed.getD j true with
          | true => rfl
          | false => exact absurd hi (tail_waits hs hc (by simp) inv _ j rfl hj hv l.length (Nat.le_refl _))
        refine List.eq_nil_iff_forall_not_mem.2 fun j hj => ?_
        obtain ⟨hu', x', hx', _⟩ := mem_ready.1 hj
        have h1 := hS.s1
        have hjl : j < l.length + 1 := by
          rcases Nat.lt_or_ge j (l.length + 1) with h' | h'
          · exact h'
          · rw [List.getElem?_toArray, List.getElem?_eq_none (by simpa using h')] at hx'; cases hx'
        by_cases hjn : l.length = j
        · subst hjn
          simp [Array.getD, h1] at hu'
        · have := hall j (by omega)
          rw [getD_set_ne true hjn] at hu'
          rw [this] at hu'
          cases hu'
  | succ f ih =>
    intro listed listed' a w hS inv h
    refine ⟨fun hnil => ?_, fun i hi => ?_⟩
    · exact absurd hnil (hsome _ _ hS l.length (Nat.le_refl _) (inv.tail _ (Nat.le_refl _) (by simp)))
    · obtain ⟨hu, x, hx, _⟩ := mem_ready.1 hi
      have hil : i < l.length + 1 := by
        rcases Nat.lt_or_ge i (l.length + 1) with h' | h'
        · exact h'
        · rw [List.getElem?_toArray, List.getElem?_eq_none (by simpa using h')] at hx; cases hx
      by_cases hin : i < l.length
      · have hi' := (hready _ _ hS i hin).1 hi
        have h2 := h.2 i hi'
        have hxl : l[i]? = some x := by rw [← hhead i hin]; simpa using hx
        unfold wpOp at h2 ⊢
        simp only [List.getElem?_toArray, hhead i hin, hxl, wanted_none (hgd i x (by rw [hhead i hin]; exact hxl)), if_true] at h2 ⊢
        rcases h2 with h2 | ⟨h2, h3⟩
        · exact Or.inl (wp_swap (fun a' w' h4 => ih _ _ a' w' (hS.set hin) (inv.set hi hin) h4) h2)
        · exact Or.inr ⟨h2, lets_swap h3⟩
      · obtain rfl : i = l.length := by omega
        have hall : ∀ j, j < l.length → listed.getD j true = true := fun j hj => by
          cases hv : listed.getD j true with
          | true => rfl
          | false => exact absurd hi (tail_waits hs hc (by simp) inv _ j rfl hj hv l.length (Nat.le_refl _))
        have hnil' : Region.ready md l.toArray listed' = [] := by
          refine List.eq_nil_iff_forall_not_mem.2 fun j hj => ?_
          obtain ⟨hu', x', hx', _⟩ := mem_ready.1 hj
          have hjl : j < l.length := by
            rcases Nat.lt_or_ge j l.length with h' | h'
            · exact h'
            · rw [List.getElem?_toArray, List.getElem?_eq_none (by simpa using h')] at hx'; cases hx'
          rw [hS.at_ j hjl, hall j hjl] at hu'
          cases hu'
        have hN : o.wp P a w (Q .normal) Q := h.1 hnil'
        have h1 := hS.s1
        unfold wpOp
        simp only [List.getElem?_toArray, hlast, wanted_none (hgd _ _ hlast), if_true]
        refine Or.inl (Oper.wp_mono (fun a' w' hq => ⟨fun _ => hq, fun j hj => ?_⟩) hN)
        obtain ⟨hu', x', hx', _⟩ := mem_ready.1 hj
        have hjl : j < l.length + 1 := by
          rcases Nat.lt_or_ge j (l.length + 1) with h' | h'
          · exact h'
          · rw [List.getElem?_toArray, List.getElem?_eq_none (by simpa using h')] at hx'; cases hx'
        by_cases hjn : l.length = j
        · subst hjn
          simp [Array.getD, h1] at hu'
        · have := hall j (by omega)
          rw [getD_set_ne true hjn] at hu'
          rw [this] at hu'
          cases hu'
/-- the first n operations, in whatever order, S held; then the last one -/
theorem wp_region_split {id : Nat} {Q : Exit → Act → World → Prop} {a : Act} {w : World} {L : List Oper} (n : Nat) (S : World → Prop) {o : Oper} (hm : P.follows .mixedOrders = true) (hn : L.drop n = [o]) (hB : splitB .any (L.take n) o = true) (hS : S w.drew)
    (h : S w.drew → wpAnyH P .any (L.take n).toArray (Ahead Q (fun a w => o.wp P a w (Q .normal) Q)) S n (Array.replicate n false) a w.drew) : (Code.region id L.toArray true).wp P Q a w := by
  have hlen : L.length = n + 1 := by
    have := congrArg List.length hn
    simp at this
    omega
  have hL : L = L.take n ++ [o] := by rw [← hn, List.take_append_drop]
  have htl : (L.take n).length = n := by simp; omega
  refine wp_region_any hm ?_
  have h1 := wpAny_of_held _ _ _ _ (h hS)
  have inv0 : HeadInv .any (L.take n ++ [o]).toArray (L.take n).length (Array.replicate (n + 1) false) :=
    ⟨by simp; omega, fun j oj _ hl => (by rw [getD_replicate_false] at hl; cases hl), fun t _ ht => getD_in (by simpa using (show t < n + 1 by simp at ht; omega)) (getD_replicate_false _ _)⟩
  have same0 : Same (L.take n).length (Array.replicate (n + 1) false) (Array.replicate n false) :=
    ⟨by simp; omega, by simp; omega, fun j hj => by
      rw [htl] at hj
      simp [Array.getD, hj, show j < n + 1 by omega]⟩
  have h2 := wpAny_split hB n _ _ a _ same0 inv0 h1
  rw [← hL] at h2
  simp only [List.size_toArray, hlen]
  exact h2
end
open Go.RowKit
/-! ### An append leaves the old cells readable where they lay -/
section
variable {P : Program} {w : World}
theorem run_append_old {t e : TypeId} {z : Value} {size bytes : Nat} (st : SliceTy P t e z size bytes) (ty : TypeId) (B g off cap n : Nat) (xs : List Value) (hown : OwnsAt w B e size (.slice (some ⟨g, off, none⟩) n cap) n xs)
    (src : Value) (m : Nat) (news : List Value) (hsrc : SrcOf w src size m news) (h1 : ∀ u ∈ news, u.oneCell' = true) (h63 : n + m ≤ maxLen) (hbytes : (n + m) * bytes ≤ 140737488355328) (hB : B ≤ w.heap.size) :
    ∃ v' w', (Builtin.append_ #[t, t] ty #[.slice (some ⟨g, off, none⟩) n cap, src]).run P w = .ok v' w' ∧ OwnsAt w' B e size v' (n + m) (xs ++ news) ∧ Keep [g] w w' ∧ (v'.ownBlock = some g ∨ v'.ownBlock = some w.heap.size) ∧
      ∀ (j : Nat) (u : Value), xs[j]? = some u → w'.cell? ⟨g, off + j, none⟩ = some u := by
  have hbase : ∀ (j : Nat) (u : Value), xs[j]? = some u → w.cell? ⟨g, off + j, none⟩ = some u := by
    intro j u hu
    have hn : 0 < n := by
      rcases Nat.eq_zero_or_pos n with h0 | h0
      · subst h0
        have := hown.1
        simp at this
        subst this
        simp at hu
      · exact h0
    obtain ⟨g', off', cap', hv, _, _, _, _, h5⟩ := hown.form hn
    injection hv with e1 _ _
    injection e1 with e1
    injection e1 with e1 e2
    subst e1 e2
    exact h5 j u hu
  by_cases hroom : n + m ≤ cap
  · obtain ⟨w', hr, h2, h3⟩ := run_append_fit st ty B g off cap n xs hown src m news hsrc h1 hroom
    refine ⟨_, w', hr, h2, h3, Or.inl rfl, fun j u hu => ?_⟩
    have hn : 0 < n + m := by
      rcases Nat.eq_zero_or_pos n with h0 | h0
      · subst h0
        have := hown.1
        simp at this
        subst this
        simp at hu
      · omega
    obtain ⟨g', off', cap', hv, _, _, _, _, h5⟩ := h2.form hn
    injection hv with e1 _ _
    injection e1 with e1
    injection e1 with e1 e2
    subst e1 e2
    refine h5 j u ?_
    have hlt : j < xs.length := by
      rcases Nat.lt_or_ge j xs.length with h' | h'
      · exact h'
      · rw [List.getElem?_eq_none h'] at hu; cases hu
    rw [List.getElem?_append_left hlt]
    exact hu
  · obtain ⟨v', w', hr, h2, h3, h4⟩ := run_append_off st ty B _ n xs hown src m news hsrc h1 h63 hbytes hB
    have h5 : Keep [] w w' := by
      obtain ⟨i, hi, hz0, hz1, hz2⟩ := info_parts st.info
      obtain ⟨a, c, rfl, hl, hc⟩ := hsrc
      have pos := st.pos
      subst hz1
      subst hz2
      rcases a with _ | ad
      · have hnn : news = [] := by
          refine Classical.byContradiction fun hne => ?_
          obtain ⟨_, h, _⟩ := hc hne
          cases h
        subst hnn
        have hm : m = 0 := by
          rcases Nat.eq_zero_or_pos m with h | h
          · exact h
          · have := Nat.mul_pos h pos
            simp at hl
            omega
        subst hm
        rcases hown.2 with ⟨h0, _⟩ | ⟨g', off', cap', cur, hv, hbg, hg, hnc, hcm, hcs, htake⟩
        · cases h0
        · injection hv with e1 e2 e3
          omega
      · have hcells : ∀ (j : Nat) (u : Value), news[j]? = some u → w.cell? (ad.add j) = some u := by
          intro j u hu
          obtain ⟨ad', h, hc'⟩ := hc (by rintro rfl; simp at hu)
          injection h with h
          subst h
          exact hc' j u hu
        have hr2 := run_append_grow (P := P) w t ty e i z st.und hi hz0 ⟨g, off, none⟩ n cap xs hown.1 (fun j u hu => by rw [add_none]; exact hbase j u hu) ad m c news hl hcells (by omega) (by simp only [maxLen] at h63; omega) (growslice_fits (by omega) hbytes)
        rw [hr2] at hr
        injection hr with _ e2
        subst e2
        exact Keep.of_grown (row := none) ⟨rfl, rfl, rfl, by simp, fun k hk _ => Below.heap_alloc w.drew _ k hk⟩ (by simp)
    refine ⟨v', w', hr, h2, h3, h4, fun j u hu => ?_⟩
    have h6 := hbase j u hu
    exact (h5.cell (World.block_lt_of_cell? _ _ h6) (by simp)).trans h6
theorem step_append_old {ops : Array Oper} {o : Oper} {a : Act} {K : Act → World → Prop} {Q : Exit → Act → World → Prop} {E : Prop} (hgd : o.guard = none) (s x : Operand) {t e : TypeId}
    (ho : o.op = .call { callee := .builtin .append, args := #[s, x], argTypes := #[t, t] }) {z : Value} {size bytes : Nat} (st : SliceTy P t e z size bytes) (B g off cap : Nat)
    (n : Nat) (xs : List Value) (hs : a.eval s = .slice (some ⟨g, off, none⟩) n cap) (hown : OwnsAt w B e size (.slice (some ⟨g, off, none⟩) n cap) n xs)
    (src : Value) (m : Nat) (news : List Value) (hx : a.eval x = src) (hsrc : SrcOf w src size m news) (h1 : ∀ u ∈ news, u.oneCell' = true) (h63 : n + m ≤ maxLen) (hbytes : (n + m) * bytes ≤ 140737488355328) (hB : B ≤ w.heap.size)
    (h : ∀ v' w', OwnsAt w' B e size v' (n + m) (xs ++ news) → Keep [g] w w' → (v'.ownBlock = some g ∨ v'.ownBlock = some w.heap.size) → (∀ (j : Nat) (u : Value), xs[j]? = some u → w'.cell? ⟨g, off + j, none⟩ = some u) → K (a.put o.dst v') w') :
    if Region.wanted o (yielded ops a.tmps) = true then Oper.wp P o a w K Q else E := by
  have hw : Region.wanted o (yielded ops a.tmps) = true := by simp [Region.wanted, hgd]
  rw [if_pos hw]
  obtain ⟨v', w', hr, h2, h3, h4, h5⟩ := run_append_old (w := w) st o.type B g off cap n xs hown src m news hsrc h1 h63 hbytes hB
  unfold Oper.wp execOp
  simp only [ho, resolve, invoke, builtin, Sem.run_bind, Sem.run_pure, Result.andThen_ok, List.map_toArray, List.map_cons, List.map_nil, hs, hx, hr]
  exact h v' w' h2 h3 h4 h5
end
end Go.Proofs.YtbdkmfcgnolihaaGreatDoor
