/- LinkOrder: what it says, plain. -/
import Derived.Test.YtacifjjhadjhfaaLinkX
namespace Go.Proofs.Ytacifjjhadjhfaa
open Go.RowKit
/-- what runs out is the next ones, one behind the other; what is left lies behind a hole -/
theorem runK_plain : ∀ (f : Nat) (u : Int) (ks : List LD), (ks.map LD.seq).Nodup → (∀ s ∈ ks, u < s.seq) →
    (runK f u ks).1 = u + ((runK f u ks).2.2.length : Int) ∧
    (∀ (j : Nat) (s : LD), (runK f u ks).2.2[j]? = some s → s.seq = u + 1 + j ∧ s ∈ ks) ∧
    (∀ s ∈ (runK f u ks).2.1, s ∈ ks ∧ (runK f u ks).1 < s.seq) ∧
    (∀ s ∈ ks, (runK f u ks).1 < s.seq → s ∈ (runK f u ks).2.1) ∧
    (∀ k : Int, u < k → k ≤ (runK f u ks).1 → ∃ s ∈ ks, s.seq = k) ∧
    (ks.length < f → ∀ s ∈ (runK f u ks).2.1, s.seq ≠ (runK f u ks).1 + 1) ∧
    (runK f u ks).2.1.length ≤ ks.length ∧ ((runK f u ks).2.1.map LD.seq).Nodup
  | 0, u, ks, hn, hu => by
    refine ⟨by simp [runK], by simp [runK], fun s hs => ⟨hs, hu s hs⟩, fun s hs _ => hs, fun k h1 h2 => ?_, fun h => by omega, Nat.le_refl _, hn⟩
    simp only [runK] at h2
    omega
  | f + 1, u, ks, hn, hu => by
    cases hf : ks.find? (fun s => s.seq == u + 1) with
    | none =>
      have hno := List.find?_eq_none.1 hf
      have hr : runK (f + 1) u ks = (u, ks, []) := by unfold runK; rw [hf]
      rw [hr]
      refine ⟨by simp, by simp, fun s hs => ⟨hs, hu s hs⟩, fun s hs _ => hs, fun k h1 h2 => by simp only at h2; omega, fun _ s hs => ?_, Nat.le_refl _, hn⟩
      have := hno s hs
      simpa using this
    | some s0 =>
      have hs0 := List.mem_of_find?_eq_some hf
      have hs1 : s0.seq = u + 1 := by simpa using List.find?_some hf
      have hr : runK (f + 1) u ks = ((runK f (u + 1) (ks.filter fun s => s.seq != u + 1)).1, (runK f (u + 1) (ks.filter fun s => s.seq != u + 1)).2.1, s0 :: (runK f (u + 1) (ks.filter fun s => s.seq != u + 1)).2.2) := by
        conv => lhs; unfold runK
        rw [hf]
      have hperm := filter_perm (k := u + 1) ks s0 hn hs0 hs1
      obtain ⟨ks2, hks2⟩ : ∃ l, l = ks.filter fun s => s.seq != u + 1 := ⟨_, rfl⟩
      rw [hr]
      rw [← hks2] at hperm ⊢
      have hmem : ∀ s, s ∈ ks2 ↔ s ∈ ks ∧ s.seq ≠ u + 1 := fun s => by rw [hks2, List.mem_filter]; simp
      have hn2 : (ks2.map LD.seq).Nodup := by rw [hks2]; exact hn.sublist (List.filter_sublist.map _)
      obtain ⟨i1, i2, i3, i4, i5, i6, i7, i8⟩ := runK_plain f (u + 1) ks2 hn2 (fun s hs => by have := (hmem s).1 hs; have := hu s this.1; omega)
      have hlen : ks.length = ks2.length + 1 := by rw [hperm.length_eq]; rfl
      obtain ⟨r, hr'⟩ : ∃ r, r = runK f (u + 1) ks2 := ⟨_, rfl⟩
      rw [← hr'] at i1 i2 i3 i4 i5 i6 i7 i8 ⊢
      refine ⟨by simp only [List.length_cons, Int.natCast_add]; omega, fun j s hs => ?_, fun s hs => ⟨((hmem s).1 (i3 s hs).1).1, (i3 s hs).2⟩, fun s hs h1 => ?_, fun k h1 h2 => ?_, fun h => i6 (by omega), (show r.2.1.length ≤ ks.length by omega), i8⟩
      · cases j with
        | zero =>
          have : s0 = s := by simpa using hs
          subst this
          exact ⟨by simp [hs1], hs0⟩
        | succ j =>
          have := i2 j s (by simpa using hs)
          exact ⟨by rw [this.1]; omega, ((hmem s).1 this.2).1⟩
      · exact i4 s ((hmem s).2 ⟨hs, by omega⟩) h1
      · by_cases hk : k = u + 1
        · exact ⟨s0, hs0, by omega⟩
        · obtain ⟨s, hs, hsk⟩ := i5 k (by omega) h2
          exact ⟨s, ((hmem s).1 hs).1, hsk⟩
/-- which numbers came in -/
def seenB (u : Int) (ks : List LD) (k : Int) : Bool := decide (1 ≤ k ∧ k ≤ u) || ks.any fun s => s.seq == k
/-- where LinkOrder stands -/
structure OrdL (q : LK) (n : Int) : Prop where
  u0 : 0 ≤ q.upto
  un : q.upto ≤ n
  op : q.open_ = []
  hs : ∀ s ∈ q.kept, q.upto + 1 < s.seq ∧ s.seq ≤ n ∧ s.bs = [UInt8.ofNat s.seq.toNat]
  nd : (q.kept.map LD.seq).Nodup
theorem seen_iff {u : Int} {ks : List LD} {k : Int} : seenB u ks k = true ↔ (1 ≤ k ∧ k ≤ u) ∨ ∃ s ∈ ks, s.seq = k := by
  unfold seenB
  simp
/-- one more frame -/
theorem OrdL.step {q : LK} {n k : Int} (h : OrdL q n) (hn : n ≤ 8) (hk : 1 ≤ k ∧ k ≤ n) (bv : Value) :
    (inR (ackd q 0) k [UInt8.ofNat k.toNat] bv).1 = q.upto + ((inR (ackd q 0) k [UInt8.ofNat k.toNat] bv).2.2.length : Int) ∧
    (∀ (j : Nat) (s : LD), (inR (ackd q 0) k [UInt8.ofNat k.toNat] bv).2.2[j]? = some s → s.bs = [UInt8.ofNat (q.upto + 1 + (j : Int)).toNat] ∧ (seenB q.upto q.kept (q.upto + 1 + (j : Int)) || (q.upto + 1 + (j : Int)) == k) = true) ∧
    (∀ o, OrdL { ackd q 0 with upto := (inR (ackd q 0) k [UInt8.ofNat k.toNat] bv).1, kept := (inR (ackd q 0) k [UInt8.ofNat k.toNat] bv).2.1, owed := o } n) ∧
    (∀ j : Int, seenB (inR (ackd q 0) k [UInt8.ofNat k.toNat] bv).1 (inR (ackd q 0) k [UInt8.ofNat k.toNat] bv).2.1 j = (seenB q.upto q.kept j || j == k)) ∧
    (inR (ackd q 0) k [UInt8.ofNat k.toNat] bv).2.1.length ≤ q.kept.length + 1 := by
  have e1 : (ackd q 0).kept = q.kept := rfl
  have e2 : (ackd q 0).upto = q.upto := rfl
  have e3 : (ackd q 0).open_ = [] := by simp [ackd, h.op, keepL]
  by_cases ht : gotTake (ackd q 0) k = true
  · have hr : inR (ackd q 0) k [UInt8.ofNat k.toNat] bv = runK (q.kept.length + 2) q.upto (q.kept ++ [⟨k, 0, 0, [UInt8.ofNat k.toNat], bv⟩]) := by
      unfold inR
      rw [if_pos ⟨by omega, ht⟩, e1, e2]
    have ht' : (∀ s ∈ q.kept, s.seq ≠ k) ∧ q.upto < k := by
      unfold gotTake at ht
      rw [e1, e2] at ht
      simp at ht
      exact ⟨ht.1.1, ht.1.2⟩
    obtain ⟨ks, hks⟩ : ∃ l, l = q.kept ++ [(⟨k, 0, 0, [UInt8.ofNat k.toNat], bv⟩ : LD)] := ⟨_, rfl⟩
    have hmem : ∀ s, s ∈ ks ↔ s ∈ q.kept ∨ s = ⟨k, 0, 0, [UInt8.ofNat k.toNat], bv⟩ := fun s => by rw [hks]; simp
    have hb : ∀ s ∈ ks, q.upto < s.seq ∧ s.seq ≤ n ∧ s.bs = [UInt8.ofNat s.seq.toNat] := fun s hs => by
      rcases (hmem s).1 hs with h1 | rfl
      · have := h.hs s h1
        exact ⟨by omega, this.2⟩
      · exact ⟨ht'.2, hk.2, rfl⟩
    have hnd : (ks.map LD.seq).Nodup := by
      rw [hks, List.map_append, List.nodup_append]
      refine ⟨h.nd, by simp, fun a ha b hb => ?_⟩
      obtain ⟨s, hs, rfl⟩ := List.mem_map.1 ha
      have : b = k := by simpa using hb
      subst this
      exact ht'.1 s hs
    rw [hr, ← hks]
    obtain ⟨i1, i2, i3, i4, i5, i6, i7, i8⟩ := runK_plain (q.kept.length + 2) q.upto ks hnd (fun s hs => (hb s hs).1)
    have hl : ks.length = q.kept.length + 1 := by rw [hks]; simp
    obtain ⟨r, hr'⟩ : ∃ r, r = runK (q.kept.length + 2) q.upto ks := ⟨_, rfl⟩
    rw [← hr'] at i1 i2 i3 i4 i5 i6 i7 i8 ⊢
    have hsk : ∀ j : Int, (∃ s ∈ ks, s.seq = j) ↔ (∃ s ∈ q.kept, s.seq = j) ∨ j = k := fun j => by
      constructor
      · rintro ⟨s, hs, rfl⟩
        rcases (hmem s).1 hs with h1 | rfl
        · exact Or.inl ⟨s, h1, rfl⟩
        · exact Or.inr rfl
      · rintro (⟨s, hs, rfl⟩ | rfl)
        · exact ⟨s, (hmem s).2 (Or.inl hs), rfl⟩
        · exact ⟨_, (hmem _).2 (Or.inr rfl), rfl⟩
    refine ⟨i1, fun j s hs => ?_, fun o => ⟨?_, ?_, e3, fun s hs => ?_, i8⟩, fun j => ?_, by omega⟩
    · have h1 := i2 j s hs
      have h2 := hb s h1.2
      refine ⟨by rw [h2.2.2, h1.1], ?_⟩
      rw [Bool.or_eq_true, seen_iff]
      rcases (hsk s.seq).1 ⟨s, h1.2, rfl⟩ with h3 | h3
      · rw [h1.1] at h3
        exact Or.inl (Or.inr h3)
      · rw [h1.1] at h3
        exact Or.inr (by simpa using h3)
    · have := h.u0; simp only; omega
    · have := h.un
      simp only
      by_cases h0 : r.2.2.length = 0
      · omega
      · have hj := List.getElem?_eq_getElem (l := r.2.2) (i := r.2.2.length - 1) (by omega)
        have h1 := i2 _ _ hj
        have h2 := hb _ h1.2
        omega
    · have h1 := i3 s hs
      have h2 := hb s h1.1
      have h3 := i6 (by omega) s hs
      exact ⟨by simp only; omega, h2.2⟩
    · apply Bool.eq_iff_iff.2
      rw [Bool.or_eq_true, seen_iff, seen_iff]
      have hu := h.u0
      constructor
      · rintro (⟨h1, h2⟩ | ⟨s, hs, rfl⟩)
        · by_cases h3 : j ≤ q.upto
          · exact Or.inl (Or.inl ⟨h1, h3⟩)
          · rcases (hsk j).1 (i5 j (by omega) h2) with h4 | h4
            · exact Or.inl (Or.inr h4)
            · exact Or.inr (by simpa using h4)
        · rcases (hsk s.seq).1 ⟨s, (i3 s hs).1, rfl⟩ with h4 | h4
          · exact Or.inl (Or.inr h4)
          · exact Or.inr (by simpa using h4)
      · intro hh
        have key : (∃ s ∈ ks, s.seq = j) → (1 ≤ j ∧ j ≤ r.1) ∨ ∃ s ∈ r.2.1, s.seq = j := by
          rintro ⟨s, hs, rfl⟩
          by_cases h5 : s.seq ≤ r.1
          · have := hb s hs
            exact Or.inl ⟨by omega, h5⟩
          · exact Or.inr ⟨s, i4 s hs (by omega), rfl⟩
        rcases hh with (⟨h1, h2⟩ | h1) | h1
        · exact Or.inl ⟨h1, by omega⟩
        · exact key ((hsk j).2 (Or.inl h1))
        · exact key ((hsk j).2 (Or.inr (by simpa using h1)))
  · have hr : inR (ackd q 0) k [UInt8.ofNat k.toNat] bv = (q.upto, q.kept, []) := by
      unfold inR
      rw [if_neg (fun h => ht h.2)]
      rfl
    rw [hr]
    refine ⟨by simp, by simp, fun o => ⟨h.u0, h.un, e3, h.hs, h.nd⟩, fun j => ?_, by simp⟩
    have hseen : seenB q.upto q.kept k = true := by
      rw [seen_iff]
      unfold gotTake at ht
      rw [e1, e2] at ht
      have hu := h.u0
      simp at ht
      by_cases h1 : ∃ s ∈ q.kept, s.seq = k
      · exact Or.inr h1
      · refine Or.inl ⟨hk.1, ?_⟩
        by_cases h2 : k ≤ q.upto
        · exact h2
        · have := ht (fun s hs he => h1 ⟨s, hs, he⟩) (by omega)
          omega
    by_cases hjk : j = k
    · subst hjk
      simp [hseen]
    · have : (j == k) = false := by simpa using hjk
      simp [this]
theorem OrdL.next {q : LK} {n : Int} (h : OrdL q n) : seenB q.upto q.kept (q.upto + 1) = false := by
  rw [Bool.eq_false_iff]
  intro hc
  rcases seen_iff.1 hc with h1 | ⟨s, hs, h1⟩
  · omega
  · have := (h.hs s hs).1
    omega
end Go.Proofs.Ytacifjjhadjhfaa
