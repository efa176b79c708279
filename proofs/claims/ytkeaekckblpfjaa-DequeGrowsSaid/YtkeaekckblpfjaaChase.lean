/- Deques, the plain law: what holds whoever steps when, and that nothing is lost or doubled. No program in sight. -/
import Derived.Test.YtkeaekckblpfjaaDequeRow
namespace Go.Proofs.Ytkeaekckblpfjaa
open Go.RowKit

/-- what the owner's call says: T the top, B the bottom, C the row that stands there -/
def OwnerOk (T B : Int) (ring C : List Int) : Option DCall → Prop
  | none => B = T + C.length
  | some c =>
    (c.kind = 1 ∧ B = T + C.length ∧ 0 ≤ c.step ∧ c.step ≤ 3 ∧ (1 ≤ c.step → c.b = B) ∧ (2 ≤ c.step → C.length < ring.length) ∧ (3 ≤ c.step → ringGet ring B = c.item)) ∨
    (c.kind = 2 ∧ ((c.step = 0 ∧ B = T + C.length) ∨
      (c.step = 1 ∧ c.b = B ∧ B + 1 = T + C.length) ∨
      (c.step = 2 ∧ c.b = B ∧ B + 1 = T + C.length ∧ c.t ≤ T ∧ c.t ≤ B ∧ (c.t < B → T ≤ B)) ∨
      (c.step = 3 ∧ c.b = B ∧ c.t = B ∧ B + 1 = T + C.length ∧ B ≤ T ∧ (T = B → C = [c.v])) ∨
      (c.step = 4 ∧ c.b = B ∧ c.t = B ∧ T = B + 1 ∧ C = [])))
/-- the owner pops and will take the last one without asking -/
def Taking (o : Option DCall) : Prop := ∃ p, o = some p ∧ p.kind = 2 ∧ p.step = 2 ∧ p.t < p.b
/-- what a thief's call says -/
structure ThiefOk (T B : Int) (C : List Int) (o : Option DCall) (c : DCall) : Prop where
  kind : c.kind = 3
  s0 : 0 ≤ c.step
  s3 : c.step ≤ 3
  t1 : 1 ≤ c.step → c.t ≤ T
  t2 : 2 ≤ c.step → c.t = T → C ≠ [] ∧ (Taking o → T < B)
  t3 : 3 ≤ c.step → c.t = T → C.head? = some c.v
def ow (q : DQ) : Option DCall := q.calls.getD 0 none
/-- what the owner has in hand -/
def held : Option DCall → List Int
  | none => []
  | some c => if c.kind = 1 then [c.item] else if c.kind = 2 ∧ c.step = 4 ∧ c.won = true then [c.v] else []
structure Inv (q : DQ) (C : List Int) : Prop where
  len : q.calls.length = 16
  holds : Holds q.ring q.top C
  owner : OwnerOk q.top q.bottom q.ring C (ow q)
  thieves : ∀ (i : Nat) (c : DCall), 0 < i → q.calls[i]? = some (some c) → ThiefOk q.top q.bottom C (ow q) c
def out (a v : Int) : List Int := if a = 2 then [v] else []

theorem Inv.new : Inv dqNew [] := by
  refine ⟨rfl, ⟨by simpa [dqNew, ringNew] using ringSize_p2 4, by simp, fun k x hk => by simp at hk⟩, rfl, fun i c hi hc => ?_⟩
  have h : (List.replicate 16 (none : Option DCall))[i]? = some (some c) := hc
  rw [List.getElem?_replicate] at h
  split at h <;> cases h

theorem ow_of {q : DQ} {o : Option DCall} (h : q.calls[0]? = some o) : ow q = o := by unfold ow; rw [List.getD_eq_getElem?_getD, h]; rfl
theorem not_taking {o : Option DCall} (h : ∀ p, o = some p → ¬ (p.kind = 2 ∧ p.step = 2 ∧ p.t < p.b)) : ¬ Taking o := fun ⟨p, h1, h2⟩ => h p h1 h2

/-! ### Begin -/
theorem dqBegin_ok {q q' : DQ} {who kind item : Int} (h : dqBegin q who kind item = (q', 0)) :
    ∃ n : Nat, who = n ∧ n < 16 ∧ q.calls.getD n none = none ∧ q' = ⟨q.top, q.bottom, q.ring, q.calls.set n (some (newCall kind item))⟩ ∧ (n = 0 → kind = 1 ∨ kind = 2) ∧ (0 < n → kind = 3) := by
  unfold dqBegin at h
  split at h
  · injection h with _ h; cases h
  · rename_i hm
    split at h
    · injection h with _ h; cases h
    · rename_i hb
      injection h with h _
      have hm' : mayBegin who kind = true := by simpa using hm
      unfold mayBegin at hm'
      rw [Bool.and_eq_true] at hm'
      obtain ⟨h1, h2⟩ := hm'
      have h1' : 0 ≤ who ∧ who < 16 := by unfold isB at h1; simpa using h1
      obtain ⟨n, rfl⟩ := Int.eq_ofNat_of_zero_le h1'.1
      refine ⟨n, rfl, by omega, ?_, by rw [← h]; simp, ?_, ?_⟩
      · unfold busyB at hb
        rw [h1] at hb
        simpa using hb
      · rintro rfl
        rw [if_pos (show ((0 : Nat) : Int) = 0 from rfl)] at h2
        simpa using h2
      · intro h0
        rw [if_neg (by omega)] at h2
        simpa using h2
theorem Inv.begin {q q' : DQ} {C : List Int} {who kind item : Int} (h : Inv q C) (hb : dqBegin q who kind item = (q', 0)) :
    Inv q' C ∧ held (ow q') = (if kind = 1 then [item] else []) ++ held (ow q) ∧ (kind = 1 → ow q = none) := by
  obtain ⟨n, rfl, hn, hnone, rfl, hk0, hk3⟩ := dqBegin_ok hb
  have hl := h.len
  by_cases h0 : n = 0
  · subst h0
    have ho : ow q = none := hnone
    have ho' : ow ⟨q.top, q.bottom, q.ring, q.calls.set 0 (some (newCall kind item))⟩ = some (newCall kind item) := by
      apply ow_of
      exact List.getElem?_set_self (by omega)
    have hB : q.bottom = q.top + C.length := by have := h.owner; rw [ho] at this; exact this
    refine ⟨⟨by simpa using hl, h.holds, ?_, ?_⟩, ?_, fun _ => ho⟩
    · rw [ho']
      rcases hk0 rfl with rfl | rfl
      · exact Or.inl ⟨rfl, hB, by simp [newCall], by simp [newCall], by simp [newCall], by simp [newCall], by simp [newCall]⟩
      · exact Or.inr ⟨rfl, Or.inl ⟨rfl, hB⟩⟩
    · intro i c hi hc
      rw [ho']
      have hc' : q.calls[i]? = some (some c) := by
        have := hc
        simp only [List.getElem?_set_ne (show 0 ≠ i by omega)] at this
        exact this
      have ht := h.thieves i c hi hc'
      refine ⟨ht.kind, ht.s0, ht.s3, ht.t1, fun h1 h2 => ⟨(ht.t2 h1 h2).1, fun htk => ?_⟩, ht.t3⟩
      exact absurd htk (not_taking (by rintro p hp ⟨_, h5, _⟩; cases hp; simp [newCall] at h5))
    · rw [ho', ho]
      rcases hk0 rfl with rfl | rfl
      · simp [held, newCall]
      · simp [held, newCall]
  · have h3 := hk3 (by omega)
    subst h3
    have ho' : ow ⟨q.top, q.bottom, q.ring, q.calls.set n (some (newCall 3 item))⟩ = ow q := by
      unfold ow
      simp only [List.getD_eq_getElem?_getD, List.getElem?_set_ne h0]
    refine ⟨⟨by simpa using hl, h.holds, ?_, ?_⟩, ?_, fun h => by cases h⟩
    · rw [ho']; exact h.owner
    · intro i c hi hc
      rw [ho']
      by_cases hin : n = i
      · subst hin
        have hc' : (q.calls.set n (some (newCall 3 item)))[n]? = some (some c) := hc
        rw [List.getElem?_set_self (by omega)] at hc'
        cases hc'
        exact ⟨rfl, by simp [newCall], by simp [newCall], by simp [newCall], by simp [newCall], by simp [newCall]⟩
      · have hc' : (q.calls.set n (some (newCall 3 item)))[i]? = some (some c) := hc
        rw [List.getElem?_set_ne hin] at hc'
        exact h.thieves i c hi hc'
    · rw [ho', if_neg (by decide)]; rfl

/-! ### Step -/
theorem Inv.owner_step {q : DQ} {C C' : List Int} {c : DCall} {r : SR} (h : Inv q C) (hc : q.calls[0]? = some (some c)) (hr : stepKind c.kind q.top q.bottom q.ring { c with step := c.step + 1 } = r)
    (holds : Holds r.ring r.top C') (owner : OwnerOk r.top r.bottom r.ring C' (if r.a = 0 then some r.c else none))
    (th : ∀ p, ThiefOk q.top q.bottom C (some c) p → ThiefOk r.top r.bottom C' (if r.a = 0 then some r.c else none) p) :
    Inv (dqStep q 0).1 C' ∧ (dqStep q 0).2 = (r.a, r.v) ∧ ow (dqStep q 0).1 = if r.a = 0 then some r.c else none := by
  have hl := h.len
  have e := dqStep_busy (n := 0) (by decide) hc hr
  rw [show ((0 : Nat) : Int) = 0 from rfl] at e
  rw [e]
  have ho : ow q = some c := ow_of hc
  have ho' : ow ⟨r.top, r.bottom, r.ring, q.calls.set 0 (if r.a = 0 then some r.c else none)⟩ = if r.a = 0 then some r.c else none := by
    apply ow_of
    exact List.getElem?_set_self (by omega)
  refine ⟨⟨by simpa using hl, holds, by rw [ho']; exact owner, fun i p hi hp => ?_⟩, rfl, ho'⟩
  rw [ho']
  apply th
  rw [← ho]
  have hp' : (q.calls.set 0 (if r.a = 0 then some r.c else none))[i]? = some (some p) := hp
  rw [List.getElem?_set_ne (show 0 ≠ i by omega)] at hp'
  exact h.thieves i p hi hp'
theorem Inv.thief_step {q : DQ} {C C' : List Int} {n : Nat} {c : DCall} {r : SR} (h : Inv q C) (h0 : 0 < n) (hn : n < 16) (hc : q.calls[n]? = some (some c)) (hr : stepKind c.kind q.top q.bottom q.ring { c with step := c.step + 1 } = r)
    (holds : Holds r.ring r.top C') (owner : OwnerOk r.top r.bottom r.ring C' (ow q))
    (th : ∀ p, ThiefOk q.top q.bottom C (ow q) p → ThiefOk r.top r.bottom C' (ow q) p) (own : r.a = 0 → ThiefOk r.top r.bottom C' (ow q) r.c) :
    Inv (dqStep q n).1 C' ∧ (dqStep q n).2 = (r.a, r.v) ∧ ow (dqStep q n).1 = ow q := by
  have hl := h.len
  rw [dqStep_busy hn hc hr]
  have ho' : ow ⟨r.top, r.bottom, r.ring, q.calls.set n (if r.a = 0 then some r.c else none)⟩ = ow q := by
    unfold ow
    simp only [List.getD_eq_getElem?_getD, List.getElem?_set_ne (show n ≠ 0 by omega)]
  refine ⟨⟨by simpa using hl, holds, by rw [ho']; exact owner, fun i p hi hp => ?_⟩, rfl, ho'⟩
  rw [ho']
  have hp' : (q.calls.set n (if r.a = 0 then some r.c else none))[i]? = some (some p) := hp
  by_cases hin : n = i
  · subst hin
    rw [List.getElem?_set_self (by omega)] at hp'
    split at hp'
    · rename_i ha
      cases hp'
      exact own ha
    · cases hp'
  · rw [List.getElem?_set_ne hin] at hp'
    exact th p (h.thieves i p hi hp')

/-- what a step makes of what there is -/
structure Stepped (q : DQ) (C : List Int) (who : Int) (C' : List Int) : Prop where
  inv : Inv (dqStep q who).1 C'
  perm : (held (ow q) ++ C).Perm (out (dqStep q who).2.1 (dqStep q who).2.2 ++ (held (ow (dqStep q who).1) ++ C'))
  le : C'.length ≤ C.length + 1
  last : ow (dqStep q who).1 = none → (∃ p, ow q = some p ∧ p.kind = 2) → (dqStep q who).2.1 = 2 ∨ C' = []
theorem Stepped.of {q : DQ} {C C' : List Int} {who : Int} {o' : Option DCall} {a v : Int} (h : Inv (dqStep q who).1 C' ∧ (dqStep q who).2 = (a, v) ∧ ow (dqStep q who).1 = o')
    (hp : (held (ow q) ++ C).Perm (out a v ++ (held o' ++ C'))) (hle : C'.length ≤ C.length + 1) (hl : o' = none → (∃ p, ow q = some p ∧ p.kind = 2) → a = 2 ∨ C' = []) : Stepped q C who C' := by
  obtain ⟨h1, h2, h3⟩ := h
  refine ⟨h1, ?_, hle, ?_⟩
  · rw [h2, h3]; exact hp
  · rw [h2, h3]; exact hl
theorem dqStep_free {q : DQ} {n : Nat} (hc : q.calls[n]? = some none) : dqStep q n = (q, 0, 0) := by
  apply dqStep_idle
  unfold busyB
  simp [hc]
theorem Inv.step_push {q : DQ} {C : List Int} {c : DCall} (h : Inv q C) (hC : C.length ≤ 60000) (hc : q.calls[0]? = some (some c)) (hk : c.kind = 1) : ∃ C', Stepped q C 0 C' := by
  obtain ⟨b, t, v, won, kind, item, step⟩ := c
  simp only at hk
  subst hk
  have ho := ow_of hc
  have hown := h.owner
  rw [ho] at hown
  replace hown : q.bottom = q.top + C.length ∧ 0 ≤ step ∧ step ≤ 3 ∧ (1 ≤ step → b = q.bottom) ∧ (2 ≤ step → C.length < q.ring.length) ∧ (3 ≤ step → ringGet q.ring q.bottom = item) := by
    rcases hown with ⟨_, h⟩ | ⟨hk, _⟩
    · exact h
    · cases hk
  obtain ⟨hB, s0, s3, h1, h2, h3⟩ := hown
  have thsame : ∀ (B' : Int) (o' : Option DCall), ¬ Taking o' → ∀ p, ThiefOk q.top q.bottom C (some ⟨b, t, v, won, 1, item, step⟩) p → ThiefOk q.top B' C o' p := by
    intro B' o' hn p hp
    exact ⟨hp.kind, hp.s0, hp.s3, hp.t1, fun a1 a2 => ⟨(hp.t2 a1 a2).1, fun ht => absurd ht hn⟩, hp.t3⟩
  have nt : ∀ d : DCall, d.kind = 1 → ¬ Taking (some d) := fun d hd => not_taking (by rintro p hp ⟨h5, _⟩; cases hp; omega)
  have hcase : step = 0 ∨ step = 1 ∨ step = 2 ∨ step = 3 := by omega
  rcases hcase with rfl | rfl | rfl | rfl
  · refine ⟨C, Stepped.of (h.owner_step hc (r := ⟨q.top, q.bottom, q.ring, ⟨q.bottom, t, v, won, 1, item, 1⟩, 0, 0⟩) rfl h.holds ?_ ?_) ?_ (by omega) (fun h => by cases h)⟩
    · exact Or.inl ⟨rfl, hB, by simp, by simp, fun _ => rfl, by simp, by simp⟩
    · exact thsame _ _ (nt _ rfl)
    · rw [ho]; simp [held, out]
  · have hb : b = q.bottom := h1 (by omega)
    subst hb
    obtain ⟨g1, g2⟩ := h.holds.room hC q.bottom hB
    obtain ⟨ring', hring⟩ : ∃ r, r = (if (q.ring.length : Int) - 1 ≤ q.bottom - q.top then ringGrown q.ring q.top q.bottom else q.ring) := ⟨_, rfl⟩
    rw [← hring] at g1 g2
    refine ⟨C, Stepped.of (h.owner_step hc (r := ⟨q.top, q.bottom, ring', ⟨q.bottom, q.top, v, won, 1, item, 2⟩, 0, 0⟩) (by rw [hring]; rfl) g1 ?_ ?_) ?_ (by omega) (fun h => by cases h)⟩
    · exact Or.inl ⟨rfl, hB, by simp, by simp, fun _ => rfl, fun _ => g2, by simp⟩
    · exact thsame _ _ (nt _ rfl)
    · rw [ho]; simp [held, out]
  · have hb : b = q.bottom := h1 (by omega)
    subst hb
    have g2 := h2 (by omega)
    refine ⟨C, Stepped.of (h.owner_step hc (r := ⟨q.top, q.bottom, ringPut q.ring q.bottom item, ⟨q.bottom, t, v, won, 1, item, 3⟩, 0, 0⟩) rfl (h.holds.put g2 _ _ hB) ?_ ?_) ?_ (by omega) (fun h => by cases h)⟩
    · exact Or.inl ⟨rfl, hB, by simp, by simp, fun _ => rfl, fun _ => by simpa using g2, fun _ => get_put_here _ _ _ h.holds.p2⟩
    · exact thsame _ _ (nt _ rfl)
    · rw [ho]; simp [held, out]
  · have hb : b = q.bottom := h1 (by omega)
    subst hb
    have g2 := h2 (by omega)
    have g3 := h3 (by omega)
    refine ⟨C ++ [item], Stepped.of (h.owner_step hc (r := ⟨q.top, q.bottom + 1, q.ring, ⟨q.bottom, t, v, won, 1, item, 4⟩, 1, 0⟩) rfl (h.holds.snoc g2 _ _ hB g3) ?_ ?_) ?_ (by simp) ?_⟩
    · show q.bottom + 1 = q.top + ((C ++ [item]).length : Nat)
      simp; omega
    · intro p hp
      refine ⟨hp.kind, hp.s0, hp.s3, hp.t1, fun a1 a2 => ⟨by simp, fun ht => absurd ht (not_taking (by rintro p hp; cases hp))⟩, fun a1 a2 => ?_⟩
      have := hp.t3 a1 a2
      cases C with
      | nil => cases this
      | cons x l => exact this
    · rw [ho]; simpa [held, out] using (List.perm_append_comm (l₁ := [item]) (l₂ := C))
    · rintro _ ⟨p, hp, hk⟩
      rw [ho] at hp
      cases hp
      cases hk
theorem Inv.step_pop {q : DQ} {C : List Int} {c : DCall} (h : Inv q C) (hc : q.calls[0]? = some (some c)) (hk : c.kind = 2) : ∃ C', Stepped q C 0 C' := by
  obtain ⟨b, t, v, won, kind, item, step⟩ := c
  simp only at hk
  subst hk
  have ho := ow_of hc
  have hown := h.owner
  rw [ho] at hown
  have nt : ∀ d : DCall, d.step ≠ 2 → ¬ Taking (some d) := fun d hd => not_taking (by rintro p hp ⟨_, h5, _⟩; cases hp; omega)
  have nn : ¬ Taking none := not_taking (by rintro p hp; cases hp)
  have thsame : ∀ (B' : Int) (o' : Option DCall), ¬ Taking o' → ∀ p, ThiefOk q.top q.bottom C (some ⟨b, t, v, won, 2, item, step⟩) p → ThiefOk q.top B' C o' p := by
    intro B' o' hn p hp
    exact ⟨hp.kind, hp.s0, hp.s3, hp.t1, fun a1 a2 => ⟨(hp.t2 a1 a2).1, fun ht => absurd ht hn⟩, hp.t3⟩
  rcases hown with ⟨hk, _⟩ | ⟨_, ⟨hs, hB⟩ | ⟨hs, hb, hB⟩ | ⟨hs, hb, hB, ht1, ht2, ht3⟩ | ⟨hs, hb, ht, hB, hT, hv⟩ | ⟨hs, hb, ht, hT, hv⟩⟩
  · cases hk
  · simp only at hs
    subst hs
    refine ⟨C, Stepped.of (h.owner_step hc (r := ⟨q.top, q.bottom - 1, q.ring, ⟨q.bottom - 1, t, v, won, 2, item, 1⟩, 0, 0⟩) rfl h.holds ?_ ?_) ?_ (by omega) (fun h => by cases h)⟩
    · exact Or.inr ⟨rfl, Or.inr (Or.inl ⟨rfl, rfl, by simp only; omega⟩)⟩
    · exact thsame _ _ (nt _ (by simp))
    · rw [ho]; simp [held, out]
  · simp only at hs hb
    subst hs
    subst hb
    by_cases hlt : q.bottom < q.top
    · have hnil : C = [] := List.eq_nil_of_length_eq_zero (by omega)
      subst hnil
      refine ⟨[], Stepped.of (h.owner_step hc (r := ⟨q.top, q.top, q.ring, ⟨q.bottom, q.top, v, won, 2, item, 2⟩, 3, 0⟩) ?_ h.holds ?_ ?_) ?_ (by simp) (fun _ _ => Or.inr rfl)⟩
      · show (if q.bottom < q.top then (_ : SR) else _) = _
        exact if_pos hlt
      · show q.top = q.top + (([] : List Int).length : Nat)
        simp
      · exact thsame _ _ nn
      · rw [ho]; simp [held, out]
    · refine ⟨C, Stepped.of (h.owner_step hc (r := ⟨q.top, q.bottom, q.ring, ⟨q.bottom, q.top, v, won, 2, item, 2⟩, 0, 0⟩) ?_ h.holds ?_ ?_) ?_ (by omega) (fun h => by cases h)⟩
      · show (if q.bottom < q.top then (_ : SR) else _) = _
        exact if_neg hlt
      · exact Or.inr ⟨rfl, Or.inr (Or.inr (Or.inl ⟨rfl, rfl, hB, by simp, by simp only; omega, fun _ => by simp only; omega⟩))⟩
      · intro p hp
        refine ⟨hp.kind, hp.s0, hp.s3, hp.t1, fun a1 a2 => ⟨(hp.t2 a1 a2).1, ?_⟩, hp.t3⟩
        rintro ⟨p', hp', _, _, hlt'⟩
        cases hp'
        exact hlt'
      · rw [ho]; simp [held, out]
  · simp only at hs hb ht1 ht2 ht3
    subst hs
    subst hb
    by_cases hlt : t < q.bottom
    · have hle := ht3 hlt
      have hne : C ≠ [] := by rintro rfl; simp at hB; omega
      obtain ⟨l, y, rfl⟩ : ∃ l y, C = l ++ [y] := ⟨_, _, (List.dropLast_concat_getLast hne).symm⟩
      have hBl : q.bottom = q.top + l.length := by simp at hB; omega
      have hy : ringGet q.ring q.bottom = y := by rw [hBl]; exact h.holds.last
      refine ⟨l, Stepped.of (h.owner_step hc (r := ⟨q.top, q.bottom, q.ring, ⟨q.bottom, t, y, won, 2, item, 3⟩, 2, y⟩) ?_ h.holds.init ?_ ?_) ?_ (by simp; omega) (fun _ _ => Or.inl rfl)⟩
      · rw [← hy]
        show (if t < q.bottom then (_ : SR) else _) = _
        exact if_pos hlt
      · exact hBl
      · intro p hp
        have htk : Taking (some ⟨q.bottom, t, v, won, 2, item, 2⟩) := ⟨_, rfl, rfl, rfl, hlt⟩
        have hl : 2 ≤ p.step → p.t = q.top → l ≠ [] := fun a1 a2 => by
          have := (hp.t2 a1 a2).2 htk
          rintro rfl
          simp at hBl
          omega
        refine ⟨hp.kind, hp.s0, hp.s3, hp.t1, fun a1 a2 => ⟨hl a1 a2, fun ht => absurd ht nn⟩, fun a1 a2 => ?_⟩
        have h5 := hp.t3 a1 a2
        have h6 := hl (by omega) a2
        cases l with
        | nil => exact absurd rfl h6
        | cons x l => exact h5
      · rw [ho]; simp [held, out]
    · have htb : t = q.bottom := by omega
      subst htb
      obtain ⟨x, hx⟩ : ∃ x, x = ringGet q.ring q.bottom := ⟨_, rfl⟩
      refine ⟨C, Stepped.of (h.owner_step hc (r := ⟨q.top, q.bottom, q.ring, ⟨q.bottom, q.bottom, x, won, 2, item, 3⟩, 0, 0⟩) ?_ h.holds ?_ ?_) ?_ (by omega) (fun h => by cases h)⟩
      · rw [hx]
        show (if q.bottom < q.bottom then (_ : SR) else _) = _
        exact if_neg hlt
      · refine Or.inr ⟨rfl, Or.inr (Or.inr (Or.inr (Or.inl ⟨rfl, rfl, rfl, hB, ht1, fun he => ?_⟩)))⟩
        simp only at he
        have hl1 : C.length = 1 := by omega
        obtain ⟨y, rfl⟩ := List.length_eq_one_iff.1 hl1
        have := h.holds.head
        rw [he] at this
        rw [hx, this]
      · exact thsame _ _ (nt _ (by simp))
      · rw [ho]; simp [held, out]
  · simp only at hs hb ht hv
    subst hs
    subst ht
    subst hb
    by_cases he : q.top = q.bottom
    · have hC := hv he
      subst hC
      refine ⟨[], Stepped.of (h.owner_step hc (r := ⟨q.bottom + 1, q.bottom, q.ring, ⟨q.bottom, q.bottom, v, true, 2, item, 4⟩, 0, 0⟩) ?_ (by rw [← he]; exact h.holds.tail) ?_ ?_) ?_ (by simp) (fun h => by cases h)⟩
      · show (if q.top = q.bottom then (_ : SR) else _) = _
        exact if_pos he
      · exact Or.inr ⟨rfl, Or.inr (Or.inr (Or.inr (Or.inr ⟨rfl, rfl, rfl, rfl, rfl⟩)))⟩
      · intro p hp
        refine ⟨hp.kind, hp.s0, hp.s3, fun a1 => ?_, fun a1 a2 => ?_, fun a1 a2 => ?_⟩
        · have := hp.t1 a1; simp only; omega
        · have := hp.t1 (by omega); simp only at a2; omega
        · have := hp.t1 (by omega); simp only at a2; omega
      · rw [ho]; simp [held, out]
    · have hC : C = [] := List.eq_nil_of_length_eq_zero (by omega)
      subst hC
      refine ⟨[], Stepped.of (h.owner_step hc (r := ⟨q.top, q.bottom, q.ring, ⟨q.bottom, q.bottom, v, false, 2, item, 4⟩, 0, 0⟩) ?_ h.holds ?_ ?_) ?_ (by simp) (fun h => by cases h)⟩
      · show (if q.top = q.bottom then (_ : SR) else _) = _
        exact if_neg he
      · exact Or.inr ⟨rfl, Or.inr (Or.inr (Or.inr (Or.inr ⟨rfl, rfl, rfl, by simp at hB; simp only; omega, rfl⟩)))⟩
      · exact thsame _ _ (nt _ (by simp))
      · rw [ho]; simp [held, out]
  · simp only at hs hb ht hv
    subst hs
    subst ht
    subst hb
    subst hv
    cases won with
    | true =>
      refine ⟨[], Stepped.of (h.owner_step hc (r := ⟨q.top, q.bottom + 1, q.ring, ⟨q.bottom, q.bottom, v, true, 2, item, 5⟩, 2, v⟩) rfl h.holds ?_ ?_) ?_ (by simp) (fun _ _ => Or.inl rfl)⟩
      · show q.bottom + 1 = q.top + (([] : List Int).length : Nat)
        simp [hT]
      · exact thsame _ _ nn
      · rw [ho]; simp [held, out]
    | false =>
      refine ⟨[], Stepped.of (h.owner_step hc (r := ⟨q.top, q.bottom + 1, q.ring, ⟨q.bottom, q.bottom, v, false, 2, item, 5⟩, 3, 0⟩) rfl h.holds ?_ ?_) ?_ (by simp) (fun _ _ => Or.inr rfl)⟩
      · show q.bottom + 1 = q.top + (([] : List Int).length : Nat)
        simp [hT]
      · exact thsame _ _ nn
      · rw [ho]; simp [held, out]
/-- the owner's word when a thief takes the oldest one -/
theorem OwnerOk.stolen {T B : Int} {ring C : List Int} {x : Int} {o : Option DCall} (h : OwnerOk T B ring (x :: C) o) (hT : Taking o → T < B) : OwnerOk (T + 1) B ring C o := by
  cases o with
  | none =>
    have : B = T + ((x :: C).length : Nat) := h
    show B = T + 1 + (C.length : Nat)
    simp at this
    omega
  | some c =>
    rcases h with ⟨hk, hB, s0, s3, h1, h2, h3⟩ | ⟨hk, ⟨hs, hB⟩ | ⟨hs, hb, hB⟩ | ⟨hs, hb, hB, ht1, ht2, ht3⟩ | ⟨hs, hb, ht, hB, hT', hv⟩ | ⟨hs, hb, ht, hT', hv⟩⟩
    · exact Or.inl ⟨hk, by simp at hB; omega, s0, s3, h1, fun a => by have := h2 a; simp at this; omega, h3⟩
    · exact Or.inr ⟨hk, Or.inl ⟨hs, by simp at hB; omega⟩⟩
    · exact Or.inr ⟨hk, Or.inr (Or.inl ⟨hs, hb, by simp at hB; omega⟩)⟩
    · refine Or.inr ⟨hk, Or.inr (Or.inr (Or.inl ⟨hs, hb, by simp at hB; omega, by omega, ht2, fun hlt => ?_⟩))⟩
      have := hT ⟨c, rfl, hk, hs, by omega⟩
      omega
    · exact Or.inr ⟨hk, Or.inr (Or.inr (Or.inr (Or.inl ⟨hs, hb, ht, by simp at hB; omega, by omega, fun he => by simp at hB; omega⟩)))⟩
    · cases hv
theorem Inv.step_steal {q : DQ} {C : List Int} {n : Nat} {c : DCall} (h : Inv q C) (h0 : 0 < n) (hn : n < 16) (hc : q.calls[n]? = some (some c)) : ∃ C', Stepped q C n C' := by
  have hth := h.thieves n c h0 hc
  obtain ⟨b, t, v, won, kind, item, step⟩ := c
  obtain ⟨hk, s0, s3, t1, t2, t3⟩ := hth
  simp only at hk s0 s3 t1 t2 t3
  subst hk
  have last : ∀ {a : Int} {C' : List Int}, ow q = none → (∃ p, ow q = some p ∧ p.kind = 2) → a = 2 ∨ C' = [] := by
    rintro a C' h1 ⟨p, h2, _⟩
    rw [h1] at h2
    cases h2
  have hcase : step = 0 ∨ step = 1 ∨ step = 2 ∨ step = 3 := by omega
  rcases hcase with rfl | rfl | rfl | rfl
  · refine ⟨C, Stepped.of (h.thief_step h0 hn hc (r := ⟨q.top, q.bottom, q.ring, ⟨b, q.top, v, won, 3, item, 1⟩, 0, 0⟩) rfl h.holds h.owner (fun _ hp => hp) (fun _ => ?_)) (by simp [out]) (by omega) last⟩
    exact ⟨rfl, by simp, by simp, by simp, by simp, by simp⟩
  · by_cases hlt : q.bottom - t < 1
    · refine ⟨C, Stepped.of (h.thief_step h0 hn hc (r := ⟨q.top, q.bottom, q.ring, ⟨q.bottom, t, v, won, 3, item, 2⟩, 3, 0⟩) ?_ h.holds h.owner (fun _ hp => hp) (fun ha => by cases ha)) (by simp [out]) (by omega) last⟩
      show (if q.bottom - t < 1 then (_ : SR) else _) = _
      exact if_pos hlt
    · refine ⟨C, Stepped.of (h.thief_step h0 hn hc (r := ⟨q.top, q.bottom, q.ring, ⟨q.bottom, t, v, won, 3, item, 2⟩, 0, 0⟩) ?_ h.holds h.owner (fun _ hp => hp) (fun _ => ?_)) (by simp [out]) (by omega) last⟩
      · show (if q.bottom - t < 1 then (_ : SR) else _) = _
        exact if_neg hlt
      · refine ⟨rfl, by simp, by simp, fun _ => t1 (by omega), fun _ a2 => ?_, by simp⟩
        simp only at a2
        refine ⟨?_, fun _ => by simp only; omega⟩
        rintro rfl
        have hown := h.owner
        cases ho : ow q with
        | none =>
          rw [ho] at hown
          have : q.bottom = q.top + (([] : List Int).length : Nat) := hown
          simp at this
          omega
        | some c =>
          rw [ho] at hown
          rcases hown with ⟨_, hB, _⟩ | ⟨_, ⟨_, hB⟩ | ⟨_, _, hB⟩ | ⟨_, _, hB, _⟩ | ⟨_, _, _, hB, _⟩ | ⟨_, _, _, hB, _⟩⟩
          all_goals first | (simp at hB; omega) | omega
  · refine ⟨C, Stepped.of (h.thief_step h0 hn hc (r := ⟨q.top, q.bottom, q.ring, ⟨b, t, ringGet q.ring t, won, 3, item, 3⟩, 0, 0⟩) rfl h.holds h.owner (fun _ hp => hp) (fun _ => ?_)) (by simp [out]) (by omega) last⟩
    refine ⟨rfl, by simp, by simp, fun _ => t1 (by omega), fun _ a2 => t2 (by omega) a2, fun _ a2 => ?_⟩
    have h5 := (t2 (by omega) a2).1
    cases C with
    | nil => exact absurd rfl h5
    | cons x l =>
      have := h.holds.head
      simp only at a2
      simp only [List.head?_cons]
      rw [a2, this]
  · by_cases he : q.top = t
    · have h5 := t2 (by omega) he.symm
      have h6 := t3 (by omega) he.symm
      cases C with
      | nil => exact absurd rfl h5.1
      | cons x l =>
        simp only [List.head?_cons, Option.some.injEq] at h6
        subst h6
        subst he
        refine ⟨l, Stepped.of (h.thief_step h0 hn hc (r := ⟨q.top + 1, q.bottom, q.ring, ⟨b, q.top, x, won, 3, item, 4⟩, 2, x⟩) ?_ h.holds.tail (h.owner.stolen h5.2) (fun p hp => ?_) (fun ha => by cases ha)) ?_ (by simp; omega) last⟩
        · show (if q.top = q.top then (_ : SR) else _) = _
          exact if_pos rfl
        · refine ⟨hp.kind, hp.s0, hp.s3, fun a1 => ?_, fun a1 a2 => ?_, fun a1 a2 => ?_⟩
          · have := hp.t1 a1; simp only; omega
          · have := hp.t1 (by omega); simp only at a2; omega
          · have := hp.t1 (by omega); simp only at a2; omega
        · show (held (ow q) ++ x :: l).Perm ([x] ++ (held (ow q) ++ l))
          exact List.perm_middle
    · refine ⟨C, Stepped.of (h.thief_step h0 hn hc (r := ⟨q.top, q.bottom, q.ring, ⟨b, t, v, won, 3, item, 4⟩, 4, 0⟩) ?_ h.holds h.owner (fun _ hp => hp) (fun ha => by cases ha)) (by simp [out]) (by omega) last⟩
      show (if q.top = t then (_ : SR) else _) = _
      exact if_neg he
theorem Inv.step {q : DQ} {C : List Int} (h : Inv q C) (hC : C.length ≤ 60000) (who : Int) : ∃ C', Stepped q C who C' := by
  by_cases hw : isB who = true
  · have hw' : 0 ≤ who ∧ who < 16 := by unfold isB at hw; simpa using hw
    obtain ⟨n, rfl⟩ := Int.eq_ofNat_of_zero_le hw'.1
    have hn : n < 16 := by omega
    have hl := h.len
    cases hc : q.calls[n]? with
    | none => rw [List.getElem?_eq_none_iff] at hc; omega
    | some o =>
      cases o with
      | none =>
        refine ⟨C, Stepped.of (a := 0) (v := 0) (o' := ow q) (by rw [dqStep_free hc]; exact ⟨h, rfl, rfl⟩) (by simp [out]) (by omega) ?_⟩
        rintro h1 ⟨p, h2, _⟩
        rw [h1] at h2
        cases h2
      | some c =>
        by_cases h0 : n = 0
        · subst h0
          have hown := h.owner
          rw [ow_of hc] at hown
          rcases hown with ⟨hk, _⟩ | ⟨hk, _⟩
          · exact h.step_push hC hc hk
          · exact h.step_pop hc hk
        · exact h.step_steal (by omega) hn hc
  · have hb : busyB q who = false := by unfold busyB; rw [show isB who = false by simpa using hw]; rfl
    refine ⟨C, Stepped.of (a := 0) (v := 0) (o' := ow q) (by rw [dqStep_idle hb]; exact ⟨h, rfl, rfl⟩) (by simp [out]) (by omega) ?_⟩
    rintro h1 ⟨p, h2, _⟩
    rw [h1] at h2
    cases h2

/-! ### How far the calls are -/
/-- whoever has a call is at step a at most w times -/
theorem Inv.steps_le {q : DQ} {C : List Int} (h : Inv q C) {i : Nat} {c : DCall} (hc : q.calls[i]? = some (some c)) : 0 ≤ c.step ∧ c.step ≤ 4 := by
  by_cases h0 : i = 0
  · subst h0
    have hown := h.owner
    rw [ow_of hc] at hown
    rcases hown with ⟨_, _, s0, s3, _⟩ | ⟨_, ⟨hs, _⟩ | ⟨hs, _⟩ | ⟨hs, _⟩ | ⟨hs, _⟩ | ⟨hs, _⟩⟩ <;> omega
  · have ht := h.thieves i c (by omega) hc
    have := ht.s0
    have := ht.s3
    omega
/-- i has no call, or one at the step k at least -/
def AtLeast (q : DQ) (i : Nat) (k : Int) : Prop := ∀ c, q.calls[i]? = some (some c) → k ≤ c.step
theorem AtLeast.mono {q : DQ} {i : Nat} {k m : Int} (h : AtLeast q i k) (hm : m ≤ k) : AtLeast q i m := fun c hc => by have := h c hc; omega
theorem Inv.atLeast0 {q : DQ} {C : List Int} (h : Inv q C) (i : Nat) : AtLeast q i 0 := fun _ hc => (h.steps_le hc).1
theorem Inv.done {q : DQ} {C : List Int} (h : Inv q C) {i : Nat} (hi : i < 16) (ha : AtLeast q i 5) : q.calls[i]? = some none := by
  have hl := h.len
  cases hc : q.calls[i]? with
  | none => rw [List.getElem?_eq_none_iff] at hc; omega
  | some o =>
    cases o with
    | none => rfl
    | some c =>
      have h1 := ha c hc
      have h2 := h.steps_le hc
      omega
theorem stepKind_step (kind T B : Int) (ring : List Int) (c : DCall) : (stepKind kind T B ring c).c.step = c.step ∧ (stepKind kind T B ring c).c.kind = c.kind := by
  unfold stepKind
  split
  · unfold stepPush
    repeat' split
    all_goals exact ⟨rfl, rfl⟩
  · split
    · unfold stepPop
      repeat' split
      all_goals exact ⟨rfl, rfl⟩
    · unfold stepSteal
      repeat' split
      all_goals exact ⟨rfl, rfl⟩
/-- a step of n: the others' calls are as they were, its own is one further or over -/
theorem step_calls {q : DQ} {n : Nat} (hn : n < 16) (hl : q.calls.length = 16) (i : Nat) (c' : DCall) (h : (dqStep q n).1.calls[i]? = some (some c')) :
    ∃ c, q.calls[i]? = some (some c) ∧ c'.kind = c.kind ∧ c'.step = c.step + (if i = n then 1 else 0) := by
  cases hc : q.calls[n]? with
  | none => rw [List.getElem?_eq_none_iff] at hc; omega
  | some o =>
    cases o with
    | none =>
      rw [dqStep_free hc] at h
      refine ⟨c', h, rfl, ?_⟩
      rw [if_neg (by rintro rfl; rw [hc] at h; cases h)]
      omega
    | some c =>
      rw [dqStep_busy hn hc rfl] at h
      by_cases hi : n = i
      · subst hi
        simp only [List.getElem?_set_self (show n < q.calls.length by omega)] at h
        split at h
        · have hk := stepKind_step c.kind q.top q.bottom q.ring { c with step := c.step + 1 }
          refine ⟨c, hc, ?_, ?_⟩
          · cases h
            exact hk.2
          · cases h
            rw [if_pos rfl]
            exact hk.1
        · cases h
      · simp only [List.getElem?_set_ne hi] at h
        exact ⟨c', h, rfl, by rw [if_neg (fun e => hi e.symm)]; omega⟩
theorem AtLeast.step {q : DQ} {n i : Nat} {k : Int} (h : AtLeast q i k) (hn : n < 16) (hl : q.calls.length = 16) : AtLeast (dqStep q n).1 i (k + if i = n then 1 else 0) := by
  intro c' hc'
  obtain ⟨c, hc, _, hs⟩ := step_calls hn hl i c' hc'
  have := h c hc
  omega
theorem Inv.idle_bot {q : DQ} {C : List Int} (h : Inv q C) (ho : ow q = none) : q.bottom = q.top + C.length := by
  have := h.owner
  rw [ho] at this
  exact this
theorem Inv.items {q : DQ} {C : List Int} (h : Inv q C) (ho : ow q = none) : itemsOf q = C := h.holds.items q.bottom (h.idle_bot ho) q.calls
end Go.Proofs.Ytkeaekckblpfjaa
