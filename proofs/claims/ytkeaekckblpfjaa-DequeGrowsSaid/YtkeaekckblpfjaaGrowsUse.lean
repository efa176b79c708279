/- Deques, the plain law: an owner that pushes alone, and how many steps it takes. No program in sight. -/
import Derived.Test.YtkeaekckblpfjaaChaseUse
namespace Go.Proofs.Ytkeaekckblpfjaa
open Go.RowKit

def rem : Option DCall → Int
  | none => 0
  | some c => 4 - c.step
theorem ow_step2 {q : DQ} (hl : q.calls.length = 16) (who : Int) {p' : DCall} (hp : ow (dqStep q who).1 = some p') : ∃ p, ow q = some p ∧ p'.kind = p.kind ∧ p'.step = p.step + (if who = 0 then 1 else 0) := by
  by_cases hw : isB who = true
  · have hw' : 0 ≤ who ∧ who < 16 := by unfold isB at hw; simpa using hw
    obtain ⟨n, rfl⟩ := Int.eq_ofNat_of_zero_le hw'.1
    have hc : (dqStep q n).1.calls[0]? = some (some p') := by
      unfold ow at hp
      rw [List.getD_eq_getElem?_getD] at hp
      cases hx : (dqStep q n).1.calls[0]? with
      | none => rw [hx] at hp; cases hp
      | some y => rw [hx] at hp; exact congrArg some hp
    obtain ⟨c, hc1, hk, hs⟩ := step_calls (by omega) hl 0 p' hc
    refine ⟨c, ow_of hc1, hk, ?_⟩
    rw [hs]
    by_cases h0 : n = 0
    · rw [if_pos h0.symm, if_pos (by omega)]
    · rw [if_neg (fun e => h0 e.symm), if_neg (by omega)]
  · have hb : busyB q who = false := by unfold busyB; rw [show isB who = false by simpa using hw]; rfl
    rw [dqStep_idle hb] at hp
    refine ⟨p', hp, rfl, ?_⟩
    rw [if_neg]
    · omega
    · rintro rfl
      exact hw (by decide)
/-- the owner pushes alone -/
structure GrowsQ (q : DQ) (tk : List Int) (m : Nat) : Prop where
  once : OnceQ q tk m
  kind : ∀ p, ow q = some p → p.kind = 1
theorem GrowsQ.new : GrowsQ dqNew [] 0 := ⟨OnceQ.new, fun p hp => by cases hp⟩
theorem GrowsQ.len {q : DQ} {tk : List Int} {m : Nat} (h : GrowsQ q tk m) : q.calls.length = 16 := by obtain ⟨C, hi⟩ := h.once.inv; exact hi.len
theorem GrowsQ.steps {q : DQ} {tk : List Int} {m : Nat} (h : GrowsQ q tk m) {c : DCall} (hc : ow q = some c) : 0 ≤ c.step ∧ c.step ≤ 3 := by
  obtain ⟨C, hi⟩ := h.once.inv
  have hown := hi.owner
  have hk := h.kind c hc
  rw [hc] at hown
  rcases hown with ⟨_, _, s0, s3, _⟩ | ⟨hk2, _⟩
  · exact ⟨s0, s3⟩
  · omega
theorem GrowsQ.rem_bd {q : DQ} {tk : List Int} {m : Nat} (h : GrowsQ q tk m) : 0 ≤ rem (ow q) ∧ rem (ow q) ≤ 4 := by
  cases ho : ow q with
  | none => simp [rem]
  | some c => have := h.steps ho; simp only [rem]; omega
theorem GrowsQ.step {q q' : DQ} {tk : List Int} {m : Nat} {who a v : Int} (h : GrowsQ q tk m) (hm : m ≤ 60000) (hq : dqStep q who = (q', a, v)) :
    (a = 2 → 1 ≤ v ∧ v ≤ m ∧ v ∉ tk ∧ GrowsQ q' (tk ++ [v]) m) ∧ (a ≠ 2 → GrowsQ q' tk m) ∧ rem (ow q') ≤ rem (ow q) ∧ (who = 0 → busyB q 0 = true → rem (ow q') + 1 ≤ rem (ow q)) := by
  have hk : ∀ p, ow q' = some p → p.kind = 1 := fun p hp => by
    obtain ⟨p0, h1, h2, _⟩ := ow_step2 h.len who (p' := p) (by rw [hq]; exact hp)
    rw [h2]
    exact h.kind p0 h1
  obtain ⟨h1, h2⟩ := h.once.step hm hq
  have hbd := h.rem_bd
  refine ⟨fun ha => ?_, fun ha => ⟨h2 ha, hk⟩, ?_, ?_⟩
  · obtain ⟨g1, g2, g3, g4⟩ := h1 ha
    exact ⟨g1, g2, g3, g4, hk⟩
  · cases ho : ow q' with
    | none => exact hbd.1
    | some p =>
      obtain ⟨p0, h3, _, h4⟩ := ow_step2 h.len who (p' := p) (by rw [hq]; exact ho)
      rw [h3]
      simp only [rem]
      split at h4 <;> omega
  · rintro rfl hb
    have hso : ∃ c, ow q = some c := by
      unfold busyB at hb
      rw [show isB 0 = true by decide] at hb
      simp only [Bool.true_and] at hb
      exact Option.isSome_iff_exists.1 hb
    obtain ⟨c, hc⟩ := hso
    have hs := h.steps hc
    cases ho : ow q' with
    | none => rw [hc]; simp only [rem]; omega
    | some p =>
      obtain ⟨p0, h3, _, h4⟩ := ow_step2 h.len 0 (p' := p) (by rw [hq]; exact ho)
      rw [h3]
      simp only [rem]
      rw [if_pos rfl] at h4
      omega
theorem GrowsQ.begin3 {q q' : DQ} {tk : List Int} {m : Nat} {who e item : Int} (h : GrowsQ q tk m) (hq : dqBegin q who 3 item = (q', e)) : GrowsQ q' tk m ∧ ow q' = ow q := by
  by_cases he : e = 0
  · subst he
    obtain ⟨C, hi, hp⟩ := h.once
    obtain ⟨n, hn0, hn1, _, hq', hk0, hk3⟩ := dqBegin_ok hq
    have hpos : n ≠ 0 := fun h => by have := hk0 h; omega
    obtain ⟨h1, h2, _⟩ := hi.begin hq
    have ho' : ow q' = ow q := by
      rw [hq']
      unfold ow
      simp only [List.getD_eq_getElem?_getD, List.getElem?_set_ne hpos]
    rw [if_neg (by decide)] at h2
    exact ⟨⟨⟨C, h1, by rw [h2]; exact hp⟩, by rw [ho']; exact h.kind⟩, ho'⟩
  · rw [dqBegin_ne hq he]
    exact ⟨h, rfl⟩
theorem GrowsQ.begin1 {q q' : DQ} {tk : List Int} {m : Nat} {e : Int} (h : GrowsQ q tk m) (hb : busyB q 0 = false) (hq : dqBegin q 0 1 ((m : Int) + 1) = (q', e)) : GrowsQ q' tk (m + 1) ∧ rem (ow q') = 4 ∧ rem (ow q) = 0 := by
  have he : e = 0 := by
    have : (dqBegin q 0 1 ((m : Int) + 1)).2 = 0 := by
      unfold dqBegin
      rw [if_neg (by decide), if_neg (by simp [hb])]
    rw [hq] at this
    exact this
  subst he
  have h1 := h.once.begin hq
  rw [if_pos ⟨rfl, rfl⟩] at h1
  obtain ⟨n, hn0, _, hnone, hq', _, _⟩ := dqBegin_ok hq
  obtain rfl : n = 0 := by omega
  have ho : ow q = none := hnone
  have ho' : ow q' = some (newCall 1 ((m : Int) + 1)) := by
    rw [hq']
    apply ow_of
    exact List.getElem?_set_self (by have := h.len; omega)
  refine ⟨⟨h1, fun p hp => ?_⟩, by rw [ho']; rfl, by rw [ho]; rfl⟩
  rw [ho'] at hp
  cases hp
  rfl
theorem GrowsQ.atLeast0 {q : DQ} {tk : List Int} {m : Nat} (h : GrowsQ q tk m) : AtLeast q 0 0 := by obtain ⟨C, hi⟩ := h.once.inv; exact hi.atLeast0 0
end Go.Proofs.Ytkeaekckblpfjaa
