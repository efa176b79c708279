/- Deques, the plain law: what was taken, what is left. No program in sight. -/
import Derived.Test.YtkeaekckblpfjaaChase
namespace Go.Proofs.Ytkeaekckblpfjaa
open Go.RowKit

theorem RowQ.inv {q : DQ} {l : List Int} (h : RowQ q l) : Inv q l := by
  have ho : ow q = none := by unfold ow; rw [h.calls]; rfl
  refine ⟨by rw [h.calls]; rfl, h.holds, by rw [ho]; exact h.bot, fun i c _ hc => ?_⟩
  rw [h.calls] at hc
  unfold idle at hc
  rw [List.getElem?_replicate] at hc
  split at hc <;> cases hc
theorem ow_step {q : DQ} {C : List Int} (h : Inv q C) (who : Int) {p' : DCall} (hp : ow (dqStep q who).1 = some p') : ∃ p, ow q = some p ∧ p'.kind = p.kind := by
  by_cases hw : isB who = true
  · have hw' : 0 ≤ who ∧ who < 16 := by unfold isB at hw; simpa using hw
    obtain ⟨n, rfl⟩ := Int.eq_ofNat_of_zero_le hw'.1
    have hc : (dqStep q n).1.calls[0]? = some (some p') := by
      unfold ow at hp
      rw [List.getD_eq_getElem?_getD] at hp
      cases hx : (dqStep q n).1.calls[0]? with
      | none => rw [hx] at hp; cases hp
      | some y => rw [hx] at hp; exact congrArg some hp
    obtain ⟨c, hc1, hk, _⟩ := step_calls (by omega) h.len 0 p' hc
    exact ⟨c, ow_of hc1, hk⟩
  · have hb : busyB q who = false := by unfold busyB; rw [show isB who = false by simpa using hw]; rfl
    rw [dqStep_idle hb] at hp
    exact ⟨p', hp, rfl⟩
theorem AtLeast.ow {q : DQ} {C : List Int} (h : Inv q C) (ha : AtLeast q 0 5) : ow q = none := ow_of (h.done (by omega) ha)

/-! ### The last one -/
def LastQ (q : DQ) (tk : List Int) : Prop := ∃ C, Inv q C ∧ [(5 : Int)].Perm (tk ++ (held (ow q) ++ C)) ∧ (∀ p, ow q = some p → p.kind = 2) ∧ (ow q = none → C = [])
theorem LastQ.step {q q' : DQ} {tk : List Int} {who a v : Int} (h : LastQ q tk) (hq : dqStep q who = (q', a, v)) : (a = 2 → v = 5 ∧ LastQ q' (tk ++ [v])) ∧ (a ≠ 2 → LastQ q' tk) := by
  obtain ⟨C, hi, hp, hk, hn⟩ := h
  have hlen := hp.length_eq
  simp only [List.length_append, List.length_singleton] at hlen
  obtain ⟨C', hs⟩ := hi.step (by omega) who
  have hk' : ∀ p, ow (dqStep q who).1 = some p → p.kind = 2 := fun p hp' => by
    obtain ⟨p0, h1, h2⟩ := ow_step hi who hp'
    rw [h2]
    exact hk p0 h1
  have hp' : [(5 : Int)].Perm (tk ++ (out (dqStep q who).2.1 (dqStep q who).2.2 ++ (held (ow (dqStep q who).1) ++ C'))) := hp.trans (List.Perm.append_left tk hs.perm)
  have hlen' := hp'.length_eq
  simp only [List.length_append, List.length_singleton] at hlen'
  have hn' : ow (dqStep q who).1 = none → C' = [] := fun ho' => by
    cases ho : ow q with
    | none =>
      have hC := hn ho
      rw [ho, hC] at hlen
      simp [held] at hlen
      exact List.eq_nil_of_length_eq_zero (by omega)
    | some p =>
      rcases hs.last ho' ⟨p, ho, hk p ho⟩ with h2 | h2
      · rw [h2] at hlen'
        simp [out] at hlen'
        exact List.eq_nil_of_length_eq_zero (by omega)
      · exact h2
  have hinv := hs.inv
  rw [hq] at hinv hp' hk' hn'
  simp only at hinv hp' hk' hn'
  refine ⟨fun ha => ?_, fun ha => ?_⟩
  · subst ha
    have hv : v ∈ [(5 : Int)] := hp'.mem_iff.2 (by simp [out])
    refine ⟨by simpa using hv, C', hinv, ?_, hk', hn'⟩
    rw [List.append_assoc]
    exact hp'
  · refine ⟨C', hinv, ?_, hk', hn'⟩
    unfold out at hp'
    rw [if_neg ha] at hp'
    exact hp'
theorem LastQ.fin {q : DQ} {tk : List Int} (h : LastQ q tk) (ha : AtLeast q 0 5) : tk.length = 1 ∧ itemsOf q = [] := by
  obtain ⟨C, hi, hp, hk, hn⟩ := h
  have ho := ha.ow hi
  have hC := hn ho
  have hlen := hp.length_eq
  rw [ho, hC] at hlen
  simp [held] at hlen
  exact ⟨by omega, by rw [hi.items ho, hC]⟩
theorem LastQ.begin3 {q q' : DQ} {tk : List Int} {who item e : Int} (h : LastQ q tk) (hq : dqBegin q who 3 item = (q', e)) : LastQ q' tk := by
  by_cases he : e = 0
  · subst he
    obtain ⟨C, hi, hp, hk, hn⟩ := h
    obtain ⟨n, hn0, hn1, _, hq', hk0, hk3⟩ := dqBegin_ok hq
    have hpos : n ≠ 0 := fun h => by have := hk0 h; omega
    obtain ⟨h1, h2, _⟩ := hi.begin hq
    have ho' : ow q' = ow q := by
      rw [hq']
      unfold ow
      simp only [List.getD_eq_getElem?_getD, List.getElem?_set_ne hpos]
    rw [if_neg (by decide)] at h2
    exact ⟨C, h1, by rw [h2]; exact hp, by rw [ho']; exact hk, by rw [ho']; exact hn⟩
  · have : q' = q := by
      unfold dqBegin at hq
      split at hq
      · injection hq with h1 _; exact h1.symm
      · split at hq
        · injection hq with h1 _; exact h1.symm
        · injection hq with _ h1; omega
    rw [this]
    exact h
theorem LastQ.start : ∃ q1 q2, dqThrough dqNew 0 1 5 = (q1, 1, 0) ∧ dqBegin q1 0 2 0 = (q2, 0) ∧ LastQ q2 [] ∧ Bd 10 q1 ∧ Bd 10 q2 := by
  obtain ⟨q1, h1, h2⟩ := push_row RowQ.new (by simp) 5
  have hb : Bd 6 q1 := by
    have := Bd.new.through (by omega) 0 1 5
    rw [h1] at this
    exact this.mono (by omega)
  have ho : ow q1 = none := by unfold ow; rw [h2.calls]; rfl
  obtain ⟨q2, hq2⟩ : ∃ q2, dqBegin q1 0 2 0 = (q2, 0) := by
    refine ⟨_, Prod.ext rfl ?_⟩
    unfold dqBegin
    rw [if_neg (by decide), if_neg]
    unfold busyB
    rw [h2.calls]
    decide
  obtain ⟨g1, g2, _⟩ := h2.inv.begin hq2
  have hb2 : Bd 6 q2 := by
    have := hb.begin (by omega) 0 2 0
    rw [hq2] at this
    exact this
  obtain ⟨n, hn0, _, _, hq', _, _⟩ := dqBegin_ok hq2
  obtain rfl : n = 0 := by omega
  have ho2 : ow q2 = some (newCall 2 0) := by
    rw [hq']
    apply ow_of
    exact List.getElem?_set_self (by rw [h2.calls]; decide)
  refine ⟨q1, q2, h1, hq2, ⟨[5], g1, ?_, ?_, ?_⟩, hb.mono (by omega), hb2.mono (by omega)⟩
  · rw [g2, ho]; simp [held]
  · intro p hp
    rw [ho2] at hp
    cases hp
    rfl
  · intro h
    rw [ho2] at h
    cases h

/-! ### Each once -/
def nums (m : Nat) : List Int := (List.range m).map fun j : Nat => (j : Int) + 1
@[simp] theorem nums_length (m : Nat) : (nums m).length = m := by simp [nums]
theorem nums_succ (m : Nat) : nums (m + 1) = nums m ++ [(m : Int) + 1] := by simp [nums, List.range_succ]
theorem mem_nums {m : Nat} {v : Int} : v ∈ nums m ↔ 1 ≤ v ∧ v ≤ m := by
  unfold nums
  rw [List.mem_map]
  constructor
  · rintro ⟨j, hj, rfl⟩
    have := List.mem_range.1 hj
    omega
  · rintro ⟨h1, h2⟩
    exact ⟨(v - 1).toNat, List.mem_range.2 (by omega), by omega⟩
theorem nums_nodup (m : Nat) : (nums m).Nodup := by
  unfold nums
  refine List.Pairwise.map _ (fun a b h => ?_) List.nodup_range
  omega
def OnceQ (q : DQ) (tk : List Int) (m : Nat) : Prop := ∃ C, Inv q C ∧ (nums m).Perm (tk ++ (held (ow q) ++ C))
theorem OnceQ.new : OnceQ dqNew [] 0 := ⟨[], Inv.new, List.Perm.refl _⟩
theorem OnceQ.step {q q' : DQ} {tk : List Int} {m : Nat} {who a v : Int} (h : OnceQ q tk m) (hm : m ≤ 60000) (hq : dqStep q who = (q', a, v)) :
    (a = 2 → 1 ≤ v ∧ v ≤ m ∧ v ∉ tk ∧ OnceQ q' (tk ++ [v]) m) ∧ (a ≠ 2 → OnceQ q' tk m) := by
  obtain ⟨C, hi, hp⟩ := h
  have hlen := hp.length_eq
  simp only [List.length_append, nums_length] at hlen
  obtain ⟨C', hs⟩ := hi.step (by omega) who
  have hp' : (nums m).Perm (tk ++ (out (dqStep q who).2.1 (dqStep q who).2.2 ++ (held (ow (dqStep q who).1) ++ C'))) := hp.trans (List.Perm.append_left tk hs.perm)
  have hinv := hs.inv
  rw [hq] at hinv hp'
  simp only at hinv hp'
  refine ⟨fun ha => ?_, fun ha => ?_⟩
  · subst ha
    have hv : v ∈ nums m := hp'.mem_iff.2 (by simp [out])
    have hnd := hp'.nodup (nums_nodup m)
    have hv2 := mem_nums.1 hv
    refine ⟨hv2.1, hv2.2, fun hmem => ?_, C', hinv, ?_⟩
    · exact (List.nodup_append.1 hnd).2.2 v hmem v (by simp [out]) rfl
    · rw [List.append_assoc]
      exact hp'
  · refine ⟨C', hinv, ?_⟩
    unfold out at hp'
    rw [if_neg ha] at hp'
    exact hp'
theorem dqBegin_ne {q q' : DQ} {who kind item e : Int} (hq : dqBegin q who kind item = (q', e)) (he : e ≠ 0) : q' = q := by
  unfold dqBegin at hq
  split at hq
  · injection hq with h1 _; exact h1.symm
  · split at hq
    · injection hq with h1 _; exact h1.symm
    · injection hq with _ h1; omega
theorem OnceQ.begin {q q' : DQ} {tk : List Int} {m : Nat} {who kind e : Int} (h : OnceQ q tk m) (hq : dqBegin q who kind ((m : Int) + 1) = (q', e)) : OnceQ q' tk (if e = 0 ∧ kind = 1 then m + 1 else m) := by
  by_cases he : e = 0
  · subst he
    obtain ⟨C, hi, hp⟩ := h
    obtain ⟨h1, h2, h3⟩ := hi.begin hq
    by_cases hk : kind = 1
    · rw [if_pos ⟨rfl, hk⟩]
      rw [if_pos hk] at h2
      have ho := h3 hk
      rw [ho] at hp h2
      refine ⟨C, h1, ?_⟩
      rw [h2, nums_succ]
      simp only [held, List.append_nil, List.nil_append] at hp ⊢
      have g := (List.Perm.append_right [(m : Int) + 1] hp)
      refine g.trans ?_
      rw [List.append_assoc]
      exact List.Perm.append_left tk List.perm_append_comm
    · rw [if_neg (fun h => hk h.2)]
      rw [if_neg hk] at h2
      exact ⟨C, h1, by rw [h2]; exact hp⟩
  · rw [if_neg (fun h => he h.1), dqBegin_ne hq he]
    exact h
/-- when the owner has done: what is left, and what was taken, is all -/
theorem OnceQ.fin {q : DQ} {tk : List Int} {m : Nat} (h : OnceQ q tk m) (ha : AtLeast q 0 5) : (nums m).Perm (tk ++ itemsOf q) := by
  obtain ⟨C, hi, hp⟩ := h
  have ho := ha.ow hi
  rw [hi.items ho]
  rw [ho] at hp
  exact hp
theorem OnceQ.inv {q : DQ} {tk : List Int} {m : Nat} (h : OnceQ q tk m) : ∃ C, Inv q C := ⟨h.choose, h.choose_spec.1⟩

/-! ### Marks -/
def marks (n : Nat) (tk : List Int) : List Int := (List.range n).map fun j : Nat => (tk.count (j : Int) : Int)
@[simp] theorem marks_length (n : Nat) (tk : List Int) : (marks n tk).length = n := by simp [marks]
theorem marks_nil (n : Nat) : marks n [] = List.replicate n 0 := by
  apply List.ext_getElem?
  intro i
  by_cases h : i < n
  · simp [marks, h]
  · rw [List.getElem?_eq_none (by simpa using h), List.getElem?_eq_none (by simpa using h)]
theorem marks_at {n : Nat} (tk : List Int) {v : Nat} (h : v < n) : (marks n tk)[v]? = some (tk.count (v : Int) : Int) := by simp [marks, h]
theorem marks_zero {n : Nat} {tk : List Int} {v : Nat} (h : v < n) (hv : (v : Int) ∉ tk) : (marks n tk)[v]? = some 0 := by
  rw [marks_at tk h, List.count_eq_zero.2 hv]
  rfl
theorem marks_snoc {n : Nat} {tk : List Int} {v : Nat} (hv : (v : Int) ∉ tk) : marks n (tk ++ [(v : Int)]) = (marks n tk).set v 1 := by
  apply List.ext_getElem?
  intro i
  by_cases h : i < n
  · by_cases hi : v = i
    · subst hi
      rw [List.getElem?_set_self (by simpa using h), marks_at _ h, List.count_append, List.count_eq_zero.2 hv]
      simp
    · rw [List.getElem?_set_ne hi, marks_at _ h, marks_at _ h, List.count_append]
      have : List.count (i : Int) [(v : Int)] = 0 := List.count_eq_zero.2 (by simp; omega)
      rw [this]
      rfl
  · rw [List.getElem?_eq_none (by simpa using h), List.getElem?_eq_none (by simpa using h)]
theorem perm_each {m : Nat} {tk l : List Int} (h : (nums m).Perm (tk ++ l)) {k : Nat} (hk : k < l.length) : 1 ≤ l[k] ∧ l[k] ≤ m ∧ l[k] ∉ tk ++ l.take k := by
  have h1 := mem_nums.1 (h.mem_iff.2 (List.mem_append_right tk (List.getElem_mem hk)))
  have hnd := h.nodup (nums_nodup m)
  refine ⟨h1.1, h1.2, fun hmem => ?_⟩
  have e : tk ++ l = (tk ++ l.take k) ++ l.drop k := by rw [List.append_assoc, List.take_append_drop]
  rw [e] at hnd
  refine (List.nodup_append.1 hnd).2.2 _ hmem _ ?_ rfl
  rw [List.drop_eq_getElem_cons hk]
  exact List.mem_cons_self
theorem marks_all {m n : Nat} {l : List Int} (h : (nums m).Perm l) {v : Nat} (h1 : 1 ≤ v) (h2 : v ≤ m) (hn : v < n) : (marks n l)[v]? = some 1 := by
  rw [marks_at l hn]
  have hnd := h.nodup (nums_nodup m)
  have hm : (v : Int) ∈ l := h.mem_iff.1 (mem_nums.2 (by omega))
  rw [hnd.count]
  simp [hm]
end Go.Proofs.Ytkeaekckblpfjaa
