/- Terms: who owes what, in plain words. No program in sight. -/
import Derived.Test.YtiicmlhpcfhfeaaTermNew2
namespace Go.Proofs.Ytiicmlhpcfhfeaa

theorem lt_of_get {α : Type} {l : List α} {k : Nat} {x : α} (h : l[k]? = some x) : k < l.length := by
  rcases Nat.lt_or_ge k l.length with h' | h'
  · exact h'
  · rw [List.getElem?_eq_none h'] at h; cases h
theorem countP_set_ {α : Type} (p : α → Bool) : ∀ (l : List α) (k : Nat) (x y : α), l[k]? = some x → (l.set k y).countP p + (if p x then 1 else 0) = l.countP p + (if p y then 1 else 0)
  | [], k, x, y, h => by simp at h
  | a :: l, 0, x, y, h => by
    simp only [List.getElem?_cons_zero, Option.some.injEq] at h
    subst h
    simp only [List.set_cons_zero, List.countP_cons]
    omega
  | a :: l, k + 1, x, y, h => by
    simp only [List.getElem?_cons_succ] at h
    have := countP_set_ p l k x y h
    simp only [List.set_cons_succ, List.countP_cons]
    omega
theorem countP_erase_ {α : Type} (p : α → Bool) : ∀ (l : List α) (k : Nat) (x : α), l[k]? = some x → (l.eraseIdx k).countP p + (if p x then 1 else 0) = l.countP p
  | [], k, x, h => by simp at h
  | a :: l, 0, x, h => by
    simp only [List.getElem?_cons_zero, Option.some.injEq] at h
    subst h
    simp only [List.eraseIdx_cons_zero, List.countP_cons]
  | a :: l, k + 1, x, h => by
    simp only [List.getElem?_cons_succ] at h
    have := countP_erase_ p l k x h
    simp only [List.eraseIdx_cons_succ, List.countP_cons]
    omega
def contrib (i : Int) (s : Sg) : Bool := if s.2.2 then s.2.1 == i else s.1 == i
def child (i : Int) (x : Nd) : Bool := x.2.2 == i
def hung (x : Nd) : Bool := x.2.2 != -1
def work (s : Sg) : Bool := !s.2.2
def cnt (q : TM) (i : Int) : Nat := q.way.countP (contrib i) + q.nodes.countP (child i)
/-- the rule of the whole: who owes what -/
structure InvT (q : TM) (M : Nat) : Prop where
  len1 : 1 ≤ q.nodes.length
  len2 : q.nodes.length ≤ 16
  root : ∀ x, q.nodes[0]? = some x → x.2.2 = -1
  ups : ∀ (k : Nat) (x : Nd), q.nodes[k]? = some x → x.2.2 = -1 ∨ (0 ≤ x.2.2 ∧ x.2.2 < (q.nodes.length : Int))
  sgs : ∀ s ∈ q.way, (0 ≤ s.1 ∧ s.1 < (q.nodes.length : Int)) ∧ (0 ≤ s.2.1 ∧ s.2.1 < (q.nodes.length : Int))
  cnts : ∀ (k : Nat) (x : Nd), q.nodes[k]? = some x → x.1 = cnt q k
  off : ∀ (k : Nat) (x : Nd), q.nodes[k]? = some x → k ≠ 0 → x.2.2 = -1 → x.2.1 = false ∧ x.1 = 0
  rank : ∃ r : Nat → Nat, ∀ (k : Nat) (x : Nd), q.nodes[k]? = some x → x.2.2 ≠ -1 → r x.2.2.toNat < r k
  load : q.way.length + q.nodes.countP hung ≤ M
def Calm (q : TM) : Prop := ∀ (k : Nat) (x : Nd), q.nodes[k]? = some x → stuck x = false
/-- what is left to be done -/
def phi (q : TM) : Nat := q.way.length + 2 * q.way.countP work + 2 * q.nodes.countP hung
def sameLen (q q' : TM) : Prop := q'.nodes.length = q.nodes.length
theorem getset {α : Type} {l : List α} {k j : Nat} {y z : α} (h : (l.set k y)[j]? = some z) : (j = k ∧ z = y ∧ k < l.length) ∨ (j ≠ k ∧ l[j]? = some z) := by
  by_cases hjk : j = k
  · subst hjk
    have hj := lt_of_get h
    rw [List.length_set] at hj
    rw [List.getElem?_set_self hj] at h
    cases h
    exact Or.inl ⟨rfl, rfl, hj⟩
  · rw [List.getElem?_set_ne (fun e => hjk e.symm)] at h
    exact Or.inr ⟨hjk, h⟩
/-- one is let go -/
theorem inv_let {q : TM} {M k : Nat} {x : Nd} (h : InvT q M) (hx : q.nodes[k]? = some x) (hs : stuck x = true) :
    InvT ⟨q.nodes.set k (x.1, x.2.1, -1), q.way ++ [((k : Int), x.2.2, true)]⟩ M ∧ phi ⟨q.nodes.set k (x.1, x.2.1, -1), q.way ++ [((k : Int), x.2.2, true)]⟩ < phi q := by
  obtain ⟨n, a, u⟩ := x
  simp only [stuck, Bool.and_eq_true, bne_iff_ne, ne_eq, Bool.not_eq_true', beq_iff_eq] at hs
  obtain ⟨⟨hu, ha⟩, hn⟩ := hs
  subst ha hn
  have hk := lt_of_get hx
  have hk0 : k ≠ 0 := fun e => by subst e; exact hu (h.root _ hx)
  have hu2 := (h.ups k _ hx).resolve_left hu
  simp only at hu2
  have hhung := countP_set_ hung q.nodes k _ (0, false, -1) hx
  simp only [hung, bne_iff_ne, ne_eq, hu, not_false_eq_true, if_true, not_true_eq_false, if_false] at hhung
  refine ⟨⟨by simpa using h.len1, by simpa using h.len2, fun x hx0 => ?_, fun j x hj => ?_, fun s hs => ?_, fun j x hj => ?_, fun j x hj hj0 hup => ?_, ?_, ?_⟩, ?_⟩
  · rcases getset hx0 with ⟨e, _⟩ | ⟨_, h1⟩
    · exact absurd e.symm hk0
    · exact h.root x h1
  · rcases getset hj with ⟨_, rfl, _⟩ | ⟨_, h1⟩
    · exact Or.inl rfl
    · simpa using h.ups j x h1
  · rcases List.mem_append.1 hs with hs | hs
    · simpa using h.sgs s hs
    · obtain rfl : s = ((k : Int), u, true) := by simpa using hs
      simp only [List.length_set]
      exact ⟨⟨by omega, by omega⟩, hu2⟩
  · have e1 : cnt ⟨q.nodes.set k (0, false, -1), q.way ++ [((k : Int), u, true)]⟩ j = cnt q j := by
      have h1 := countP_set_ (child (j : Int)) q.nodes k _ (0, false, -1) hx
      simp only [child, beq_iff_eq] at h1
      unfold cnt
      simp only [List.countP_append, List.countP_cons, List.countP_nil, contrib, if_true, beq_iff_eq]
      have h2 : ¬ ((-1 : Int) = (j : Int)) := by omega
      rw [if_neg h2] at h1
      omega
    rcases getset hj with ⟨rfl, rfl, _⟩ | ⟨_, h1⟩
    · rw [e1]
      have h3 := h.cnts j _ hx
      exact h3
    · rw [e1]
      exact h.cnts j x h1
  · rcases getset hj with ⟨_, rfl, _⟩ | ⟨_, h1⟩
    · exact ⟨rfl, rfl⟩
    · exact h.off j x h1 hj0 hup
  · obtain ⟨r, hr⟩ := h.rank
    refine ⟨r, fun j x hj hup => ?_⟩
    rcases getset hj with ⟨_, rfl, _⟩ | ⟨_, h1⟩
    · exact absurd rfl hup
    · exact hr j x h1 hup
  · have := h.load
    simp only [List.length_append, List.length_singleton]
    omega
  · unfold phi
    simp only [List.length_append, List.length_singleton, List.countP_append, List.countP_cons, List.countP_nil, work]
    simp
    omega
theorem settle_ind (P : TM → Prop) (hstep : ∀ (q : TM) (k : Nat) (x : Nd), P q → q.nodes[k]? = some x → stuck x = true → P ⟨q.nodes.set k (x.1, x.2.1, -1), q.way ++ [((k : Int), x.2.2, true)]⟩) :
    ∀ (m : Nat) (q : TM), q.nodes.countP stuck = m → P q → P (settle q) ∧ Calm (settle q) := by
  intro m
  induction m with
  | zero =>
    intro q hm hp
    have hc : ∀ (j : Nat) (y : Nd), q.nodes[j]? = some y → stuck y = false := fun j y hy => by
      have h1 := List.countP_eq_zero.1 hm y (List.mem_of_getElem? hy)
      simpa using h1
    rw [settle_done hc]
    exact ⟨hp, hc⟩
  | succ m ih =>
    intro q hm hp
    rcases firstStuck_cases q with ⟨_, hnone⟩ | ⟨k, x, _, hx, hs, hb⟩
    · have : q.nodes.countP stuck = 0 := List.countP_eq_zero.2 fun y hy => by
        obtain ⟨j, hj, rfl⟩ := List.mem_iff_getElem.1 hy
        simp [hnone j _ (List.getElem?_eq_getElem hj)]
      omega
    · rw [← settle_step hx hs hb]
      refine ih _ ?_ (hstep q k x hp hx hs)
      have h1 := countP_set_ stuck q.nodes k x (x.1, x.2.1, -1) hx
      rw [hs, stuck_let] at h1
      simp at h1
      simp only
      omega
theorem inv_settle {q : TM} {M : Nat} (h : InvT q M) : InvT (settle q) M ∧ phi (settle q) ≤ phi q ∧ Calm (settle q) := by
  have := settle_ind (fun q' => InvT q' M ∧ phi q' ≤ phi q) (fun q' k x hp hx hs => by
    have h1 := inv_let hp.1 hx hs
    exact ⟨h1.1, by have := hp.2; omega⟩) _ q rfl ⟨h, Nat.le_refl _⟩
  exact ⟨this.1.1, this.1.2, this.2⟩
theorem settle_len (q : TM) : (settle q).nodes.length = q.nodes.length := by unfold settle; simp
theorem settle_act {q : TM} {k : Nat} : ((settle q).nodes[k]?).map (fun x => x.2.1) = (q.nodes[k]?).map (fun x => x.2.1) := by
  unfold settle
  simp only [List.getElem?_map, Option.map_map]
  congr 1
  funext x
  simp only [Function.comp, unhang]
  split <;> rfl
/-- a node's cell turned, nothing else: active only -/
theorem inv_new (n : Int) : InvT (newN n) 0 ∧ Calm (newN n) ∧ (newN n).nodes.length = cutN n := by
  have hN : 1 ≤ cutN n ∧ cutN n ≤ 16 := by unfold cutN; omega
  have hq : newN n = ⟨(0, true, -1) :: List.replicate (cutN n - 1) (0, false, -1), []⟩ := rfl
  rw [hq]
  generalize cutN n = N at *
  have hall : ∀ (k : Nat) (x : Nd), ((0, true, -1) :: List.replicate (N - 1) ((0, false, -1) : Nd))[k]? = some x → x.1 = 0 ∧ x.2.2 = -1 ∧ (k ≠ 0 → x.2.1 = false) := by
    intro k x hx
    match k, hx with
    | 0, hx => simp at hx; subst hx; simp
    | k + 1, hx =>
      simp only [List.getElem?_cons_succ, List.getElem?_replicate] at hx
      split at hx
      · cases hx; simp
      · cases hx
  have hc : ∀ (p : Nd → Bool), p (0, true, -1) = false → p (0, false, -1) = false → ((0, true, -1) :: List.replicate (N - 1) ((0, false, -1) : Nd)).countP p = 0 := fun p h1 h2 => by
    rw [List.countP_eq_zero]
    intro x hx
    rcases List.mem_cons.1 hx with rfl | hx
    · simp [h1]
    · rw [List.mem_replicate] at hx
      rw [hx.2]
      simp [h2]
  refine ⟨⟨by simp, by simp; omega, fun x hx => (hall 0 x hx).2.1, fun k x hx => Or.inl (hall k x hx).2.1, by simp, fun k x hx => ?_, fun k x hx hk _ => ⟨(hall k x hx).2.2 hk, (hall k x hx).1⟩, ⟨fun _ => 0, fun k x hx hu => absurd (hall k x hx).2.1 hu⟩, ?_⟩, fun k x hx => ?_, by simp; omega⟩
  · rw [(hall k x hx).1]
    unfold cnt
    rw [hc _ (by simp [child]) (by simp [child])]
    rfl
  · rw [hc _ (by simp [hung]) (by simp [hung])]
    simp
  · simp [stuck, (hall k x hx).2.1]
end Go.Proofs.Ytiicmlhpcfhfeaa
