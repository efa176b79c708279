/- Terms: who owes what, call by call. No program in sight. -/
import Derived.Test.YtiicmlhpcfhfeaaTermInv
namespace Go.Proofs.Ytiicmlhpcfhfeaa
theorem act_of {q : TM} {n : Int} (h : activeN q n = true) : ∃ (k : Nat) (x : Nd), n = k ∧ k < q.nodes.length ∧ q.nodes[k]? = some x ∧ nd q n = x ∧ x.2.1 = true := by
  unfold activeN isN at h
  simp only [Bool.and_eq_true, decide_eq_true_eq] at h
  obtain ⟨⟨h1, h2⟩, h3⟩ := h
  obtain ⟨k, rfl⟩ := Int.eq_ofNat_of_zero_le h1
  have hk : k < q.nodes.length := by omega
  have hx := List.getElem?_eq_getElem hk
  exact ⟨k, _, rfl, hk, hx, nd_of hx, by rw [← nd_of hx]; exact h3⟩
theorem inv_idle {q : TM} {M : Nat} (n : Int) (h : InvT q M) (hc : Calm q) : InvT (idleN q n).1 M ∧ phi (idleN q n).1 ≤ phi q ∧ Calm (idleN q n).1 ∧ (idleN q n).1.nodes.length = q.nodes.length := by
  unfold idleN
  by_cases ha : activeN q n = true
  · rw [if_pos ha]
    obtain ⟨k, x, rfl, hk, hx, hnd, hxa⟩ := act_of ha
    rw [hnd, Int.toNat_natCast]
    obtain ⟨nn, a, u⟩ := x
    simp only at hxa
    subst hxa
    have hh := countP_set_ hung q.nodes k _ (nn, false, u) hx
    simp only [hung] at hh
    have hhh : (q.nodes.set k (nn, false, u)).countP hung = q.nodes.countP hung := by
      have : (q.nodes.set k (nn, false, u)).countP hung + (if (u != -1) = true then 1 else 0) = q.nodes.countP hung + (if (u != -1) = true then 1 else 0) := hh
      omega
    have hcn : ∀ j : Int, cnt ⟨q.nodes.set k (nn, false, u), q.way⟩ j = cnt q j := fun j => by
      have h1 := countP_set_ (child j) q.nodes k _ (nn, false, u) hx
      have h2 : (q.nodes.set k (nn, false, u)).countP (child j) + (if (u == j) = true then 1 else 0) = q.nodes.countP (child j) + (if (u == j) = true then 1 else 0) := h1
      unfold cnt
      simp only
      omega
    have hi : InvT ⟨q.nodes.set k (nn, false, u), q.way⟩ M := by
      refine ⟨by simpa using h.len1, by simpa using h.len2, fun x hx0 => ?_, fun j x hj => ?_, fun s hs => ?_, fun j x hj => ?_, fun j x hj hj0 hup => ?_, ?_, ?_⟩
      · rcases getset hx0 with ⟨e, rfl, _⟩ | ⟨_, h1⟩
        · subst e
          have h3 := h.root _ hx
          exact h3
        · exact h.root x h1
      · simp only [List.length_set]
        rcases getset hj with ⟨_, rfl, _⟩ | ⟨_, h1⟩
        · have h3 := h.ups k _ hx
          exact h3
        · exact h.ups j x h1
      · simpa using h.sgs s hs
      · rw [hcn]
        rcases getset hj with ⟨rfl, rfl, _⟩ | ⟨_, h1⟩
        · have h3 := h.cnts j _ hx
          exact h3
        · exact h.cnts j x h1
      · rcases getset hj with ⟨rfl, rfl, _⟩ | ⟨_, h1⟩
        · have := h.off j _ hx hj0 hup
          cases this.1
        · exact h.off j x h1 hj0 hup
      · obtain ⟨r, hr⟩ := h.rank
        refine ⟨r, fun j x hj hup => ?_⟩
        rcases getset hj with ⟨rfl, rfl, _⟩ | ⟨_, h1⟩
        · have h3 := hr j _ hx hup
          exact h3
        · exact hr j x h1 hup
      · have := h.load
        simp only
        omega
    have hs := inv_settle hi
    refine ⟨hs.1, Nat.le_trans hs.2.1 ?_, hs.2.2, by rw [settle_len]; simp⟩
    unfold phi
    simp only
    omega
  · rw [if_neg ha]
    exact ⟨h, Nat.le_refl _, hc, rfl⟩
theorem countP_sent (f j : Int) (l : List Int) : (l.map fun n => ((f, n, false) : Sg)).countP (contrib j) = if f == j then l.length else 0 := by
  induction l with
  | nil => simp
  | cons a l ih =>
    simp only [List.map_cons, List.countP_cons, ih, contrib]
    by_cases hf : f = j
    · simp [hf]
    · simp [hf]
theorem inv_send {q : TM} {M : Nat} (f : Int) (to : List Int) (h : InvT q M) (hc : Calm q) : InvT (sendN q f to).1 (M + to.length) ∧ Calm (sendN q f to).1 ∧ (sendN q f to).1.nodes.length = q.nodes.length := by
  unfold sendN
  by_cases ha : activeN q f = true
  · rw [if_pos ha]
    obtain ⟨k, x, rfl, hk, hx, hnd, hxa⟩ := act_of ha
    have hlv : (validTo q to).length ≤ to.length := List.length_filter_le _ _
    have hval : ∀ n ∈ validTo q to, 0 ≤ n ∧ n < (q.nodes.length : Int) := fun n hn => by
      have := (List.mem_filter.1 hn).2
      unfold isN at this
      simpa using this
    generalize validTo q to = L at *
    unfold sentN
    rw [hnd, Int.toNat_natCast]
    obtain ⟨nn, a, u⟩ := x
    simp only at hxa
    subst hxa
    have hhh : (q.nodes.set k (nn + (L.length : Int), true, u)).countP hung = q.nodes.countP hung := by
      have : (q.nodes.set k (nn + (L.length : Int), true, u)).countP hung + (if (u != -1) = true then 1 else 0) = q.nodes.countP hung + (if (u != -1) = true then 1 else 0) := countP_set_ hung q.nodes k _ (nn + (L.length : Int), true, u) hx
      omega
    have hcn : ∀ j : Int, cnt ⟨q.nodes.set k (nn + (L.length : Int), true, u), q.way ++ L.map fun n => ((k : Int), n, false)⟩ j = cnt q j + (if (k : Int) == j then L.length else 0) := fun j => by
      have h2 : (q.nodes.set k (nn + (L.length : Int), true, u)).countP (child j) + (if (u == j) = true then 1 else 0) = q.nodes.countP (child j) + (if (u == j) = true then 1 else 0) := countP_set_ (child j) q.nodes k _ (nn + (L.length : Int), true, u) hx
      unfold cnt
      simp only [List.countP_append, countP_sent]
      omega
    have hi : InvT ⟨q.nodes.set k (nn + (L.length : Int), true, u), q.way ++ L.map fun n => ((k : Int), n, false)⟩ (M + to.length) := by
      refine ⟨by simpa using h.len1, by simpa using h.len2, fun x hx0 => ?_, fun j x hj => ?_, fun s hs => ?_, fun j x hj => ?_, fun j x hj hj0 hup => ?_, ?_, ?_⟩
      · rcases getset hx0 with ⟨e, rfl, _⟩ | ⟨_, h1⟩
        · subst e
          have h3 := h.root _ hx
          exact h3
        · exact h.root x h1
      · simp only [List.length_set]
        rcases getset hj with ⟨_, rfl, _⟩ | ⟨_, h1⟩
        · have h3 := h.ups k _ hx
          exact h3
        · exact h.ups j x h1
      · simp only [List.length_set]
        rcases List.mem_append.1 hs with hs | hs
        · exact h.sgs s hs
        · obtain ⟨n, hn, rfl⟩ := List.mem_map.1 hs
          exact ⟨⟨by omega, by omega⟩, hval n hn⟩
      · rw [hcn]
        rcases getset hj with ⟨rfl, rfl, _⟩ | ⟨hjk, h1⟩
        · have h3 := h.cnts j _ hx
          simp only at h3
          simp only [beq_self_eq_true, if_true]
          omega
        · have h3 := h.cnts j x h1
          have h4 : ¬ ((k : Int) = (j : Int)) := by omega
          simp only [beq_iff_eq, h4, if_false]
          exact h3
      · rcases getset hj with ⟨rfl, rfl, _⟩ | ⟨_, h1⟩
        · have := h.off j _ hx hj0 hup
          cases this.1
        · exact h.off j x h1 hj0 hup
      · obtain ⟨r, hr⟩ := h.rank
        refine ⟨r, fun j x hj hup => ?_⟩
        rcases getset hj with ⟨rfl, rfl, _⟩ | ⟨_, h1⟩
        · have h3 := hr j _ hx hup
          exact h3
        · exact hr j x h1 hup
      · have := h.load
        simp only [List.length_append, List.length_map]
        omega
    have hs := inv_settle hi
    exact ⟨hs.1, hs.2.2, by rw [settle_len]; simp⟩
  · rw [if_neg ha]
    exact ⟨⟨h.len1, h.len2, h.root, h.ups, h.sgs, h.cnts, h.off, h.rank, by have := h.load; show q.way.length + q.nodes.countP hung ≤ _; omega⟩, hc, rfl⟩
theorem inv_deliver {q : TM} {M : Nat} (k : Int) (h : InvT q M) (hc : Calm q) : InvT (deliverN q k).1 M ∧ Calm (deliverN q k).1 ∧ (deliverN q k).1.nodes.length = q.nodes.length ∧ ((0 ≤ k ∧ k < q.way.length) → phi (deliverN q k).1 < phi q) := by
  unfold deliverN
  by_cases hin : 0 ≤ k ∧ k < q.way.length
  · rw [if_pos hin]
    obtain ⟨kn, rfl⟩ := Int.eq_ofNat_of_zero_le hin.1
    have hk : kn < q.way.length := by omega
    obtain ⟨s, hs⟩ : ∃ s, q.way[kn]? = some s := ⟨_, List.getElem?_eq_getElem hk⟩
    rw [Int.toNat_natCast, List.getD_eq_getElem?_getD, hs, Option.getD_some]
    obtain ⟨f, t, ack⟩ := s
    have hst := h.sgs _ (List.mem_of_getElem? hs)
    simp only at hst
    obtain ⟨⟨hf1, hf2⟩, ht1, ht2⟩ := hst
    obtain ⟨tn, rfl⟩ := Int.eq_ofNat_of_zero_le ht1
    obtain ⟨fn, rfl⟩ := Int.eq_ofNat_of_zero_le hf1
    have htn : tn < q.nodes.length := by omega
    have hfn : fn < q.nodes.length := by omega
    obtain ⟨x, hx⟩ : ∃ x, q.nodes[tn]? = some x := ⟨_, List.getElem?_eq_getElem htn⟩
    obtain ⟨y, hy⟩ : ∃ y, q.nodes[fn]? = some y := ⟨_, List.getElem?_eq_getElem hfn⟩
    have hmem : ∀ s ∈ q.way.eraseIdx kn, s ∈ q.way := fun s hs => List.mem_of_mem_eraseIdx hs
    have hwl : (q.way.eraseIdx kn).length + 1 = q.way.length := by rw [List.length_eraseIdx_of_lt hk]; omega
    have hwk := countP_erase_ work q.way kn _ hs
    have hwc := fun j : Int => countP_erase_ (contrib j) q.way kn _ hs
    simp only [work, contrib] at hwk hwc
    have main : ∀ q2 : TM, InvT q2 M → phi q2 < phi q → q2.nodes.length = q.nodes.length → InvT (settle q2) M ∧ Calm (settle q2) ∧ (settle q2).nodes.length = q.nodes.length ∧ ((0 ≤ (kn : Int) ∧ (kn : Int) < q.way.length) → phi (settle q2) < phi q) := fun q2 h2 hp hl => by
      have h3 := inv_settle h2
      exact ⟨h3.1, h3.2.2, by rw [settle_len, hl], fun _ => by have := h3.2.1; omega⟩
    unfold broughtN
    simp only [nd_of hx, Int.toNat_natCast]
    obtain ⟨nn, a, u⟩ := x
    have hcx := h.cnts tn _ hx
    simp only at hcx
    cases ack with
    | true =>
      rw [if_pos rfl]
      simp only [if_true, Bool.not_true, Bool.false_eq_true, if_false, Nat.add_zero] at hwk hwc
      have hpos : 1 ≤ cnt q tn := by
        have := hwc (tn : Int)
        simp only [beq_self_eq_true, if_true] at this
        unfold cnt
        omega
      have hhh : (q.nodes.set tn (nn - 1, a, u)).countP hung = q.nodes.countP hung := by
        have : (q.nodes.set tn (nn - 1, a, u)).countP hung + (if (u != -1) = true then 1 else 0) = q.nodes.countP hung + (if (u != -1) = true then 1 else 0) := countP_set_ hung q.nodes tn _ (nn - 1, a, u) hx
        omega
      have hcn : ∀ j : Int, cnt ⟨q.nodes.set tn (nn - 1, a, u), q.way.eraseIdx kn⟩ j + (if (tn : Int) == j then 1 else 0) = cnt q j := fun j => by
        have h2 : (q.nodes.set tn (nn - 1, a, u)).countP (child j) + (if (u == j) = true then 1 else 0) = q.nodes.countP (child j) + (if (u == j) = true then 1 else 0) := countP_set_ (child j) q.nodes tn _ (nn - 1, a, u) hx
        have h3 := hwc j
        unfold cnt
        simp only
        omega
      refine main _ ⟨by simpa using h.len1, by simpa using h.len2, fun x hx0 => ?_, fun j x hj => ?_, fun s hs => ?_, fun j x hj => ?_, fun j x hj hj0 hup => ?_, ?_, ?_⟩ ?_ (by simp)
      · rcases getset hx0 with ⟨e, rfl, _⟩ | ⟨_, h1⟩
        · subst e
          have h3 := h.root _ hx
          exact h3
        · exact h.root x h1
      · simp only [List.length_set]
        rcases getset hj with ⟨_, rfl, _⟩ | ⟨_, h1⟩
        · have h3 := h.ups tn _ hx
          exact h3
        · exact h.ups j x h1
      · simpa using h.sgs s (hmem s hs)
      · show _ = ((cnt ⟨q.nodes.set tn (nn - 1, a, u), q.way.eraseIdx kn⟩ (j : Int) : Nat) : Int)
        have h4 := hcn (j : Int)
        rcases getset hj with ⟨rfl, rfl, _⟩ | ⟨hjk, h1⟩
        · simp only [beq_self_eq_true, if_true] at h4
          simp only
          omega
        · have h3 := h.cnts j x h1
          have h5 : ¬ ((tn : Int) = (j : Int)) := by omega
          simp only [beq_iff_eq, h5, if_false] at h4
          omega
      · rcases getset hj with ⟨rfl, rfl, _⟩ | ⟨_, h1⟩
        · have h3 := (h.off j _ hx hj0 hup).2
          simp only at h3
          omega
        · exact h.off j x h1 hj0 hup
      · obtain ⟨r, hr⟩ := h.rank
        refine ⟨r, fun j x hj hup => ?_⟩
        rcases getset hj with ⟨rfl, rfl, _⟩ | ⟨_, h1⟩
        · have h3 := hr j _ hx hup
          exact h3
        · exact hr j x h1 hup
      · have := h.load
        simp only
        omega
      · unfold phi
        simp only
        omega
    | false =>
      rw [if_neg (by simp)]
      simp only [Bool.false_eq_true, if_false, Bool.not_false, if_true] at hwk hwc
      have hposf : ∀ j : Nat, fn = j → 1 ≤ cnt q j := fun j e => by
        subst e
        have := hwc (fn : Int)
        simp only [beq_self_eq_true, if_true] at this
        unfold cnt
        omega
      by_cases hc2 : (tn : Int) ≠ 0 ∧ u = -1
      · rw [if_pos hc2]
        obtain ⟨hc0, rfl⟩ := hc2
        have hoff := h.off tn _ hx (by omega) rfl
        simp only at hoff
        obtain ⟨rfl, rfl⟩ := hoff
        have hnf : fn ≠ tn := fun e => by have := hposf tn e; omega
        have hhh : (q.nodes.set tn (0, true, (fn : Int))).countP hung = q.nodes.countP hung + 1 := by
          have h1 := countP_set_ hung q.nodes tn _ (0, true, (fn : Int)) hx
          have h2 : ¬ ((fn : Int) = -1) := by omega
          simp only [hung, bne_iff_ne, ne_eq, not_true_eq_false, if_false, h2, not_false_eq_true, if_true] at h1
          exact h1
        have hcn : ∀ j : Nat, cnt ⟨q.nodes.set tn (0, true, (fn : Int)), q.way.eraseIdx kn⟩ j = cnt q j := fun j => by
          have h1 := countP_set_ (child (j : Int)) q.nodes tn _ (0, true, (fn : Int)) hx
          have h3 := hwc (j : Int)
          have h2 : ¬ ((-1 : Int) = (j : Int)) := by omega
          simp only [child, beq_iff_eq, h2, if_false] at h1
          simp only [beq_iff_eq] at h3
          unfold cnt
          simp only [child]
          omega
        refine main _ ⟨by simpa using h.len1, by simpa using h.len2, fun x hx0 => ?_, fun j x hj => ?_, fun s hs => ?_, fun j x hj => ?_, fun j x hj hj0 hup => ?_, ?_, ?_⟩ ?_ (by simp)
        · rcases getset hx0 with ⟨e, _⟩ | ⟨_, h1⟩
          · omega
          · exact h.root x h1
        · simp only [List.length_set]
          rcases getset hj with ⟨_, rfl, _⟩ | ⟨_, h1⟩
          · exact Or.inr ⟨by simp only; omega, by simp only; omega⟩
          · exact h.ups j x h1
        · simpa using h.sgs s (hmem s hs)
        · rw [hcn]
          rcases getset hj with ⟨rfl, rfl, _⟩ | ⟨hjk, h1⟩
          · exact hcx
          · exact h.cnts j x h1
        · rcases getset hj with ⟨rfl, rfl, _⟩ | ⟨_, h1⟩
          · simp only at hup
            omega
          · exact h.off j x h1 hj0 hup
        · obtain ⟨r, hr⟩ := h.rank
          refine ⟨fun i => if i = tn then r fn + 1 else r i, fun j x hj hup => ?_⟩
          rcases getset hj with ⟨rfl, rfl, _⟩ | ⟨hjt, h1⟩
          · simp only [Int.toNat_natCast, if_true]
            rw [if_neg hnf]
            omega
          · have h3 := hr j x h1 hup
            have h4 : x.2.2.toNat ≠ tn := fun e => by
              have h5 := (h.ups j x h1).resolve_left hup
              have h6 : x.2.2 = (tn : Int) := by omega
              have h7 : 0 < q.nodes.countP (child (tn : Int)) := List.countP_pos_iff.2 ⟨x, List.mem_of_getElem? h1, by simp [child, h6]⟩
              have : 1 ≤ cnt q tn := by unfold cnt; omega
              omega
            simp only
            rw [if_neg h4, if_neg hjt]
            exact h3
        · have := h.load
          simp only
          omega
        · unfold phi
          simp only
          omega
      · rw [if_neg hc2]
        have hhh : (q.nodes.set tn (nn, true, u)).countP hung = q.nodes.countP hung := by
          have : (q.nodes.set tn (nn, true, u)).countP hung + (if (u != -1) = true then 1 else 0) = q.nodes.countP hung + (if (u != -1) = true then 1 else 0) := countP_set_ hung q.nodes tn _ (nn, true, u) hx
          omega
        have hcn : ∀ j : Int, cnt ⟨q.nodes.set tn (nn, true, u), q.way.eraseIdx kn ++ [((tn : Int), (fn : Int), true)]⟩ j = cnt q j := fun j => by
          have h2 : (q.nodes.set tn (nn, true, u)).countP (child j) + (if (u == j) = true then 1 else 0) = q.nodes.countP (child j) + (if (u == j) = true then 1 else 0) := countP_set_ (child j) q.nodes tn _ (nn, true, u) hx
          have h3 := hwc j
          unfold cnt
          simp only [List.countP_append, List.countP_cons, List.countP_nil, contrib, if_true]
          omega
        refine main _ ⟨by simpa using h.len1, by simpa using h.len2, fun x hx0 => ?_, fun j x hj => ?_, fun s hs => ?_, fun j x hj => ?_, fun j x hj hj0 hup => ?_, ?_, ?_⟩ ?_ (by simp)
        · rcases getset hx0 with ⟨e, rfl, _⟩ | ⟨_, h1⟩
          · subst e
            have h3 := h.root _ hx
            exact h3
          · exact h.root x h1
        · simp only [List.length_set]
          rcases getset hj with ⟨_, rfl, _⟩ | ⟨_, h1⟩
          · have h3 := h.ups tn _ hx
            exact h3
          · exact h.ups j x h1
        · simp only [List.length_set]
          rcases List.mem_append.1 hs with hs | hs
          · exact h.sgs s (hmem s hs)
          · obtain rfl : s = ((tn : Int), (fn : Int), true) := by simpa using hs
            exact ⟨⟨by simp only; omega, by simp only; omega⟩, by simp only; omega, by simp only; omega⟩
        · rw [hcn]
          rcases getset hj with ⟨rfl, rfl, _⟩ | ⟨hjk, h1⟩
          · exact hcx
          · exact h.cnts j x h1
        · rcases getset hj with ⟨rfl, rfl, _⟩ | ⟨_, h1⟩
          · exact absurd ⟨by omega, hup⟩ hc2
          · exact h.off j x h1 hj0 hup
        · obtain ⟨r, hr⟩ := h.rank
          refine ⟨r, fun j x hj hup => ?_⟩
          rcases getset hj with ⟨rfl, rfl, _⟩ | ⟨_, h1⟩
          · have h3 := hr j _ hx hup
            exact h3
          · exact hr j x h1 hup
        · have := h.load
          simp only [List.length_append, List.length_singleton]
          omega
        · unfold phi
          simp only [List.length_append, List.length_singleton, List.countP_append, List.countP_cons, List.countP_nil, work]
          simp
          omega
  · rw [if_neg hin]
    exact ⟨h, hc, rfl, fun h' => absurd h' hin⟩
end Go.Proofs.Ytiicmlhpcfhfeaa
