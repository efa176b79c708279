/- LinkPlays: what it says, plain. -/
import Derived.Test.YtacifjjhadjhfaaLinkInn
import Derived.Test.YtacifjjhadjhfaaOrderPlain
import Derived.Test.YtacifjjhadjhfaaRLink2
import Derived.Test.YtacifjjhadjhfaaRKS
namespace Go.Proofs.Ytacifjjhadjhfaa
open Go.RowKit
/-- a load without its place -/
def LD.d (s : LD) : Int × Int × Int × List UInt8 := (s.seq, s.times, s.at_, s.bs)
theorem LD.d_eq {s t : LD} (h : s.d = t.d) : s.seq = t.seq ∧ s.times = t.times ∧ s.at_ = t.at_ ∧ s.bs = t.bs := by
  unfold LD.d at h
  simp only [Prod.mk.injEq] at h
  exact h
/-- two links that differ in places alone -/
structure Sim (q q' : LK) : Prop where
  last : q.last = q'.last
  seq : q.seq = q'.seq
  upto : q.upto = q'.upto
  owed : q.owed = q'.owed
  self : q.self = q'.self
  peer : q.peer = q'.peer
  life : q.life = q'.life
  theirs : q.theirs = q'.theirs
  op : q.open_.map LD.d = q'.open_.map LD.d
  kp : q.kept.map LD.d = q'.kept.map LD.d
theorem Sim.olen {q q' : LK} (h : Sim q q') : q.open_.length = q'.open_.length := by have := congrArg List.length h.op; simpa using this
theorem Sim.klen {q q' : LK} (h : Sim q q') : q.kept.length = q'.kept.length := by have := congrArg List.length h.kp; simpa using this
theorem map_seq {l l' : List LD} (h : l.map LD.d = l'.map LD.d) : l.map LD.seq = l'.map LD.seq := by
  have e : ∀ l : List LD, l.map LD.seq = (l.map LD.d).map (fun t => t.1) := fun l => by rw [List.map_map]; rfl
  rw [e, e, h]
theorem map_bs {l l' : List LD} (h : l.map LD.d = l'.map LD.d) : l.map LD.bs = l'.map LD.bs := by
  have e : ∀ l : List LD, l.map LD.bs = (l.map LD.d).map (fun t => t.2.2.2) := fun l => by rw [List.map_map]; rfl
  rw [e, e, h]
theorem filter_d (p : Int × Int × Int × List UInt8 → Bool) {l l' : List LD} (h : l.map LD.d = l'.map LD.d) : (l.filter fun s => p s.d).map LD.d = (l'.filter fun s => p s.d).map LD.d := by
  have e : ∀ l : List LD, (l.filter fun s => p s.d).map LD.d = (l.map LD.d).filter p := fun l => by rw [List.filter_map]; rfl
  rw [e, e, h]
theorem sendCode_sim {q q' : LK} (h : Sim q q') (bs : List UInt8) : sendCode q bs = sendCode q' bs := by
  unfold sendCode
  rw [h.last, h.seq, h.olen]
theorem sent_sim {q q' q2 q2' : LK} {bs : List UInt8} {c : Int} (h : Sim q q') (h1 : SentTo q bs c q2) (h2 : SentTo q' bs c q2') : Sim q2 q2' := by
  unfold SentTo at h1 h2
  by_cases hc : c = 0
  · rw [if_pos hc] at h1 h2
    obtain ⟨bv, rfl⟩ := h1
    obtain ⟨bv', rfl⟩ := h2
    exact ⟨h.last, by simp [h.seq], h.upto, h.owed, h.self, h.peer, h.life, h.theirs, by simp [h.op, h.seq, LD.d], h.kp⟩
  · rw [if_neg hc] at h1 h2
    rw [h1, h2]
    exact h
theorem due_sim {s t : LD} (h : s.d = t.d) (now : Int) : dueL s now = dueL t now := by
  obtain ⟨h1, h2, h3, h4⟩ := LD.d_eq h
  unfold dueL
  rw [h2, h3]
theorem outD_sim {q q' : LK} (h : Sim q q') (now : Int) : outD q now q.open_ = outD q' now q'.open_ := by
  unfold outD
  have e : ∀ (q : LK) (l : List LD), ((l.filter fun s => dueL s now).map fun s => ((q.self, q.peer, q.life, s.seq, q.upto, s.bs) : FD)) = ((l.filter fun s => dueL s now).map LD.d).map fun t => (q.self, q.peer, q.life, t.1, q.upto, t.2.2.2) := fun q l => by rw [List.map_map]; rfl
  rw [e, e]
  obtain ⟨P, hP⟩ : ∃ P : Int × Int × Int × List UInt8 → Bool, ∀ s : LD, dueL s now = P s.d := ⟨fun t => dueL ⟨t.1, t.2.1, t.2.2.1, t.2.2.2, .slice none 0 0⟩ now, fun s => due_sim rfl now⟩
  have e2 : (fun s : LD => dueL s now) = fun s => P s.d := funext hP
  have hf : (q.open_.filter fun s => dueL s now).map LD.d = (q'.open_.filter fun s => dueL s now).map LD.d := by
    rw [e2]
    exact filter_d P h.op
  rw [hf, h.self, h.peer, h.life, h.upto]
theorem outF_sim {q q' : LK} (h : Sim q q') (now : Int) : outF q now = outF q' now := by
  unfold outF
  rw [outD_sim h, h.owed, h.self, h.peer, h.life, h.upto]
theorem outL_sim {q q' : LK} (h : Sim q q') (now : Int) : Sim (outL q now) (outL q' now) := by
  refine ⟨h.last, h.seq, h.upto, rfl, h.self, h.peer, h.life, h.theirs, ?_, h.kp⟩
  unfold outL
  simp only [List.map_map]
  have hu : ∀ s : LD, (outUpd now s).d = (fun t : Int × Int × Int × List UInt8 => (outUpd now ⟨t.1, t.2.1, t.2.2.1, t.2.2.2, .slice none 0 0⟩).d) s.d := fun s => by
    have hd : dueL s now = dueL ⟨s.d.1, s.d.2.1, s.d.2.2.1, s.d.2.2.2, .slice none 0 0⟩ now := due_sim rfl now
    unfold outUpd
    simp only [hd]
    split <;> rfl
  have e : ∀ l : List LD, l.map (LD.d ∘ outUpd now) = (l.map LD.d).map fun t : Int × Int × Int × List UInt8 => (outUpd now ⟨t.1, t.2.1, t.2.2.1, t.2.2.2, .slice none 0 0⟩).d := fun l => by
    rw [List.map_map]
    exact List.map_congr_left fun s _ => hu s
  rw [e, e, h.op]
theorem find_d (k : Int) : ∀ {l l' : List LD}, l.map LD.d = l'.map LD.d → (l.find? (fun s => s.seq == k) = none ∧ l'.find? (fun s => s.seq == k) = none) ∨ ∃ s s', l.find? (fun s => s.seq == k) = some s ∧ l'.find? (fun s => s.seq == k) = some s' ∧ s.d = s'.d
  | [], [], _ => Or.inl ⟨rfl, rfl⟩
  | [], _ :: _, h => by simp at h
  | _ :: _, [], h => by simp at h
  | a :: l, b :: l', h => by
    simp only [List.map_cons, List.cons.injEq] at h
    have hs := (LD.d_eq h.1).1
    rw [List.find?_cons, List.find?_cons, ← hs]
    cases hk : a.seq == k with
    | true => exact Or.inr ⟨a, b, rfl, rfl, h.1⟩
    | false => exact find_d k h.2
theorem runK_sim : ∀ (f : Nat) (u : Int) {l l' : List LD}, l.map LD.d = l'.map LD.d → (runK f u l).1 = (runK f u l').1 ∧ (runK f u l).2.1.map LD.d = (runK f u l').2.1.map LD.d ∧ (runK f u l).2.2.map LD.d = (runK f u l').2.2.map LD.d
  | 0, u, l, l', h => ⟨rfl, h, rfl⟩
  | f + 1, u, l, l', h => by
    unfold runK
    rcases find_d (u + 1) h with ⟨h1, h2⟩ | ⟨s, s', h1, h2, h3⟩
    · rw [h1, h2]
      exact ⟨rfl, h, rfl⟩
    · rw [h1, h2]
      have hf : (l.filter fun s => s.seq != u + 1).map LD.d = (l'.filter fun s => s.seq != u + 1).map LD.d := filter_d (fun t => t.1 != u + 1) h
      obtain ⟨i1, i2, i3⟩ := runK_sim f (u + 1) hf
      exact ⟨i1, i2, by simp only [List.map_cons, i3, h3]⟩
theorem inOk_sim {q q' : LK} (h : Sim q q') (fr to_ life sq ack : Int) (bs : List UInt8) : inOk q fr to_ life sq ack bs = inOk q' fr to_ life sq ack bs := by
  unfold inOk
  rw [h.peer, h.self, h.theirs, h.seq]
theorem ackd_sim {q q' : LK} (h : Sim q q') (ack : Int) : Sim (ackd q ack) (ackd q' ack) := by
  refine ⟨h.last, h.seq, h.upto, h.owed, h.self, h.peer, h.life, h.theirs, ?_, h.kp⟩
  unfold ackd keepL
  exact filter_d (fun t => !decide (t.1 ≤ ack)) h.op
theorem take_sim {q q' : LK} (h : Sim q q') (sq : Int) : gotTake q sq = gotTake q' sq := by
  unfold gotTake
  have e : ∀ l : List LD, (l.any fun s => s.seq == sq) = (l.map LD.d).any fun t => t.1 == sq := fun l => by rw [List.any_map]; rfl
  rw [e, e, h.kp, h.upto]
theorem inR_sim {q q' : LK} (h : Sim q q') (sq : Int) (bs : List UInt8) (bv bv' : Value) : (inR q sq bs bv).1 = (inR q' sq bs bv').1 ∧ (inR q sq bs bv).2.1.map LD.d = (inR q' sq bs bv').2.1.map LD.d ∧ (inR q sq bs bv).2.2.map LD.d = (inR q' sq bs bv').2.2.map LD.d := by
  unfold inR
  rw [take_sim h, h.klen, h.upto]
  split
  · exact runK_sim _ _ (by simp [h.kp, LD.d])
  · exact ⟨rfl, h.kp, rfl⟩
/-- what In leaves, plain -/
def inLk (q : LK) (sq ack : Int) (bs : List UInt8) (bv : Value) : LK := { ackd q ack with upto := (inR (ackd q ack) sq bs bv).1, kept := (inR (ackd q ack) sq bs bv).2.1, owed := q.owed || decide (sq ≠ 0) }
theorem inLk_sim {q q' : LK} (h : Sim q q') (sq ack : Int) (bs : List UInt8) (bv bv' : Value) : Sim (inLk q sq ack bs bv) (inLk q' sq ack bs bv') ∧ (inR (ackd q ack) sq bs bv).2.2.map LD.bs = (inR (ackd q' ack) sq bs bv').2.2.map LD.bs := by
  obtain ⟨i1, i2, i3⟩ := inR_sim (ackd_sim h ack) sq bs bv bv'
  exact ⟨⟨h.last, h.seq, i1, by unfold inLk; simp [h.owed], h.self, h.peer, h.life, h.theirs, (ackd_sim h ack).op, i2⟩, map_bs i3⟩
/-! ### What the calls ask -/
structure LGood (q : LK) (n : Nat) : Prop where
  s0 : 0 ≤ q.seq
  l0 : q.last ≤ 9223372036854775807
  ol : q.open_.length ≤ 8
  lds : ∀ s ∈ q.open_, (0 ≤ s.times ∧ s.times ≤ (n : Int)) ∧ (-1152921504606846976 ≤ s.at_ ∧ s.at_ ≤ 1152921504606846976) ∧ s.bs.length ≤ 5000
  u0 : 0 ≤ q.upto
  un : q.upto + q.kept.length ≤ (n : Int)
  nd : (q.kept.map LD.seq).Nodup
theorem LGood.mono {q : LK} {n m : Nat} (h : LGood q n) (hm : n ≤ m) : LGood q m :=
  ⟨h.s0, h.l0, h.ol, fun s hs => by have := h.lds s hs; exact ⟨⟨this.1.1, by omega⟩, this.2⟩, h.u0, by have := h.un; omega, h.nd⟩
theorem LGood.sent {q q2 : LK} {n : Nat} {bs : List UInt8} (h : LGood q n) (hb : bs.length ≤ 5000) (h1 : SentTo q bs (sendCode q bs) q2) : LGood q2 (n + 1) := by
  unfold SentTo at h1
  by_cases hc : sendCode q bs = 0
  · rw [if_pos hc] at h1
    obtain ⟨bv, rfl⟩ := h1
    have ho : q.open_.length < 8 := by
      unfold sendCode at hc
      split at hc
      · cases hc
      · split at hc
        · cases hc
        · split at hc
          · cases hc
          · omega
    refine ⟨by have := h.s0; simp only; omega, h.l0, by simp; omega, fun s hs => ?_, h.u0, by have := h.un; simp only; omega, h.nd⟩
    rcases List.mem_append.1 hs with hs | hs
    · have := h.lds s hs
      exact ⟨⟨this.1.1, by omega⟩, this.2⟩
    · obtain rfl : s = _ := by simpa using hs
      exact ⟨⟨by simp, by simp; omega⟩, ⟨by simp, by simp⟩, hb⟩
  · rw [if_neg hc] at h1
    rw [h1]
    exact h.mono (by omega)
theorem LGood.out {q : LK} {n : Nat} {now : Int} (h : LGood q n) (hn : -1152921504606846976 ≤ now ∧ now ≤ 1152921504606846976) : LGood (outL q now) (n + 1) := by
  refine ⟨h.s0, h.l0, by unfold outL; simpa using h.ol, fun s hs => ?_, h.u0, by have := h.un; unfold outL; simp only; omega, h.nd⟩
  unfold outL at hs
  simp only [List.mem_map] at hs
  obtain ⟨t, ht, rfl⟩ := hs
  have h1 := h.lds t ht
  unfold outUpd
  split
  · exact ⟨⟨by simp only; omega, by simp only; omega⟩, hn, h1.2.2⟩
  · exact ⟨⟨h1.1.1, by omega⟩, h1.2⟩
theorem runK_len : ∀ (f : Nat) (u : Int) (l : List LD), u ≤ (runK f u l).1 ∧ (runK f u l).1 + ((runK f u l).2.1.length : Int) ≤ u + l.length ∧ (runK f u l).2.1.Sublist l
  | 0, u, l => ⟨Int.le_refl _, Int.le_refl _, List.Sublist.refl _⟩
  | f + 1, u, l => by
    unfold runK
    cases hf : l.find? (fun s => s.seq == u + 1) with
    | none => exact ⟨Int.le_refl _, Int.le_refl _, List.Sublist.refl _⟩
    | some s =>
      obtain ⟨i1, i2, i3⟩ := runK_len f (u + 1) (l.filter fun s => s.seq != u + 1)
      have hlt : (l.filter fun s => s.seq != u + 1).length < l.length := by
        rcases Nat.lt_or_ge (l.filter fun s => s.seq != u + 1).length l.length with h | h
        · exact h
        · have h1 := List.filter_sublist.eq_of_length_le h
          have h2 := List.filter_eq_self.1 h1 s (List.mem_of_find?_eq_some hf)
          have h3 := List.find?_some hf
          simp at h2 h3
          exact absurd h3 h2
      exact ⟨by simp only; omega, by simp only; omega, i3.trans List.filter_sublist⟩
theorem LGood.in_ {q : LK} {n : Nat} {sq ack : Int} {bs : List UInt8} (bv : Value) (h : LGood q n) : LGood (inLk q sq ack bs bv) (n + 1) := by
  have hs : ∀ s ∈ (ackd q ack).open_, s ∈ q.open_ := fun s hs => (List.mem_filter.1 hs).1
  have hk : 0 ≤ (inR (ackd q ack) sq bs bv).1 ∧ (inR (ackd q ack) sq bs bv).1 + ((inR (ackd q ack) sq bs bv).2.1.length : Int) ≤ (n : Int) + 1 ∧ ((inR (ackd q ack) sq bs bv).2.1.map LD.seq).Nodup := by
    have hun := h.un
    have hu0 := h.u0
    unfold inR
    split
    · rename_i ht
      obtain ⟨i1, i2, i3⟩ := runK_len ((ackd q ack).kept.length + 2) (ackd q ack).upto ((ackd q ack).kept ++ [⟨sq, 0, 0, bs, bv⟩])
      have e1 : (ackd q ack).upto = q.upto := rfl
      have e2 : (ackd q ack).kept = q.kept := rfl
      rw [e1, e2] at i1 i2 i3
      simp only [List.length_append, List.length_singleton] at i2
      rw [e1, e2]
      refine ⟨by omega, by omega, (i3.map LD.seq).nodup ?_⟩
      have hg := ht.2
      unfold gotTake at hg
      simp only [Bool.and_eq_true, Bool.not_eq_true'] at hg
      rw [List.map_append]
      refine List.nodup_append.2 ⟨h.nd, by simp, fun x hx y hy e => ?_⟩
      subst e
      obtain ⟨s, hs, rfl⟩ := List.mem_map.1 hx
      have h1 : s.seq = sq := by simpa using hy
      have := List.any_eq_false.1 hg.1.1 s hs
      simp [h1] at this
    · exact ⟨hu0, by simp only [ackd]; omega, h.nd⟩
  refine ⟨h.s0, h.l0, Nat.le_trans (List.length_filter_le _ _) h.ol, fun s hs' => ?_, hk.1, hk.2.1, hk.2.2⟩
  have := h.lds s (hs s hs')
  exact ⟨⟨this.1.1, by omega⟩, this.2⟩
theorem LGood.sim {q q' : LK} {n : Nat} (h : LGood q n) (hs : Sim q q') : LGood q' n := by
  refine ⟨hs.seq ▸ h.s0, hs.last ▸ h.l0, hs.olen ▸ h.ol, fun s hm => ?_, hs.upto ▸ h.u0, by rw [← hs.upto, ← hs.klen]; exact h.un, by rw [← map_seq hs.kp]; exact h.nd⟩
  have h1 : s.d ∈ q.open_.map LD.d := by rw [hs.op]; exact List.mem_map.2 ⟨s, hm, rfl⟩
  obtain ⟨t, ht, hd⟩ := List.mem_map.1 h1
  obtain ⟨e1, e2, e3, e4⟩ := LD.d_eq hd
  have := h.lds t ht
  rw [e2, e3, e4] at this
  exact this
end Go.Proofs.Ytacifjjhadjhfaa
