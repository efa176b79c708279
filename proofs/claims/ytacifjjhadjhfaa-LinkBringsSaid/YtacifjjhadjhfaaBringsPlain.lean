/- LinkBrings: what it says, plain. -/
import Derived.Test.YtacifjjhadjhfaaLinkX2
namespace Go.Proofs.Ytacifjjhadjhfaa
open Go.RowKit
abbrev BS := List UInt8
def inQ (q : LK) (sq ack : Int) (bs : BS) (bv : Value) : LK := { ackd q ack with upto := (inR (ackd q ack) sq bs bv).1, kept := (inR (ackd q ack) sq bs bv).2.1, owed := q.owed || decide (sq ≠ 0) }
def sentQ (q : LK) (bs : BS) (bv : Value) : LK := { q with seq := q.seq + 1, open_ := q.open_ ++ [⟨q.seq + 1, 0, 0, bs, bv⟩] }
/-- numbers in a short range are few -/
theorem few : ∀ (n : Nat) (u : Int) (l : List Int), l.Nodup → (∀ x ∈ l, u < x ∧ x ≤ u + n) → l.length ≤ n
  | 0, u, l, _, h => by
    cases l with
    | nil => simp
    | cons a l => have := h a (by simp); omega
  | n + 1, u, l, hn, h => by
    by_cases hm : u + (n + 1 : Nat) ∈ l
    · have h1 := few n u (l.erase (u + (n + 1 : Nat))) (hn.erase _) (fun x hx => by
        have h2 := (List.Nodup.mem_erase_iff hn).1 hx
        have h3 := h x h2.2
        have := h2.1
        omega)
      rw [List.length_erase_of_mem hm] at h1
      omega
    · have h1 := few n u l hn (fun x hx => by
        have h3 := h x hx
        have : x ≠ u + (n + 1 : Nat) := fun e => hm (e ▸ hx)
        omega)
      omega
structure Half (q q' : LK) (S T : List BS) (now : Int) : Prop where
  seq : q.seq = S.length
  upto : q'.upto = T.length
  pre : T = S.take T.length
  le : T.length ≤ S.length
  op : ∃ A : Nat, A ≤ T.length ∧ A + q.open_.length = S.length ∧ ∀ (j : Nat) (s : LD), q.open_[j]? = some s → s.seq = (A : Int) + 1 + j ∧ S[A + j]? = some s.bs ∧ 0 ≤ s.times ∧ s.times ≤ now ∧ 0 ≤ s.at_ ∧ s.at_ ≤ now
  ol : q.open_.length ≤ 8
  kept : ∀ s ∈ q'.kept, (T.length : Int) + 1 < s.seq ∧ s.seq ≤ S.length ∧ S[s.seq.toNat - 1]? = some s.bs
  nd : (q'.kept.map LD.seq).Nodup
  sl : ∀ b ∈ S, b.length ≤ 200
theorem Half.kl {q q' : LK} {S T : List BS} {now : Int} (h : Half q q' S T now) : q'.kept.length ≤ 8 := by
  obtain ⟨A, h1, h2, _⟩ := h.op
  have := few 8 T.length (q'.kept.map LD.seq) h.nd (fun x hx => by
    obtain ⟨s, hs, rfl⟩ := List.mem_map.1 hx
    have := h.kept s hs
    have := h.ol
    omega)
  simpa using this
theorem Half.later {q q' : LK} {S T : List BS} {now t : Int} (h : Half q q' S T now) (ht : now ≤ t) : Half q q' S T t := by
  refine { h with op := ?_ }
  obtain ⟨A, h1, h2, h3⟩ := h.op
  exact ⟨A, h1, h2, fun j s hs => by have := h3 j s hs; refine ⟨this.1, this.2.1, ?_, ?_, ?_, ?_⟩ <;> omega⟩
theorem get_app {S : List BS} {b x : BS} {n : Nat} (h : S[n]? = some x) : (S ++ [b])[n]? = some x := by
  have hn : n < S.length := by
    rcases Nat.lt_or_ge n S.length with h' | h'
    · exact h'
    · rw [List.getElem?_eq_none h'] at h; cases h
  rw [List.getElem?_append_left hn]; exact h
theorem Half.send {q q' : LK} {S T : List BS} {now : Int} (h : Half q q' S T now) (h0 : 0 ≤ now) {bs : BS} (bv : Value) (hl : q.open_.length < 8) (hb : bs.length ≤ 200) : Half (sentQ q bs bv) q' (S ++ [bs]) T now := by
  obtain ⟨A, h1, h2, h3⟩ := h.op
  have hle := h.le
  refine ⟨by have := h.seq; simp [sentQ]; omega, h.upto, ?_, by simp; omega, ⟨A, h1, by simp [sentQ]; omega, fun j s hs => ?_⟩, by simp [sentQ]; omega, fun s hs => ?_, h.nd, fun b hb' => ?_⟩
  · rw [List.take_append_of_le_length hle]
    exact h.pre
  · rcases Nat.lt_or_ge j q.open_.length with hj | hj
    · have : q.open_[j]? = some s := by
        simp only [sentQ] at hs
        rw [List.getElem?_append_left hj] at hs
        exact hs
      have h4 := h3 j s this
      exact ⟨h4.1, get_app h4.2.1, h4.2.2⟩
    · have hj2 : j = q.open_.length := by
        simp only [sentQ] at hs
        rw [List.getElem?_append_right hj] at hs
        rcases Nat.lt_or_ge (j - q.open_.length) 1 with h' | h'
        · omega
        · rw [List.getElem?_eq_none (by simpa using h')] at hs; cases hs
      subst hj2
      have : s = ⟨q.seq + 1, 0, 0, bs, bv⟩ := by
        simp only [sentQ] at hs
        rw [List.getElem?_append_right (Nat.le_refl _)] at hs
        simpa using hs.symm
      subst this
      have := h.seq
      refine ⟨by simp only; omega, ?_, by simp, by simp; omega, by simp, by simp; omega⟩
      rw [h2, List.getElem?_append_right (Nat.le_refl _)]
      simp
  · have h4 := h.kept s hs
    exact ⟨h4.1, by simp; omega, get_app h4.2.2⟩
  · rcases List.mem_append.1 hb' with h4 | h4
    · exact h.sl b h4
    · obtain rfl : b = bs := by simpa using h4
      exact hb
theorem Half.out {q q' : LK} {S T : List BS} {now : Int} (h : Half q q' S T now) (h0 : 0 ≤ now) : Half (outL q now) q' S T (now + 1) := by
  obtain ⟨A, h1, h2, h3⟩ := h.op
  refine ⟨h.seq, h.upto, h.pre, h.le, ⟨A, h1, by simp [outL]; omega, fun j s hs => ?_⟩, by have := h.ol; simp [outL]; omega, h.kept, h.nd, h.sl⟩
  simp only [outL, List.getElem?_map, Option.map_eq_some_iff] at hs
  obtain ⟨s0, hs0, rfl⟩ := hs
  have h4 := h3 j s0 hs0
  unfold outUpd
  split
  · exact ⟨h4.1, h4.2.1, by simp only; omega, by simp only; omega, by simp only; omega, by simp only; omega⟩
  · exact ⟨h4.1, h4.2.1, by omega, by omega, by omega, by omega⟩
theorem Half.out' {q q' : LK} {S T : List BS} {now : Int} (h : Half q q' S T now) (t : Int) : Half q (outL q' t) S T (now + 1) :=
  let h := h.later (t := now + 1) (by omega)
  ⟨h.seq, h.upto, h.pre, h.le, h.op, h.ol, h.kept, h.nd, h.sl⟩
/-- what is acknowledged is a beginning of what is open -/
theorem keepL_drop {q : LK} {A : Nat} {ack : Int} (h : ∀ (j : Nat) (s : LD), q.open_[j]? = some s → s.seq = (A : Int) + 1 + j) : keepL ack q.open_ = q.open_.drop (ack - A).toNat := by
  generalize q.open_ = l at *
  induction l generalizing A with
  | nil => simp [keepL]
  | cons s l ih =>
    have h0 := h 0 s rfl
    have ih2 := ih (A := A + 1) (fun j s hs => by have := h (j + 1) s (by simpa using hs); omega)
    by_cases hle : s.seq ≤ ack
    · have e1 : keepL ack (s :: l) = keepL ack l := by simp [keepL, ackB, hle]
      have e2 : (ack - A).toNat = (ack - ((A + 1 : Nat) : Int)).toNat + 1 := by omega
      rw [e1, ih2, e2]
      rfl
    · have e2 : (ack - A).toNat = 0 := by omega
      rw [e2, List.drop_zero]
      have e3 : (ack - ((A + 1 : Nat) : Int)).toNat = 0 := by omega
      rw [e3, List.drop_zero] at ih2
      have e1 : keepL ack (s :: l) = s :: keepL ack l := by simp [keepL, ackB, hle]
      rw [e1, ih2]
theorem Half.ack {q q' : LK} {S T : List BS} {now ack : Int} (h : Half q q' S T now) (ha : ack ≤ T.length) (sq : Int) (bs : BS) (bv : Value) : Half (inQ q sq ack bs bv) q' S T now := by
  obtain ⟨A, h1, h2, h3⟩ := h.op
  have hd := keepL_drop (ack := ack) (fun j s hs => (h3 j s hs).1)
  have ho : (inQ q sq ack bs bv).open_ = q.open_.drop (ack - A).toNat := hd
  have hol := h.ol
  have hle := h.le
  refine ⟨h.seq, h.upto, h.pre, h.le, ⟨A + (ack - A).toNat, by omega, by rw [ho, List.length_drop]; omega, fun j s hs => ?_⟩, by rw [ho, List.length_drop]; omega, h.kept, h.nd, h.sl⟩
  rw [ho, List.getElem?_drop] at hs
  have h4 := h3 _ s hs
  exact ⟨by rw [h4.1]; push_cast; omega, by rw [Nat.add_assoc]; exact h4.2.1, h4.2.2⟩
/-- what comes in -/
theorem Half.get {q q' : LK} {S T : List BS} {now : Int} {sq ack : Int} {bs : BS} (bv : Value) (h : Half q q' S T now) (hs0 : 0 ≤ sq) (hs1 : sq ≤ S.length) (hsb : sq ≠ 0 → S[sq.toNat - 1]? = some bs) :
    Half q (inQ q' sq ack bs bv) S (T ++ (inR (ackd q' ack) sq bs bv).2.2.map LD.bs) now ∧ (sq ≠ 0 → sq ≤ q'.upto + 1 → sq ≤ (inQ q' sq ack bs bv).upto) ∧ q'.upto ≤ (inQ q' sq ack bs bv).upto := by
  have e1 : (ackd q' ack).kept = q'.kept := rfl
  have e2 : (ackd q' ack).upto = q'.upto := rfl
  have hu := h.upto
  by_cases ht : sq ≠ 0 ∧ gotTake (ackd q' ack) sq = true
  · have hr : inR (ackd q' ack) sq bs bv = runK (q'.kept.length + 2) q'.upto (q'.kept ++ [⟨sq, 0, 0, bs, bv⟩]) := by
      unfold inR
      rw [if_pos ht, e1, e2]
    have ht' : (∀ s ∈ q'.kept, s.seq ≠ sq) ∧ q'.upto < sq := by
      have ht := ht.2
      unfold gotTake at ht
      rw [e1, e2] at ht
      simp at ht
      exact ⟨ht.1.1, ht.1.2⟩
    obtain ⟨ks, hks⟩ : ∃ l, l = q'.kept ++ [(⟨sq, 0, 0, bs, bv⟩ : LD)] := ⟨_, rfl⟩
    have hmem : ∀ s, s ∈ ks ↔ s ∈ q'.kept ∨ s = ⟨sq, 0, 0, bs, bv⟩ := fun s => by rw [hks]; simp
    have hb : ∀ s ∈ ks, q'.upto < s.seq ∧ s.seq ≤ S.length ∧ S[s.seq.toNat - 1]? = some s.bs := fun s hs => by
      rcases (hmem s).1 hs with h1 | rfl
      · have := h.kept s h1
        exact ⟨by omega, this.2⟩
      · exact ⟨ht'.2, hs1, hsb ht.1⟩
    have hnd : (ks.map LD.seq).Nodup := by
      rw [hks, List.map_append, List.nodup_append]
      refine ⟨h.nd, by simp, fun a ha b hb => ?_⟩
      obtain ⟨s, hs, rfl⟩ := List.mem_map.1 ha
      have : b = sq := by simpa using hb
      subst this
      exact ht'.1 s hs
    obtain ⟨i1, i2, i3, i4, i5, i6, i7, i8⟩ := runK_plain (q'.kept.length + 2) q'.upto ks hnd (fun s hs => (hb s hs).1)
    have hl : ks.length = q'.kept.length + 1 := by rw [hks]; simp
    have hU : (inQ q' sq ack bs bv).upto = (runK (q'.kept.length + 2) q'.upto ks).1 := by unfold inQ; rw [hr, ← hks]
    have hK : (inQ q' sq ack bs bv).kept = (runK (q'.kept.length + 2) q'.upto ks).2.1 := by unfold inQ; rw [hr, ← hks]
    rw [hr, ← hks]
    obtain ⟨r, hr'⟩ : ∃ r, r = runK (q'.kept.length + 2) q'.upto ks := ⟨_, rfl⟩
    rw [← hr'] at i1 i2 i3 i4 i5 i6 i7 i8 hU hK ⊢
    have i6 := i6 (by omega)
    have hSlen : ∀ (j : Nat) (s : LD), r.2.2[j]? = some s → S[T.length + j]? = some s.bs := fun j s hs => by
      have h4 := i2 j s hs
      have h5 := hb s h4.2
      rw [← h5.2.2]
      congr 1
      omega
    have hTl : T.length + r.2.2.length ≤ S.length := by
      rcases Nat.eq_zero_or_pos r.2.2.length with h0 | h0
      · have := h.le; omega
      · have h4 := hSlen (r.2.2.length - 1) _ (List.getElem?_eq_getElem (by omega))
        rcases Nat.lt_or_ge (T.length + (r.2.2.length - 1)) S.length with h' | h'
        · omega
        · rw [List.getElem?_eq_none h'] at h4; cases h4
    refine ⟨⟨h.seq, by rw [hU, i1, hu]; simp, ?_, by simpa using hTl, ?_, h.ol, fun s hs => ?_, by rw [hK]; exact i8, h.sl⟩, fun _ hle => ?_, by rw [hU, i1]; omega⟩
    · apply List.ext_getElem?
      intro n
      rw [List.length_append, List.length_map]
      rcases Nat.lt_or_ge n T.length with hn | hn
      · rw [List.getElem?_append_left hn, List.getElem?_take_of_lt (by omega)]
        have h9 : T[n]? = (S.take T.length)[n]? := by rw [← h.pre]
        rw [h9, List.getElem?_take_of_lt hn]
      · rw [List.getElem?_append_right hn, List.getElem?_map]
        rcases Nat.lt_or_ge (n - T.length) r.2.2.length with h' | h'
        · rw [List.getElem?_take_of_lt (by omega)]
          have h4 := hSlen (n - T.length) _ (List.getElem?_eq_getElem h')
          rw [List.getElem?_eq_getElem h', Option.map_some, ← h4]
          congr 1
          omega
        · rw [List.getElem?_eq_none h', List.getElem?_eq_none (by rw [List.length_take]; omega)]
          rfl
    · obtain ⟨A, h1, h2, h3⟩ := h.op
      exact ⟨A, by simp; omega, h2, h3⟩
    · rw [hK] at hs
      have h4 := i3 s hs
      have h5 := hb s h4.1
      have h6 := i6 s hs
      refine ⟨?_, h5.2⟩
      rw [List.length_append, List.length_map]
      push_cast
      omega
    · rcases Int.lt_or_le r.1 sq with h' | h'
      · have h7 := i4 ⟨sq, 0, 0, bs, bv⟩ ((hmem _).2 (Or.inr rfl)) h'
        have h8 : sq ≠ r.1 + 1 := i6 _ h7
        omega
      · rw [hU]; exact h'
  · have hr : inR (ackd q' ack) sq bs bv = (q'.upto, q'.kept, []) := by
      unfold inR
      rw [if_neg ht]
      rfl
    have hU : (inQ q' sq ack bs bv).upto = q'.upto := by unfold inQ; rw [hr]
    have hK : (inQ q' sq ack bs bv).kept = q'.kept := by unfold inQ; rw [hr]
    rw [hr, List.map_nil, List.append_nil]
    refine ⟨⟨h.seq, by rw [hU]; exact h.upto, h.pre, h.le, h.op, h.ol, by rw [hK]; exact h.kept, by rw [hK]; exact h.nd, h.sl⟩, fun h0 hle => ?_, by rw [hU]; exact Int.le_refl _⟩
    rw [hU]
    rcases Int.lt_or_le q'.upto sq with h' | h'
    · exfalso
      refine ht ⟨h0, ?_⟩
      unfold gotTake
      rw [e1, e2]
      simp only [Bool.and_eq_true, decide_eq_true_eq, Bool.not_eq_true', List.any_eq_false, beq_iff_eq]
      refine ⟨⟨fun s hs => ?_, h'⟩, by omega⟩
      have := h.kept s hs
      omega
    · exact h'
/-! ### frames on the way -/
structure FrOk (f : FD) (fr to : Int) (S : List BS) (ua : Nat) : Prop where
  fr : f.1 = fr
  to : f.2.1 = to
  life : f.2.2.1 = 1
  s0 : 0 ≤ f.2.2.2.1
  s1 : f.2.2.2.1 ≤ S.length
  sb : f.2.2.2.1 ≠ 0 → S[f.2.2.2.1.toNat - 1]? = some f.2.2.2.2.2
  bl : f.2.2.2.2.2.length ≤ 200
  ack : f.2.2.2.2.1 ≤ ua
theorem FrOk.more {f : FD} {fr to : Int} {S : List BS} {ua ub : Nat} (h : FrOk f fr to S ua) (b : List BS) (hu : ua ≤ ub) : FrOk f fr to (S ++ b) ub := by
  refine ⟨h.fr, h.to, h.life, h.s0, by have := h.s1; simp; omega, fun hz => ?_, h.bl, by have := h.ack; omega⟩
  have h1 := h.s1
  have h0 := h.s0
  rw [List.getElem?_append_left (by omega)]
  exact h.sb hz
structure IdL (q : LK) (x y : Int) : Prop where
  self : q.self = x
  peer : q.peer = y
  life : q.life = 1
  theirs : q.theirs = 1
  last : q.last = 100000
structure Pr (x y : Int) (a b : LK) (way : List FD) (now : Int) (t0 t1 s0 s1 : List BS) : Prop where
  ia : IdL a x y
  ib : IdL b y x
  n0 : 0 ≤ now
  ab : Half a b s1 t1 now
  ba : Half b a s0 t0 now
  way : ∀ f ∈ way, FrOk f x y s1 t0.length ∨ FrOk f y x s0 t1.length
section
variable {x y : Int} {a b : LK} {way : List FD} {now : Int} {t0 t1 s0 s1 : List BS}
theorem Pr.swap (h : Pr x y a b way now t0 t1 s0 s1) : Pr y x b a way now t1 t0 s1 s0 :=
  ⟨h.ib, h.ia, h.n0, h.ba, h.ab, fun f hf => (h.way f hf).symm⟩
theorem Pr.sub {way' : List FD} (h : Pr x y a b way now t0 t1 s0 s1) (hs : ∀ f ∈ way', f ∈ way) : Pr x y a b way' now t0 t1 s0 s1 :=
  { h with way := fun f hf => h.way f (hs f hf) }
theorem Pr.send (h : Pr x y a b way now t0 t1 s0 s1) {bs : BS} (bv : Value) (hl : a.open_.length < 8) (hb : bs.length ≤ 200) : Pr x y (sentQ a bs bv) b way now t0 t1 s0 (s1 ++ [bs]) :=
  ⟨⟨h.ia.self, h.ia.peer, h.ia.life, h.ia.theirs, h.ia.last⟩, h.ib, h.n0, h.ab.send h.n0 bv hl hb, ⟨h.ba.seq, h.ba.upto, h.ba.pre, h.ba.le, h.ba.op, h.ba.ol, h.ba.kept, h.ba.nd, h.ba.sl⟩,
   fun f hf => (h.way f hf).imp (fun g => g.more _ (Nat.le_refl _)) id⟩
theorem Pr.frs (h : Pr x y a b way now t0 t1 s0 s1) (t : Int) : ∀ f ∈ outF a t, FrOk f x y s1 t0.length := by
  intro f hf
  have hu := h.ba.upto
  have hD : ∀ f ∈ outD a t a.open_, FrOk f x y s1 t0.length := fun f hf => by
    unfold outD at hf
    obtain ⟨s, hs, rfl⟩ := List.mem_map.1 hf
    have hs := (List.mem_filter.1 hs).1
    obtain ⟨j, hj, hjs⟩ := List.mem_iff_getElem.1 hs
    obtain ⟨A, h1, h2, h3⟩ := h.ab.op
    have h4 := h3 j s (by rw [List.getElem?_eq_getElem hj, hjs])
    refine ⟨h.ia.self, h.ia.peer, h.ia.life, by simp only; omega, by simp only; omega, fun _ => ?_, h.ab.sl _ (List.mem_of_getElem? h4.2.1), by simp only; omega⟩
    rw [← h4.2.1]
    simp only
    congr 1
    omega
  unfold outF at hf
  split at hf
  · obtain rfl : f = (a.self, a.peer, a.life, 0, a.upto, []) := by simpa using hf
    exact ⟨h.ia.self, h.ia.peer, h.ia.life, by simp, by simp, fun hz => absurd rfl hz, by simp, by simp only; omega⟩
  · exact hD f hf
theorem Pr.out (h : Pr x y a b way now t0 t1 s0 s1) : Pr x y (outL a now) b (way ++ outF a now) (now + 1) t0 t1 s0 s1 :=
  ⟨⟨h.ia.self, h.ia.peer, h.ia.life, h.ia.theirs, h.ia.last⟩, h.ib, by have := h.n0; omega, h.ab.out h.n0, h.ba.out' now, fun f hf => by
    rcases List.mem_append.1 hf with hf | hf
    · exact h.way f hf
    · exact Or.inl (h.frs now f hf)⟩
theorem Pr.inOk (h : Pr x y a b way now t0 t1 s0 s1) (hxy : x ≠ y) {f : FD} (hf : f ∈ way) (ht : f.2.1 = x) : FrOk f y x s0 t1.length ∧ Go.Proofs.Ytacifjjhadjhfaa.inOk a f.1 f.2.1 f.2.2.1 f.2.2.2.1 f.2.2.2.2.1 f.2.2.2.2.2 = true := by
  have h1 : FrOk f y x s0 t1.length := by
    rcases h.way f hf with h1 | h1
    · exact absurd (ht.symm.trans h1.to) hxy
    · exact h1
  have e1 := h1.ack
  have e2 := h.ab.le
  have e3 := h.ab.seq
  have e4 := h1.bl
  refine ⟨h1, ?_⟩
  unfold Go.Proofs.Ytacifjjhadjhfaa.inOk
  rw [h1.fr, h1.to, h1.life, h.ia.peer, h.ia.self, h.ia.theirs]
  simp
  exact ⟨⟨by omega, h1.s0⟩, by omega⟩
theorem Pr.in_ (h : Pr x y a b way now t0 t1 s0 s1) {f : FD} (hf : FrOk f y x s0 t1.length) (bv : Value) :
    Pr x y (inQ a f.2.2.2.1 f.2.2.2.2.1 f.2.2.2.2.2 bv) b way now (t0 ++ (inR (ackd a f.2.2.2.2.1) f.2.2.2.1 f.2.2.2.2.2 bv).2.2.map LD.bs) t1 s0 s1 := by
  have h1 := h.ba.get (ack := f.2.2.2.2.1) bv hf.s0 hf.s1 hf.sb
  have h2 := h.ab.ack (ack := f.2.2.2.2.1) hf.ack f.2.2.2.1 f.2.2.2.2.2 bv
  refine ⟨⟨h.ia.self, h.ia.peer, h.ia.life, h.ia.theirs, h.ia.last⟩, h.ib, h.n0, ⟨h2.seq, h2.upto, h2.pre, h2.le, h2.op, h2.ol, h2.kept, h2.nd, h2.sl⟩, ⟨h1.1.seq, h1.1.upto, h1.1.pre, h1.1.le, h1.1.op, h1.1.ol, h1.1.kept, h1.1.nd, h1.1.sl⟩, fun g hg => ?_⟩
  rcases h.way g hg with h3 | h3
  · have := h3.more [] (ub := (t0 ++ (inR (ackd a f.2.2.2.2.1) f.2.2.2.1 f.2.2.2.2.2 bv).2.2.map LD.bs).length) (by simp)
    rw [List.append_nil] at this
    exact Or.inl this
  · exact Or.inr h3
theorem Pr.okL (h : Pr x y a b way now t0 t1 s0 s1) (hn : now ≤ 10000) : OkL a := by
  obtain ⟨A, h1, h2, h3⟩ := h.ab.op
  refine ⟨by have := h.ab.seq; omega, by rw [h.ia.last]; omega, by have := h.ab.ol; omega, fun s hs => ?_⟩
  obtain ⟨j, hj, hjs⟩ := List.mem_iff_getElem.1 hs
  have h4 := h3 j s (by rw [List.getElem?_eq_getElem hj, hjs])
  have := h.ab.sl _ (List.mem_of_getElem? h4.2.1)
  exact ⟨by omega, by omega, by omega⟩
theorem Pr.outLen (h : Pr x y a b way now t0 t1 s0 s1) (t : Int) : (outF a t).length ≤ 8 := by
  have := h.ab.ol
  have h2 : (outD a t a.open_).length ≤ a.open_.length := by
    unfold outD
    rw [List.length_map]
    exact List.length_filter_le _ _
  unfold outF
  split
  · simp
  · omega
end
/-! ### it comes through -/
def DueBy (s : LD) (t : Int) : Prop := s.times = 0 ∨ waitL s.times ≤ t - s.at_
theorem wait_64 (t : Int) : waitL t ≤ 64 := by unfold waitL; repeat' split
                                               all_goals omega
/-- how soon the first open load of q is acknowledged -/
def Will (q q' : LK) (x y : Int) (way : List FD) (t : Int) (m1 m2 m : Nat) : Prop :=
  q.open_ = [] ∨ ∃ s rest, q.open_ = s :: rest ∧ (
    (34 * rest.length + 1 ≤ m1 ∧ s.seq ≤ q'.upto ∧ q'.owed = true) ∨
    (∃ D : Nat, 34 * rest.length + 2 + D ≤ m2 ∧ DueBy s (t + 2 * D)) ∨
    (34 * rest.length ≤ m ∧ ∃ f ∈ way, f.2.1 = x ∧ s.seq ≤ f.2.2.2.2.1) ∨
    (34 * rest.length + 1 ≤ m ∧ ∃ f ∈ way, f.2.1 = y ∧ f.2.2.2.1 = s.seq))
section
variable {x y : Int} {q q' : LK} {way : List FD} {t : Int} {m1 m2 m : Nat} {S T : List BS}
theorem Will.start (h : Half q q' S T t) (hm : 34 * q.open_.length ≤ m) : Will q q' x y way t m1 m m2 := by
  unfold Will
  cases ho : q.open_ with
  | nil => exact Or.inl rfl
  | cons s rest =>
    refine Or.inr ⟨s, rest, rfl, Or.inr (Or.inl ⟨32, ?_, Or.inr ?_⟩)⟩
    · rw [ho, List.length_cons] at hm; omega
    · obtain ⟨A, h1, h2, h3⟩ := h.op
      have h4 := h3 0 s (by rw [ho]; rfl)
      have := wait_64 s.times
      omega
theorem Will.none (h : Will q q' x y [] t 0 0 0) : q.open_ = [] := by
  rcases h with h | ⟨s, rest, ho, h | ⟨D, h, _⟩ | ⟨_, f, hf, _⟩ | ⟨_, f, hf, _⟩⟩
  · exact h
  · omega
  · omega
  · cases hf
  · cases hf
theorem Will.sendOut {M : Nat} {n : Int} (h : Will q q' x y way n m1 M (M - 1)) (hh : Half q q' S T n) (hn : n ≤ t) (hp : q.peer = y) : Will (outL q t) q' x y (way ++ outF q t) (n + 2) m1 (M - 1) (M - 1) := by
  rcases h with h | ⟨s, rest, ho, h⟩
  · exact Or.inl (by simp [outL, h])
  · have hs : (outUpd t s).seq = s.seq := by unfold outUpd; split <;> rfl
    refine Or.inr ⟨outUpd t s, rest.map (outUpd t), by simp [outL, ho], ?_⟩
    rw [List.length_map, hs]
    rcases h with h | ⟨D, h, hd⟩ | ⟨h, f, hf, h2⟩ | ⟨h, f, hf, h2⟩
    · exact Or.inl h
    · cases hdue : dueL s t with
      | true =>
        refine Or.inr (Or.inr (Or.inr ⟨by omega, (q.self, q.peer, q.life, s.seq, q.upto, s.bs), ?_, hp, rfl⟩))
        refine List.mem_append_right _ ?_
        have hm : (q.self, q.peer, q.life, s.seq, q.upto, s.bs) ∈ outD q t q.open_ := by
          unfold outD
          exact List.mem_map.2 ⟨s, List.mem_filter.2 ⟨by rw [ho]; simp, hdue⟩, rfl⟩
        unfold outF
        rw [if_neg (by
          intro hc
          rw [Bool.and_eq_true, List.isEmpty_iff] at hc
          rw [hc.1] at hm
          cases hm)]
        exact hm
      | false =>
        have hu : outUpd t s = s := by unfold outUpd; rw [hdue]; rfl
        rw [hu]
        obtain ⟨A, h1, h2, h3⟩ := hh.op
        have h4 := h3 0 s (by rw [ho]; rfl)
        have hnd : ¬ (s.times = 0 ∨ (s.at_ ≤ t ∧ waitL s.times ≤ t - s.at_)) := of_decide_eq_false hdue
        have hD : 1 ≤ D := by
          rcases Nat.eq_zero_or_pos D with h0 | h0
          · subst h0
            exfalso
            refine hnd ?_
            rcases hd with hd | hd
            · exact Or.inl hd
            · exact Or.inr ⟨by omega, by omega⟩
          · exact h0
        refine Or.inr (Or.inl ⟨D - 1, by omega, ?_⟩)
        rcases hd with hd | hd
        · exact Or.inl hd
        · exact Or.inr (by omega)
    · exact Or.inr (Or.inr (Or.inl ⟨h, f, List.mem_append_left _ hf, h2⟩))
    · exact Or.inr (Or.inr (Or.inr ⟨h, f, List.mem_append_left _ hf, h2⟩))
theorem Will.getOut {M : Nat} {n : Int} (h : Will q q' x y way n M m2 (M - 1)) (hp : q'.peer = x) : Will q (outL q' t) x y (way ++ outF q' t) n 0 m2 (M - 1) := by
  rcases h with h | ⟨s, rest, ho, h⟩
  · exact Or.inl h
  · refine Or.inr ⟨s, rest, ho, ?_⟩
    rcases h with h | ⟨D, h, hd⟩ | ⟨h, f, hf, h2⟩ | ⟨h, f, hf, h2⟩
    · have : ∃ f ∈ outF q' t, f.2.1 = x ∧ s.seq ≤ f.2.2.2.2.1 := by
        unfold outF
        cases he : (outD q' t q'.open_).isEmpty with
        | true =>
          rw [h.2.2]
          exact ⟨(q'.self, q'.peer, q'.life, 0, q'.upto, []), by simp, hp, h.2.1⟩
        | false =>
          rw [if_neg (by simp)]
          cases hd : outD q' t q'.open_ with
          | nil => rw [hd] at he; cases he
          | cons f l =>
            refine ⟨f, by simp, ?_⟩
            have hm : f ∈ outD q' t q'.open_ := by rw [hd]; simp
            unfold outD at hm
            obtain ⟨s2, _, rfl⟩ := List.mem_map.1 hm
            exact ⟨hp, h.2.1⟩
      obtain ⟨f, hf, h2⟩ := this
      exact Or.inr (Or.inr (Or.inl ⟨by omega, f, List.mem_append_right _ hf, h2⟩))
    · exact Or.inr (Or.inl ⟨D, h, hd⟩)
    · exact Or.inr (Or.inr (Or.inl ⟨h, f, List.mem_append_left _ hf, h2⟩))
    · exact Or.inr (Or.inr (Or.inr ⟨h, f, List.mem_append_left _ hf, h2⟩))
theorem Will.weak {m1' m2' m' : Nat} (h : Will q q' x y way t m1 m2 m) (h1 : m1 ≤ m1') (h2 : m2 ≤ m2') (h3 : m ≤ m') : Will q q' x y way t m1' m2' m' := by
  rcases h with h | ⟨s, rest, ho, h⟩
  · exact Or.inl h
  · refine Or.inr ⟨s, rest, ho, ?_⟩
    rcases h with h | ⟨D, h, hd⟩ | ⟨h, f, hf, h2⟩ | ⟨h, f, hf, h2⟩
    · exact Or.inl ⟨by omega, h.2⟩
    · exact Or.inr (Or.inl ⟨D, by omega, hd⟩)
    · exact Or.inr (Or.inr (Or.inl ⟨by omega, f, hf, h2⟩))
    · exact Or.inr (Or.inr (Or.inr ⟨by omega, f, hf, h2⟩))
/-- a frame comes in where loads come in -/
theorem Will.get {f : FD} {now : Int} (h : Will q q' x y (f :: way) t m m m) (hh : Half q q' S T now) (hf : FrOk f x y S m1) (hxy : x ≠ y) (bv : Value) : Will q (inQ q' f.2.2.2.1 f.2.2.2.2.1 f.2.2.2.2.2 bv) x y way t m m m := by
  have h1 := hh.get (ack := f.2.2.2.2.1) bv hf.s0 hf.s1 hf.sb
  rcases h with h | ⟨s, rest, ho, h⟩
  · exact Or.inl h
  · refine Or.inr ⟨s, rest, ho, ?_⟩
    rcases h with h | ⟨D, h, hd⟩ | ⟨h, g, hg, h2⟩ | ⟨h, g, hg, h2⟩
    · exact Or.inl ⟨h.1, by have := h1.2.2; omega, by simp [inQ, h.2.2]⟩
    · exact Or.inr (Or.inl ⟨D, h, hd⟩)
    · rcases List.mem_cons.1 hg with rfl | hg
      · exact absurd (h2.1.symm.trans hf.to) hxy
      · exact Or.inr (Or.inr (Or.inl ⟨h, g, hg, h2⟩))
    · rcases List.mem_cons.1 hg with rfl | hg
      · obtain ⟨A, h5, h6, h3⟩ := hh.op
        have h4 := h3 0 s (by rw [ho]; rfl)
        have hu := hh.upto
        have hz : g.2.2.2.1 ≠ 0 := by omega
        refine Or.inl ⟨h, ?_, by simp [inQ, hz]⟩
        have := h1.2.1 hz (by omega)
        omega
      · exact Or.inr (Or.inr (Or.inr ⟨h, g, hg, h2⟩))
/-- .. where loads are sent -/
theorem Will.ack {f : FD} (h : Will q q' x y (f :: way) t m m m) (hh : Half q q' S T t) {S' : List BS} (hf : FrOk f y x S' T.length) (hxy : x ≠ y) (bv : Value) : Will (inQ q f.2.2.2.1 f.2.2.2.2.1 f.2.2.2.2.2 bv) q' x y way t m m m := by
  obtain ⟨A, h5, h6, h3⟩ := hh.op
  have ho' : (inQ q f.2.2.2.1 f.2.2.2.2.1 f.2.2.2.2.2 bv).open_ = q.open_.drop (f.2.2.2.2.1 - A).toNat := keepL_drop (ack := f.2.2.2.2.1) (fun j s hs => (h3 j s hs).1)
  rcases h with h | ⟨s, rest, ho, h⟩
  · exact Or.inl (by rw [ho', h]; simp)
  · have h4 := h3 0 s (by rw [ho]; rfl)
    by_cases hle : s.seq ≤ f.2.2.2.2.1
    · refine Will.start (S := S) (T := T) (q := inQ q f.2.2.2.1 f.2.2.2.2.1 f.2.2.2.2.2 bv) ?_ ?_
      · exact hh.ack hf.ack _ _ _
      · rw [ho', ho]
        have e : (f.2.2.2.2.1 - A).toNat = (f.2.2.2.2.1 - A - 1).toNat + 1 := by omega
        rw [e, List.drop_succ_cons, List.length_drop]
        rcases h with h | ⟨D, h, hd⟩ | ⟨h, g, hg, h2⟩ | ⟨h, g, hg, h2⟩ <;> omega
    · have e : (f.2.2.2.2.1 - A).toNat = 0 := by omega
      rw [e, List.drop_zero] at ho'
      refine Or.inr ⟨s, rest, by rw [ho']; exact ho, ?_⟩
      rcases h with h | ⟨D, h, hd⟩ | ⟨h, g, hg, h2⟩ | ⟨h, g, hg, h2⟩
      · exact Or.inl h
      · exact Or.inr (Or.inl ⟨D, h, hd⟩)
      · rcases List.mem_cons.1 hg with rfl | hg
        · exact absurd h2.2 hle
        · exact Or.inr (Or.inr (Or.inl ⟨h, g, hg, h2⟩))
      · rcases List.mem_cons.1 hg with rfl | hg
        · exact absurd (hf.to.symm.trans h2.1) hxy
        · exact Or.inr (Or.inr (Or.inr ⟨h, g, hg, h2⟩))
end
end Go.Proofs.Ytacifjjhadjhfaa
