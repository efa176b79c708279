/- LinkBrings: a turn of the net, whichever it is. -/
import Derived.Test.YtacifjjhadjhfaaBringsTurn
namespace Go.Proofs.Ytacifjjhadjhfaa
open Go.RowKit
def bsl (os : List BV) : List BS := os.map BV.bs
/-- where the law stands: the pair, what holds of it -/
structure PrAt (X : List Nat) (w0 w : World) (g pa pb : Nat) (vw : Value) (u : Nat → Value) (a b : LK) (fs : List FR) (now : Int) (o : Nat → List BV) (m : Nat) : Prop where
  p : PairIn X w0 w g pa pb vw u a b fs now o
  r : Pr 0 1 a b (fs.map frd) now (bsl (o 0)) (bsl (o 1)) (bsl (o 2)) (bsl (o 3))
  m2 : (o 2).length ≤ m
  m3 : (o 3).length ≤ m
theorem bsl_len (os : List BV) : (bsl os).length = os.length := by unfold bsl; rw [List.length_map]
def Tn (w0 : World) (g pa pb : Nat) (fs : List FR) (now : Int) (m : Nat) (e : Ending) (w' : World) : Prop :=
  e = .returned (.bool true) ∧ ∃ X' vw' u' a' b' fs' now' o', PrAt X' w0 w' g pa pb vw' u' a' b' fs' now' o' (m + 1) ∧ now' ≤ now + 1 ∧ fs'.length ≤ fs.length + 8
section
variable {X : List Nat} {w0 w : World} {g pa pb : Nat} {vw : Value} {u : Nat → Value} {a b : LK} {fs : List FR} {now : Int} {o : Nat → List BV} {m : Nat}
theorem PrAt.t0 (h : PrAt X w0 w g pa pb vw u a b fs now o m) : (o 0).length ≤ m := by have := h.r.ba.le; rw [bsl_len, bsl_len] at this; have := h.m2; omega
theorem PrAt.t1 (h : PrAt X w0 w g pa pb vw u a b fs now o m) : (o 1).length ≤ m := by have := h.r.ab.le; rw [bsl_len, bsl_len] at this; have := h.m3; omega
theorem bsl_get {os : List BV} {L : List LD} (h : os.map BV.bs = L.map LD.bs) (l : List BV) : bsl (l ++ os) = bsl l ++ L.map LD.bs := by unfold bsl; rw [List.map_append, h]
/-- the frame that comes in to a -/
theorem PrAt.in0 (h : PrAt X w0 w g pa pb vw u a b fs now o m) (hm : m ≤ 1000) {s : FR} (hs : s ∈ fs) (hto : s.to = 0) :
    FrOk (frd s) 1 0 (bsl (o 2)) (bsl (o 1)).length ∧ (0 ≤ a.upto ∧ a.upto ≤ 1000000000) ∧ s.seq ≤ 9223372036854775807 ∧ a.kept.length ≤ 1000 ∧ a.open_.length ≤ 1000 ∧ inOk a s.fr s.to s.life s.seq s.ack s.bs = true ∧ (o 0).length ≤ 200000 ∧ ∀ bv, (inR (ackd a s.ack) s.seq s.bs bv).2.2.length ≤ 1000 := by
  have hi := h.r.inOk (by decide) (List.mem_map.2 ⟨s, hs, rfl⟩) hto
  have h1 := h.r.ba.upto
  have h2 := h.t0
  have h3 := h.r.ba.kl
  have h4 := h.r.ab.ol
  have h5 := hi.1.s1
  have h6 := h.m2
  rw [bsl_len] at h1 h5
  have h5' : s.seq ≤ (o 2).length := h5
  refine ⟨hi.1, by omega, by omega, by omega, by omega, hi.2, by omega, fun bv => ?_⟩
  have hg := (h.r.ba.get (ack := s.ack) (bs := s.bs) bv hi.1.s0 hi.1.s1 hi.1.sb).1.le
  rw [List.length_append, List.length_map, bsl_len (o 2)] at hg
  have hg2 : (inR (ackd a s.ack) s.seq s.bs bv).2.2.length ≤ (o 2).length := by
    have e9 : (inR (ackd a s.ack) s.seq s.bs bv).2.2.length = (inR (ackd a s.ack) (frd s).2.2.2.1 s.bs bv).2.2.length := rfl
    omega
  omega
theorem PrAt.in1 (h : PrAt X w0 w g pa pb vw u a b fs now o m) (hm : m ≤ 1000) {s : FR} (hs : s ∈ fs) (hto : s.to ≠ 0) :
    FrOk (frd s) 0 1 (bsl (o 3)) (bsl (o 0)).length ∧ (0 ≤ b.upto ∧ b.upto ≤ 1000000000) ∧ s.seq ≤ 9223372036854775807 ∧ b.kept.length ≤ 1000 ∧ b.open_.length ≤ 1000 ∧ inOk b s.fr s.to s.life s.seq s.ack s.bs = true ∧ (o 1).length ≤ 200000 ∧ ∀ bv, (inR (ackd b s.ack) s.seq s.bs bv).2.2.length ≤ 1000 := by
  have ht1 : s.to = 1 := by
    rcases h.r.way (frd s) (List.mem_map.2 ⟨s, hs, rfl⟩) with h9 | h9
    · exact h9.to
    · exact absurd h9.to hto
  have hi := h.r.swap.inOk (by decide) (List.mem_map.2 ⟨s, hs, rfl⟩) ht1
  have h1 := h.r.ab.upto
  have h2 := h.t1
  have h3 := h.r.ab.kl
  have h4 := h.r.ba.ol
  have h5 := hi.1.s1
  have h6 := h.m3
  rw [bsl_len] at h1 h5
  have h5' : s.seq ≤ (o 3).length := h5
  refine ⟨hi.1, by omega, by omega, by omega, by omega, hi.2, by omega, fun bv => ?_⟩
  have hg := (h.r.ab.get (ack := s.ack) (bs := s.bs) bv hi.1.s0 hi.1.s1 hi.1.sb).1.le
  rw [List.length_append, List.length_map, bsl_len (o 3)] at hg
  have hg2 : (inR (ackd b s.ack) s.seq s.bs bv).2.2.length ≤ (o 3).length := by
    have e9 : (inR (ackd b s.ack) s.seq s.bs bv).2.2.length = (inR (ackd b s.ack) (frd s).2.2.2.1 s.bs bv).2.2.length := rfl
    omega
  omega
/-- In at a's side, at b's -/
theorem PrAt.got0 {X' : List Nat} {w' : World} {vw' : Value} {u' : Nat → Value} {s : FR} {j : Nat} {os : List BV} {bv : Value} (h : PrAt X w0 w g pa pb vw u a b fs now o m) (hs : fs[j]? = some s) (hf : FrOk (frd s) 1 0 (bsl (o 2)) (bsl (o 1)).length)
    (ho : os.map BV.bs = (inR (ackd a s.ack) s.seq s.bs bv).2.2.map LD.bs) (hp : PairIn X' w0 w' g pa pb vw' u' (inQ a s.seq s.ack s.bs bv) b (fs.eraseIdx j) now (fun i => if i = 0 then o 0 ++ os else o i)) :
    PrAt X' w0 w' g pa pb vw' u' (inQ a s.seq s.ack s.bs bv) b (fs.eraseIdx j) now (fun i => if i = 0 then o 0 ++ os else o i) m := by
  have h1 := h.r.in_ hf bv
  refine ⟨hp, ?_, h.m2, h.m3⟩
  show Pr 0 1 _ b _ now (bsl (o 0 ++ os)) (bsl (o 1)) (bsl (o 2)) (bsl (o 3))
  rw [bsl_get ho]
  exact h1.sub (fun f hf => by
    obtain ⟨t, ht, rfl⟩ := List.mem_map.1 hf
    exact List.mem_map.2 ⟨t, List.mem_of_mem_eraseIdx ht, rfl⟩)
theorem PrAt.got1 {X' : List Nat} {w' : World} {vw' : Value} {u' : Nat → Value} {s : FR} {j : Nat} {os : List BV} {bv : Value} (h : PrAt X w0 w g pa pb vw u a b fs now o m) (hs : fs[j]? = some s) (hf : FrOk (frd s) 0 1 (bsl (o 3)) (bsl (o 0)).length)
    (ho : os.map BV.bs = (inR (ackd b s.ack) s.seq s.bs bv).2.2.map LD.bs) (hp : PairIn X' w0 w' g pa pb vw' u' a (inQ b s.seq s.ack s.bs bv) (fs.eraseIdx j) now (fun i => if i = 1 then o 1 ++ os else o i)) :
    PrAt X' w0 w' g pa pb vw' u' a (inQ b s.seq s.ack s.bs bv) (fs.eraseIdx j) now (fun i => if i = 1 then o 1 ++ os else o i) m := by
  have h1 := (h.r.swap.in_ hf bv).swap
  refine ⟨hp, ?_, h.m2, h.m3⟩
  show Pr 0 1 a _ _ now (bsl (o 0)) (bsl (o 1 ++ os)) (bsl (o 2)) (bsl (o 3))
  rw [bsl_get ho]
  exact h1.sub (fun f hf => by
    obtain ⟨t, ht, rfl⟩ := List.mem_map.1 hf
    exact List.mem_map.2 ⟨t, List.mem_of_mem_eraseIdx ht, rfl⟩)
theorem PrAt.mono {m' : Nat} (h : PrAt X w0 w g pa pb vw u a b fs now o m) (hm : m ≤ m') : PrAt X w0 w g pa pb vw u a b fs now o m' := ⟨h.p, h.r, Nat.le_trans h.m2 hm, Nat.le_trans h.m3 hm⟩
theorem PrAt.outP0 {X' : List Nat} {w' : World} {vw' : Value} {u' : Nat → Value} {fs2 : List FR} (h : PrAt X w0 w g pa pb vw u a b fs now o m) (hfd : fs2.map frd = outF a now) (hp : PairIn X' w0 w' g pa pb vw' u' (outL a now) b (fs ++ fs2) (now + 1) o) :
    PrAt X' w0 w' g pa pb vw' u' (outL a now) b (fs ++ fs2) (now + 1) o m ∧ fs2.length ≤ 8 := by
  have h1 := h.r.out
  have h2 := h.r.outLen now
  rw [← hfd] at h1 h2
  rw [← List.map_append] at h1
  rw [List.length_map] at h2
  exact ⟨⟨hp, h1, h.m2, h.m3⟩, h2⟩
theorem PrAt.outP1 {X' : List Nat} {w' : World} {vw' : Value} {u' : Nat → Value} {fs2 : List FR} (h : PrAt X w0 w g pa pb vw u a b fs now o m) (hfd : fs2.map frd = outF b now) (hp : PairIn X' w0 w' g pa pb vw' u' a (outL b now) (fs ++ fs2) (now + 1) o) :
    PrAt X' w0 w' g pa pb vw' u' a (outL b now) (fs ++ fs2) (now + 1) o m ∧ fs2.length ≤ 8 := by
  have h1 := h.r.swap.out
  have h2 := h.r.swap.outLen now
  rw [← hfd] at h1 h2
  rw [← List.map_append] at h1
  rw [List.length_map] at h2
  exact ⟨⟨hp, h1.swap, h.m2, h.m3⟩, h2⟩
theorem turn_all {way k : Int} {bs : List UInt8} {v : Value} (h : PrAt X w0 w g pa pb vw u a b fs now o m) (hm : m ≤ 1000) (hv : ByAt X w0 w ⟨bs, v⟩) (hbl : bs.length ≤ 200) (hk : -9223372036854775808 ≤ k ∧ k ≤ 9223372036854775807) (hfl : fs.length ≤ 10000) (hnow : now ≤ 10000) :
    Calls Try.prog 15 #[.pointer (some ⟨g, 0, none⟩), .agg #[.int .i64 way, .int .i64 k, v]] w (Tn w0 g pa pb fs now m) := by
  have hn0 := h.r.n0
  have hoa := h.r.okL (by omega)
  have hob := h.r.swap.okL (by omega)
  have hm2 := h.m2
  have hm3 := h.m3
  have hol8 := h.r.ab.ol
  have hol8b := h.r.ba.ol
  by_cases w0' : way = 0
  · refine (turn_send0 h.p hv hk (by omega) w0' hoa (by omega) (by omega)).mono ?_
    rintro e w' ⟨he, q2, X', vw', u', hst, hp⟩
    unfold SentC at hst
    by_cases hc : sendC a bs = 0
    · rw [if_pos hc] at hst hp
      obtain ⟨hl, bv, rfl⟩ := hst
      have h1 := h.r.send bv hl hbl
      refine ⟨he, X', vw', u', _, b, fs, now, _, ⟨hp, ?_, ?_, ?_⟩, by omega, by omega⟩
      · show Pr 0 1 _ b _ now (bsl (o 0)) (bsl (o 1)) (bsl (o 2)) (bsl (o 3 ++ [⟨bs, v⟩]))
        have : bsl (o 3 ++ [⟨bs, v⟩]) = bsl (o 3) ++ [bs] := by unfold bsl; rw [List.map_append]; rfl
        rw [this]
        exact h1
      · show (o 2).length ≤ m + 1
        omega
      · show (o 3 ++ [(⟨bs, v⟩ : BV)]).length ≤ m + 1
        rw [List.length_append, List.length_singleton]
        omega
    · rw [if_neg hc] at hst hp
      rw [hst] at hp
      exact ⟨he, X', vw', u', a, b, fs, now, o, ⟨hp, h.r, by omega, by omega⟩, by omega, by omega⟩
  by_cases w1' : way = 1
  · refine (turn_send1 h.p hv hk (by omega) w1' hob (by omega) (by omega)).mono ?_
    rintro e w' ⟨he, q2, X', vw', u', hst, hp⟩
    unfold SentC at hst
    by_cases hc : sendC b bs = 0
    · rw [if_pos hc] at hst hp
      obtain ⟨hl, bv, rfl⟩ := hst
      have h1 := (h.r.swap.send bv hl hbl).swap
      refine ⟨he, X', vw', u', a, _, fs, now, _, ⟨hp, ?_, ?_, ?_⟩, by omega, by omega⟩
      · show Pr 0 1 a _ _ now (bsl (o 0)) (bsl (o 1)) (bsl (o 2 ++ [⟨bs, v⟩])) (bsl (o 3))
        have : bsl (o 2 ++ [⟨bs, v⟩]) = bsl (o 2) ++ [bs] := by unfold bsl; rw [List.map_append]; rfl
        rw [this]
        exact h1
      · show (o 2 ++ [(⟨bs, v⟩ : BV)]).length ≤ m + 1
        rw [List.length_append, List.length_singleton]
        omega
      · show (o 3).length ≤ m + 1
        omega
    · rw [if_neg hc] at hst hp
      rw [hst] at hp
      exact ⟨he, X', vw', u', a, b, fs, now, o, ⟨hp, h.r, by omega, by omega⟩, by omega, by omega⟩
  by_cases w2' : way = 2
  · refine (turn_out0 h.p hv hk (by omega) w2' hoa (by omega) (by have := h.r.outLen now; omega)).mono ?_
    rintro e w' ⟨he, X', vw', u', fs2, hfd, hp⟩
    have h1 := h.outP0 hfd hp
    exact ⟨he, X', vw', u', _, b, _, _, o, h1.1.mono (by omega), by omega, by rw [List.length_append]; omega⟩
  by_cases w3' : way = 3
  · refine (turn_out1 h.p hv hk (by omega) w3' hob (by omega) (by have := h.r.swap.outLen now; omega)).mono ?_
    rintro e w' ⟨he, X', vw', u', fs2, hfd, hp⟩
    have h1 := h.outP1 hfd hp
    exact ⟨he, X', vw', u', a, _, _, _, o, h1.1.mono (by omega), by omega, by rw [List.length_append]; omega⟩
  by_cases hne : 0 < fs.length
  · by_cases w4' : way = 4
    · obtain ⟨s, hs⟩ : ∃ s, fs[kIn k fs.length]? = some s := ⟨_, List.getElem?_eq_getElem (Nat.mod_lt _ hne)⟩
      have hel : (fs.eraseIdx (kIn k fs.length)).length ≤ fs.length + 8 := by have := List.length_eraseIdx_le fs (kIn k fs.length); omega
      by_cases hto : s.to = 0
      · obtain ⟨hf, a1, a2, a3, a4, a5, a6, a7⟩ := h.in0 hm (List.mem_of_getElem? hs) hto
        refine (turn_in0 h.p hv hk (by omega) w4' hne hs a1 a2 a3 a4 a5 hto a6 a7).mono ?_
        rintro e w' ⟨he, s', bv, X', vw', u', os, hs', ho, hp⟩
        rw [hs] at hs'
        injection hs' with hs'
        subst hs'
        exact ⟨he, X', vw', u', _, b, _, now, _, (h.got0 hs hf ho hp).mono (by omega), by omega, hel⟩
      · obtain ⟨hf, a1, a2, a3, a4, a5, a6, a7⟩ := h.in1 hm (List.mem_of_getElem? hs) hto
        refine (turn_in1 h.p hv hk (by omega) w4' hne hs a1 a2 a3 a4 a5 hto a6 a7).mono ?_
        rintro e w' ⟨he, s', bv, X', vw', u', os, hs', ho, hp⟩
        rw [hs] at hs'
        injection hs' with hs'
        subst hs'
        exact ⟨he, X', vw', u', a, _, _, now, _, (h.got1 hs hf ho hp).mono (by omega), by omega, hel⟩
    by_cases w5' : way = 5
    · refine (turn_drop h.p hv hk (by omega) w5' hne).mono ?_
      rintro e w' ⟨he, X', vw', u', hp⟩
      refine ⟨he, X', vw', u', a, b, _, now, o, ⟨hp, h.r.sub (fun f hf => ?_), by omega, by omega⟩, by omega, by have := List.length_eraseIdx_le fs (kIn k fs.length); omega⟩
      obtain ⟨t, ht, rfl⟩ := List.mem_map.1 hf
      exact List.mem_map.2 ⟨t, List.mem_of_mem_eraseIdx ht, rfl⟩
    · refine (turn_dup h.p hv hk (by omega) ⟨w0', w1', w2', w3', w4', w5'⟩ hne).mono ?_
      rintro e w' ⟨he, s, X', vw', u', hs, hp⟩
      refine ⟨he, X', vw', u', a, b, _, now, o, ⟨hp, h.r.sub (fun f hf => ?_), by omega, by omega⟩, by omega, by rw [List.length_append, List.length_singleton]; omega⟩
      obtain ⟨t, ht, rfl⟩ := List.mem_map.1 hf
      rcases List.mem_append.1 ht with ht | ht
      · exact List.mem_map.2 ⟨t, ht, rfl⟩
      · obtain rfl : t = s := by simpa using ht
        exact List.mem_map.2 ⟨t, List.mem_of_getElem? hs, rfl⟩
  · refine (turn_none h.p hv hk (by omega) ⟨w0', w1', w2', w3'⟩ (List.eq_nil_of_length_eq_zero (by omega))).mono ?_
    rintro e w' ⟨he, X', vw', u', hp⟩
    exact ⟨he, X', vw', u', a, b, fs, now, o, ⟨hp, h.r, by omega, by omega⟩, by omega, by omega⟩
/-! ### the rounds of the end -/
def Wk (a b : LK) (way : List FD) (t : Int) (m : Nat) : Prop := Will a b 0 1 way t m m m ∧ Will b a 1 0 way t m m m
theorem Will.nil {q q' : LK} {x y t : Int} {m1 m2 m m' : Nat} (h : Will q q' x y [] t m1 m2 m) : Will q q' x y [] t m1 m2 m' := by
  rcases h with h | ⟨s, rest, ho, h | h | ⟨_, f, hf, _⟩ | ⟨_, f, hf, _⟩⟩
  · exact Or.inl h
  · exact Or.inr ⟨s, rest, ho, Or.inl h⟩
  · exact Or.inr ⟨s, rest, ho, Or.inr (Or.inl h)⟩
  · cases hf
  · cases hf
/-- both went out -/
theorem wk_outs (hr : Pr 0 1 a b [] now (bsl (o 0)) (bsl (o 1)) (bsl (o 2)) (bsl (o 3))) {M : Nat} (h : Wk a b [] now M) : Wk (outL a now) (outL b (now + 1)) (([] ++ outF a now) ++ outF b (now + 1)) (now + 1 + 1) (M - 1) := by
  obtain ⟨h1, h2⟩ := h
  have e1 := (h1.nil (m' := M - 1)).sendOut (t := now) hr.ab (by omega) hr.ia.peer
  have e2 := e1.getOut (t := now + 1) hr.ib.peer
  have e3 := (h2.nil (m' := M - 1)).getOut (t := now) hr.ia.peer
  have hba : Half b (outL a now) (bsl (o 2)) (bsl (o 0)) now := ⟨hr.ba.seq, hr.ba.upto, hr.ba.pre, hr.ba.le, hr.ba.op, hr.ba.ol, hr.ba.kept, hr.ba.nd, hr.ba.sl⟩
  have e4 := e3.sendOut (t := now + 1) hba (by omega) hr.ib.peer
  refine ⟨?_, ?_⟩
  · rw [show now + 1 + 1 = now + 2 by omega]
    exact e2.weak (by omega) (by omega) (by omega)
  · rw [show now + 1 + 1 = now + 2 by omega]
    exact e4.weak (by omega) (by omega) (by omega)
theorem wk_in0 {way : List FD} {f : FD} {M : Nat} (hr : Pr 0 1 a b (f :: way) now (bsl (o 0)) (bsl (o 1)) (bsl (o 2)) (bsl (o 3))) (hf : FrOk f 1 0 (bsl (o 2)) (bsl (o 1)).length) (h : Wk a b (f :: way) now M) (bv : Value) : Wk (inQ a f.2.2.2.1 f.2.2.2.2.1 f.2.2.2.2.2 bv) b way now M :=
  ⟨h.1.ack hr.ab hf (by decide) bv, h.2.get hr.ba hf (by decide) bv⟩
theorem wk_in1 {way : List FD} {f : FD} {M : Nat} (hr : Pr 0 1 a b (f :: way) now (bsl (o 0)) (bsl (o 1)) (bsl (o 2)) (bsl (o 3))) (hf : FrOk f 0 1 (bsl (o 3)) (bsl (o 0)).length) (h : Wk a b (f :: way) now M) (bv : Value) : Wk a (inQ b f.2.2.2.1 f.2.2.2.2.1 f.2.2.2.2.2 bv) way now M :=
  ⟨h.1.get hr.ab hf (by decide) bv, h.2.ack hr.ba hf (by decide) bv⟩
theorem wk_start (hr : Pr 0 1 a b [] now (bsl (o 0)) (bsl (o 1)) (bsl (o 2)) (bsl (o 3))) : Wk a b [] now 272 :=
  ⟨Will.start hr.ab (by have := hr.ab.ol; omega), Will.start hr.ba (by have := hr.ba.ol; omega)⟩
theorem wk_end (hr : Pr 0 1 a b [] now (bsl (o 0)) (bsl (o 1)) (bsl (o 2)) (bsl (o 3))) (h : Wk a b [] now 0) : a.open_ = [] ∧ b.open_ = [] ∧ bsl (o 0) = bsl (o 2) ∧ bsl (o 1) = bsl (o 3) := by
  have key : ∀ {q q' : LK} {S T : List BS}, Half q q' S T now → q.open_ = [] → T = S := fun hh ho => by
    obtain ⟨A, h1, h2, _⟩ := hh.op
    rw [ho] at h2
    have := hh.le
    have hp := hh.pre
    rw [List.take_of_length_le (by simp at h2; omega)] at hp
    exact hp
  have e1 := h.1.none
  have e2 := h.2.none
  exact ⟨e1, e2, key hr.ba e2, key hr.ab e1⟩
end
end Go.Proofs.Ytacifjjhadjhfaa
