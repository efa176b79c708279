/- LinkBrings: its argument opened; a pair made. -/
import Derived.Test.YtacifjjhadjhfaaBringsAll
import Derived.Test.YtacifjjhadjhfaaLinkArgs
namespace Go.Proofs.Ytacifjjhadjhfaa
open Go.RowKit Go.ChangeShapes Go.WideShapes Go.Deep
structure TN where
  way : Int
  k : Int
  bs : List UInt8
  v : Value
def TurnsOf (w : World) (v : Value) (l : List TN) : Prop :=
  ∃ a c, v = .slice a l.length c ∧ ∀ (i : Nat) (x : TN), l[i]? = some x → ∃ b off, a = some ⟨b, off, none⟩ ∧ b < w.heap.size ∧ w.cell? ⟨b, off + i * 3, none⟩ = some (.int .i64 x.way) ∧ w.cell? ⟨b, off + i * 3 + 1, none⟩ = some (.int .i64 x.k) ∧ w.cell? ⟨b, off + i * 3 + 2, none⟩ = some x.v ∧
    BytesOf w x.v x.bs ∧ (-9223372036854775808 ≤ x.k ∧ x.k ≤ 9223372036854775807)
theorem TurnsOf.keep0 {w w' : World} {v : Value} {l : List TN} (h : TurnsOf w v l) (hk : Keep [] w w') : TurnsOf w' v l := by
  obtain ⟨a, c, rfl, h⟩ := h
  refine ⟨a, c, rfl, fun i x hx => ?_⟩
  obtain ⟨b, off, rfl, hb, h0, h1, h2, h3, h4⟩ := h i x hx
  have g : ∀ (o : Nat) (u : Value), w.cell? ⟨b, o, none⟩ = some u → w'.cell? ⟨b, o, none⟩ = some u := fun o u hu => (hk.cell (p := ⟨b, o, none⟩) hb (by simp)).trans hu
  exact ⟨b, off, rfl, Nat.lt_of_lt_of_le hb hk.size, g _ _ h0, g _ _ h1, g _ _ h2, h3.keep0 hk, h4⟩
theorem turns_open {H : Type} {enc : TypeId × Value → H} {w : World} {r : Reach} {b0 : Nat} {v : Value} {d : DataW H} {p : List MemPlace} (ho : Value.okWide Try.prog w r b0 48 v) (h : DataW.Trod enc Try.prog w 0 (fun _ => true) true 48 v d p) :
    ∃ l, TurnsOf w v l := by
  obtain ⟨v', css, hv, ⟨a, c, rfl, hr⟩, hall⟩ := reads_rows 3 Try.underlying48 (by kernel_rfl) (by omega) (reads_of Try.underlying48 ho h)
  obtain rfl : v = .slice a css.length c := by simpa using hv
  obtain ⟨l, hlen, hx⟩ := choose_list (fun cs (x : TN) => cs[0]? = some (.int .i64 x.way) ∧ cs[1]? = some (.int .i64 x.k) ∧ cs[2]? = some x.v ∧ BytesOf w x.v x.bs ∧ (-9223372036854775808 ≤ x.k ∧ x.k ≤ 9223372036854775807)) css (fun cs hcs => by
    have hR := hall cs hcs
    obtain ⟨x0, h0, _⟩ := reads_int_at (i := 0) (t := 3) (o := 0) Try.underlying54 (show _ = (#[(3, 0), (3, 1), (35, 2)] : Array (TypeId × Nat)) by kernel_rfl) hR rfl Try.underlying3 (by kernel_rfl)
    obtain ⟨x1, h1, w1⟩ := reads_int_at (i := 1) (t := 3) (o := 1) Try.underlying54 (show _ = (#[(3, 0), (3, 1), (35, 2)] : Array (TypeId × Nat)) by kernel_rfl) hR rfl Try.underlying3 (by kernel_rfl)
    have h2 := reads_at (i := 2) (t := 35) (o := 2) Try.underlying54 (show _ = (#[(3, 0), (3, 1), (35, 2)] : Array (TypeId × Nat)) by kernel_rfl) hR rfl
    rw [show Try.prog.cellsOf 35 = 1 by kernel_rfl] at h2
    obtain ⟨v2, bs2, hv2, hb2⟩ := reads_bytes Try.underlying35 Try.underlying5 (by kernel_rfl) h2
    simp [Lit.wf] at w1
    exact ⟨⟨x0, x1, bs2, v2⟩, h0, h1, one_at hv2, hb2, w1⟩)
  refine ⟨l, a, c, by rw [hlen], fun i x hi => ?_⟩
  have hil : i < css.length := by
    rw [← hlen]
    rcases Nat.lt_or_ge i l.length with h' | h'
    · exact h'
    · rw [List.getElem?_eq_none h'] at hi; cases hi
  obtain ⟨b, off, rfl, hb, hc⟩ := hr (by intro h; rw [h] at hil; simp at hil)
  have hcs := List.getElem?_eq_getElem hil
  obtain ⟨h0, h1, h2, h3, h4⟩ := hx i _ x hcs hi
  have hcell := (hc i _ hcs).2
  exact ⟨b, off, rfl, hb, hcell 0 _ h0, hcell 1 _ h1, hcell 2 _ h2, h3, h4⟩
def nilS : Value := .slice none 0 0
theorem pair_new {w0 w : World} {pa pb : Nat} {a b : LK} (h : TW [] pa pb w0 w a b) :
    PairIn [w.heap.size] w0 (w.alloc (.cells #[.pointer (some ⟨pa, 0, none⟩), .pointer (some ⟨pb, 0, none⟩), .slice none 0 0, .int .i64 0, .slice none 0 0, .slice none 0 0, .slice none 0 0, .slice none 0 0] 52)) w.heap.size pa pb (.slice none 0 0) (fun _ => .slice none 0 0) a b [] 0 (fun _ => []) := by
  have k : Keep [] w (w.alloc (.cells #[.pointer (some ⟨pa, 0, none⟩), .pointer (some ⟨pb, 0, none⟩), .slice none 0 0, .int .i64 0, .slice none 0 0, .slice none 0 0, .slice none 0 0, .slice none 0 0] 52)) := (Keep.refl _ _).alloc _
  have htw := h.grow (Y := [w.heap.size]) k (by simp) (fun x hx => Or.inr (by
    obtain rfl : x = w.heap.size := by simpa using hx
    exact ⟨Nat.le_refl _, by simp⟩))
  exact ⟨htw, Blk.new' _ _ _ _ rfl, by simp, OwnsAt.nil _ _ _ _, by simp [ownBlocks, Value.ownBlock], by simp, fun i _ => LdAt.nil _ _ _, by simp [ownBlocks, Value.ownBlock]⟩
theorem Pr.start : Pr 0 1 (newL 0 1 1 1 100000) (newL 1 0 1 1 100000) [] 0 [] [] [] [] := by
  have hh : ∀ {x y x' y' : Int}, Half (newL x y 1 1 100000) (newL x' y' 1 1 100000) [] [] 0 := by
    intro x y x' y'
    exact ⟨rfl, rfl, rfl, by simp, ⟨0, by simp, by simp [newL], fun j s hs => by simp [newL] at hs⟩, by simp [newL], by simp [newL], by simp [newL], by simp⟩
  exact ⟨⟨rfl, rfl, rfl, rfl, rfl⟩, ⟨rfl, rfl, rfl, rfl, rfl⟩, by omega, hh, hh, by simp⟩
/-- what begins tells -/
theorem PrAt.beg {X : List Nat} {w0 w : World} {g pa pb : Nat} {vw : Value} {u : Nat → Value} {a b : LK} {fs : List FR} {now : Int} {o : Nat → List BV} {m : Nat} (h : PrAt X w0 w g pa pb vw u a b fs now o m) (hm : m ≤ 1000) :
    (∀ n, Calls Try.prog 16 #[u 0, u 2] (w.drewN n) fun e w' => e = .returned (.bool true) ∧ ∃ k, w' = (w.drewN n).drewN k) ∧ (∀ n, Calls Try.prog 16 #[u 1, u 3] (w.drewN n) fun e w' => e = .returned (.bool true) ∧ ∃ k, w' = (w.drewN n).drewN k) := by
  have l2 := h.m2
  have l3 := h.m3
  have e1 := h.r.ba.le
  have e2 := h.r.ab.le
  have p1 := h.r.ba.pre
  have p2 := h.r.ab.pre
  rw [bsl_len, bsl_len] at e1 e2
  rw [bsl_len] at p1 p2
  have v0 := (h.p.rows 0 (by omega)).view h.p.out
  have v1 := (h.p.rows 1 (by omega)).view h.p.out
  have v2 := (h.p.rows 2 (by omega)).view h.p.out
  have v3 := (h.p.rows 3 (by omega)).view h.p.out
  refine ⟨fun n => ?_, fun n => ?_⟩
  · exact begins_spec (v0.keep0 ((Keep.refl [] _).drewN n)) (v2.keep0 ((Keep.refl [] _).drewN n)) e1 p1 (by omega)
  · exact begins_spec (v1.keep0 ((Keep.refl [] _).drewN n)) (v3.keep0 ((Keep.refl [] _).drewN n)) e2 p2 (by omega)
theorem PrAt.lds {X : List Nat} {w0 w : World} {g pa pb : Nat} {vw : Value} {u : Nat → Value} {a b : LK} {fs : List FR} {now : Int} {o : Nat → List BV} {m : Nat} (h : PrAt X w0 w g pa pb vw u a b fs now o m) (hm : m ≤ 1000) (h0 : bsl (o 0) = bsl (o 2)) (h1 : bsl (o 1) = bsl (o 3)) :
    (∀ n, Calls Try.prog 17 #[u 0, u 2] (w.drewN n) fun e w' => e = .returned (.bool true) ∧ ∃ k, w' = (w.drewN n).drewN k) ∧ (∀ n, Calls Try.prog 17 #[u 1, u 3] (w.drewN n) fun e w' => e = .returned (.bool true) ∧ ∃ k, w' = (w.drewN n).drewN k) := by
  have l2 := h.t0
  have l3 := h.t1
  have v0 := (h.p.rows 0 (by omega)).view h.p.out
  have v1 := (h.p.rows 1 (by omega)).view h.p.out
  have v2 := (h.p.rows 2 (by omega)).view h.p.out
  have v3 := (h.p.rows 3 (by omega)).view h.p.out
  refine ⟨fun n => ?_, fun n => ?_⟩
  · exact loads_spec (v0.keep0 ((Keep.refl [] _).drewN n)) (v2.keep0 ((Keep.refl [] _).drewN n)) h0 (by omega)
  · exact loads_spec (v1.keep0 ((Keep.refl [] _).drewN n)) (v3.keep0 ((Keep.refl [] _).drewN n)) h1 (by omega)
theorem PrAt.drewN {X : List Nat} {w0 w : World} {g pa pb : Nat} {vw : Value} {u : Nat → Value} {a b : LK} {fs : List FR} {now : Int} {o : Nat → List BV} {m : Nat} (h : PrAt X w0 w g pa pb vw u a b fs now o m) (n : Nat) : PrAt X w0 (w.drewN n) g pa pb vw u a b fs now o m := ⟨h.p.keep0 ((Keep.refl [] _).drewN n), h.r, h.m2, h.m3⟩
/-- a step of the rounds of the end: a frame comes in -/
def InS (w0 : World) (g pa pb : Nat) (fs : List FR) (now : Int) (m : Nat) (P : Prop) (M : Nat) (e : Ending) (w' : World) : Prop :=
  e = .returned (.bool true) ∧ ∃ X' vw' u' a' b' o', PrAt X' w0 w' g pa pb vw' u' a' b' fs now o' m ∧ (P → Wk a' b' (fs.map frd) now M)
theorem turn_in {X : List Nat} {w0 w : World} {g pa pb : Nat} {vw : Value} {u : Nat → Value} {a b : LK} {s : FR} {fs : List FR} {now : Int} {o : Nat → List BV} {m M : Nat} {P : Prop} (h : PrAt X w0 w g pa pb vw u a b (s :: fs) now o m) (hm : m ≤ 1000) (hfl : fs.length ≤ 10000) (hw : P → Wk a b ((s :: fs).map frd) now M) :
    Calls Try.prog 15 #[.pointer (some ⟨g, 0, none⟩), .agg #[.int .i64 4, .int .i64 0, .slice none 0 0]] w (InS w0 g pa pb fs now m P M) := by
  have hv : ByAt X w0 w ⟨[], .slice none 0 0⟩ := Or.inr (BytesOf.nil w0)
  have hk : kIn 0 (s :: fs).length = 0 := by unfold kIn kNum; simp
  have hs : (s :: fs)[kIn 0 (s :: fs).length]? = some s := by rw [hk]; rfl
  have hfl' : (s :: fs).length ≤ 100000 := by rw [List.length_cons]; omega
  by_cases hto : s.to = 0
  · obtain ⟨hf, a1, a2, a3, a4, a5, a6, a7⟩ := h.in0 hm (by simp) hto
    refine (turn_in0 h.p hv (by omega) hfl' rfl (by simp) hs a1 a2 a3 a4 a5 hto a6 a7).mono ?_
    rintro e w' ⟨he, s', bv, X', vw', u', os, hs', ho, hp⟩
    rw [hs] at hs'
    injection hs' with hs'
    subst hs'
    have h1 := h.got0 hs hf ho hp
    rw [hk] at h1
    exact ⟨he, X', vw', u', _, b, _, h1, fun hP => wk_in0 h.r hf (hw hP) bv⟩
  · obtain ⟨hf, a1, a2, a3, a4, a5, a6, a7⟩ := h.in1 hm (by simp) hto
    refine (turn_in1 h.p hv (by omega) hfl' rfl (by simp) hs a1 a2 a3 a4 a5 hto a6 a7).mono ?_
    rintro e w' ⟨he, s', bv, X', vw', u', os, hs', ho, hp⟩
    rw [hs] at hs'
    injection hs' with hs'
    subst hs'
    have h1 := h.got1 hs hf ho hp
    rw [hk] at h1
    exact ⟨he, X', vw', u', a, _, _, h1, fun hP => wk_in1 h.r hf (hw hP) bv⟩
def OutS0 (w0 : World) (g pa pb : Nat) (a b : LK) (fs : List FR) (now : Int) (o : Nat → List BV) (m : Nat) (e : Ending) (w' : World) : Prop :=
  e = .returned (.bool true) ∧ ∃ X' vw' u' fs2, fs2.map frd = outF a now ∧ fs2.length ≤ 8 ∧ PrAt X' w0 w' g pa pb vw' u' (outL a now) b (fs ++ fs2) (now + 1) o m
theorem turn_o0 {X : List Nat} {w0 w : World} {g pa pb : Nat} {vw : Value} {u : Nat → Value} {a b : LK} {fs : List FR} {now : Int} {o : Nat → List BV} {m : Nat} (h : PrAt X w0 w g pa pb vw u a b fs now o m) (hfl : fs.length ≤ 10000) (hnow : now ≤ 10000) :
    Calls Try.prog 15 #[.pointer (some ⟨g, 0, none⟩), .agg #[.int .i64 2, .int .i64 0, .slice none 0 0]] w (OutS0 w0 g pa pb a b fs now o m) := by
  have hv : ByAt X w0 w ⟨[], .slice none 0 0⟩ := Or.inr (BytesOf.nil w0)
  have hn0 := h.r.n0
  have hl := h.r.outLen now
  refine (turn_out0 h.p hv (by omega) (by omega) rfl (h.r.okL hnow) (by omega) (by omega)).mono ?_
  rintro e w' ⟨he, X', vw', u', fs2, hfd, hp⟩
  have h1 := h.outP0 hfd hp
  exact ⟨he, X', vw', u', fs2, hfd, h1.2, h1.1⟩
def OutS1 (w0 : World) (g pa pb : Nat) (a b : LK) (fs : List FR) (now : Int) (o : Nat → List BV) (m : Nat) (e : Ending) (w' : World) : Prop :=
  e = .returned (.bool true) ∧ ∃ X' vw' u' fs2, fs2.map frd = outF b now ∧ fs2.length ≤ 8 ∧ PrAt X' w0 w' g pa pb vw' u' a (outL b now) (fs ++ fs2) (now + 1) o m
theorem turn_o1 {X : List Nat} {w0 w : World} {g pa pb : Nat} {vw : Value} {u : Nat → Value} {a b : LK} {fs : List FR} {now : Int} {o : Nat → List BV} {m : Nat} (h : PrAt X w0 w g pa pb vw u a b fs now o m) (hfl : fs.length ≤ 10000) (hnow : now ≤ 10000) :
    Calls Try.prog 15 #[.pointer (some ⟨g, 0, none⟩), .agg #[.int .i64 3, .int .i64 0, .slice none 0 0]] w (OutS1 w0 g pa pb a b fs now o m) := by
  have hv : ByAt X w0 w ⟨[], .slice none 0 0⟩ := Or.inr (BytesOf.nil w0)
  have hn0 := h.r.n0
  have hl := h.r.swap.outLen now
  refine (turn_out1 h.p hv (by omega) (by omega) rfl (h.r.swap.okL hnow) (by omega) (by omega)).mono ?_
  rintro e w' ⟨he, X', vw', u', fs2, hfd, hp⟩
  have h1 := h.outP1 hfd hp
  exact ⟨he, X', vw', u', fs2, hfd, h1.2, h1.1⟩
end Go.Proofs.Ytacifjjhadjhfaa
