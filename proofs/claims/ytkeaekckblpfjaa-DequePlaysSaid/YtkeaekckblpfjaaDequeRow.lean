/- Deques, the plain law: a row held in a ring, and a call that is done alone. -/
import Derived.Test.YtkeaekckblpfjaaBase
import Derived.Test.YtkeaekckblpfjaaRing
import Derived.Test.YtkeaekckblpfjaaGrown
import Derived.Test.YtkeaekckblpfjaaSizes
import Derived.Test.YtkeaekckblpfjaaRingMore
import Derived.Test.YtkeaekckblpfjaaDeque
import Derived.Test.YtkeaekckblpfjaaDequeObj
import Derived.Test.YtkeaekckblpfjaaDequeStep
import Derived.Test.YtkeaekckblpfjaaDequeStep2
import Derived.Test.YtkeaekckblpfjaaDequeItems
import Derived.Test.YtkeaekckblpfjaaDequeThrough
import Derived.Test.YtkeaekckblpfjaaCallsLaw
namespace Go.Proofs.Ytkeaekckblpfjaa
open Go.RowKit

theorem idx_ne (frm : Int) (j k n : Nat) (hj : j < k) (hk : k - j < n) : ringIdx (frm + j) n ≠ ringIdx (frm + k) n := by
  unfold ringIdx
  have h1 := Int.emod_nonneg (frm + j) (b := (n : Int)) (by omega)
  have h2 := Int.emod_nonneg (frm + k) (b := (n : Int)) (by omega)
  intro h
  have h3 : (frm + k) % (n : Int) = (frm + j) % (n : Int) := by omega
  have h4 : ((frm + k) - (frm + j)) % (n : Int) = 0 := Int.emod_eq_emod_iff_emod_sub_eq_zero.1 h3
  rw [show frm + k - (frm + j) = ((k - j : Nat) : Int) by omega] at h4
  rw [Int.emod_eq_of_lt (by omega) (by omega)] at h4
  omega
theorem get_put_far (l : List Int) (i j x : Int) (h : ringIdx j l.length ≠ ringIdx i l.length) : ringGet (ringPut l i x) j = ringGet l j := by
  simp [ringGet, ringPut, Ne.symm h]
theorem get_put_here (l : List Int) (i x : Int) (hp : IsP2 l.length) : ringGet (ringPut l i x) i = x := by
  have := ringIdx_lt i hp
  simp [ringGet, ringPut, this]
/-- the ring holds the row l from the place top on -/
structure Holds (ring : List Int) (top : Int) (l : List Int) : Prop where
  p2 : IsP2 ring.length
  le : l.length ≤ ring.length
  at_ : ∀ (k : Nat) (x : Int), l[k]? = some x → ringGet ring (top + k) = x
theorem Holds.put {ring : List Int} {top : Int} {l : List Int} (h : Holds ring top l) (hl : l.length < ring.length) (b x : Int) (hb : b = top + l.length) : Holds (ringPut ring b x) top l := by
  subst hb
  refine ⟨by simpa using h.p2, by simpa using h.le, fun k y hk => ?_⟩
  have hlt : k < l.length := by
    rcases Nat.lt_or_ge k l.length with h' | h'
    · exact h'
    · rw [List.getElem?_eq_none h'] at hk; cases hk
  rw [get_put_far _ _ _ _ (idx_ne top k l.length ring.length hlt (by omega))]
  exact h.at_ k y hk
theorem Holds.snoc {ring : List Int} {top : Int} {l : List Int} (h : Holds ring top l) (hl : l.length < ring.length) (b x : Int) (hb : b = top + l.length) (hx : ringGet ring b = x) : Holds ring top (l ++ [x]) := by
  subst hb
  refine ⟨h.p2, by simp; omega, fun k y hk => ?_⟩
  by_cases hlt : k < l.length
  · rw [List.getElem?_append_left hlt] at hk
    exact h.at_ k y hk
  · by_cases he : k = l.length
    · subst he
      simp at hk
      subst hk
      exact hx
    · rw [List.getElem?_eq_none (by simp; omega)] at hk
      cases hk
theorem Holds.head {ring : List Int} {top x : Int} {l : List Int} (h : Holds ring top (x :: l)) : ringGet ring top = x := by
  have := h.at_ 0 x rfl
  simpa using this
theorem Holds.tail {ring : List Int} {top x : Int} {l : List Int} (h : Holds ring top (x :: l)) : Holds ring (top + 1) l := by
  refine ⟨h.p2, by have := h.le; simp at this; omega, fun k y hk => ?_⟩
  have := h.at_ (k + 1) y (by simpa using hk)
  rw [show top + 1 + (k : Int) = top + ((k + 1 : Nat) : Int) by omega]
  exact this
theorem Holds.last {ring : List Int} {top x : Int} {l : List Int} (h : Holds ring top (l ++ [x])) : ringGet ring (top + l.length) = x := h.at_ l.length x (by simp)
theorem Holds.init {ring : List Int} {top x : Int} {l : List Int} (h : Holds ring top (l ++ [x])) : Holds ring top l := by
  refine ⟨h.p2, by have := h.le; simp at this; omega, fun k y hk => ?_⟩
  have hlt : k < l.length := by
    rcases Nat.lt_or_ge k l.length with h' | h'
    · exact h'
    · rw [List.getElem?_eq_none h'] at hk; cases hk
  exact h.at_ k y (by rw [List.getElem?_append_left hlt]; exact hk)
theorem twice_ge (n : Nat) : n ≤ ringTwice n := by unfold ringTwice; split <;> omega
theorem twice_p2 {n : Nat} (h : IsP2 n) : IsP2 (ringTwice n) := ringSize_twice h ▸ ringSize_p2 _
theorem moves_get {g src : List Int} {frm : Int} {n : Nat} (hg : IsP2 g.length) (hn : n ≤ g.length) : ∀ k, k ≤ n → ∀ j : Nat, j < k → ringGet (ringMoves g src frm k) (frm + j) = ringGet src (frm + j)
  | 0, _, j, hj => absurd hj (by omega)
  | k + 1, hk, j, hj => by
    show ringGet (ringPut (ringMoves g src frm k) (frm + k) (ringGet src (frm + k))) (frm + j) = _
    by_cases he : j = k
    · subst he
      exact get_put_here _ _ _ (by simpa using hg)
    · rw [get_put_far _ _ _ _ (by rw [ringMoves_length]; exact idx_ne frm j k g.length (by omega) (by omega))]
      exact moves_get hg hn k (by omega) j (by omega)
theorem Holds.grown {ring : List Int} {top : Int} {l : List Int} (h : Holds ring top l) (b : Int) (hb : b = top + l.length) : Holds (ringGrown ring top b) top l ∧ (ringGrown ring top b).length = ringTwice ring.length := by
  subst hb
  have hle := h.le
  have hc : ringCount ring.length top (top + l.length) = l.length := by unfold ringCount; omega
  have hlen : (ringGrown ring top (top + l.length)).length = ringTwice ring.length := by unfold ringGrown; simp
  have hge := twice_ge ring.length
  refine ⟨⟨by rw [hlen]; exact twice_p2 h.p2, by omega, fun k x hk => ?_⟩, hlen⟩
  have hlt : k < l.length := by
    rcases Nat.lt_or_ge k l.length with h' | h'
    · exact h'
    · rw [List.getElem?_eq_none h'] at hk; cases hk
  unfold ringGrown
  rw [hc, moves_get (n := l.length) (by simpa using twice_p2 h.p2) (by simp; omega) l.length (Nat.le_refl _) k hlt]
  exact h.at_ k x hk
/-- the ring that a push goes on with -/
theorem Holds.room {ring : List Int} {top : Int} {l : List Int} (h : Holds ring top l) (hl : l.length ≤ 60000) (b : Int) (hb : b = top + l.length) :
    Holds (if (ring.length : Int) - 1 ≤ b - top then ringGrown ring top b else ring) top l ∧ l.length < (if (ring.length : Int) - 1 ≤ b - top then ringGrown ring top b else ring).length := by
  by_cases hg : (ring.length : Int) - 1 ≤ b - top
  · rw [if_pos hg]
    obtain ⟨h1, h2⟩ := h.grown b hb
    refine ⟨h1, ?_⟩
    rw [h2]
    have := h.p2.pos
    have := h.le
    unfold ringTwice
    split <;> omega
  · rw [if_neg hg]
    exact ⟨h, by omega⟩
theorem Holds.items {ring : List Int} {top : Int} {l : List Int} (h : Holds ring top l) (b : Int) (hb : b = top + l.length) (cs : List (Option DCall)) : itemsOf ⟨top, b, ring, cs⟩ = l := by
  subst hb
  unfold itemsOf itemsN
  apply List.ext_getElem?
  intro k
  rw [show ((top + (l.length : Int)) - top).toNat = l.length by omega]
  by_cases hk : k < l.length
  · rw [List.getElem?_map, List.getElem?_range hk, List.getElem?_eq_getElem hk]
    exact congrArg some (h.at_ k _ (List.getElem?_eq_getElem hk))
  · rw [List.getElem?_eq_none (by simpa using hk), List.getElem?_eq_none (by omega)]

/-! ### A call done alone -/
def idle : List (Option DCall) := List.replicate 16 none
theorem idle_length : idle.length = 16 := rfl
theorem idle_at {i : Nat} (h : i < 16) : idle[i]? = some none := by
  unfold idle
  rw [List.getElem?_replicate, if_pos h]
def one (n : Nat) (c : DCall) : List (Option DCall) := idle.set n (some c)
/-- nobody has a call, and the row l stands there -/
structure RowQ (q : DQ) (l : List Int) : Prop where
  calls : q.calls = idle
  bot : q.bottom = q.top + l.length
  holds : Holds q.ring q.top l
theorem step_one {n : Nat} (hn : n < 16) {t b : Int} {ring : List Int} {c : DCall} {r : SR} (hr : stepKind c.kind t b ring { c with step := c.step + 1 } = r) :
    dqStep ⟨t, b, ring, one n c⟩ n = (⟨r.top, r.bottom, r.ring, if r.a = 0 then one n r.c else idle⟩, r.a, r.v) := by
  rw [dqStep_busy hn (List.getElem?_set_self (by rw [idle_length]; exact hn)) hr]
  have : (one n c).set n (if r.a = 0 then some r.c else none) = if r.a = 0 then one n r.c else idle := by
    split
    · simp [one]
    · simp [one]
      apply List.ext_getElem?
      intro i
      by_cases hi : n = i
      · subst hi
        rw [List.getElem?_set_self (by rw [idle_length]; exact hn), idle_at hn]
      · rw [List.getElem?_set_ne hi]
  rw [this]
theorem go_one {n : Nat} (hn : n < 16) (k : Nat) {t b : Int} {ring : List Int} {c : DCall} {r : SR} (hr : stepKind c.kind t b ring { c with step := c.step + 1 } = r) (ha : r.a = 0) :
    thGo n (k + 1) ⟨t, b, ring, one n c⟩ = thGo n k ⟨r.top, r.bottom, r.ring, one n r.c⟩ := by
  rw [thGo, step_one hn hr]
  simp only [ha, if_true]
theorem end_one {n : Nat} (hn : n < 16) (k : Nat) {t b : Int} {ring : List Int} {c : DCall} {r : SR} (hr : stepKind c.kind t b ring { c with step := c.step + 1 } = r) (ha : r.a ≠ 0) :
    thGo n (k + 1) ⟨t, b, ring, one n c⟩ = (⟨r.top, r.bottom, r.ring, idle⟩, r.a, r.v) := by
  rw [thGo, step_one hn hr]
  simp only [ha, if_false]
theorem through_one {n : Nat} (hn : n < 16) {q : DQ} {kind : Int} (item : Int) (hc : q.calls = idle) (hm : mayBegin n kind = true) : dqThrough q n kind item = thGo n 6 ⟨q.top, q.bottom, q.ring, one n (newCall kind item)⟩ := by
  have hb : busyB q n = false := by
    unfold busyB
    rw [hc, List.getD_eq_getElem?_getD, Int.toNat_natCast, idle_at hn]
    simp
  have hbg : dqBegin q n kind item = (⟨q.top, q.bottom, q.ring, one n (newCall kind item)⟩, 0) := by
    unfold dqBegin
    rw [if_neg (by simp [hm]), if_neg (by simp [hb]), hc]
    rfl
  unfold dqThrough
  rw [hbg]
  rfl
theorem push_row {q : DQ} {l : List Int} (h : RowQ q l) (hl : l.length ≤ 60000) (x : Int) : ∃ q', dqThrough q 0 1 x = (q', 1, 0) ∧ RowQ q' (l ++ [x]) := by
  obtain ⟨h1, h2, h3⟩ := h
  obtain ⟨g1, g2⟩ := h3.room hl q.bottom h2
  have ht := through_one (n := 0) (by omega) (q := q) (kind := 1) x h1 (by decide)
  rw [show ((0 : Nat) : Int) = 0 from rfl] at ht
  rw [ht]
  obtain ⟨ring', hring⟩ : ∃ r, r = (if (q.ring.length : Int) - 1 ≤ q.bottom - q.top then ringGrown q.ring q.top q.bottom else q.ring) := ⟨_, rfl⟩
  rw [← hring] at g1 g2
  have e1 : thGo 0 6 ⟨q.top, q.bottom, q.ring, one 0 (newCall 1 x)⟩ = thGo 0 5 ⟨q.top, q.bottom, q.ring, one 0 ⟨q.bottom, 0, 0, false, 1, x, 1⟩⟩ := go_one (n := 0) (by omega) 5 (r := ⟨q.top, q.bottom, q.ring, ⟨q.bottom, 0, 0, false, 1, x, 1⟩, 0, 0⟩) rfl rfl
  have e2 : thGo 0 5 ⟨q.top, q.bottom, q.ring, one 0 ⟨q.bottom, 0, 0, false, 1, x, 1⟩⟩ = thGo 0 4 ⟨q.top, q.bottom, ring', one 0 ⟨q.bottom, q.top, 0, false, 1, x, 2⟩⟩ := go_one (n := 0) (by omega) 4 (r := ⟨q.top, q.bottom, ring', ⟨q.bottom, q.top, 0, false, 1, x, 2⟩, 0, 0⟩) (by rw [hring]; rfl) rfl
  have e3 : thGo 0 4 ⟨q.top, q.bottom, ring', one 0 ⟨q.bottom, q.top, 0, false, 1, x, 2⟩⟩ = thGo 0 3 ⟨q.top, q.bottom, ringPut ring' q.bottom x, one 0 ⟨q.bottom, q.top, 0, false, 1, x, 3⟩⟩ := go_one (n := 0) (by omega) 3 (r := ⟨q.top, q.bottom, ringPut ring' q.bottom x, ⟨q.bottom, q.top, 0, false, 1, x, 3⟩, 0, 0⟩) rfl rfl
  have e4 : thGo 0 3 ⟨q.top, q.bottom, ringPut ring' q.bottom x, one 0 ⟨q.bottom, q.top, 0, false, 1, x, 3⟩⟩ = (⟨q.top, q.bottom + 1, ringPut ring' q.bottom x, idle⟩, 1, 0) := end_one (n := 0) (by omega) 2 (r := ⟨q.top, q.bottom + 1, ringPut ring' q.bottom x, ⟨q.bottom, q.top, 0, false, 1, x, 4⟩, 1, 0⟩) rfl (by simp)
  refine ⟨⟨q.top, q.bottom + 1, ringPut ring' q.bottom x, idle⟩, ((e1.trans e2).trans e3).trans e4, rfl, by simp; omega, ?_⟩
  exact (g1.put g2 q.bottom x h2).snoc (by simpa using g2) q.bottom x h2 (get_put_here _ _ _ g1.p2)
theorem pop_nil {q : DQ} (h : RowQ q []) (x : Int) : ∃ q' v, dqThrough q 0 2 x = (q', 3, v) ∧ RowQ q' [] := by
  obtain ⟨h1, h2, h3⟩ := h
  have h2' : q.bottom = q.top := by simpa using h2
  have ht := through_one (n := 0) (by omega) (q := q) (kind := 2) x h1 (by decide)
  rw [show ((0 : Nat) : Int) = 0 from rfl] at ht
  rw [ht]
  have e1 : thGo 0 6 ⟨q.top, q.bottom, q.ring, one 0 (newCall 2 x)⟩ = thGo 0 5 ⟨q.top, q.bottom - 1, q.ring, one 0 ⟨q.bottom - 1, 0, 0, false, 2, x, 1⟩⟩ := go_one (n := 0) (by omega) 5 (r := ⟨q.top, q.bottom - 1, q.ring, ⟨q.bottom - 1, 0, 0, false, 2, x, 1⟩, 0, 0⟩) rfl rfl
  have e2 : thGo 0 5 ⟨q.top, q.bottom - 1, q.ring, one 0 ⟨q.bottom - 1, 0, 0, false, 2, x, 1⟩⟩ = (⟨q.top, q.top, q.ring, idle⟩, 3, 0) := by
    refine end_one (n := 0) (by omega) 4 (r := ⟨q.top, q.top, q.ring, ⟨q.bottom - 1, q.top, 0, false, 2, x, 2⟩, 3, 0⟩) ?_ (by simp)
    show (if q.bottom - 1 < q.top then (_ : SR) else _) = _
    exact if_pos (by omega)
  exact ⟨⟨q.top, q.top, q.ring, idle⟩, 0, e1.trans e2, rfl, by simp, h3⟩
theorem pop_row {q : DQ} {l : List Int} {y : Int} (h : RowQ q (l ++ [y])) (x : Int) : ∃ q', dqThrough q 0 2 x = (q', 2, y) ∧ RowQ q' l := by
  obtain ⟨h1, h2, h3⟩ := h
  have h2' : q.bottom - 1 = q.top + l.length := by simp at h2; omega
  have ht := through_one (n := 0) (by omega) (q := q) (kind := 2) x h1 (by decide)
  rw [show ((0 : Nat) : Int) = 0 from rfl] at ht
  rw [ht]
  have hy : ringGet q.ring (q.bottom - 1) = y := by rw [h2']; exact h3.last
  have e1 : thGo 0 6 ⟨q.top, q.bottom, q.ring, one 0 (newCall 2 x)⟩ = thGo 0 5 ⟨q.top, q.bottom - 1, q.ring, one 0 ⟨q.bottom - 1, 0, 0, false, 2, x, 1⟩⟩ := go_one (n := 0) (by omega) 5 (r := ⟨q.top, q.bottom - 1, q.ring, ⟨q.bottom - 1, 0, 0, false, 2, x, 1⟩, 0, 0⟩) rfl rfl
  have e2 : thGo 0 5 ⟨q.top, q.bottom - 1, q.ring, one 0 ⟨q.bottom - 1, 0, 0, false, 2, x, 1⟩⟩ = thGo 0 4 ⟨q.top, q.bottom - 1, q.ring, one 0 ⟨q.bottom - 1, q.top, 0, false, 2, x, 2⟩⟩ := by
    refine go_one (n := 0) (by omega) 4 (r := ⟨q.top, q.bottom - 1, q.ring, ⟨q.bottom - 1, q.top, 0, false, 2, x, 2⟩, 0, 0⟩) ?_ rfl
    show (if q.bottom - 1 < q.top then (_ : SR) else _) = _
    exact if_neg (by omega)
  by_cases hl : l = []
  · subst hl
    have hb : q.bottom - 1 = q.top := by simpa using h2'
    have e3 : thGo 0 4 ⟨q.top, q.bottom - 1, q.ring, one 0 ⟨q.bottom - 1, q.top, 0, false, 2, x, 2⟩⟩ = thGo 0 3 ⟨q.top, q.bottom - 1, q.ring, one 0 ⟨q.bottom - 1, q.top, ringGet q.ring (q.bottom - 1), false, 2, x, 3⟩⟩ := by
      refine go_one (n := 0) (by omega) 3 (r := ⟨q.top, q.bottom - 1, q.ring, ⟨q.bottom - 1, q.top, ringGet q.ring (q.bottom - 1), false, 2, x, 3⟩, 0, 0⟩) ?_ rfl
      show (if q.top < q.bottom - 1 then (_ : SR) else _) = _
      exact if_neg (by omega)
    have e4 : thGo 0 3 ⟨q.top, q.bottom - 1, q.ring, one 0 ⟨q.bottom - 1, q.top, ringGet q.ring (q.bottom - 1), false, 2, x, 3⟩⟩ = thGo 0 2 ⟨q.top + 1, q.bottom - 1, q.ring, one 0 ⟨q.bottom - 1, q.top, ringGet q.ring (q.bottom - 1), true, 2, x, 4⟩⟩ := by
      refine go_one (n := 0) (by omega) 2 (r := ⟨q.top + 1, q.bottom - 1, q.ring, ⟨q.bottom - 1, q.top, ringGet q.ring (q.bottom - 1), true, 2, x, 4⟩, 0, 0⟩) ?_ rfl
      show (if q.top = q.top then (_ : SR) else _) = _
      exact if_pos rfl
    have e5 : thGo 0 2 ⟨q.top + 1, q.bottom - 1, q.ring, one 0 ⟨q.bottom - 1, q.top, ringGet q.ring (q.bottom - 1), true, 2, x, 4⟩⟩ = (⟨q.top + 1, q.top + 1, q.ring, idle⟩, 2, ringGet q.ring (q.bottom - 1)) := end_one (n := 0) (by omega) 1 (r := ⟨q.top + 1, q.top + 1, q.ring, ⟨q.bottom - 1, q.top, ringGet q.ring (q.bottom - 1), true, 2, x, 5⟩, 2, ringGet q.ring (q.bottom - 1)⟩) rfl (by simp)
    exact ⟨⟨q.top + 1, q.top + 1, q.ring, idle⟩, ((((e1.trans e2).trans e3).trans e4).trans e5).trans (by rw [hy]), rfl, by simp, h3.tail⟩
  · have hpos : 0 < l.length := List.length_pos_iff.2 hl
    have e3 : thGo 0 4 ⟨q.top, q.bottom - 1, q.ring, one 0 ⟨q.bottom - 1, q.top, 0, false, 2, x, 2⟩⟩ = (⟨q.top, q.bottom - 1, q.ring, idle⟩, 2, ringGet q.ring (q.bottom - 1)) := by
      refine end_one (n := 0) (by omega) 3 (r := ⟨q.top, q.bottom - 1, q.ring, ⟨q.bottom - 1, q.top, ringGet q.ring (q.bottom - 1), false, 2, x, 3⟩, 2, ringGet q.ring (q.bottom - 1)⟩) ?_ (by simp)
      show (if q.top < q.bottom - 1 then (_ : SR) else _) = _
      exact if_pos (by omega)
    exact ⟨⟨q.top, q.bottom - 1, q.ring, idle⟩, ((e1.trans e2).trans e3).trans (by rw [hy]), rfl, h2', h3.init⟩
theorem mayBegin_steal {n : Nat} (h0 : 0 < n) (hn : n < 16) : mayBegin n 3 = true := by unfold mayBegin isB; rw [if_neg (by omega)]; simp; omega
theorem steal_nil {q : DQ} (h : RowQ q []) {n : Nat} (h0 : 0 < n) (hn : n < 16) (x : Int) : ∃ q' v, dqThrough q n 3 x = (q', 3, v) ∧ RowQ q' [] := by
  obtain ⟨h1, h2, h3⟩ := h
  have h2' : q.bottom = q.top := by simpa using h2
  rw [through_one hn x h1 (mayBegin_steal h0 hn)]
  have e1 : thGo n 6 ⟨q.top, q.bottom, q.ring, one n (newCall 3 x)⟩ = thGo n 5 ⟨q.top, q.bottom, q.ring, one n ⟨0, q.top, 0, false, 3, x, 1⟩⟩ := go_one hn 5 (r := ⟨q.top, q.bottom, q.ring, ⟨0, q.top, 0, false, 3, x, 1⟩, 0, 0⟩) rfl rfl
  have e2 : thGo n 5 ⟨q.top, q.bottom, q.ring, one n ⟨0, q.top, 0, false, 3, x, 1⟩⟩ = (⟨q.top, q.bottom, q.ring, idle⟩, 3, 0) := by
    refine end_one hn 4 (r := ⟨q.top, q.bottom, q.ring, ⟨q.bottom, q.top, 0, false, 3, x, 2⟩, 3, 0⟩) ?_ (by simp)
    show (if q.bottom - q.top < 1 then (_ : SR) else _) = _
    exact if_pos (by omega)
  exact ⟨⟨q.top, q.bottom, q.ring, idle⟩, 0, e1.trans e2, rfl, h2, h3⟩
theorem steal_row {q : DQ} {l : List Int} {y : Int} (h : RowQ q (y :: l)) {n : Nat} (h0 : 0 < n) (hn : n < 16) (x : Int) : ∃ q', dqThrough q n 3 x = (q', 2, y) ∧ RowQ q' l := by
  obtain ⟨h1, h2, h3⟩ := h
  have h2' : q.bottom = q.top + 1 + l.length := by simp at h2; omega
  rw [through_one hn x h1 (mayBegin_steal h0 hn)]
  have e1 : thGo n 6 ⟨q.top, q.bottom, q.ring, one n (newCall 3 x)⟩ = thGo n 5 ⟨q.top, q.bottom, q.ring, one n ⟨0, q.top, 0, false, 3, x, 1⟩⟩ := go_one hn 5 (r := ⟨q.top, q.bottom, q.ring, ⟨0, q.top, 0, false, 3, x, 1⟩, 0, 0⟩) rfl rfl
  have e2 : thGo n 5 ⟨q.top, q.bottom, q.ring, one n ⟨0, q.top, 0, false, 3, x, 1⟩⟩ = thGo n 4 ⟨q.top, q.bottom, q.ring, one n ⟨q.bottom, q.top, 0, false, 3, x, 2⟩⟩ := by
    refine go_one hn 4 (r := ⟨q.top, q.bottom, q.ring, ⟨q.bottom, q.top, 0, false, 3, x, 2⟩, 0, 0⟩) ?_ rfl
    show (if q.bottom - q.top < 1 then (_ : SR) else _) = _
    exact if_neg (by omega)
  have e3 : thGo n 4 ⟨q.top, q.bottom, q.ring, one n ⟨q.bottom, q.top, 0, false, 3, x, 2⟩⟩ = thGo n 3 ⟨q.top, q.bottom, q.ring, one n ⟨q.bottom, q.top, y, false, 3, x, 3⟩⟩ := go_one hn 3 (r := ⟨q.top, q.bottom, q.ring, ⟨q.bottom, q.top, y, false, 3, x, 3⟩, 0, 0⟩) (by rw [← h3.head]; rfl) rfl
  have e4 : thGo n 3 ⟨q.top, q.bottom, q.ring, one n ⟨q.bottom, q.top, y, false, 3, x, 3⟩⟩ = (⟨q.top + 1, q.bottom, q.ring, idle⟩, 2, y) := by
    refine end_one hn 2 (r := ⟨q.top + 1, q.bottom, q.ring, ⟨q.bottom, q.top, y, false, 3, x, 4⟩, 2, y⟩) ?_ (by simp)
    show (if q.top = q.top then (_ : SR) else _) = _
    exact if_pos rfl
  exact ⟨⟨q.top + 1, q.bottom, q.ring, idle⟩, ((e1.trans e2).trans e3).trans e4, rfl, h2', h3.tail⟩
theorem RowQ.new : RowQ dqNew [] := ⟨rfl, rfl, ⟨by simpa [dqNew, ringNew] using ringSize_p2 4, by simp, fun k x hk => by simp at hk⟩⟩
end Go.Proofs.Ytkeaekckblpfjaa
