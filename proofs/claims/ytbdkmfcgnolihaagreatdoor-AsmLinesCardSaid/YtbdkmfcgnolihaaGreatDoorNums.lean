/- Plain: numbers as they are written: what is read as a number is just what is written as one. -/
import Derived.Lib.AtoiAllCases
import Derived.Lib.ItoaNum
import Derived.Lib.ItoaLen
namespace Go.Proofs.YtbdkmfcgnolihaaGreatDoor
set_option linter.unusedSimpArgs false
set_option linter.unnecessarySimpa false
set_option linter.unusedVariables false
open Go.Lib
def In64 (n : Int) : Prop := -9223372036854775808 ≤ n ∧ n ≤ 9223372036854775807
theorem byte_digit {x : Nat} (h : x < 10) : (UInt8.ofNat (48 + x)).toNat = 48 + x := by
  simp [UInt8.toNat_ofNat']; omega
theorem byte_of {b : UInt8} (h : 48 ≤ b.toNat ∧ b.toNat ≤ 57) : b = UInt8.ofNat (48 + (b.toNat - 48)) := by
  apply UInt8.toNat_inj.1
  rw [byte_digit (by omega)]
  omega
theorem dec_small {u : Nat} (h : u < 10) : decDigits u = [UInt8.ofNat (48 + u)] := by rw [decDigits, dif_pos h]
theorem dec_big {u : Nat} (h : ¬ u < 10) : decDigits u = decDigits (u / 10) ++ [UInt8.ofNat (48 + u % 10)] := by rw [decDigits, dif_neg h]
/-- the first digit -/
theorem dec_head (u : Nat) : ∃ b r, decDigits u = b :: r ∧ 48 ≤ b.toNat ∧ b.toNat ≤ 57 ∧ (b.toNat = 48 → u = 0) ∧ (u = 0 → r = []) := by
  induction u using Nat.strongRecOn with
  | ind u ih =>
    by_cases h : u < 10
    · refine ⟨_, [], dec_small h, ?_, ?_, ?_, fun _ => rfl⟩ <;> rw [byte_digit h] <;> omega
    · obtain ⟨b, r, e, h1, h2, h3, h4⟩ := ih (u / 10) (by omega)
      refine ⟨b, r ++ [UInt8.ofNat (48 + u % 10)], ?_, h1, h2, fun hb => ?_, fun h0 => ?_⟩
      · rw [dec_big h, e]; rfl
      · have := h3 hb; omega
      · omega
theorem dec_all (u : Nat) : ∀ b ∈ decDigits u, 48 ≤ b.toNat ∧ b.toNat ≤ 57 := by
  induction u using Nat.strongRecOn with
  | ind u ih =>
    intro b hb
    by_cases h : u < 10
    · rw [dec_small h] at hb
      obtain rfl := List.mem_singleton.1 hb
      rw [byte_digit h]; omega
    · rw [dec_big h] at hb
      rcases List.mem_append.1 hb with hb | hb
      · exact ih _ (by omega) b hb
      · obtain rfl := List.mem_singleton.1 hb
        rw [byte_digit (by omega)]; omega
theorem dec_len {u : Nat} (h : u ≤ 9223372036854775808) : (decDigits u).length ≤ 19 := by
  rw [decDigits_length]
  have : ∀ (k : Nat) (u : Nat), u < 10 ^ (k + 1) → nDigits u ≤ k + 1 := by
    intro k
    induction k with
    | zero => intro u hu; rw [nDigits_small (by simpa using hu)]; omega
    | succ k ih =>
      intro u hu
      by_cases h : u < 10
      · rw [nDigits_small h]; omega
      · rw [nDigits_big h]
        have := ih (u / 10) (by rw [Nat.pow_succ] at hu; omega)
        omega
  exact this 18 u (by omega)
theorem dec_inj {u v : Nat} (h : decDigits u = decDigits v) : u = v := by
  induction u using Nat.strongRecOn generalizing v with
  | ind u ih =>
    by_cases hu : u < 10
    · by_cases hv : v < 10
      · rw [dec_small hu, dec_small hv] at h
        have h1 := congrArg (fun l => (l.headD 0).toNat) h
        simp only [List.headD_cons, byte_digit hu, byte_digit hv] at h1
        omega
      · rw [dec_small hu, dec_big hv] at h
        obtain ⟨b, r, e, _⟩ := dec_head (v / 10)
        rw [e] at h
        have := congrArg List.length h
        simp at this
    · by_cases hv : v < 10
      · rw [dec_small hv, dec_big hu] at h
        obtain ⟨b, r, e, _⟩ := dec_head (u / 10)
        rw [e] at h
        have := congrArg List.length h
        simp at this
      · rw [dec_big hu, dec_big hv] at h
        have h1 := List.append_inj' h rfl
        have h2 := ih (u / 10) (by omega) h1.1
        have h3 := congrArg (fun l => (l.headD 0).toNat) h1.2
        simp only [List.headD_cons, byte_digit (show u % 10 < 10 by omega), byte_digit (show v % 10 < 10 by omega)] at h3
        omega
theorem itoa_inj {m n : Int} (h : itoa m = itoa n) : m = n := by
  unfold itoa at h
  split at h <;> split at h
  · injection h with _ h
    have := dec_inj h
    omega
  · obtain ⟨b, r, e, h1, _⟩ := dec_head n.toNat
    rw [e] at h
    injection h with h _
    rw [← h] at h1
    exact absurd h1 (by decide)
  · obtain ⟨b, r, e, h1, _⟩ := dec_head m.toNat
    rw [e] at h
    injection h with h _
    rw [h] at h1
    exact absurd h1 (by decide)
  · have := dec_inj h
    omega
theorem itoa_ne (n : Int) : itoa n ≠ [] := by
  unfold itoa
  split
  · simp
  · obtain ⟨b, r, e, _⟩ := dec_head n.toNat
    rw [e]; simp
/-- no number has a blank, or a byte 10 -/
theorem itoa_bytes (n : Int) : ∀ b ∈ itoa n, b.toNat = 45 ∨ (48 ≤ b.toNat ∧ b.toNat ≤ 57) := by
  intro b hb
  unfold itoa at hb
  split at hb
  · rcases List.mem_cons.1 hb with rfl | hb
    · exact Or.inl rfl
    · exact Or.inr (dec_all _ b hb)
  · exact Or.inr (dec_all _ b hb)
/-! ### how the reference reads a number -/
def digStep (n : Int) (b : UInt8) : Option Int :=
  if (b.toNat : Int) - 48 < 0 ∨ 9 < (b.toNat : Int) - 48 ∨ n < Int.tdiv (-9223372036854775808 + ((b.toNat : Int) - 48)) 10 then none else some (10 * n - ((b.toNat : Int) - 48))
def readDigs (n : Int) : List UInt8 → Option Int
  | [] => some n
  | b :: r => match digStep n b with
    | none => none
    | some m => readDigs m r
theorem readDigs_snoc (l : List UInt8) (n : Int) (b : UInt8) : readDigs n (l ++ [b]) = (readDigs n l).bind fun m => digStep m b := by
  induction l generalizing n with
  | nil =>
    show (match digStep n b with | none => none | some m => readDigs m []) = _
    cases h : digStep n b <;> simp [readDigs, h]
  | cons c l ih =>
    show (match digStep n c with | none => none | some m => readDigs m (l ++ [b])) = (match digStep n c with | none => none | some m => readDigs m l).bind _
    cases digStep n c with
    | none => rfl
    | some m => exact ih m
theorem tdiv10 {c : Int} (h0 : 0 ≤ c) (h9 : c ≤ 9) : Int.tdiv (-9223372036854775808 + c) 10 = -((9223372036854775808 - c) / 10) := by
  have : (-9223372036854775808 + c : Int) = -(9223372036854775808 - c) := by omega
  rw [this, Int.neg_tdiv, Int.tdiv_eq_ediv_of_nonneg (by omega)]
theorem digStep_ok {u : Nat} {x : Nat} (hx : x < 10) (h : u * 10 + x ≤ 9223372036854775808) : digStep (-(u : Int)) (UInt8.ofNat (48 + x)) = some (-((u * 10 + x : Nat) : Int)) := by
  unfold digStep
  rw [byte_digit hx]
  have e : (((48 + x : Nat) : Int) - 48) = (x : Int) := by omega
  rw [e, tdiv10 (by omega) (by omega), if_neg (by omega)]
  congr 1
  push_cast
  omega
theorem digStep_some {m n : Int} {b : UInt8} (h : digStep n b = some m) (_hn : n ≤ 0) : ∃ x : Nat, x < 10 ∧ b = UInt8.ofNat (48 + x) ∧ m = 10 * n - x ∧ -9223372036854775808 ≤ m := by
  unfold digStep at h
  split at h
  · cases h
  · rename_i hc
    have h1 : 48 ≤ b.toNat ∧ b.toNat ≤ 57 := by omega
    refine ⟨b.toNat - 48, by omega, byte_of h1, ?_, ?_⟩
    · injection h with h; omega
    · injection h with h
      have h2 : ¬ n < Int.tdiv (-9223372036854775808 + ((b.toNat : Int) - 48)) 10 := by omega
      rw [tdiv10 (by omega) (by omega)] at h2
      omega
theorem readDigs_dec {u : Nat} (h : u ≤ 9223372036854775808) : readDigs 0 (decDigits u) = some (-(u : Int)) := by
  induction u using Nat.strongRecOn with
  | ind u ih =>
    by_cases hu : u < 10
    · rw [dec_small hu]
      have h1 : digStep 0 (UInt8.ofNat (48 + u)) = some (-(u : Int)) := by
        have := digStep_ok (u := 0) hu (by omega)
        rw [Nat.zero_mul, Nat.zero_add] at this
        exact this
      show (match digStep 0 _ with | none => none | some m => readDigs m []) = _
      rw [h1]
      rfl
    · rw [dec_big hu, readDigs_snoc, ih (u / 10) (by omega) (by omega)]
      show digStep _ _ = _
      rw [digStep_ok (by omega) (by omega)]
      congr 3
      omega
theorem readDigs_some : ∀ (d : List UInt8) (m : Int), d ≠ [] → (d.head?.map UInt8.toNat = some 48 → d.length = 1) → readDigs 0 d = some m → ∃ u : Nat, m = -(u : Int) ∧ u ≤ 9223372036854775808 ∧ d = decDigits u ∧ (d.head?.map UInt8.toNat ≠ some 48 → u ≠ 0) := by
  intro d
  obtain ⟨r, rfl⟩ : ∃ r, d = r.reverse := ⟨d.reverse, by simp⟩
  induction r with
  | nil => intro m h; exact absurd rfl h
  | cons b r ih =>
    intro m _ hz h
    rw [List.reverse_cons] at h hz ⊢
    rw [readDigs_snoc] at h
    cases r with
    | nil =>
      change digStep 0 b = some m at h
      obtain ⟨x, hx, rfl, hm, _⟩ := digStep_some h (by omega)
      refine ⟨x, by omega, by omega, by simp [dec_small hx], fun hne => ?_⟩
      intro h0
      subst h0
      exact hne rfl
    | cons c r =>
      have hne : (c :: r).reverse ≠ [] := by simp
      have hhead : ((c :: r).reverse ++ [b]).head? = (c :: r).reverse.head? := by
        cases hq : (c :: r).reverse with
        | nil => exact absurd hq hne
        | cons y ys => rfl
      rw [hhead] at hz ⊢
      have hz' : ¬ ((c :: r).reverse.head?.map UInt8.toNat = some 48) := fun e => by
        have := hz e
        simp at this
      cases h1 : readDigs 0 (c :: r).reverse with
      | none => rw [h1] at h; cases h
      | some n =>
        rw [h1] at h
        obtain ⟨u, rfl, hu, e, hu0⟩ := ih n hne (fun e => absurd e hz') h1
        obtain ⟨x, hx, rfl, hm, hlo⟩ := digStep_some h (by omega)
        have hup := hu0 hz'
        refine ⟨u * 10 + x, by push_cast; omega, by omega, ?_, fun _ => by omega⟩
        rw [dec_big (by omega), e]
        congr 2
        · omega
        · congr 2; omega
def readIntD (neg : Bool) (d : List UInt8) : Option Int :=
  if d.length < 1 ∨ 19 < d.length ∨ (d.head?.map UInt8.toNat = some 48 ∧ (1 < d.length ∨ neg = true)) then none
  else match readDigs 0 d with
    | none => none
    | some n => if neg = true then some n else if n = -9223372036854775808 then none else some (-n)
def readInt (w : List UInt8) : Option Int := if w.head?.map UInt8.toNat = some 45 then readIntD true w.tail else readIntD false w
theorem readInt_itoa {n : Int} (h : In64 n) : readInt (itoa n) = some n := by
  obtain ⟨h1, h2⟩ := h
  unfold readInt itoa
  by_cases hn : n < 0
  · rw [if_pos hn, if_pos (by rfl)]
    obtain ⟨b, r, e, g1, g2, g3, g4⟩ := dec_head n.natAbs
    have hl := dec_len (u := n.natAbs) (by omega)
    have hr := readDigs_dec (u := n.natAbs) (by omega)
    have hb : b.toNat ≠ 48 := fun hb => by have := g3 hb; omega
    rw [List.tail_cons]
    rw [e] at hl hr ⊢
    unfold readIntD
    rw [if_neg (by
      simp only [List.length_cons, List.head?_cons, Option.map_some] at hl ⊢
      intro hc
      rcases hc with hc | hc | ⟨hc, hc2⟩
      · omega
      · omega
      · exact hb (by simpa using hc)), hr]
    simp only [if_true]
    congr 1
    omega
  · rw [if_neg hn]
    obtain ⟨b, r, e, g1, g2, g3, g4⟩ := dec_head n.toNat
    have hl := dec_len (u := n.toNat) (by omega)
    have hr := readDigs_dec (u := n.toNat) (by omega)
    have hb : b.toNat ≠ 45 := by omega
    rw [e] at hl hr ⊢
    rw [if_neg (by simp [hb])]
    unfold readIntD
    rw [if_neg (by
      simp only [List.length_cons, List.head?_cons, Option.map_some] at hl ⊢
      intro hc
      rcases hc with hc | hc | ⟨hc, hc2⟩
      · omega
      · omega
      · have := g4 (g3 (by simpa using hc))
        subst this
        simp at hc2), hr]
    simp only [Bool.false_eq_true, if_false]
    rw [if_neg (by omega)]
    congr 1
    omega
theorem readInt_some {w : List UInt8} {n : Int} (h : readInt w = some n) : In64 n ∧ w = itoa n := by
  unfold readInt at h
  by_cases hneg : w.head?.map UInt8.toNat = some 45
  · rw [if_pos hneg] at h
    unfold readIntD at h
    split at h
    · cases h
    · rename_i hc
      cases hm : readDigs 0 w.tail with
      | none => rw [hm] at h; cases h
      | some m =>
        rw [hm] at h
        simp only [if_true] at h
        injection h with h
        subst h
        have hd : w.tail ≠ [] := fun e => hc (Or.inl (by rw [e]; decide))
        have hz : ¬ (w.tail.head?.map UInt8.toNat = some 48) := fun e => hc (Or.inr (Or.inr ⟨e, Or.inr rfl⟩))
        obtain ⟨u, rfl, hu, e, hu0⟩ := readDigs_some w.tail m hd (fun e => absurd e hz) hm
        have := hu0 hz
        refine ⟨⟨by omega, by omega⟩, ?_⟩
        unfold itoa
        rw [if_pos (by omega)]
        cases w with
        | nil => simp at hneg
        | cons b r =>
          have hb : b = 45 := UInt8.toNat_inj.1 (by simpa using hneg)
          subst hb
          simp only [List.tail_cons] at e
          rw [e]
          congr 2
          omega
  · rw [if_neg hneg] at h
    unfold readIntD at h
    split at h
    · cases h
    · rename_i hc
      cases hm : readDigs 0 w with
      | none => rw [hm] at h; cases h
      | some m =>
        rw [hm] at h
        simp only [Bool.false_eq_true, if_false] at h
        split at h
        · cases h
        · rename_i hmin
          injection h with h
          subst h
          have hd : w ≠ [] := fun e => hc (Or.inl (by rw [e]; decide))
          obtain ⟨u, rfl, hu, e, hu0⟩ := readDigs_some w m hd (fun e => by
            have : ¬ 1 < w.length := fun hl => hc (Or.inr (Or.inr ⟨e, Or.inl hl⟩))
            have : w.length ≠ 0 := fun h0 => hd (List.eq_nil_of_length_eq_zero h0)
            omega) hm
          refine ⟨⟨by omega, by omega⟩, ?_⟩
          unfold itoa
          rw [if_neg (by omega)]
          exact e.trans (congrArg decDigits (by omega))
/-! ### strconv.Atoi of a number as it is written -/
theorem parse_snoc (l : List UInt8) (acc : Nat) (b : UInt8) : parseUint10 acc (l ++ [b]) = match parseUint10 acc l with | .ok m => parseUint10 m [b] | Lib.NumEnd.syntax => Lib.NumEnd.syntax | .range => .range := by
  induction l generalizing acc with
  | nil => rfl
  | cons c l ih =>
    simp only [List.cons_append, parseUint10]
    split
    · split
      · rfl
      · split
        · rfl
        · exact ih _
    · rfl
theorem parse_dec {u : Nat} (h : u < 18446744073709551616) : parseUint10 0 (decDigits u) = .ok u := by
  induction u using Nat.strongRecOn with
  | ind u ih =>
    by_cases hu : u < 10
    · rw [dec_small hu]
      simp only [parseUint10, byte_digit hu]
      rw [if_pos (by omega), if_neg (by omega), if_neg (by omega)]
      congr 1
      omega
    · rw [dec_big hu, parse_snoc, ih (u / 10) (by omega) (by omega)]
      simp only [parseUint10, byte_digit (show u % 10 < 10 by omega)]
      rw [if_pos (by omega), if_neg (by omega), if_neg (by omega)]
      congr 1
      omega
theorem atoi_itoa {n : Int} (h : In64 n) : atoiAll (itoa n) = .ok n := by
  obtain ⟨h1, h2⟩ := h
  unfold itoa
  by_cases hn : n < 0
  · rw [if_pos hn, atoiAll_minus]
    obtain ⟨b, r, e, _⟩ := dec_head n.natAbs
    unfold parseMag
    rw [if_neg (by rw [e]; simp), parse_dec (by omega)]
    unfold signed
    simp only
    rw [if_neg (by omega)]
    congr 1
    omega
  · rw [if_neg hn]
    obtain ⟨b, r, e, g1, g2, _⟩ := dec_head n.toNat
    have h3 := parse_dec (u := n.toNat) (by omega)
    rw [e] at h3 ⊢
    rw [atoiAll_plain b r (by omega) (by omega)]
    unfold parseMag
    rw [if_neg (by simp), h3]
    unfold signless
    simp only
    rw [if_neg (by omega)]
    congr 1
    omega
end Go.Proofs.YtbdkmfcgnolihaaGreatDoor
