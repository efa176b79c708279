/- A map that a composite literal makes: the entries laid in. fair: the words of the steps. What the library's contracts ask of the world: its variables as start-up lays them. Plain: numbers as they are written: what is read as a number is just what is written as one. fair, plain: a step's line; what is read as a step is just what is written as one. Jobs, what a task of a small kind does, and how a tree of them is told: plain words, no program in sight. Jobs in a world: rows of cells, functions, what 'Know' keeps of a job; states. No program in sight. Rows of cells told by their places; 'make' of numbers and of truths. How arguments that came in are read, deeper: from a row's cells. No program in sight. The reference's small functions on instructions and names of tasks, at the instructions that the example's job has. The draws. lots: the small functions of Tree and Chain, and what they make in plain words. The reference's Check of a small job: names, instructions. The example's job and what its tasks do: plain words, no program in sight. The reference's check: the depths of straight code. The reference's check of a function of straight code. The reference's check of a job of straight code. -/
import Derived.Maps.OwnSet
import Derived.Maps.Views
import Derived.Maps.StringElems
import Derived.Maps.RangeWalk
import Derived.Test.YtndpbkhpllmhmaaDoorMSAA
import Derived.Test.YtndpbkhpllmhmaaDoorRows
import Derived.WalkKit
import Derived.WalkSpells
import Derived.WalkLawsBesides
import Derived.RegionTactic
import Derived.ChangeAlike
import Derived.BigQuiet
import Derived.Deep.QuietTactic
import Derived.StillTailTactics
import Derived.IntWalk
import Derived.Handy
import Derived.Lib.Hide
import Derived.Deep.AppendLies
import Derived.Deep.RegionWith
import Derived.Test.YtndpbkhpllmhmaaDoorMSAB
import Derived.Carry
import Derived.Stop.LaidErr
import Derived.Lib.AtoiAllCases
import Derived.Lib.ItoaNum
import Derived.Lib.ItoaLen
import Derived.Lib.SplitLaws
import Derived.Lib.JoinLaws
import Derived.Laws.MakeOwn
import Derived.Deep.RegionHeld3
import Derived.BigRegion
import Derived.Laws.IdiomStrings
namespace Go.Proofs.YtndpbkhpllmhmaaDoor
set_option linter.unusedSimpArgs false
set_option linter.unnecessarySimpa false
set_option linter.unusedVariables false
open Go.RowKit Go.ChangeMaps Go.MapKept Go.WideShapes
open Go.WideElems (Fit rd rg pl rd_val elemAt)
open Go.Maps (Keyed IsMap Tidy)
theorem wpList_insert_own {H : Type} {P : Program} (w : World) {ops : Array Oper} {rest : List Oper} {o : Oper} {a : Act} {Q : Exit → Act → World → Prop}
    (hg : o.guard = none) (m x v : Operand) (t : TypeId) (hop : o.op = Op.insert t m x v)
    (k e : TypeId) (K : Keyed P k) (ht : P.underlying t = some (.map k e)) (R : Value → Option (DataW H × List MemPlace)) (b n : Nat) (D : DataW H)
    (hm : a.eval m = .map (some b)) (hown : w.ownsMap P k R b n D) (hn : n < maxLen) (key val : Value) (kl : Lit) (hx : a.eval x = key) (hv : a.eval v = val) (hkey : keyOf P k key = some kl)
    (d : DataW H) (ps : List MemPlace) (hval : R val = some (d, ps))
    (hK : ∀ w', w'.ownsMap P k R b (n + 1) (D.put kl d) → w.grownBy w' (some b) → wpList P ops Q rest (a.put o.dst undef) w') :
    wpList P ops Q (o :: rest) a w := by
  refine wpList_plain hg fun K' hK' => ?_
  obtain ⟨w', hrun, r1, r2⟩ := hown.update K ht hn hkey hval
  unfold Oper.wp
  simp [execOp, hop, hm, hx, hv, hrun, Result.andThen]
  exact hK' _ _ (hK w' r1 r2)
end Go.Proofs.YtndpbkhpllmhmaaDoor
namespace Go.Proofs.YtndpbkhpllmhmaaDoor
set_option linter.unusedSimpArgs false
set_option linter.unnecessarySimpa false
set_option linter.unusedVariables false
open Go.RowKit Go.ChangeMaps Go.MapKept Go.WideShapes
open Go.WideElems (Fit rd rg pl rd_val elemAt)
open Go.Maps (Keyed IsMap Tidy)



/-- a map that was made since w -/
def MapMade (w : World) (b : Nat) (w1 : World) (n : Nat) (D : DataW Unit) : Prop := w1.ownsMap Tryd.prog 3 (plainElem Tryd.prog 9) b n D ∧ Keep [] w w1 ∧ w.heap.size ≤ b
theorem law3 : Keyed Tryd.prog 3 := Maps.int_keyed Tryd.underlying3
theorem MapMade.new (w : World) : MapMade w w.heap.size (w.alloc (.map #[] 0)) 0 (.map []) := ⟨World.ownsMap_made _ _ _ _, (Keep.refl _ _).alloc _, Nat.le_refl _⟩
theorem wpList_insert_made {w : World} {b : Nat} (w1 : World) {ops : Array Oper} {rest : List Oper} {o : Oper} {a : Act} {Q : Exit → Act → World → Prop}
    (hg : o.guard = none) (m x v : Operand) (hop : o.op = Op.insert 114 m x v) {n : Nat} {D : DataW Unit} (h : MapMade w b w1 n D) (hm : a.eval m = .map (some b)) (hn : n < 100) (k : Int) (s : ByteArray) (hx : a.eval x = .int .i64 k) (hv : a.eval v = .string s)
    (hk : (Lit.int .i64 k).wf = true) (hs : s.size ≤ maxLen)
    (hK : ∀ w', MapMade w b w' (n + 1) (D.put (.int .i64 k) (.lit (.string s.data.toList))) → wpList Tryd.prog ops Q rest (a.put o.dst undef) w') : wpList Tryd.prog ops Q (o :: rest) a w1 :=
  wpList_insert_own w1 hg m x v 114 hop 3 9 law3 Tryd.underlying114 _ b n D hm h.1 (by unfold maxLen; omega) _ _ _ hx hv (Maps.keyOf_int_mk Tryd.underlying3 hk) _ [] (plainElem_string Tryd.underlying9 hs) (fun w' h1 h2 =>
    hK w' ⟨h1, h.2.1.trans (Keep.of_grown (S := [b]) h2 (fun k hk => by cases hk; simp)) (fun x hx => Or.inr (by rw [show x = b by simpa using hx]; exact h.2.2)), h.2.2⟩)
theorem at_insert {P : Program} {w1 : World} {ops : Array Oper} {rest : List Oper} {o : Oper} {a : Act} {Q : Exit → Act → World → Prop} {t : TypeId} {m x v : Operand} (_ : o.op = Op.insert t m x v) (h : wpList P ops Q (o :: rest) a w1) : wpList P ops Q (o :: rest) a w1 := h
/-- the words of the steps, by their kinds -/
def wWork : ByteArray := ⟨#[119, 111, 114, 107, 32, 110]⟩
def wordsD : DataW Unit := .map [(.int .i64 1, .lit (.string [119, 111, 114, 107, 32, 110])), (.int .i64 2, .lit (.string [116, 105, 99, 107])), (.int .i64 3, .lit (.string [100, 101, 108, 105, 118, 101, 114, 32, 107])), (.int .i64 4, .lit (.string [100, 114, 111, 112, 32, 107])), (.int .i64 5, .lit (.string [100, 117, 112, 32, 107])), (.int .i64 6, .lit (.string [102, 108, 105, 112, 32, 107, 32, 98])), (.int .i64 7, .lit (.string [99, 114, 97, 115, 104, 32, 110]))]
def WordsPost (w : World) (e : Ending) (w' : World) : Prop := e = .returned (.map (some w.heap.size)) ∧ MapMade w w.heap.size w' 7 wordsD
set_option maxHeartbeats 800000 in
theorem words_spec (w : World) : Calls Tryd.prog 58 #[] w (WordsPost w) := by
  have h0 := MapMade.new w
  have hmm := @run_makeMap Tryd.prog
  go_enter Tryd.func58, Tryd.ntmps58
  go_wp2_with (refine at_insert rfl ?_; go_must (refine wpList_insert_made _ rfl _ _ _ rfl (by assumption) rfl (by omega) _ _ rfl rfl (by decide) (by unfold maxLen; decide) ?_); intro w1 h1)
  go_ret
  exact ⟨rfl, h1⟩
end Go.Proofs.YtndpbkhpllmhmaaDoor
namespace Go.Proofs.YtndpbkhpllmhmaaDoor
set_option linter.unusedSimpArgs false
set_option linter.unnecessarySimpa false
set_option linter.unusedVariables false
open Go.RowKit Go.Sort
theorem cell_keep0 {w w' : World} {p : Addr} {v : Value} (k : Keep [] w w') (h : w.cell? p = some v) : w'.cell? p = some v := by
  have hp : p.block < w.heap.size := by
    rcases Nat.lt_or_ge p.block w.heap.size with h1 | h1
    · exact h1
    · unfold World.cell? at h
      rw [Array.getElem?_eq_none h1] at h
      cases h
  exact (k.cell hp (by simp)).trans h
theorem var_keep0 {P : Program} {w w' : World} {n : String} {cs : Array Value} (k : Keep [] w w') (h : w.var? P n = some cs) : w'.var? P n = some cs := by
  unfold World.var? at h ⊢
  cases hg : P.globalNamed n with
  | none => simp [hg] at h
  | some g =>
    simp only [hg, Option.bind_some] at h ⊢
    have hlt : g < w.heap.size := by
      rcases Nat.lt_or_ge g w.heap.size with h' | h'
      · exact h'
      · simp [Array.getElem?_eq_none h'] at h
    rw [k.block g hlt (by simp)]
    exact h
/-- for what prints: the table of tens, the longest string that is searched by hand -/
structure Env (w : World) : Prop where
  max : ∃ m, w.cell? ⟨0, 0, none⟩ = some (.int .i64 m)
  tab : Lib.TabIs Tryd.prog w "internal/strconv.uint64pow10" .u64 Lib.pow10Tab
theorem Env.keep {w w' : World} (h : Env w) (k : Keep [] w w') : Env w' := by
  obtain ⟨⟨m, h1⟩, h2⟩ := h
  exact ⟨⟨m, cell_keep0 k h1⟩, var_keep0 k h2⟩
/-- .. and for what reads: the two errors of strconv -/
structure Env1 (w : World) : Prop where
  env : Env w
  syn : ∃ tp p, w.var? Tryd.prog "strconv.ErrSyntax" = some #[.iface tp p]
  rng : ∃ tp p, w.var? Tryd.prog "strconv.ErrRange" = some #[.iface tp p]
theorem Env1.keep {w w' : World} (h : Env1 w) (k : Keep [] w w') : Env1 w' := by
  obtain ⟨h1, ⟨t, p, h2⟩, ⟨t', p', h3⟩⟩ := h
  exact ⟨h1.keep k, ⟨t, p, var_keep0 k h2⟩, ⟨t', p', var_keep0 k h3⟩⟩
theorem keep_of_below {w w' : World} (h : Below w.heap.size w w') : Keep [] w w' := ⟨h.os, h.tape, h.output, h.size, fun x hx _ => h.block x hx⟩
theorem keep_grow {w : World} {k : Nat} {os : Array Obj} : Keep [] w (grow (w.drewN k) os) :=
  ⟨rfl, rfl, rfl, by simp [grow, World.drewN], fun x hx _ => by
    show (w.heap ++ os)[x]? = w.heap[x]?
    rw [Array.getElem?_append_left hx]⟩
end Go.Proofs.YtndpbkhpllmhmaaDoor
namespace Go.Proofs.YtndpbkhpllmhmaaDoor
set_option linter.unusedSimpArgs false
set_option linter.unnecessarySimpa false
set_option linter.unusedVariables false
open Go.Lib
def In64 (n : Int) : Prop := -9223372036854775808 ≤ n ∧ n ≤ 9223372036854775807
theorem byte_digit {x : Nat} (h : x < 10) : (UInt8.ofNat (48 + x)).toNat = 48 + x := by
  simp [UInt8.toNat_ofNat']; omega
theorem byte_of {b : UInt8} (h : 48 ≤ b.toNat ∧ b.toNat ≤ 57) : b = UInt8.ofNat (48 + (b.toNat - 48)) := by
  apply UInt8.toNat_inj.1
  rw [byte_digit (by omega)]
  omega
theorem dec_small {u : Nat} (h : u < 10) : decDigits u = [UInt8.ofNat (48 + u)] := by rw [decDigits, dif_pos h]
theorem dec_big {u : Nat} (h : ¬ u < 10) : decDigits u = decDigits (u / 10) ++ [UInt8.ofNat (48 + u % 10)] := by rw [decDigits, dif_neg h]
/-- the first digit -/
theorem dec_head (u : Nat) : ∃ b r, decDigits u = b :: r ∧ 48 ≤ b.toNat ∧ b.toNat ≤ 57 ∧ (b.toNat = 48 → u = 0) ∧ (u = 0 → r = []) := by
  induction u using Nat.strongRecOn with
  | ind u ih =>
    by_cases h : u < 10
    · refine ⟨_, [], dec_small h, ?_, ?_, ?_, fun _ => rfl⟩ <;> rw [byte_digit h] <;> omega
    · obtain ⟨b, r, e, h1, h2, h3, h4⟩ := ih (u / 10) (by omega)
      refine ⟨b, r ++ [UInt8.ofNat (48 + u % 10)], ?_, h1, h2, fun hb => ?_, fun h0 => ?_⟩
      · rw [dec_big h, e]; rfl
      · have := h3 hb; omega
      · omega
theorem dec_all (u : Nat) : ∀ b ∈ decDigits u, 48 ≤ b.toNat ∧ b.toNat ≤ 57 := by
  induction u using Nat.strongRecOn with
  | ind u ih =>
    intro b hb
    by_cases h : u < 10
    · rw [dec_small h] at hb
      obtain rfl := List.mem_singleton.1 hb
      rw [byte_digit h]; omega
    · rw [dec_big h] at hb
      rcases List.mem_append.1 hb with hb | hb
      · exact ih _ (by omega) b hb
      · obtain rfl := List.mem_singleton.1 hb
        rw [byte_digit (by omega)]; omega
theorem dec_len {u : Nat} (h : u ≤ 9223372036854775808) : (decDigits u).length ≤ 19 := by
  rw [decDigits_length]
  have : ∀ (k : Nat) (u : Nat), u < 10 ^ (k + 1) → nDigits u ≤ k + 1 := by
    intro k
    induction k with
    | zero => intro u hu; rw [nDigits_small (by simpa using hu)]; omega
    | succ k ih =>
      intro u hu
      by_cases h : u < 10
      · rw [nDigits_small h]; omega
      · rw [nDigits_big h]
        have := ih (u / 10) (by rw [Nat.pow_succ] at hu; omega)
        omega
  exact this 18 u (by omega)
theorem dec_inj {u v : Nat} (h : decDigits u = decDigits v) : u = v := by
  induction u using Nat.strongRecOn generalizing v with
  | ind u ih =>
    by_cases hu : u < 10
    · by_cases hv : v < 10
      · rw [dec_small hu, dec_small hv] at h
        have h1 := congrArg (fun l => (l.headD 0).toNat) h
        simp only [List.headD_cons, byte_digit hu, byte_digit hv] at h1
        omega
      · rw [dec_small hu, dec_big hv] at h
        obtain ⟨b, r, e, _⟩ := dec_head (v / 10)
        rw [e] at h
        have := congrArg List.length h
        simp at this
    · by_cases hv : v < 10
      · rw [dec_small hv, dec_big hu] at h
        obtain ⟨b, r, e, _⟩ := dec_head (u / 10)
        rw [e] at h
        have := congrArg List.length h
        simp at this
      · rw [dec_big hu, dec_big hv] at h
        have h1 := List.append_inj' h rfl
        have h2 := ih (u / 10) (by omega) h1.1
        have h3 := congrArg (fun l => (l.headD 0).toNat) h1.2
        simp only [List.headD_cons, byte_digit (show u % 10 < 10 by omega), byte_digit (show v % 10 < 10 by omega)] at h3
        omega
theorem itoa_inj {m n : Int} (h : itoa m = itoa n) : m = n := by
  unfold itoa at h
  split at h <;> split at h
  · injection h with _ h
    have := dec_inj h
    omega
  · obtain ⟨b, r, e, h1, _⟩ := dec_head n.toNat
    rw [e] at h
    injection h with h _
    rw [← h] at h1
    exact absurd h1 (by decide)
  · obtain ⟨b, r, e, h1, _⟩ := dec_head m.toNat
    rw [e] at h
    injection h with h _
    rw [h] at h1
    exact absurd h1 (by decide)
  · have := dec_inj h
    omega
theorem itoa_ne (n : Int) : itoa n ≠ [] := by
  unfold itoa
  split
  · simp
  · obtain ⟨b, r, e, _⟩ := dec_head n.toNat
    rw [e]; simp
/-- no number has a blank, or a byte 10 -/
theorem itoa_bytes (n : Int) : ∀ b ∈ itoa n, b.toNat = 45 ∨ (48 ≤ b.toNat ∧ b.toNat ≤ 57) := by
  intro b hb
  unfold itoa at hb
  split at hb
  · rcases List.mem_cons.1 hb with rfl | hb
    · exact Or.inl rfl
    · exact Or.inr (dec_all _ b hb)
  · exact Or.inr (dec_all _ b hb)
/-! ### how the reference reads a number -/
def digStep (n : Int) (b : UInt8) : Option Int :=
  if (b.toNat : Int) - 48 < 0 ∨ 9 < (b.toNat : Int) - 48 ∨ n < Int.tdiv (-9223372036854775808 + ((b.toNat : Int) - 48)) 10 then none else some (10 * n - ((b.toNat : Int) - 48))
def readDigs (n : Int) : List UInt8 → Option Int
  | [] => some n
  | b :: r => match digStep n b with
    | none => none
    | some m => readDigs m r
theorem readDigs_snoc (l : List UInt8) (n : Int) (b : UInt8) : readDigs n (l ++ [b]) = (readDigs n l).bind fun m => digStep m b := by
  induction l generalizing n with
  | nil =>
    show (match digStep n b with | none => none | some m => readDigs m []) = _
    cases h : digStep n b <;> simp [readDigs, h]
  | cons c l ih =>
    show (match digStep n c with | none => none | some m => readDigs m (l ++ [b])) = (match digStep n c with | none => none | some m => readDigs m l).bind _
    cases digStep n c with
    | none => rfl
    | some m => exact ih m
theorem tdiv10 {c : Int} (h0 : 0 ≤ c) (h9 : c ≤ 9) : Int.tdiv (-9223372036854775808 + c) 10 = -((9223372036854775808 - c) / 10) := by
  have : (-9223372036854775808 + c : Int) = -(9223372036854775808 - c) := by omega
  rw [this, Int.neg_tdiv, Int.tdiv_eq_ediv_of_nonneg (by omega)]
theorem digStep_ok {u : Nat} {x : Nat} (hx : x < 10) (h : u * 10 + x ≤ 9223372036854775808) : digStep (-(u : Int)) (UInt8.ofNat (48 + x)) = some (-((u * 10 + x : Nat) : Int)) := by
  unfold digStep
  rw [byte_digit hx]
  have e : (((48 + x : Nat) : Int) - 48) = (x : Int) := by omega
  rw [e, tdiv10 (by omega) (by omega), if_neg (by omega)]
  congr 1
  push_cast
  omega
theorem digStep_some {m n : Int} {b : UInt8} (h : digStep n b = some m) (_hn : n ≤ 0) : ∃ x : Nat, x < 10 ∧ b = UInt8.ofNat (48 + x) ∧ m = 10 * n - x ∧ -9223372036854775808 ≤ m := by
  unfold digStep at h
  split at h
  · cases h
  · rename_i hc
    have h1 : 48 ≤ b.toNat ∧ b.toNat ≤ 57 := by omega
    refine ⟨b.toNat - 48, by omega, byte_of h1, ?_, ?_⟩
    · injection h with h; omega
    · injection h with h
      have h2 : ¬ n < Int.tdiv (-9223372036854775808 + ((b.toNat : Int) - 48)) 10 := by omega
      rw [tdiv10 (by omega) (by omega)] at h2
      omega
theorem readDigs_dec {u : Nat} (h : u ≤ 9223372036854775808) : readDigs 0 (decDigits u) = some (-(u : Int)) := by
  induction u using Nat.strongRecOn with
  | ind u ih =>
    by_cases hu : u < 10
    · rw [dec_small hu]
      have h1 : digStep 0 (UInt8.ofNat (48 + u)) = some (-(u : Int)) := by
        have := digStep_ok (u := 0) hu (by omega)
        rw [Nat.zero_mul, Nat.zero_add] at this
        exact this
      show (match digStep 0 _ with | none => none | some m => readDigs m []) = _
      rw [h1]
      rfl
    · rw [dec_big hu, readDigs_snoc, ih (u / 10) (by omega) (by omega)]
      show digStep _ _ = _
      rw [digStep_ok (by omega) (by omega)]
      congr 3
      omega
theorem readDigs_some : ∀ (d : List UInt8) (m : Int), d ≠ [] → (d.head?.map UInt8.toNat = some 48 → d.length = 1) → readDigs 0 d = some m → ∃ u : Nat, m = -(u : Int) ∧ u ≤ 9223372036854775808 ∧ d = decDigits u ∧ (d.head?.map UInt8.toNat ≠ some 48 → u ≠ 0) := by
  intro d
  obtain ⟨r, rfl⟩ : ∃ r, d = r.reverse := ⟨d.reverse, by simp⟩
  induction r with
  | nil => intro m h; exact absurd rfl h
  | cons b r ih =>
    intro m _ hz h
    rw [List.reverse_cons] at h hz ⊢
    rw [readDigs_snoc] at h
    cases r with
    | nil =>
      change digStep 0 b = some m at h
      obtain ⟨x, hx, rfl, hm, _⟩ := digStep_some h (by omega)
      refine ⟨x, by omega, by omega, by simp [dec_small hx], fun hne => ?_⟩
      intro h0
      subst h0
      exact hne rfl
    | cons c r =>
      have hne : (c :: r).reverse ≠ [] := by simp
      have hhead : ((c :: r).reverse ++ [b]).head? = (c :: r).reverse.head? := by
        cases hq : (c :: r).reverse with
        | nil => exact absurd hq hne
        | cons y ys => rfl
      rw [hhead] at hz ⊢
      have hz' : ¬ ((c :: r).reverse.head?.map UInt8.toNat = some 48) := fun e => by
        have := hz e
        simp at this
      cases h1 : readDigs 0 (c :: r).reverse with
      | none => rw [h1] at h; cases h
      | some n =>
        rw [h1] at h
        obtain ⟨u, rfl, hu, e, hu0⟩ := ih n hne (fun e => absurd e hz') h1
        obtain ⟨x, hx, rfl, hm, hlo⟩ := digStep_some h (by omega)
        have hup := hu0 hz'
        refine ⟨u * 10 + x, by push_cast; omega, by omega, ?_, fun _ => by omega⟩
        rw [dec_big (by omega), e]
        congr 2
        · omega
        · congr 2; omega
def readIntD (neg : Bool) (d : List UInt8) : Option Int :=
  if d.length < 1 ∨ 19 < d.length ∨ (d.head?.map UInt8.toNat = some 48 ∧ (1 < d.length ∨ neg = true)) then none
  else match readDigs 0 d with
    | none => none
    | some n => if neg = true then some n else if n = -9223372036854775808 then none else some (-n)
def readInt (w : List UInt8) : Option Int := if w.head?.map UInt8.toNat = some 45 then readIntD true w.tail else readIntD false w
theorem readInt_itoa {n : Int} (h : In64 n) : readInt (itoa n) = some n := by
  obtain ⟨h1, h2⟩ := h
  unfold readInt itoa
  by_cases hn : n < 0
  · rw [if_pos hn, if_pos (by rfl)]
    obtain ⟨b, r, e, g1, g2, g3, g4⟩ := dec_head n.natAbs
    have hl := dec_len (u := n.natAbs) (by omega)
    have hr := readDigs_dec (u := n.natAbs) (by omega)
    have hb : b.toNat ≠ 48 := fun hb => by have := g3 hb; omega
    rw [List.tail_cons]
    rw [e] at hl hr ⊢
    unfold readIntD
    rw [if_neg (by
      simp only [List.length_cons, List.head?_cons, Option.map_some] at hl ⊢
      intro hc
      rcases hc with hc | hc | ⟨hc, hc2⟩
      · omega
      · omega
      · exact hb (by simpa using hc)), hr]
    simp only [if_true]
    congr 1
    omega
  · rw [if_neg hn]
    obtain ⟨b, r, e, g1, g2, g3, g4⟩ := dec_head n.toNat
    have hl := dec_len (u := n.toNat) (by omega)
    have hr := readDigs_dec (u := n.toNat) (by omega)
    have hb : b.toNat ≠ 45 := by omega
    rw [e] at hl hr ⊢
    rw [if_neg (by simp [hb])]
    unfold readIntD
    rw [if_neg (by
      simp only [List.length_cons, List.head?_cons, Option.map_some] at hl ⊢
      intro hc
      rcases hc with hc | hc | ⟨hc, hc2⟩
      · omega
      · omega
      · have := g4 (g3 (by simpa using hc))
        subst this
        simp at hc2), hr]
    simp only [Bool.false_eq_true, if_false]
    rw [if_neg (by omega)]
    congr 1
    omega
theorem readInt_some {w : List UInt8} {n : Int} (h : readInt w = some n) : In64 n ∧ w = itoa n := by
  unfold readInt at h
  by_cases hneg : w.head?.map UInt8.toNat = some 45
  · rw [if_pos hneg] at h
    unfold readIntD at h
    split at h
    · cases h
    · rename_i hc
      cases hm : readDigs 0 w.tail with
      | none => rw [hm] at h; cases h
      | some m =>
        rw [hm] at h
        simp only [if_true] at h
        injection h with h
        subst h
        have hd : w.tail ≠ [] := fun e => hc (Or.inl (by rw [e]; decide))
        have hz : ¬ (w.tail.head?.map UInt8.toNat = some 48) := fun e => hc (Or.inr (Or.inr ⟨e, Or.inr rfl⟩))
        obtain ⟨u, rfl, hu, e, hu0⟩ := readDigs_some w.tail m hd (fun e => absurd e hz) hm
        have := hu0 hz
        refine ⟨⟨by omega, by omega⟩, ?_⟩
        unfold itoa
        rw [if_pos (by omega)]
        cases w with
        | nil => simp at hneg
        | cons b r =>
          have hb : b = 45 := UInt8.toNat_inj.1 (by simpa using hneg)
          subst hb
          simp only [List.tail_cons] at e
          rw [e]
          congr 2
          omega
  · rw [if_neg hneg] at h
    unfold readIntD at h
    split at h
    · cases h
    · rename_i hc
      cases hm : readDigs 0 w with
      | none => rw [hm] at h; cases h
      | some m =>
        rw [hm] at h
        simp only [Bool.false_eq_true, if_false] at h
        split at h
        · cases h
        · rename_i hmin
          injection h with h
          subst h
          have hd : w ≠ [] := fun e => hc (Or.inl (by rw [e]; decide))
          obtain ⟨u, rfl, hu, e, hu0⟩ := readDigs_some w m hd (fun e => by
            have : ¬ 1 < w.length := fun hl => hc (Or.inr (Or.inr ⟨e, Or.inl hl⟩))
            have : w.length ≠ 0 := fun h0 => hd (List.eq_nil_of_length_eq_zero h0)
            omega) hm
          refine ⟨⟨by omega, by omega⟩, ?_⟩
          unfold itoa
          rw [if_neg (by omega)]
          exact e.trans (congrArg decDigits (by omega))
/-! ### strconv.Atoi of a number as it is written -/
theorem parse_snoc (l : List UInt8) (acc : Nat) (b : UInt8) : parseUint10 acc (l ++ [b]) = match parseUint10 acc l with | .ok m => parseUint10 m [b] | Lib.NumEnd.syntax => Lib.NumEnd.syntax | .range => .range := by
  induction l generalizing acc with
  | nil => rfl
  | cons c l ih =>
    simp only [List.cons_append, parseUint10]
    split
    · split
      · rfl
      · split
        · rfl
        · exact ih _
    · rfl
theorem parse_dec {u : Nat} (h : u < 18446744073709551616) : parseUint10 0 (decDigits u) = .ok u := by
  induction u using Nat.strongRecOn with
  | ind u ih =>
    by_cases hu : u < 10
    · rw [dec_small hu]
      simp only [parseUint10, byte_digit hu]
      rw [if_pos (by omega), if_neg (by omega), if_neg (by omega)]
      congr 1
      omega
    · rw [dec_big hu, parse_snoc, ih (u / 10) (by omega) (by omega)]
      simp only [parseUint10, byte_digit (show u % 10 < 10 by omega)]
      rw [if_pos (by omega), if_neg (by omega), if_neg (by omega)]
      congr 1
      omega
theorem atoi_itoa {n : Int} (h : In64 n) : atoiAll (itoa n) = .ok n := by
  obtain ⟨h1, h2⟩ := h
  unfold itoa
  by_cases hn : n < 0
  · rw [if_pos hn, atoiAll_minus]
    obtain ⟨b, r, e, _⟩ := dec_head n.natAbs
    unfold parseMag
    rw [if_neg (by rw [e]; simp), parse_dec (by omega)]
    unfold signed
    simp only
    rw [if_neg (by omega)]
    congr 1
    omega
  · rw [if_neg hn]
    obtain ⟨b, r, e, g1, g2, _⟩ := dec_head n.toNat
    have h3 := parse_dec (u := n.toNat) (by omega)
    rw [e] at h3 ⊢
    rw [atoiAll_plain b r (by omega) (by omega)]
    unfold parseMag
    rw [if_neg (by simp), h3]
    unfold signless
    simp only
    rw [if_neg (by omega)]
    congr 1
    omega
end Go.Proofs.YtndpbkhpllmhmaaDoor
namespace Go.Proofs.YtndpbkhpllmhmaaDoor
set_option linter.unusedSimpArgs false
set_option linter.unnecessarySimpa false
set_option linter.unusedVariables false
open Go.Lib
abbrev BS := List UInt8
def strB (bs : BS) : ByteArray := ⟨bs.toArray⟩
theorem strB_data (bs : BS) : (strB bs).data.toList = bs := by simp [strB]
theorem strB_of (s : ByteArray) : strB s.data.toList = s := by cases s; simp [strB]
theorem strB_size (bs : BS) : (strB bs).size = bs.length := by simp [strB, ByteArray.size]
theorem strB_toList (bs : BS) : (strB bs).toList = bs := by rw [ByteArray.toList_eq]; exact strB_data bs
theorem strB_inj {a b : BS} (h : strB a = strB b) : a = b := by have := congrArg (fun s : ByteArray => s.data.toList) h; simpa [strB_data] using this
/-- the pieces between the bytes c -/
def pieces (c : UInt8) : BS → List BS
  | [] => [[]]
  | b :: r => if b = c then [] :: pieces c r else match pieces c r with
    | [] => [[b]]
    | p :: ps => (b :: p) :: ps
theorem pieces_ne (c : UInt8) : ∀ l : BS, pieces c l ≠ []
  | [] => by simp [pieces]
  | b :: r => by
    unfold pieces
    split
    · simp
    · split <;> simp
theorem index_cons_eq (c : UInt8) (r : BS) : index (c :: r) [c] = 0 := by simp [index, List.isPrefixOf]
theorem index_cons_ne {b c : UInt8} (h : b ≠ c) (r : BS) : index (b :: r) [c] = if index r [c] == -1 then -1 else index r [c] + 1 := by
  have : (c == b) = false := by simp; exact fun e => h e.symm
  conv => lhs; unfold index
  simp [List.isPrefixOf, this]
theorem index_nil (c : UInt8) : index [] [c] = -1 := by simp [index]
theorem index_lo (s t : BS) : -1 ≤ index s t := by
  rcases index_spec s t with ⟨h, _⟩ | ⟨i, h, _⟩ <;> omega
theorem splitK_cons_ne {b c : UInt8} (h : b ≠ c) (r : BS) (k : Nat) : splitK [c] 0 k (b :: r) = match splitK [c] 0 k r with
    | [] => [[b]]
    | p :: ps => (b :: p) :: ps := by
  cases k with
  | zero => rfl
  | succ k =>
    have hl := index_lo r [c]
    by_cases h1 : index r [c] = -1
    · have hv : index (b :: r) [c] = -1 := by rw [index_cons_ne h, if_pos (by simpa using h1)]
      unfold splitK
      rw [if_pos (by simpa using hv), if_pos (by simpa using h1)]
    · have hv : index (b :: r) [c] = index r [c] + 1 := by rw [index_cons_ne h, if_neg (by simpa using h1)]
      unfold splitK
      rw [if_neg (by rw [hv]; simp; omega), if_neg (by simpa using h1), hv]
      have e : (index r [c] + 1).toNat = (index r [c]).toNat + 1 := by omega
      rw [e]
      rfl
theorem splitK_pieces (c : UInt8) : ∀ s : BS, splitK [c] 0 (count s [c]) s = pieces c s
  | [] => by
    rw [count_one]
    rfl
  | b :: r => by
    have ih := splitK_pieces c r
    by_cases h : b = c
    · subst h
      rw [count_cons_eq, Nat.add_comm]
      unfold splitK
      rw [index_cons_eq]
      unfold pieces
      rw [if_pos rfl]
      have : ((0 : Int) == -1) = false := by decide
      simp only [this, Bool.false_eq_true, if_false]
      show [] :: splitK [b] 0 (count r [b]) r = _
      rw [ih]
    · rw [count_cons_ne b c r h, splitK_cons_ne h, ih]
      conv => rhs; unfold pieces
      rw [if_neg h]
      cases pieces c r <;> rfl
theorem splitB_pieces (c : UInt8) (s : ByteArray) : splitB ⟨#[c]⟩ 0 (countB s ⟨#[c]⟩) s = (pieces c s.data.toList).map strB := by
  have h := splitB_data ⟨#[c]⟩ 0 (countB s ⟨#[c]⟩) s
  have e : countB s ⟨#[c]⟩ = count s.data.toList [c] := rfl
  have h2 : splitK [c] 0 (countB s ⟨#[c]⟩) s.data.toList = pieces c s.data.toList := by rw [e]; exact splitK_pieces c _
  change _ = splitK [c] 0 (countB s ⟨#[c]⟩) s.data.toList at h
  rw [h2] at h
  rw [← h, List.map_map]
  conv => lhs; rw [← List.map_id (splitB ⟨#[c]⟩ 0 (countB s ⟨#[c]⟩) s)]
  exact List.map_congr_left fun x _ => (strB_of x).symm
theorem count_pieces (c : UInt8) (s : ByteArray) : countB s ⟨#[c]⟩ + 1 = (pieces c s.data.toList).length := by
  have h := splitB_all ⟨#[c]⟩ (Nat.le_refl 1) 0 _ s rfl
  rw [splitB_pieces, List.length_map] at h
  exact h.symm
theorem pieces_none {c : UInt8} : ∀ {l : BS}, (∀ b ∈ l, b ≠ c) → pieces c l = [l]
  | [], _ => rfl
  | b :: r, h => by
    unfold pieces
    rw [if_neg (h b (by simp)), pieces_none (fun x hx => h x (by simp [hx]))]
theorem pieces_app {c : UInt8} : ∀ {l : BS} (r : BS), (∀ b ∈ l, b ≠ c) → pieces c (l ++ c :: r) = l :: pieces c r
  | [], r, _ => by
    show pieces c (c :: r) = _
    conv => lhs; unfold pieces
    rw [if_pos rfl]
  | b :: l, r, h => by
    show pieces c (b :: (l ++ c :: r)) = _
    conv => lhs; unfold pieces
    rw [if_neg (h b (by simp)), pieces_app r (fun x hx => h x (by simp [hx]))]
/-- put together again -/
def glue (c : UInt8) : List BS → BS
  | [] => []
  | p :: ps => p ++ ps.flatMap fun q => c :: q
theorem glue_cons (c : UInt8) (p : BS) (ps : List BS) : glue c (p :: ps) = p ++ ps.flatMap fun q => c :: q := rfl
theorem glue_pieces (c : UInt8) : ∀ l : BS, glue c (pieces c l) = l
  | [] => rfl
  | b :: r => by
    have ih := glue_pieces c r
    unfold pieces
    split
    · rename_i h
      subst h
      cases hp : pieces b r with
      | nil => exact absurd hp (pieces_ne b r)
      | cons p ps =>
        rw [hp, glue_cons] at ih
        rw [glue_cons, List.nil_append, List.flatMap_cons, List.cons_append, ih]
    · cases hp : pieces c r with
      | nil => exact absurd hp (pieces_ne c r)
      | cons p ps =>
        rw [hp] at ih
        rw [glue_cons] at ih
        rw [glue_cons, List.cons_append, ih]
theorem pieces_all (c : UInt8) : ∀ (l p : BS), p ∈ pieces c l → ∀ b ∈ p, b ≠ c ∧ b ∈ l
  | [], p, h => by simp [pieces] at h; subst h; simp
  | x :: r, p, h => by
    have ih := pieces_all c r
    unfold pieces at h
    split at h
    · rcases List.mem_cons.1 h with rfl | h
      · simp
      · exact fun b hb => ⟨(ih p h b hb).1, List.mem_cons_of_mem _ (ih p h b hb).2⟩
    · rename_i hx
      cases hp : pieces c r with
      | nil => exact absurd hp (pieces_ne c r)
      | cons q ps =>
        rw [hp] at h ih
        rcases List.mem_cons.1 h with rfl | h
        · intro b hb
          rcases List.mem_cons.1 hb with rfl | hb
          · exact ⟨hx, by simp⟩
          · exact ⟨(ih q (by simp) b hb).1, List.mem_cons_of_mem _ (ih q (by simp) b hb).2⟩
        · exact fun b hb => ⟨(ih p (by simp [h]) b hb).1, List.mem_cons_of_mem _ (ih p (by simp [h]) b hb).2⟩
/-! ### steps -/
structure ST where
  kind : Int
  node : Int
  k : Int
  bit : Int
  deriving DecidableEq
structure ST.In (s : ST) : Prop where
  kind : In64 s.kind
  node : In64 s.node
  k : In64 s.k
  bit : In64 s.bit
def kWork : BS := [119, 111, 114, 107]
def kTick : BS := [116, 105, 99, 107]
def kDeliver : BS := [100, 101, 108, 105, 118, 101, 114]
def kDrop : BS := [100, 114, 111, 112]
def kDup : BS := [100, 117, 112]
def kFlip : BS := [102, 108, 105, 112]
def kCrash : BS := [99, 114, 97, 115, 104]
def wordL (k : Int) : BS := if k = 1 then kWork else if k = 2 then kTick else if k = 3 then kDeliver else if k = 4 then kDrop else if k = 5 then kDup else if k = 6 then kFlip else if k = 7 then kCrash else []
def fieldsL (s : ST) : List Int := if s.kind = 1 ∨ s.kind = 7 then [s.node] else if s.kind = 3 ∨ s.kind = 4 ∨ s.kind = 5 then [s.k] else if s.kind = 6 then [s.k, s.bit] else []
/-- a step's own fields -/
def ownL (s : ST) : ST := if s.kind = 1 ∨ s.kind = 7 then ⟨s.kind, s.node, 0, 0⟩ else if s.kind = 3 ∨ s.kind = 4 ∨ s.kind = 5 then ⟨s.kind, 0, s.k, 0⟩ else if s.kind = 6 then ⟨s.kind, 0, s.k, s.bit⟩ else ⟨s.kind, 0, 0, 0⟩
def partsL (s : ST) : List BS := wordL s.kind :: (fieldsL s).map itoa
def lineL (s : ST) : BS := glue 32 (partsL s)
def goodL (s : ST) : Bool := decide (1 ≤ s.kind) && decide (s.kind ≤ 7) && decide (ownL s = s)
theorem goodL_iff {s : ST} : goodL s = true ↔ (1 ≤ s.kind ∧ s.kind ≤ 7) ∧ ownL s = s := by simp [goodL]
theorem itoa_no (c : UInt8) (n : Int) (h : c.toNat < 45 ∨ 57 < c.toNat) : ∀ b ∈ itoa n, b ≠ c := by
  intro b hb e
  subst e
  have := itoa_bytes n b hb
  omega
theorem wordL_no (k : Int) (c : UInt8) (h : c.toNat < 97) : ∀ b ∈ wordL k, b ≠ c := by
  have : ∀ l ∈ [kWork, kTick, kDeliver, kDrop, kDup, kFlip, kCrash, []], ∀ b ∈ l, 97 ≤ b.toNat := by decide
  have hm : wordL k ∈ [kWork, kTick, kDeliver, kDrop, kDup, kFlip, kCrash, []] := by
    unfold wordL
    repeat' split
    all_goals simp
  intro b hb e
  subst e
  have := this _ hm b hb
  omega
theorem pieces_glue {c : UInt8} : ∀ {ps : List BS} {p : BS}, (∀ q ∈ p :: ps, ∀ b ∈ q, b ≠ c) → pieces c (glue c (p :: ps)) = p :: ps
  | [], p, h => by
    rw [glue_cons, List.flatMap_nil, List.append_nil]
    exact pieces_none (h p (by simp))
  | q :: ps, p, h => by
    have ih := pieces_glue (ps := ps) (p := q) (fun x hx => h x (by simp at hx ⊢; exact Or.inr hx))
    rw [glue_cons] at ih
    rw [glue_cons, List.flatMap_cons, List.cons_append, pieces_app _ (h p (by simp)), ih]
theorem pieces_line (s : ST) : pieces 32 (lineL s) = partsL s :=
  pieces_glue (fun q hq => by
    rcases List.mem_cons.1 hq with rfl | hq
    · exact wordL_no _ _ (by decide)
    · obtain ⟨n, _, rfl⟩ := List.mem_map.1 hq
      exact itoa_no 32 n (Or.inl (by decide)))
theorem glue_mem {c b : UInt8} : ∀ {ps : List BS}, b ∈ glue c ps → b = c ∨ ∃ p ∈ ps, b ∈ p
  | [], h => by cases h
  | p :: ps, h => by
    rw [glue_cons] at h
    rcases List.mem_append.1 h with h | h
    · exact Or.inr ⟨p, by simp, h⟩
    · obtain ⟨q, hq, h⟩ := List.mem_flatMap.1 h
      rcases List.mem_cons.1 h with rfl | h
      · exact Or.inl rfl
      · exact Or.inr ⟨q, by simp [hq], h⟩
theorem line_no10 (s : ST) : ∀ b ∈ lineL s, b ≠ 10 := by
  intro b hb
  rcases glue_mem hb with rfl | ⟨p, hp, hb⟩
  · decide
  · rcases List.mem_cons.1 hp with rfl | hp
    · exact wordL_no _ 10 (by decide) b hb
    · obtain ⟨n, _, rfl⟩ := List.mem_map.1 hp
      exact itoa_no 10 n (Or.inl (by decide)) b hb
/-- what is read -/
def stepP : List BS → Option ST
  | [w] => if w = kTick then some ⟨2, 0, 0, 0⟩ else none
  | [w, a] => if w = kWork then (readInt a).map fun n => ⟨1, n, 0, 0⟩
    else if w = kDeliver then (readInt a).map fun n => ⟨3, 0, n, 0⟩
    else if w = kDrop then (readInt a).map fun n => ⟨4, 0, n, 0⟩
    else if w = kDup then (readInt a).map fun n => ⟨5, 0, n, 0⟩
    else if w = kCrash then (readInt a).map fun n => ⟨7, n, 0, 0⟩ else none
  | [w, a, b] => if w = kFlip then (readInt a).bind fun n => (readInt b).map fun m => ⟨6, 0, n, m⟩ else none
  | _ => none
def stepC (x : BS) : Option ST := stepP (pieces 32 x)
theorem stepP_parts {s : ST} (hg : goodL s = true) (hi : s.In) : stepP (partsL s) = some s := by
  obtain ⟨⟨h1, h7⟩, ho⟩ := goodL_iff.1 hg
  obtain ⟨kind, node, k, bit⟩ := s
  have ha := readInt_itoa hi.node
  have hb := readInt_itoa hi.k
  have hc := readInt_itoa hi.bit
  simp only at h1 h7 ha hb hc
  have hk : kind = 1 ∨ kind = 2 ∨ kind = 3 ∨ kind = 4 ∨ kind = 5 ∨ kind = 6 ∨ kind = 7 := by omega
  rcases hk with rfl | rfl | rfl | rfl | rfl | rfl | rfl
  all_goals
    simp [ownL] at ho
    simp [partsL, wordL, fieldsL, stepP, ha, hb, hc, kWork, kTick, kDeliver, kDrop, kDup, kFlip, kCrash]
    try omega
theorem stepP_some {ps : List BS} {s : ST} (h : stepP ps = some s) : goodL s = true ∧ s.In ∧ ps = partsL s := by
  have z : In64 0 := ⟨by omega, by omega⟩
  have zk : ∀ n : Int, 1 ≤ n → n ≤ 7 → In64 n := fun n h1 h2 => ⟨by omega, by omega⟩
  unfold stepP at h
  split at h
  · split at h
    · rename_i hw
      injection h with h
      subst h hw
      exact ⟨by decide, ⟨zk _ (by decide) (by decide), z, z, z⟩, by decide⟩
    · cases h
  · rename_i w a
    have key : ∀ (k : Int) (mk : Int → ST) (W : BS), (∀ n, goodL (mk n) = true) → (∀ n, In64 n → (mk n).In) → (∀ n, partsL (mk n) = [W, itoa n]) → w = W → (readInt a).map mk = some s → goodL s = true ∧ s.In ∧ [w, a] = partsL s := by
      intro k mk W g1 g2 g3 hw hr
      obtain ⟨n, hn, rfl⟩ := Option.map_eq_some_iff.1 hr
      obtain ⟨hin, ha⟩ := readInt_some hn
      exact ⟨g1 n, g2 n hin, by rw [g3, hw, ha]⟩
    have G : ∀ n : Int, goodL ⟨1, n, 0, 0⟩ = true ∧ goodL ⟨3, 0, n, 0⟩ = true ∧ goodL ⟨4, 0, n, 0⟩ = true ∧ goodL ⟨5, 0, n, 0⟩ = true ∧ goodL ⟨7, n, 0, 0⟩ = true := fun n => by simp [goodL, ownL]
    split at h
    · exact key 1 _ kWork (fun n => (G n).1) (fun n hn => ⟨zk _ (by simp) (by simp), hn, z, z⟩) (fun n => by simp [partsL, wordL, fieldsL]) (by assumption) h
    split at h
    · exact key 3 _ kDeliver (fun n => (G n).2.1) (fun n hn => ⟨zk _ (by simp) (by simp), z, hn, z⟩) (fun n => by simp [partsL, wordL, fieldsL]) (by assumption) h
    split at h
    · exact key 4 _ kDrop (fun n => (G n).2.2.1) (fun n hn => ⟨zk _ (by simp) (by simp), z, hn, z⟩) (fun n => by simp [partsL, wordL, fieldsL]) (by assumption) h
    split at h
    · exact key 5 _ kDup (fun n => (G n).2.2.2.1) (fun n hn => ⟨zk _ (by simp) (by simp), z, hn, z⟩) (fun n => by simp [partsL, wordL, fieldsL]) (by assumption) h
    split at h
    · exact key 7 _ kCrash (fun n => (G n).2.2.2.2) (fun n hn => ⟨zk _ (by simp) (by simp), hn, z, z⟩) (fun n => by simp [partsL, wordL, fieldsL]) (by assumption) h
    · cases h
  · rename_i w a b
    split at h
    · rename_i hw
      obtain ⟨n, hn, h⟩ := Option.bind_eq_some_iff.1 h
      obtain ⟨m, hm, rfl⟩ := Option.map_eq_some_iff.1 h
      obtain ⟨hin, ha⟩ := readInt_some hn
      obtain ⟨him, hb⟩ := readInt_some hm
      exact ⟨by simp [goodL, ownL], ⟨zk _ (by simp) (by simp), z, hin, him⟩, by rw [hw, ha, hb]; simp [partsL, wordL, fieldsL]⟩
    · cases h
  · cases h
theorem stepC_iff {x : BS} {s : ST} : stepC x = some s ↔ goodL s = true ∧ s.In ∧ lineL s = x := by
  constructor
  · intro h
    obtain ⟨h1, h2, h3⟩ := stepP_some h
    exact ⟨h1, h2, by unfold lineL; rw [← h3, glue_pieces]⟩
  · rintro ⟨h1, h2, rfl⟩
    unfold stepC
    rw [pieces_line]
    exact stepP_parts h1 h2
end Go.Proofs.YtndpbkhpllmhmaaDoor
namespace Go.Proofs.YtndpbkhpllmhmaaDoor
set_option linter.unusedSimpArgs false
set_option linter.unnecessarySimpa false
set_option linter.unusedVariables false
open Go.RowKit

structure IN where
  op : Int
  n : Int
structure FN where
  name : BS
  code : List IN
/-- a task's state; its locals are none -/
structure SS where
  fn : Nat
  pc : Nat
  fuel : Nat
  stack : List Int
  kids : Nat
  waits : Bool
inductive EV where
  | spawned (f k : Nat)
  | waiting (k : Nat)
  | ended (v : Int)
/-- what an instruction takes and puts -/
def pops6 (op : Int) : Int := if op = 17 ∨ op = 18 then 1 else if op = 4 ∨ op = 7 then 2 else 0
def pushes6 (op : Int) : Int := if op = 4 then 2 else if op = 18 then 0 else 1
/-- the instructions that are told here -/
def Op6 (op : Int) : Prop := op = 1 ∨ op = 4 ∨ op = 7 ∨ op = 16 ∨ op = 17 ∨ op = 18
/-- a job: its functions, the stack's depth ahead of each instruction, its fuel and its tasks -/
structure JB where
  fs : List FN
  ds : List (List Int)
  fuel : Nat
  tasks : Nat
def JB.at_ (J : JB) (S : SS) (i : IN) : Prop := ∃ f, J.fs[S.fn]? = some f ∧ f.code[S.pc]? = some i
/-- 'May' says yes -/
structure MayR (J : JB) (S : SS) : Prop where
  ins : ∃ i, J.at_ S i
  depth : ∃ d, J.ds[S.fn]? = some d ∧ d[S.pc]? = some (S.stack.length : Int)
  kids : S.kids ≤ 16
  fuel : S.fuel ≤ J.fuel
  len : S.stack.length ≤ 32
/-- a step -/
inductive StepR (J : JB) (deep : Nat) : SS → SS → Option EV → Prop
  | push {S : SS} {n : Int} : J.at_ S ⟨1, n⟩ → StepR J deep S { S with stack := S.stack ++ [n], pc := S.pc + 1 } none
  | swap {S : SS} {n : Int} {l : List Int} {x y : Int} : J.at_ S ⟨4, n⟩ → S.stack = l ++ [x, y] → StepR J deep S { S with stack := l ++ [y, x], pc := S.pc + 1 } none
  | add {S : SS} {n : Int} {l : List Int} {x y : Int} : J.at_ S ⟨7, n⟩ → S.stack = l ++ [x, y] → 0 ≤ x → x ≤ 1000000000 → 0 ≤ y → y ≤ 1000000000 → StepR J deep S { S with stack := l ++ [x + y], pc := S.pc + 1 } none
  | spawn {S : SS} {n : Nat} {f : FN} : J.at_ S ⟨16, n⟩ → J.fs[n]? = some f → deep < 12 → S.kids < 16 → StepR J deep S { S with stack := S.stack ++ [(S.kids : Int)], pc := S.pc + 1, kids := S.kids + 1 } (some (.spawned n S.kids))
  | await {S : SS} {n : Int} {l : List Int} {k : Nat} : J.at_ S ⟨17, n⟩ → S.stack = l ++ [(k : Int)] → k < S.kids → StepR J deep S { S with waits := true } (some (.waiting k))
  | ret {S : SS} {n : Int} {l : List Int} {v : Int} : J.at_ S ⟨18, n⟩ → S.stack = l ++ [v] → StepR J deep S S (some (.ended v))
/-- a run to an event, of m steps -/
inductive RunR (J : JB) (deep : Nat) : Nat → SS → SS → EV → Prop
  | last {S S' : SS} {ev : EV} : S.fuel < J.fuel → S.stack.length ≤ 32 → StepR J deep { S with fuel := S.fuel + 1 } S' (some ev) → RunR J deep 1 S S' ev
  | more {m : Nat} {S S' S2 : SS} {ev : EV} : S.fuel < J.fuel → S.stack.length ≤ 32 → StepR J deep { S with fuel := S.fuel + 1 } S' none → RunR J deep m S' S2 ev → RunR J deep (m + 1) S S2 ev
/-- an entry: the task's name and its value (0 while it is at work) -/
abbrev EK := BS × Int
/-- how a task goes on: its name, its place among the entries, its state, its kids' values, the entries, the entries in the end, its value -/
inductive LoopR (J : JB) : Nat → BS → Nat → SS → List Int → List EK → List EK → Int → Prop
  | spawn {n m : Nat} {id : BS} {at_ : Nat} {S S1 : SS} {f k : Nat} {ks : List Int} {E E1 E2 : List EK} {r1 r : Int} :
      MayR J S → S.waits = false → m ≤ 6000 → RunR J id.length m S S1 (.spawned f k) → k < 2 → id.length < 12 → (∀ x ∈ id, x < 16) → E.length < J.tasks → f < J.fs.length →
      LoopR J n (id ++ [UInt8.ofNat k]) E.length ⟨f, 0, 0, [], 0, false⟩ [] (E ++ [(id ++ [UInt8.ofNat k], 0)]) E1 r1 →
      LoopR J n id at_ S1 (ks ++ [r1]) E1 E2 r → LoopR J (n + 1) id at_ S ks E E2 r
  | await {n m : Nat} {id : BS} {at_ : Nat} {S S1 : SS} {k : Nat} {ks : List Int} {E E2 : List EK} {v r : Int} {l : List Int} {x : Int} :
      MayR J S → S.waits = false → m ≤ 6000 → RunR J id.length m S S1 (.waiting k) → ks[k]? = some v → MayR J S1 → (∃ i : IN, J.at_ S1 i ∧ i.op = 17) → S1.stack = l ++ [x] → x = k → k < S1.kids → S1.waits = true →
      LoopR J n id at_ { S1 with stack := l ++ [v], pc := S1.pc + 1, waits := false } ks E E2 r → LoopR J (n + 1) id at_ S ks E E2 r
  | ended {n m : Nat} {id : BS} {at_ : Nat} {S S1 : SS} {ks : List Int} {E : List EK} {r : Int} :
      MayR J S → S.waits = false → m ≤ 6000 → RunR J id.length m S S1 (.ended r) → LoopR J (n + 1) id at_ S ks E (E.set at_ (id, r)) r
end Go.Proofs.YtndpbkhpllmhmaaDoor
namespace Go.Proofs.YtndpbkhpllmhmaaDoor
set_option linter.unusedSimpArgs false
set_option linter.unnecessarySimpa false
set_option linter.unusedVariables false
open Go.RowKit

theorem below_of {B : Nat} {w w' : World} (k : Keep [] w w') (hB : B ≤ w.heap.size) : Below B w w' :=
  ⟨k.os, k.tape, k.output, k.size, fun i hi => k.block i (Nat.lt_of_lt_of_le hi hB) (by simp)⟩
theorem cell_lt6 {w : World} {p : Addr} {u : Value} (h : w.cell? p = some u) : p.block < w.heap.size := by
  rcases Nat.lt_or_ge p.block w.heap.size with h1 | h1
  · exact h1
  · unfold World.cell? at h
    rw [Array.getElem?_eq_none h1] at h
    cases h
/-- v reads as rows of sz cells; they lie in a block below B -/
def RowsAt (B sz : Nat) (w : World) (v : Value) (rows : List (List Value)) : Prop :=
  ∃ a c, v = .slice a rows.length c ∧ ∀ (i : Nat) (r : List Value), rows[i]? = some r → ∃ b off, a = some ⟨b, off, none⟩ ∧ b < B ∧ ∀ (j : Nat) (u : Value), r[j]? = some u → w.cell? ⟨b, off + i * sz + j, none⟩ = some u
theorem RowsAt.below {B sz : Nat} {w w' : World} {v : Value} {rows : List (List Value)} (h : RowsAt B sz w v rows) (k : Below B w w') : RowsAt B sz w' v rows := by
  obtain ⟨a, c, rfl, h⟩ := h
  refine ⟨a, c, rfl, fun i r hr => ?_⟩
  obtain ⟨b, off, rfl, hb, hc⟩ := h i r hr
  exact ⟨b, off, rfl, hb, fun j u hu => (k.cell (p := ⟨b, off + i * sz + j, none⟩) hb).trans (hc j u hu)⟩
theorem RowsAt.mono {B B' sz : Nat} {w : World} {v : Value} {rows : List (List Value)} (h : RowsAt B sz w v rows) (k : B ≤ B') : RowsAt B' sz w v rows := by
  obtain ⟨a, c, rfl, h⟩ := h
  refine ⟨a, c, rfl, fun i r hr => ?_⟩
  obtain ⟨b, off, rfl, hb, hc⟩ := h i r hr
  exact ⟨b, off, rfl, Nat.lt_of_lt_of_le hb k, hc⟩
theorem RowsAt.nil (B sz : Nat) (w : World) (a : Option Addr) (c : Nat) : RowsAt B sz w (.slice a 0 c) [] := ⟨a, c, rfl, fun i s h => by cases h⟩
theorem RowsAt.shape {B sz : Nat} {w : World} {v : Value} {rows : List (List Value)} (h : RowsAt B sz w v rows) : ∃ a c, v = .slice a rows.length c := by
  obtain ⟨a, c, rfl, _⟩ := h
  exact ⟨a, c, rfl⟩
theorem RowsAt.ints {B : Nat} {w : World} {v : Value} {ys : List Int} (h : RowsAt B 1 w v (ys.map fun x => [.int .i64 x])) (hB : B ≤ w.heap.size) : IntsOf w v ys := by
  obtain ⟨a, c, rfl, h⟩ := h
  rw [List.length_map] at *
  refine ⟨a, c, rfl, fun hy => ?_⟩
  obtain ⟨x, xs, rfl⟩ := List.exists_cons_of_ne_nil hy
  obtain ⟨b, off, rfl, hb, _⟩ := h 0 _ rfl
  refine ⟨b, off, rfl, Nat.lt_of_lt_of_le hb hB, fun k y hk => ?_⟩
  obtain ⟨b', off', e, _, hc⟩ := h k _ (by rw [List.getElem?_map, hk]; rfl)
  injection e with e
  injection e with e1 e2
  subst e1 e2
  have := hc 0 _ rfl
  simpa using this
def inC (x : IN) : List Value := [.int .i64 x.op, .int .i64 x.n]
def inV (x : IN) : Value := .agg #[.int .i64 x.op, .int .i64 x.n]
def CodeAt (B : Nat) (w : World) (v : Value) (code : List IN) : Prop := RowsAt B 2 w v (code.map inC)
def fnC (f : FN) (cv : Value) : List Value := [.string (strB f.name), .int .i64 0, .int .i64 0, cv]
def fnV (f : FN) (cv : Value) : Value := .agg #[.string (strB f.name), .int .i64 0, .int .i64 0, cv]
def FuncsAt (B : Nat) (w : World) (v : Value) (fs : List FN) : Prop :=
  ∃ cvs : List Value, cvs.length = fs.length ∧ RowsAt B 4 w v (List.zipWith fnC fs cvs) ∧ ∀ (i : Nat) (f : FN) (cv : Value), fs[i]? = some f → cvs[i]? = some cv → CodeAt B w cv f.code
theorem FuncsAt.below {B : Nat} {w w' : World} {v : Value} {fs : List FN} (h : FuncsAt B w v fs) (k : Below B w w') : FuncsAt B w' v fs := by
  obtain ⟨cvs, hl, hr, hc⟩ := h
  exact ⟨cvs, hl, hr.below k, fun i f cv h1 h2 => (hc i f cv h1 h2).below k⟩
theorem FuncsAt.mono {B B' : Nat} {w : World} {v : Value} {fs : List FN} (h : FuncsAt B w v fs) (k : B ≤ B') : FuncsAt B' w v fs := by
  obtain ⟨cvs, hl, hr, hc⟩ := h
  exact ⟨cvs, hl, hr.mono k, fun i f cv h1 h2 => (hc i f cv h1 h2).mono k⟩
theorem FuncsAt.shape {B : Nat} {w : World} {v : Value} {fs : List FN} (h : FuncsAt B w v fs) : ∃ a c, v = .slice a fs.length c := by
  obtain ⟨cvs, hl, hr, _⟩ := h
  obtain ⟨a, c, rfl⟩ := hr.shape
  exact ⟨a, c, by rw [List.length_zipWith, hl, Nat.min_self]⟩
/-- a function's cells -/
theorem FuncsAt.fn {B : Nat} {w : World} {av : Option Addr} {n c : Nat} {fs : List FN} (h : FuncsAt B w (.slice av n c) fs) {k : Nat} {f : FN} (hk : fs[k]? = some f) :
    ∃ b off cv, av = some ⟨b, off, none⟩ ∧ b < B ∧ w.cell? ⟨b, off + k * 4, none⟩ = some (.string (strB f.name)) ∧ w.cell? ⟨b, off + k * 4 + 1, none⟩ = some (.int .i64 0) ∧ w.cell? ⟨b, off + k * 4 + 2, none⟩ = some (.int .i64 0) ∧ w.cell? ⟨b, off + k * 4 + 3, none⟩ = some cv ∧ CodeAt B w cv f.code := by
  obtain ⟨cvs, hl, ⟨a, c', hv, hr⟩, hc⟩ := h
  injection hv with e1 e2 e3
  subst e1
  have hlt : k < fs.length := by
    rcases Nat.lt_or_ge k fs.length with h1 | h1
    · exact h1
    · rw [List.getElem?_eq_none h1] at hk; cases hk
  obtain ⟨cv, hcv⟩ : ∃ cv, cvs[k]? = some cv := ⟨_, List.getElem?_eq_getElem (by omega)⟩
  obtain ⟨b, off, hav, hb, hcell⟩ := hr k (fnC f cv) (by rw [List.getElem?_zipWith, hk, hcv])
  have h0 := hcell 0 _ rfl
  exact ⟨b, off, cv, hav, hb, by simpa using h0, hcell 1 _ rfl, hcell 2 _ rfl, hcell 3 _ rfl, hc k f cv hk hcv⟩
theorem CodeAt.shape {B : Nat} {w : World} {v : Value} {l : List IN} (h : CodeAt B w v l) : ∃ a c, v = .slice a l.length c := by
  obtain ⟨a, c, h⟩ := RowsAt.shape h
  exact ⟨a, c, by simpa using h⟩
/-- an instruction's cells -/
theorem CodeAt.at_ {B : Nat} {w : World} {av : Option Addr} {n c : Nat} {l : List IN} (h : CodeAt B w (.slice av n c) l) {k : Nat} {x : IN} (hk : l[k]? = some x) :
    ∃ b off, av = some ⟨b, off, none⟩ ∧ b < B ∧ w.cell? ⟨b, off + k * 2, none⟩ = some (.int .i64 x.op) ∧ w.cell? ⟨b, off + k * 2 + 1, none⟩ = some (.int .i64 x.n) := by
  obtain ⟨a, c', hv, hr⟩ := h
  injection hv with e1 e2 e3
  subst e1
  obtain ⟨b, off, hav, hb, hcell⟩ := hr k (inC x) (by rw [List.getElem?_map, hk]; rfl)
  have h0 := hcell 0 _ rfl
  exact ⟨b, off, hav, hb, by simpa using h0, hcell 1 _ rfl⟩
/-- a job as a value -/
def JobIs (B : Nat) (w : World) (v : Value) (J : JB) : Prop :=
  ∃ fv, v = .agg #[fv, .int .i64 0, .slice none 0 0, .int .i64 J.fuel, .int .i64 J.tasks] ∧ FuncsAt B w fv J.fs
theorem JobIs.below {B : Nat} {w w' : World} {v : Value} {J : JB} (h : JobIs B w v J) (k : Below B w w') : JobIs B w' v J := by
  obtain ⟨fv, rfl, h⟩ := h
  exact ⟨fv, rfl, h.below k⟩
/-- the depths: a slice of slices of numbers -/
def DepthsAt (B : Nat) (w : World) (v : Value) (ds : List (List Int)) : Prop :=
  ∃ dvs : List Value, dvs.length = ds.length ∧ RowsAt B 1 w v (dvs.map fun x => [x]) ∧ ∀ (i : Nat) (d : List Int) (dv : Value), ds[i]? = some d → dvs[i]? = some dv → RowsAt B 1 w dv (d.map fun x => [.int .i64 x])
theorem DepthsAt.below {B : Nat} {w w' : World} {v : Value} {ds : List (List Int)} (h : DepthsAt B w v ds) (k : Below B w w') : DepthsAt B w' v ds := by
  obtain ⟨dvs, hl, hr, hc⟩ := h
  exact ⟨dvs, hl, hr.below k, fun i f cv h1 h2 => (hc i f cv h1 h2).below k⟩
theorem DepthsAt.at_ {B : Nat} {w : World} {v : Value} {ds : List (List Int)} (h : DepthsAt B w v ds) {k j : Nat} {d : List Int} {x : Int} (hk : ds[k]? = some d) (hj : d[j]? = some x) :
    ∃ b off c b2 off2 c2, v = .slice (some ⟨b, off, none⟩) ds.length c ∧ b < B ∧ w.cell? ⟨b, off + k, none⟩ = some (.slice (some ⟨b2, off2, none⟩) d.length c2) ∧ w.cell? ⟨b2, off2 + j, none⟩ = some (.int .i64 x) := by
  obtain ⟨dvs, hl, ⟨a, c, rfl, hr⟩, hc⟩ := h
  have hlt : k < ds.length := by
    rcases Nat.lt_or_ge k ds.length with h1 | h1
    · exact h1
    · rw [List.getElem?_eq_none h1] at hk; cases hk
  obtain ⟨dv, hdv⟩ : ∃ dv, dvs[k]? = some dv := ⟨_, List.getElem?_eq_getElem (by omega)⟩
  obtain ⟨b, off, rfl, hb, hcell⟩ := hr k [dv] (by rw [List.getElem?_map, hdv]; rfl)
  obtain ⟨a2, c2, rfl, hr2⟩ := hc k d dv hk hdv
  obtain ⟨b2, off2, rfl, hb2, hcell2⟩ := hr2 j [.int .i64 x] (by rw [List.getElem?_map, hj]; rfl)
  have h0 := hcell 0 _ rfl
  have h1 := hcell2 0 _ rfl
  refine ⟨b, off, c, b2, off2, c2, by rw [List.length_map, hl], hb, ?_, ?_⟩
  · simpa using h0
  · simpa using h1
/-- what 'Know' keeps -/
def KnownAt (B : Nat) (w : World) (g : Nat) (J : JB) : Prop :=
  ∃ fv dv, g < B ∧ Blk w g 129 [fv, .int .i64 0, .slice none 0 0, .int .i64 J.fuel, .int .i64 J.tasks, dv] ∧ FuncsAt B w fv J.fs ∧ DepthsAt B w dv J.ds
theorem KnownAt.below {B : Nat} {w w' : World} {g : Nat} {J : JB} (h : KnownAt B w g J) (k : Below B w w') : KnownAt B w' g J := by
  obtain ⟨fv, dv, hg, hb, hf, hd⟩ := h
  exact ⟨fv, dv, hg, hb.below k hg, hf.below k, hd.below k⟩
/-! ### States and events -/
def stV6 (S : SS) (sv : Value) : Value := .agg #[.int .i64 S.fn, .int .i64 S.pc, .int .i64 S.fuel, sv, .slice none 0 0, .int .i64 S.kids, .bool S.waits]
/-- v is a state; its stack lies in a block from B on -/
def StateIs (B : Nat) (w : World) (v : Value) (S : SS) : Prop :=
  ∃ sv, v = stV6 S sv ∧ IntsOf w sv S.stack ∧ ∀ x ∈ sliceBlock sv, B ≤ x
def resV (err v : Int) : Value := .agg #[.int .i64 err, .int .i64 v]
/-- v is the event -/
def EventIs (v : Value) : EV → Prop
  | .spawned f k => ∃ n x y : Int, v = .agg #[.int .i64 1, .int .i64 (f : Int), .int .i64 (k : Int), .int .i64 n, .slice none 0 0, .int .i64 x, .int .i64 y]
  | .waiting k => ∃ f n x y : Int, v = .agg #[.int .i64 2, .int .i64 f, .int .i64 (k : Int), .int .i64 n, .slice none 0 0, .int .i64 x, .int .i64 y]
  | .ended r => ∃ f k n : Int, v = .agg #[.int .i64 3, .int .i64 f, .int .i64 k, .int .i64 n, .slice none 0 0, .int .i64 0, .int .i64 r]
end Go.Proofs.YtndpbkhpllmhmaaDoor
namespace Go.Proofs.YtndpbkhpllmhmaaDoor
set_option linter.unusedSimpArgs false
set_option linter.unnecessarySimpa false
set_option linter.unusedVariables false
open Go.RowKit
theorem get_lt {α : Type} {l : List α} {i : Nat} {x : α} (h : l[i]? = some x) : i < l.length := (List.getElem?_eq_some_iff.1 h).1
theorem get_ex {α : Type} {l : List α} {i : Nat} (h : i < l.length) : ∃ x, l[i]? = some x := ⟨_, List.getElem?_eq_getElem h⟩
/-- n cells, told by their places -/
def cellsN (n : Nat) (f : Nat → Value) : List Value := (List.range n).map f
theorem cellsN_at (n : Nat) (f : Nat → Value) {i : Nat} (h : i < n) : (cellsN n f)[i]? = some (f i) := by
  unfold cellsN
  rw [List.getElem?_map, List.getElem?_range h]
  rfl
theorem cellsN_len (n : Nat) (f : Nat → Value) : (cellsN n f).length = n := by simp [cellsN]
theorem cellsN_eq (n : Nat) (f g : Nat → Value) (h : ∀ i, i < n → f i = g i) : cellsN n f = cellsN n g := by
  unfold cellsN
  exact List.map_congr_left fun i hi => h i (List.mem_range.1 hi)
theorem cellsN_set (n i : Nat) (f g : Nat → Value) (x : Value) (h1 : g i = x) (h2 : ∀ j, j < n → j ≠ i → f j = g j) : (cellsN n f).set i x = cellsN n g := by
  apply List.ext_getElem?
  intro j
  by_cases hj : j < n
  · by_cases hji : i = j
    · subst hji
      rw [List.getElem?_set_self (by rw [cellsN_len]; exact hj), cellsN_at _ _ hj, h1]
    · rw [List.getElem?_set_ne hji, cellsN_at _ _ hj, cellsN_at _ _ hj, h2 j hj (fun e => hji e.symm)]
  · rw [List.getElem?_eq_none (by rw [List.length_set, cellsN_len]; omega), List.getElem?_eq_none (by rw [cellsN_len]; omega)]
def fd0 (i j : Nat) : Value := .int .i64 (if j = 0 then 0 else if j < i then -1 else 0)
def fdt (d : List Int) (t j : Nat) : Value := .int .i64 (if j ≤ t then d.getD j 0 else -1)
def fo (t j : Nat) : Value := .bool (decide (j < t))
theorem fd0_start (n : Nat) : List.replicate n (Value.int .i64 0) = cellsN n (fd0 1) := by
  apply List.ext_getElem?
  intro j
  by_cases hj : j < n
  · rw [cellsN_at _ _ hj, List.getElem?_replicate, if_pos hj]
    unfold fd0
    by_cases h : j = 0
    · rw [if_pos h]
    · rw [if_neg h, if_neg (by omega)]
  · rw [List.getElem?_eq_none (by simp; omega), List.getElem?_eq_none (by rw [cellsN_len]; omega)]
theorem fd0_step (n i : Nat) (h : 1 ≤ i) : (cellsN n (fd0 i)).set i (.int .i64 (-1)) = cellsN n (fd0 (i + 1)) := by
  refine cellsN_set _ _ _ _ _ ?_ fun j _ hji => ?_
  · unfold fd0; rw [if_neg (by omega), if_pos (by omega)]
  · unfold fd0
    by_cases h0 : j = 0
    · rw [if_pos h0, if_pos h0]
    · rw [if_neg h0, if_neg h0]
      by_cases hj : j < i
      · rw [if_pos hj, if_pos (by omega)]
      · rw [if_neg hj, if_neg (by omega)]
theorem fd0_end {d : List Int} (h0 : d[0]? = some 0) : cellsN d.length (fd0 d.length) = cellsN d.length (fdt d 0) := by
  refine cellsN_eq _ _ _ fun j hj => ?_
  unfold fd0 fdt
  by_cases h : j = 0
  · subst h; rw [if_pos rfl, if_pos (by omega), List.getD_eq_getElem?_getD, h0]; rfl
  · rw [if_neg h, if_pos hj, if_neg (by omega)]
theorem fdt_step {d : List Int} {t : Nat} {x : Int} (h : d[t + 1]? = some x) : (cellsN d.length (fdt d t)).set (t + 1) (.int .i64 x) = cellsN d.length (fdt d (t + 1)) := by
  refine cellsN_set _ _ _ _ _ ?_ fun j _ hji => ?_
  · unfold fdt; rw [if_pos (by omega), List.getD_eq_getElem?_getD, h]; rfl
  · unfold fdt
    by_cases hj : j ≤ t
    · rw [if_pos hj, if_pos (by omega)]
    · rw [if_neg hj, if_neg (by omega)]
theorem fdt_last {d : List Int} {t : Nat} (h : t + 1 = d.length) : cellsN d.length (fdt d t) = cellsN d.length (fdt d (t + 1)) := by
  refine cellsN_eq _ _ _ fun j hj => ?_
  unfold fdt
  rw [if_pos (by omega), if_pos (by omega)]
theorem fdt_at {d : List Int} {t j : Nat} {x : Int} (hj : j ≤ t) (h : d[j]? = some x) : (cellsN d.length (fdt d t))[j]? = some (.int .i64 x) := by
  rw [cellsN_at _ _ (get_lt h)]
  unfold fdt
  rw [if_pos hj, List.getD_eq_getElem?_getD, h]; rfl
theorem fdt_over {d : List Int} {t j : Nat} (hj : t < j) (h : j < d.length) : (cellsN d.length (fdt d t))[j]? = some (.int .i64 (-1)) := by
  rw [cellsN_at _ _ h]
  unfold fdt
  rw [if_neg (by omega)]
theorem fdt_done (d : List Int) (t : Nat) (h : d.length ≤ t) : cellsN d.length (fdt d t) = d.map (.int .i64) := by
  apply List.ext_getElem?
  intro j
  by_cases hj : j < d.length
  · obtain ⟨x, hx⟩ := get_ex hj
    rw [fdt_at (by omega) hx, List.getElem?_map, hx]; rfl
  · rw [List.getElem?_eq_none (by rw [cellsN_len]; omega), List.getElem?_eq_none (by simp; omega)]
theorem fo_start (n : Nat) : List.replicate n (Value.bool false) = cellsN n (fo 0) := by
  apply List.ext_getElem?
  intro j
  by_cases hj : j < n
  · rw [cellsN_at _ _ hj, List.getElem?_replicate, if_pos hj]; rfl
  · rw [List.getElem?_eq_none (by simp; omega), List.getElem?_eq_none (by rw [cellsN_len]; omega)]
theorem fo_step (n t : Nat) : (cellsN n (fo t)).set t (.bool true) = cellsN n (fo (t + 1)) := by
  refine cellsN_set _ _ _ _ _ (by unfold fo; rw [decide_eq_true (by omega)]) fun j _ hji => ?_
  unfold fo
  congr 1
  rw [decide_eq_decide]
  omega
theorem fo_true {n t j : Nat} (hj : j < t) (h : j < n) : (cellsN n (fo t))[j]? = some (.bool true) := by
  rw [cellsN_at _ _ h]; unfold fo; rw [decide_eq_true hj]
theorem fo_false {n t : Nat} (h : t < n) : (cellsN n (fo t))[t]? = some (.bool false) := by
  rw [cellsN_at _ _ h]; unfold fo; rw [decide_eq_false (by omega)]
def isF : Option Value → Bool
  | some (.bool false) => true
  | _ => false
def openLeft (w : World) (g : Nat) : Nat → Nat
  | 0 => 0
  | i + 1 => openLeft w g i + (isF (w.cell? ⟨g, i, none⟩)).toNat
theorem openLeft_is {w : World} {g n t : Nat} {ty : TypeId} (h : Blk w g ty (cellsN n (fo t))) : ∀ m, m ≤ n → openLeft w g m = m - t
  | 0, _ => by simp [openLeft]
  | m + 1, hm => by
    rw [openLeft, openLeft_is h m (by omega), h.cell m, cellsN_at _ _ (by omega)]
    unfold fo
    by_cases hmt : m < t
    · rw [decide_eq_true hmt]; simp [isF]; omega
    · rw [decide_eq_false hmt]; simp [isF]; omega
theorem Tryd.infoI : (Tryd.prog.info? 3).map (fun i => (i.zero, i.size, i.bytes)) = some (some (.int .i64 0), 1, 8) := by kernel_rfl
theorem Tryd.infoB : (Tryd.prog.info? 4).map (fun i => (i.zero, i.size, i.bytes)) = some (some (.bool false), 1, 1) := by kernel_rfl
def zI (n : Nat) : Array Value := (List.replicate n (Value.int .i64 0)).toArray
def zB (n : Nat) : Array Value := (List.replicate n (Value.bool false)).toArray
theorem mk_ints (n : Nat) (hn : n ≤ 65536) (w : World) :
    (Instr.makeSlice 24 (.int .i64 n) (.int .i64 n)).run Tryd.prog w = .ok (.slice (some ⟨w.heap.size, 0, none⟩) n n) (w.alloc (.cells (zI n) 3)) := by
  obtain ⟨i0, hi, hz0, hz1, hz2⟩ := info_parts Tryd.infoI
  have := run_make (P := Tryd.prog) w 24 3 i0 _ Tryd.underlying24 hi hz0 .i64 .i64 n n (by omega) (Int.le_refl _) (by rw [hz2]; omega) (by omega)
  rw [this, hz1]
  have e : madeCells (Value.int .i64 0).cells ((n : Int).toNat * 1) = zI n := by
    apply Array.toList_inj.1
    rw [show (Value.int .i64 0).cells = #[.int .i64 0] from rfl, toList_madeCells_one]
    simp [zI]
  rw [e]
  simp
theorem mk_bools (n : Nat) (hn : n ≤ 65536) (w : World) :
    (Instr.makeSlice 157 (.int .i64 n) (.int .i64 n)).run Tryd.prog w = .ok (.slice (some ⟨w.heap.size, 0, none⟩) n n) (w.alloc (.cells (zB n) 4)) := by
  obtain ⟨i0, hi, hz0, hz1, hz2⟩ := info_parts Tryd.infoB
  have := run_make (P := Tryd.prog) w 157 4 i0 _ Tryd.underlying157 hi hz0 .i64 .i64 n n (by omega) (Int.le_refl _) (by rw [hz2]; omega) (by omega)
  rw [this, hz1]
  have e : madeCells (Value.bool false).cells ((n : Int).toNat * 1) = zB n := by
    apply Array.toList_inj.1
    rw [show (Value.bool false).cells = #[.bool false] from rfl, toList_madeCells_one]
    simp [zB]
  rw [e]
  simp
end Go.Proofs.YtndpbkhpllmhmaaDoor
namespace Go.Proofs.YtndpbkhpllmhmaaDoor
set_option linter.unusedSimpArgs false
set_option linter.unnecessarySimpa false
set_option linter.unusedVariables false
open Go.ChangeShapes Go.WideShapes Go.RowKit Go.Deep
section
variable {H : Type} {enc : TypeId × Value → H} {P : Program} {w : World}
abbrev Reads (enc : TypeId × Value → H) (P : Program) (w : World) (t : TypeId) (cs : List Value) : Prop := ∃ n y, DataW.trod enc P w 0 (fun _ => true) true n t cs = some y
theorem reads_rows {t e : TypeId} {cs : List Value} (sz : Nat) (ht : P.underlying t = some (.slice e)) (hC : P.cellsOf e = sz) (hsz : 0 < sz) (h : Reads enc P w t cs) :
    ∃ v css, cs = [v] ∧ Rows_ w v sz css ∧ ∀ cs ∈ css, Reads enc P w e cs := by
  obtain ⟨fuel, y, hf⟩ := h
  rcases open_slice ht hf with ⟨hcs, _⟩ | ⟨a', len, cap', m, n, D, Pl, hcs, _, hl, _, hm, _, hi⟩
  · exact ⟨_, [], hcs, ⟨none, 0, rfl, fun h => absurd rfl h⟩, by simp⟩
  · simp only [if_true] at hm
    subst hm
    rw [hC] at hi
    have hch : ∀ i, ∃ cs', i < len → w.cells? 0 (a'.add (i * sz)) sz = some cs' ∧ DataW.trod enc P w 0 (fun _ => true) true n e cs' = some (D i, Pl i) := fun i => by
      by_cases h : i < len
      · obtain ⟨cs', h1, h2⟩ := hi i (by omega)
        exact ⟨cs', fun _ => ⟨h1, h2⟩⟩
      · exact ⟨[], fun h' => absurd h' h⟩
    obtain ⟨f, hf'⟩ := Classical.axiomOfChoice hch
    refine ⟨_, (List.range len).map f, hcs, ⟨some a', m, by simp, fun hne => ?_⟩, fun cs hcs => ?_⟩
    · have hlen : 0 < len := by
        rcases Nat.eq_zero_or_pos len with h0 | h0
        · subst h0; simp at hne
        · exact h0
      obtain ⟨h1, _⟩ := hf' 0 hlen
      obtain ⟨_, hl0, hat⟩ := World.cells?_some h1
      have h2 := hat 0 hsz
      rw [List.getElem?_eq_getElem (by omega)] at h2
      have hspot : a'.spot = none := by
        rw [Nat.zero_mul] at h2
        simpa [Addr.add] using World.cell?_spot h2
      obtain ⟨b, off, spot⟩ := a'
      simp only at hspot
      subst hspot
      refine ⟨b, off, rfl, ?_, fun i cs hi' => ?_⟩
      · have := World.block_lt_of_cell? _ _ h2
        simpa [add_none] using this
      · have hil : i < len := by
          rcases Nat.lt_or_ge i len with h | h
          · exact h
          · rw [List.getElem?_eq_none (by simpa using h)] at hi'; cases hi'
        rw [List.getElem?_map, List.getElem?_range hil] at hi'
        simp only [Option.map_some, Option.some.injEq] at hi'
        subst hi'
        obtain ⟨h4, _⟩ := hf' i hil
        obtain ⟨_, hl4, hat4⟩ := World.cells?_some h4
        refine ⟨hl4, fun j x hx => ?_⟩
        have hj : j < sz := by
          rcases Nat.lt_or_ge j sz with h | h
          · exact h
          · rw [List.getElem?_eq_none (by omega)] at hx; cases hx
        have h5 := hat4 j hj
        rw [add_none, add_none] at h5
        rw [h5, hx]
    · obtain ⟨i, hi', rfl⟩ := List.mem_map.1 hcs
      exact ⟨n, _, (hf' i (List.mem_range.1 hi')).2⟩
theorem reads_int {t : TypeId} {k : IntKind} {cs : List Value} (ht : P.underlying t = some (.int k)) (h : Reads enc P w t cs) : ∃ x, cs = [.int k x] ∧ (Lit.int k x).wf = true := by
  obtain ⟨n, y, hy⟩ := h
  obtain ⟨x, hx, _, hw⟩ := DataW.trod_int ht hy
  exact ⟨x, hx, hw⟩
theorem reads_field {e : TypeId} {fs : Array Field} {cs : List Value} (he : P.underlying e = some (.struct fs)) (h : Reads enc P w e cs) : cs.length = P.cellsOf e ∧ ∀ (i : Nat) (f : Field), fs[i]? = some f → Reads enc P w f.type ((cs.drop f.offset).take (P.cellsOf f.type)) := by
  obtain ⟨n, y, hy⟩ := h
  obtain ⟨ys, m, _, _, hlen, hyl, hf⟩ := DataW.trod_struct he hy
  refine ⟨hlen, fun i f hi => ?_⟩
  have h2 := hf i f hi
  have hi' : i < ys.length := by
    rw [hyl]
    rcases Nat.lt_or_ge i fs.size with h' | h'
    · exact h'
    · rw [Array.getElem?_eq_none h'] at hi; cases hi
  rw [List.getElem?_eq_getElem hi'] at h2
  exact ⟨m, _, h2⟩
theorem reads_at {e : TypeId} {fs : Array Field} {L : Array (TypeId × Nat)} {cs : List Value} (he : P.underlying e = some (.struct fs)) (hm : (fs.map fun f => (f.type, f.offset)) = L) (h : Reads enc P w e cs) {i : Nat} {t : TypeId} {o : Nat} (hi : L[i]? = some (t, o)) : Reads enc P w t ((cs.drop o).take (P.cellsOf t)) := by
  subst hm
  rw [Array.getElem?_map] at hi
  cases hf : fs[i]? with
  | none => rw [hf] at hi; cases hi
  | some f =>
    rw [hf] at hi
    simp only [Option.map_some, Option.some.injEq, Prod.mk.injEq] at hi
    have := (reads_field he h).2 i f hf
    rw [hi.1, hi.2] at this
    exact this
theorem reads_int_at {e : TypeId} {fs : Array Field} {L : Array (TypeId × Nat)} {cs : List Value} (he : P.underlying e = some (.struct fs)) (hm : (fs.map fun f => (f.type, f.offset)) = L) (h : Reads enc P w e cs) {i : Nat} {t : TypeId} {o : Nat} {k : IntKind} (hi : L[i]? = some (t, o)) (ht : P.underlying t = some (.int k)) (hC : P.cellsOf t = 1) : ∃ x, cs[o]? = some (.int k x) ∧ (Lit.int k x).wf = true := by
  have h1 := reads_at he hm h hi
  rw [hC] at h1
  obtain ⟨x, hx, hw⟩ := reads_int ht h1
  refine ⟨x, ?_, hw⟩
  have := congrArg (fun l => l[0]?) hx
  simpa [List.getElem?_take, List.getElem?_drop] using this
theorem one_at {cs : List Value} {o : Nat} {v : Value} (h : (cs.drop o).take 1 = [v]) : cs[o]? = some v := by
  have := congrArg (fun l => l[0]?) h
  simpa [List.getElem?_take, List.getElem?_drop] using this
theorem reads_ints {t e : TypeId} {cs : List Value} (ht : P.underlying t = some (.slice e)) (he : P.underlying e = some (.int .i64)) (hC : P.cellsOf e = 1) (h : Reads enc P w t cs) :
    ∃ v ys, cs = [v] ∧ IntsOf w v ys ∧ ∀ x ∈ ys, (Lit.int .i64 x).wf = true := by
  obtain ⟨v, css, hcs, ⟨a, c, hv, hr⟩, hall'⟩ := reads_rows 1 ht hC (by omega) h
  obtain ⟨ys, hlen, hx⟩ := choose_list (fun cs x => cs = [Value.int .i64 x] ∧ (Lit.int .i64 x).wf = true) css (fun cs hcs => reads_int he (hall' cs hcs))
  refine ⟨v, ys, hcs, ⟨a, c, by rw [hlen]; exact hv, fun hne => ?_⟩, fun x hxs => ?_⟩
  · obtain ⟨b, off, ha, hb, hc⟩ := hr (by intro h; subst h; simp at hlen; exact hne hlen)
    refine ⟨b, off, ha, hb, fun k x hk => ?_⟩
    have hk' : k < ys.length := by
      rcases Nat.lt_or_ge k ys.length with h | h
      · exact h
      · rw [List.getElem?_eq_none h] at hk; cases hk
    have h1 := (hx k _ _ (List.getElem?_eq_getElem (by omega)) hk).1
    have h2 := (hc k _ (List.getElem?_eq_getElem (by omega))).2 0 (.int .i64 x) (by rw [h1]; rfl)
    simpa using h2
  · obtain ⟨i, hi, rfl⟩ := List.mem_iff_getElem.1 hxs
    exact (hx i _ _ (List.getElem?_eq_getElem (by omega)) (List.getElem?_eq_getElem hi)).2
theorem reads_of {t : TypeId} {v : Value} {d : DataW H} {p : List MemPlace} {r : Reach} {b0 : Nat} {e : TypeId} (ht : P.underlying t = some (.slice e)) (ho : Value.okWide P w r b0 t v) (h : DataW.Trod enc P w 0 (fun _ => true) true t v d p) : Reads enc P w t [v] := by
  obtain ⟨a0, len, cap, rfl⟩ := okWide_slice ht ho
  obtain ⟨fuel, hf⟩ := h
  exact ⟨fuel, _, hf⟩
end
end Go.Proofs.YtndpbkhpllmhmaaDoor
namespace Go.Proofs.YtndpbkhpllmhmaaDoor
set_option linter.unusedSimpArgs false
set_option linter.unnecessarySimpa false
set_option linter.unusedVariables false
open Go.RowKit
theorem strB_at {d : BS} {i : Nat} (h : i < (strB d).size) : (strB d)[i]'h = d[i]'(by rw [strB_size] at h; exact h) := by
  simp [strB, ByteArray.getElem_eq_getElem_data]
def hasN6 (op : Int) : Bool := decide (op = 1 ∨ op = 16)
set_option maxHeartbeats 1600000 in
theorem hasN6_spec (w : World) (op : Int) (h : Op6 op) : Calls Tryd.prog 123 #[.int .i64 op] w fun e w' => e = .returned (.bool (hasN6 op)) ∧ w' = w := by
  rcases h with rfl | rfl | rfl | rfl | rfl | rfl
  all_goals
    go_enter Tryd.func123, Tryd.ntmps123
    go_wp2
    go_ret
    exact ⟨rfl, rfl⟩
set_option maxHeartbeats 1600000 in
theorem name6_spec (w : World) (op : Int) (h : Op6 op) : Calls Tryd.prog 124 #[.int .i64 op] w fun e w' => (∃ s : ByteArray, e = .returned (.string s) ∧ s.toList.isEmpty = false) ∧ Keep [] w w' := by
  rcases h with rfl | rfl | rfl | rfl | rfl | rfl
  all_goals
    go_enter Tryd.func124, Tryd.ntmps124
    go_wp2
    go_ret
    exact ⟨⟨_, rfl, by rw [ByteArray.toList_eq]; rfl⟩, (Keep.refl _ _).alloc _⟩
set_option maxHeartbeats 1600000 in
theorem pushes6_spec (w : World) (op n : Int) (h : Op6 op) : Calls Tryd.prog 85 #[.agg #[.int .i64 op, .int .i64 n]] w fun e w' => e = .returned (.int .i64 (pushes6 op)) ∧ Keep [] w w' := by
  rcases h with rfl | rfl | rfl | rfl | rfl | rfl
  all_goals
    go_enter Tryd.func85, Tryd.ntmps85
    go_wp2
    go_ret
    exact ⟨rfl, (Keep.refl _ _).alloc _⟩
set_option maxHeartbeats 1600000 in
theorem pops6_spec (w : World) (B : Nat) (op n : Int) (v : Value) (fs : List FN) (h : Op6 op) (hf : FuncsAt B w v fs) (hB : B ≤ w.heap.size) (h16 : op = 16 → ∃ (k : Nat) (f : FN), n = k ∧ fs[k]? = some f) :
    Calls Tryd.prog 84 #[.agg #[.int .i64 op, .int .i64 n], v] w fun e w' => e = .returned (.int .i64 (pops6 op)) ∧ Keep [] w w' := by
  have Hf := Lib.hid hf
  obtain ⟨a, c, rfl⟩ := hf.shape
  clear hf
  by_cases hs : op = 16
  · obtain ⟨k, f, rfl, hk⟩ := h16 hs
    subst hs
    obtain ⟨b, off, cv, rfl, hb, _, c1, _⟩ := Hf.out.fn hk
    have hkl : k < fs.length := by
      rcases Nat.lt_or_ge k fs.length with h1 | h1
      · exact h1
      · rw [List.getElem?_eq_none h1] at hk; cases hk
    have hklI : (k : Int) < (fs.length : Int) := by omega
    clear hk h h16
    have hk0 : (0 : Int) ≤ (k : Int) := by omega
    have hbw : b < w.heap.size := by omega
    go_enter Tryd.func84, Tryd.ntmps84
    go_wp2
    go_ret
    exact ⟨rfl, (Keep.refl _ _).alloc _⟩
  · clear h16
    rcases h with rfl | rfl | rfl | rfl | rfl | rfl
    all_goals (first | (exact absurd rfl hs) | (clear hs; go_enter Tryd.func84, Tryd.ntmps84; go_wp2; go_ret; exact ⟨rfl, (Keep.refl _ _).alloc _⟩))
theorem new_one (w : World) (x : Int) (g : Nat) (hg : g = w.heap.size) : (w.alloc (.cells #[.int .i64 x] 3)).cell? ⟨g, 0, none⟩ = some (.int .i64 x) := by
  subst hg
  exact (Blk.new w 3 [.int .i64 x]).cell 0
def NextPost (op : Int) (at_ : Int) (w : World) (e : Ending) (w' : World) : Prop :=
  Keep [] w w' ∧ ((op = 18 ∧ e = .returned (.slice none 0 0)) ∨ (op ≠ 18 ∧ ∃ g c, e = .returned (.slice (some ⟨g, 0, none⟩) 1 c) ∧ w.heap.size ≤ g ∧ w'.cell? ⟨g, 0, none⟩ = some (.int .i64 (at_ + 1))))
set_option maxHeartbeats 1600000 in
theorem next6_spec (w : World) (op n at_ : Int) (h : Op6 op) (h1 : 0 ≤ at_) (h2 : at_ ≤ 1000000) : Calls Tryd.prog 86 #[.agg #[.int .i64 op, .int .i64 n], .int .i64 at_] w (NextPost op at_ w) := by
  by_cases h18 : op = 18
  · subst h18
    go_enter Tryd.func86, Tryd.ntmps86
    go_wp2
    go_ret
    exact ⟨(Keep.refl _ _).alloc _, Or.inl ⟨rfl, rfl⟩⟩
  · rcases h with rfl | rfl | rfl | rfl | rfl | rfl
    · clear h18
      go_enter Tryd.func86, Tryd.ntmps86
      go_wp2
      go_ret
      exact ⟨((Keep.refl _ _).alloc _).alloc _, Or.inr ⟨by decide, w.heap.size + 1, 1, rfl, by omega, new_one (w.alloc (.cells #[.int .i64 1, .int .i64 n] 67)) (at_ + 1) _ (by simp)⟩⟩
    · clear h18
      go_enter Tryd.func86, Tryd.ntmps86
      go_wp2
      go_ret
      exact ⟨((Keep.refl _ _).alloc _).alloc _, Or.inr ⟨by decide, w.heap.size + 1, 1, rfl, by omega, new_one (w.alloc (.cells #[.int .i64 4, .int .i64 n] 67)) (at_ + 1) _ (by simp)⟩⟩
    · clear h18
      go_enter Tryd.func86, Tryd.ntmps86
      go_wp2
      go_ret
      exact ⟨((Keep.refl _ _).alloc _).alloc _, Or.inr ⟨by decide, w.heap.size + 1, 1, rfl, by omega, new_one (w.alloc (.cells #[.int .i64 7, .int .i64 n] 67)) (at_ + 1) _ (by simp)⟩⟩
    · clear h18
      go_enter Tryd.func86, Tryd.ntmps86
      go_wp2
      go_ret
      exact ⟨((Keep.refl _ _).alloc _).alloc _, Or.inr ⟨by decide, w.heap.size + 1, 1, rfl, by omega, new_one (w.alloc (.cells #[.int .i64 16, .int .i64 n] 67)) (at_ + 1) _ (by simp)⟩⟩
    · clear h18
      go_enter Tryd.func86, Tryd.ntmps86
      go_wp2
      go_ret
      exact ⟨((Keep.refl _ _).alloc _).alloc _, Or.inr ⟨by decide, w.heap.size + 1, 1, rfl, by omega, new_one (w.alloc (.cells #[.int .i64 17, .int .i64 n] 67)) (at_ + 1) _ (by simp)⟩⟩
    · exact absurd rfl h18
/-! ### Names of tasks -/
set_option maxHeartbeats 1600000 in
theorem valid_spec (w : World) (id : BS) (hl : id.length ≤ 12) (hx : ∀ x ∈ id, x < 16) : Calls Tryd.prog 91 #[.string (strB id)] w fun e w' => e = .returned (.bool true) ∧ w' = w := by
  have es : (strB id).size = id.length := strB_size id
  have HX := Lib.hid hx
  have hlI : (id.length : Int) ≤ 12 := by omega
  clear hx
  go_enter Tryd.func91, Tryd.ntmps91
  go_wp2
  go_loopw [3] (fun v wr => w = wr ∧ ∃ i : Nat, i ≤ id.length ∧ v = .int .i64 i) (fun v _ => id.length - (intOf v).toNat)
  case atStart => exact ⟨rfl, 0, by omega, rfl⟩
  case round =>
    obtain ⟨rfl, i, hi, rfl⟩ := hrel
    by_cases hlt : i < id.length
    · have hltI : (i : Int) < (id.length : Int) := by omega
      have hiI : (i : Int) ≤ 12 := by omega
      have hget : ∀ h, (16 : Int) ≤ (((strB id)[i]'h).toNat : Int) ↔ False := fun h => by
        rw [strB_at]
        have := HX.out id[i] (List.getElem_mem hlt)
        have : (id[i]).toNat < 16 := this
        simp; omega
      clear hi
      go_wp2
      go_roundw
      case rel => exact ⟨trivial, i + 1, by omega, by go_num⟩
      case measure => simp [intOf]; omega
    · obtain rfl : i = id.length := by omega
      go_wp2
      go_ret
      exact ⟨rfl, rfl⟩
theorem strB_app6 (a b : BS) : strB a ++ strB b = strB (a ++ b) := by
  apply ByteArray.ext
  rw [ByteArray.data_append]
  simp [strB]
theorem conv_one (w : World) (b : UInt8) : (convert 85 62 (.slice (some ⟨w.heap.size, 0, none⟩) 1 1)).run Tryd.prog (w.alloc (.cells #[.int .u8 (b.toNat : Int)] 5)) = .ok (.string ⟨#[b]⟩) (w.alloc (.cells #[.int .u8 (b.toNat : Int)] 5)) := by
  have := run_convert_bytes_back (P := Tryd.prog) (w.alloc (.cells #[.int .u8 (b.toNat : Int)] 5)) 85 62 5 ⟨w.heap.size, 0, none⟩ 1 [b] (by kernel_rfl) (by kernel_rfl) (by kernel_rfl) (fun j hj => by
    obtain rfl : j = 0 := by simpa using hj
    have := (Blk.new w 5 [.int .u8 (b.toNat : Int)]).cell 0
    rw [add_none]
    simp)
  simpa using this
theorem strB_one (a : BS) (b : UInt8) : strB a ++ (⟨#[b]⟩ : ByteArray) = strB (a ++ [b]) := strB_app6 a [b]
set_option maxHeartbeats 1600000 in
theorem kid_spec (w : World) (id : BS) (k : Nat) (hl : id.length < 12) (hx : ∀ x ∈ id, x < 16) (hk : k < 2) : Calls Tryd.prog 71 #[.string (strB id), .int .i64 k] w fun e w' => e = .returned (.tuple #[.string (strB (id ++ [UInt8.ofNat k])), .bool true]) ∧ Keep [] w w' := by
  have es : (strB id).size = id.length := strB_size id
  have H := Lib.hid (And.intro hl hx)
  have hlI : (id.length : Int) ≤ 11 := by omega
  clear hx
  obtain rfl | rfl : k = 0 ∨ k = 1 := by omega
  all_goals
    clear hk hl
    go_enter Tryd.func71, Tryd.ntmps71
    go_wp2_with fail
    refine (valid_spec _ _ (by have := H.out.1; omega) H.out.2).mono ?_
    rintro e w' ⟨rfl, rfl⟩
    have h12 : ((id.length : Int) == 12) = false := by simp; omega
    have hbig : ¬ (9223372036854775807 : Nat) < id.length + 1 := by omega
    clear hlI
    have hc0 := conv_one w' 0
    have hc1 := conv_one w' 1
    have z0 : ((0 : UInt8).toNat : Int) = 0 := rfl
    have z1 : ((1 : UInt8).toNat : Int) = 1 := rfl
    rw [z0] at hc0
    rw [z1] at hc1
    clear z0 z1
    go_wp2_with fail
    go_ret2
    exact ⟨by rw [strB_one id]; rfl, (Keep.refl _ _).alloc _⟩
end Go.Proofs.YtndpbkhpllmhmaaDoor
namespace Go.Proofs.YtndpbkhpllmhmaaDoor
set_option linter.unusedSimpArgs false
set_option linter.unnecessarySimpa false
set_option linter.unusedVariables false
open Go.RowKit
def nextS (s : Int) : Int := (s * 1664525 + 1013904223) % 4294967296
def drawN (s n : Int) : Int := (nextS s / 256) % n
theorem nextS_in (s : Int) : 0 ≤ nextS s ∧ nextS s < 4294967296 := ⟨Int.emod_nonneg _ (by decide), Int.emod_lt_of_pos _ (by decide)⟩
theorem bits_next (s : Int) : bits .and .i64 (s * 1664525 + 1013904223) 4294967295 = nextS s := by
  have := bits_and_mask (s * 1664525 + 1013904223) 32 (by decide)
  simpa [nextS] using this
theorem drawN_in (s n : Int) (hn : 0 < n) : 0 ≤ drawN s n ∧ drawN s n < n := ⟨Int.emod_nonneg _ (by omega), Int.emod_lt_of_pos _ hn⟩
set_option maxHeartbeats 1600000 in
theorem cut_spec (w : World) (n a b : Int) : Calls Tryd.prog 32 #[.int .i64 n, .int .i64 a, .int .i64 b] w fun e w' => e = .returned (.int .i64 (min (max a n) b)) ∧ w' = w := by
  go_enter Tryd.func32, Tryd.ntmps32
  go_wp2_with fail
  go_ret
  exact ⟨rfl, rfl⟩
set_option maxHeartbeats 1600000 in
theorem from_spec (w : World) (s : Int) : Calls Tryd.prog 36 #[.int .i64 s] w fun e w' => e = .returned (.agg #[.int .i64 (s % 4294967296)]) ∧ Keep [] w w' := by
  have hb : bits .and .i64 s 4294967295 = s % 4294967296 := by
    have := bits_and_mask s 32 (by decide)
    simpa using this
  go_enter Tryd.func36, Tryd.ntmps36
  go_wp2_with fail
  exact bodyPost_ret (v := .agg #[.int .i64 (s % 4294967296)]) (by simp [results, Tryd.results36, go_sem]) rfl ⟨rfl, (Keep.refl _ _).alloc _⟩
set_option maxHeartbeats 1600000 in
theorem rdraw_spec (w : World) (s n : Int) (h0 : 0 ≤ s) (h1 : s < 4294967296) (hn : 1 ≤ n) : Calls Tryd.prog 38 #[.int .i64 s, .int .i64 n] w fun e w' => e = .returned (.tuple #[.int .i64 (nextS s), .int .i64 (drawN s n)]) ∧ ∃ m, w' = w.drewN m := by
  have hb := bits_next s
  obtain ⟨q0, q1⟩ := nextS_in s
  generalize hq : nextS s = q at *
  have HQ := Lib.hid hq
  clear hq
  go_enter Tryd.func38, Tryd.ntmps38
  have hn0 : (n == 0) = false := by simp; omega
  have hn1 : n ≠ 0 := by omega
  go_wp2_with fail
  go_quiet (fail)
  go_wp2_with fail
  go_ret2
  exact ⟨by unfold drawN; rw [HQ.out]; rfl, nq, rfl⟩
set_option maxHeartbeats 1600000 in
theorem draw_spec (w : World) (g : Nat) (s n : Int) (hb : Blk w g 72 [.int .i64 s]) (h0 : 0 ≤ s) (h1 : s < 4294967296) (hn : 1 ≤ n) : Calls Tryd.prog 37 #[.pointer (some ⟨g, 0, none⟩), .int .i64 n] w fun e w' => e = .returned (.int .i64 (drawN s n)) ∧ w' = w.setCell ⟨g, 0, none⟩ (.int .i64 (nextS s)) := by
  have hbit := bits_next s
  obtain ⟨q0, q1⟩ := nextS_in s
  have c0 : w.cell? ⟨g, 0, none⟩ = some (.int .i64 s) := hb.cell 0
  have cf : w.frozen? ⟨g, 0, none⟩ = false := hb.frozen 0
  have hn0 : (n == 0) = false := by simp; omega
  have hn1 : n ≠ 0 := by omega
  clear hb
  generalize hq : nextS s = q at *
  have HQ := Lib.hid hq
  clear hq
  go_enter Tryd.func37, Tryd.ntmps37
  go_wp2_with fail
  go_ret
  exact ⟨by unfold drawN; rw [HQ.out]; rfl, rfl⟩
/-- a drawn step, and the state behind it -/
def stepS (nodes s : Int) : ST × Int :=
  if drawN s 100 < 45 then (⟨1, drawN (nextS s) nodes, 0, 0⟩, nextS (nextS s))
  else if drawN s 100 < 60 then (⟨2, 0, 0, 0⟩, nextS s)
  else if drawN s 100 < 85 then (⟨3, 0, drawN (nextS s) 4, 0⟩, nextS (nextS s))
  else if drawN s 100 < 90 then (⟨4, 0, drawN (nextS s) 4, 0⟩, nextS (nextS s))
  else if drawN s 100 < 94 then (⟨5, 0, drawN (nextS s) 4, 0⟩, nextS (nextS s))
  else if drawN s 100 < 98 then (⟨6, 0, drawN (nextS s) 4, drawN (nextS (nextS s)) 200⟩, nextS (nextS (nextS s)))
  else (⟨7, drawN (nextS s) nodes, 0, 0⟩, nextS (nextS s))
def scriptL (nodes : Int) : Nat → Int → List ST
  | 0, _ => []
  | n + 1, s => (stepS nodes s).1 :: scriptL nodes n (stepS nodes s).2
theorem scriptL_len (nodes : Int) : ∀ (n : Nat) (s : Int), (scriptL nodes n s).length = n
  | 0, _ => rfl
  | n + 1, s => by rw [scriptL, List.length_cons, scriptL_len]
theorem stepS_in (nodes s : Int) : 0 ≤ (stepS nodes s).2 ∧ (stepS nodes s).2 < 4294967296 := by
  unfold stepS
  (repeat' split) <;> exact nextS_in _
end Go.Proofs.YtndpbkhpllmhmaaDoor
namespace Go.Proofs.YtndpbkhpllmhmaaDoor
set_option linter.unusedSimpArgs false
set_option linter.unnecessarySimpa false
set_option linter.unusedVariables false
open Go.RowKit
def cut3 (n a b : Int) : Int := min (max a n) b
set_option maxHeartbeats 1600000 in
theorem of_spec (w : World) (fuel tasks : Int) (a : Option Addr) (n c : Nat) : Calls Tryd.prog 35 #[.int .i64 fuel, .int .i64 tasks, .slice a n c] w fun e w' => e = .returned (.agg #[.slice a n c, .int .i64 0, .slice none 0 0, .int .i64 (cut3 fuel 200 5000), .int .i64 (cut3 tasks 1 500)]) ∧ Keep [] w w' := by
  go_enter Tryd.func35, Tryd.ntmps35
  go_wp2_with fail
  refine (cut_spec _ _ _ _).mono ?_
  rintro e w2 ⟨rfl, rfl⟩
  go_wp2_with fail
  refine (cut_spec _ _ _ _).mono ?_
  rintro e w2 ⟨rfl, rfl⟩
  have e1 : min (max 200 fuel) 5000 = cut3 fuel 200 5000 := rfl
  have e2 : min (max 1 tasks) 500 = cut3 tasks 1 500 := rfl
  rw [e1, e2]
  obtain ⟨F, hF⟩ : ∃ F, F = cut3 fuel 200 5000 := ⟨_, rfl⟩
  obtain ⟨T, hT⟩ : ∃ T, T = cut3 tasks 1 500 := ⟨_, rfl⟩
  rw [← hF, ← hT]
  have HF := Lib.hid (And.intro hF hT)
  clear e1 e2 hF hT
  go_wp2_with fail
  exact bodyPost_ret (v := .agg #[.slice a n c, .int .i64 0, .slice none 0 0, .int .i64 F, .int .i64 T]) (by simp [results, Tryd.results35, go_sem]) rfl ⟨by rw [HF.out.1, HF.out.2], (Keep.refl _ _).alloc _⟩
set_option maxHeartbeats 1600000 in
theorem lawCut_spec (w : World) (n a b : Int) (hab : a ≤ b) : Calls Tryd.prog 14 #[.int .i64 n, .int .i64 a, .int .i64 b] w fun e w' => e = .returned (.int .i64 (cut3 n a b)) ∧ w' = w := by
  by_cases h1 : n < a
  · have e : cut3 n a b = a := by unfold cut3; omega
    rw [e]
    clear e hab
    go_enter Tryd.func14, Tryd.ntmps14
    go_wp2
    go_ret
    exact ⟨rfl, rfl⟩
  · have h1' : a ≤ n := by omega
    by_cases h2 : b < n
    · have e : cut3 n a b = b := by unfold cut3; omega
      rw [e]
      clear e hab h1
      go_enter Tryd.func14, Tryd.ntmps14
      go_wp2
      go_ret
      exact ⟨rfl, rfl⟩
    · have e : cut3 n a b = n := by unfold cut3; omega
      rw [e]
      have h2' : n ≤ b := by omega
      clear e hab h1 h2
      go_enter Tryd.func14, Tryd.ntmps14
      go_wp2
      go_ret
      exact ⟨rfl, rfl⟩
/-! ### The jobs that are made, in plain words -/
def treeFn (k : Nat) (code : List IN) : FN := ⟨102 :: Lib.decDigits k, code⟩
def treeCode (wide : Nat) (k : Int) : List IN := List.replicate wide ⟨16, k + 1⟩ ++ [⟨1, 1⟩] ++ (List.replicate wide [⟨4, 0⟩, ⟨17, 0⟩, ⟨7, 0⟩]).flatten ++ [⟨18, 0⟩]
def treeFns (wide deep : Nat) : List FN := (List.range deep).map (fun k : Nat => treeFn k (treeCode wide k)) ++ [treeFn deep [⟨1, 1⟩, ⟨18, 0⟩]]
def chainFns (n : Nat) : List FN := (List.range n).map (fun k : Nat => treeFn k [⟨16, (k : Int) + 1⟩, ⟨17, 0⟩, ⟨1, k⟩, ⟨7, 0⟩, ⟨18, 0⟩]) ++ [treeFn n [⟨1, n⟩, ⟨18, 0⟩]]
theorem treeFns_len (wide deep : Nat) : (treeFns wide deep).length = deep + 1 := by simp [treeFns]
end Go.Proofs.YtndpbkhpllmhmaaDoor
namespace Go.Proofs.YtndpbkhpllmhmaaDoor
set_option linter.unusedSimpArgs false
set_option linter.unnecessarySimpa false
set_option linter.unusedVariables false
open Go.RowKit
structure GoodName (bs : BS) : Prop where
  ne : bs ≠ []
  len : bs.length ≤ 20
  byte : ∀ (i : Nat) (x : UInt8), bs[i]? = some x → (97 ≤ x.toNat ∧ x.toNat ≤ 122) ∨ (0 < i ∧ 48 ≤ x.toNat ∧ x.toNat ≤ 57)
set_option maxHeartbeats 1600000 in
theorem goodName_spec (w : World) (bs : BS) (h : GoodName bs) : Calls Tryd.prog 106 #[.string (strB bs)] w fun e w' => e = .returned (.bool true) ∧ w' = w := by
  have es : (strB bs).size = bs.length := strB_size bs
  have hem : (strB bs).toList.isEmpty = false := by
    rw [strB_toList]
    obtain ⟨x, xs, e⟩ := List.exists_cons_of_ne_nil h.ne
    rw [e]; rfl
  have hlI : (bs.length : Int) ≤ 20 := by have := h.len; omega
  have H := Lib.hid h
  clear h
  go_enter Tryd.func106, Tryd.ntmps106
  go_wp2
  go_loopw [3, 4] (fun v _ wr => w = wr ∧ ∃ i : Nat, i ≤ bs.length ∧ v = .int .i64 i) (fun v _ _ => bs.length - (intOf v).toNat)
  case atStart => exact ⟨rfl, 0, by omega, rfl⟩
  case round =>
    obtain ⟨rfl, i, hi, rfl⟩ := hrel
    by_cases hlt : i < bs.length
    · have hltI : (i : Int) < (bs.length : Int) := by omega
      have hiI : (i : Int) ≤ 20 := by omega
      have hi0 : (0 : Int) ≤ (i : Int) := by omega
      obtain ⟨x, hx⟩ : ∃ x, bs[i]? = some x := ⟨_, List.getElem?_eq_getElem hlt⟩
      have hget : ∀ h, ((strB bs)[i]'h) = x := fun h => by rw [strB_at]; exact (List.getElem?_eq_some_iff.1 hx).2
      rcases H.out.byte i x hx with ⟨h1, h2⟩ | ⟨h0, h1, h2⟩
      · have i1 : (97 : Int) ≤ (x.toNat : Int) := by omega
        have i2 : (x.toNat : Int) ≤ 122 := by omega
        clear hi h1 h2 hx
        go_wp2
        go_roundw
        case rel => exact ⟨trivial, i + 1, by omega, by go_num⟩
        case measure => simp [intOf]; omega
      · have i0 : (0 : Int) < (i : Int) := by omega
        have i1 : (48 : Int) ≤ (x.toNat : Int) := by omega
        have i2 : (x.toNat : Int) ≤ 57 := by omega
        have i3 : (x.toNat : Int) < 97 := by omega
        clear hi h1 h2 hx h0
        go_wp2
        go_roundw
        case rel => exact ⟨trivial, i + 1, by omega, by go_num⟩
        case measure => simp [intOf]; omega
    · obtain rfl : i = bs.length := by omega
      go_wp2
      go_ret
      exact ⟨rfl, rfl⟩
set_option maxHeartbeats 3200000 in
theorem checkIns6_spec (w : World) (B : Nat) (jv : Value) (J : JB) (f : FN) (cv : Value) (op n : Int) (h : Op6 op) (hj : JobIs B w jv J) (h0 : op ≠ 1 → op ≠ 16 → n = 0) (h16 : op = 16 → 0 ≤ n ∧ n < J.fs.length) :
    Calls Tryd.prog 107 #[jv, fnV f cv, .agg #[.int .i64 op, .int .i64 n]] w fun e w' => e = .returned (.int .i64 0) ∧ Keep [] w w' := by
  obtain ⟨fv, rfl, hfs⟩ := hj
  obtain ⟨a, c, rfl⟩ := hfs.shape
  unfold fnV
  clear hfs
  rcases h with rfl | rfl | rfl | rfl | rfl | rfl
  · skip
    clear h0 h16
    have x0 : Blk (((w.alloc (.cells #[.slice a J.fs.length c, .int .i64 0, .slice none 0 0, .int .i64 J.fuel, .int .i64 J.tasks] 26)).alloc (.cells #[.string (strB f.name), .int .i64 0, .int .i64 0, cv] 33)).alloc (.cells #[.int .i64 1, .int .i64 n] 67)) w.heap.size 26 [.slice a J.fs.length c, .int .i64 0, .slice none 0 0, .int .i64 J.fuel, .int .i64 J.tasks] := ((Blk.new' w 26 #[.slice a J.fs.length c, .int .i64 0, .slice none 0 0, .int .i64 J.fuel, .int .i64 J.tasks] [.slice a J.fs.length c, .int .i64 0, .slice none 0 0, .int .i64 J.fuel, .int .i64 J.tasks] rfl).alloc _).alloc _
    have x2 : Blk (((w.alloc (.cells #[.slice a J.fs.length c, .int .i64 0, .slice none 0 0, .int .i64 J.fuel, .int .i64 J.tasks] 26)).alloc (.cells #[.string (strB f.name), .int .i64 0, .int .i64 0, cv] 33)).alloc (.cells #[.int .i64 1, .int .i64 n] 67)) (w.heap.size + 2) 67 [.int .i64 1, .int .i64 n] := by
      have := Blk.new' ((w.alloc (.cells #[.slice a J.fs.length c, .int .i64 0, .slice none 0 0, .int .i64 J.fuel, .int .i64 J.tasks] 26)).alloc (.cells #[.string (strB f.name), .int .i64 0, .int .i64 0, cv] 33)) 67 #[.int .i64 1, .int .i64 n] [.int .i64 1, .int .i64 n] rfl
      simpa using this
    have hk0 : Keep [] w (((w.alloc (.cells #[.slice a J.fs.length c, .int .i64 0, .slice none 0 0, .int .i64 J.fuel, .int .i64 J.tasks] 26)).alloc (.cells #[.string (strB f.name), .int .i64 0, .int .i64 0, cv] 33)).alloc (.cells #[.int .i64 1, .int .i64 n] 67)) := (((Keep.refl [] w).alloc _).alloc _).alloc _
    have HX := Lib.hid (And.intro x0 (And.intro x2 hk0))
    clear x0 x2 hk0
    go_enter Tryd.func107, Tryd.ntmps107
    go_wp2_with fail
    refine (hasN6_spec _ _ (by simp [Op6])).mono ?_
    rintro e w1 ⟨rfl, rfl⟩
    unfold hasN6
    go_wp2_with fail
    refine (name6_spec _ _ (by simp [Op6])).mono ?_
    rintro e w2 ⟨⟨s, rfl, hs⟩, hk⟩
    have y0 := HX.out.1.keep hk (by simp)
    have y2 := HX.out.2.1.keep hk (by simp)
    have z0 : w2.cell? ⟨w.heap.size, 0, none⟩ = some (.slice a J.fs.length c) := y0.cell 0
    have i0 : w2.cell? ⟨w.heap.size + 1 + 1, 0, none⟩ = some (.int .i64 1) := y2.cell 0
    have i1 : w2.cell? ⟨w.heap.size + 1 + 1, 1, none⟩ = some (.int .i64 n) := y2.cell 1
    have HK := Lib.hid (HX.out.2.2.trans hk (by simp))
    clear hk y0 y2
    go_wp2
    go_ret
    exact ⟨rfl, HK.out⟩
  · skip
    obtain rfl : n = 0 := h0 (by decide) (by decide)
    clear h0 h16
    have x0 : Blk (((w.alloc (.cells #[.slice a J.fs.length c, .int .i64 0, .slice none 0 0, .int .i64 J.fuel, .int .i64 J.tasks] 26)).alloc (.cells #[.string (strB f.name), .int .i64 0, .int .i64 0, cv] 33)).alloc (.cells #[.int .i64 4, .int .i64 0] 67)) w.heap.size 26 [.slice a J.fs.length c, .int .i64 0, .slice none 0 0, .int .i64 J.fuel, .int .i64 J.tasks] := ((Blk.new' w 26 #[.slice a J.fs.length c, .int .i64 0, .slice none 0 0, .int .i64 J.fuel, .int .i64 J.tasks] [.slice a J.fs.length c, .int .i64 0, .slice none 0 0, .int .i64 J.fuel, .int .i64 J.tasks] rfl).alloc _).alloc _
    have x2 : Blk (((w.alloc (.cells #[.slice a J.fs.length c, .int .i64 0, .slice none 0 0, .int .i64 J.fuel, .int .i64 J.tasks] 26)).alloc (.cells #[.string (strB f.name), .int .i64 0, .int .i64 0, cv] 33)).alloc (.cells #[.int .i64 4, .int .i64 0] 67)) (w.heap.size + 2) 67 [.int .i64 4, .int .i64 0] := by
      have := Blk.new' ((w.alloc (.cells #[.slice a J.fs.length c, .int .i64 0, .slice none 0 0, .int .i64 J.fuel, .int .i64 J.tasks] 26)).alloc (.cells #[.string (strB f.name), .int .i64 0, .int .i64 0, cv] 33)) 67 #[.int .i64 4, .int .i64 0] [.int .i64 4, .int .i64 0] rfl
      simpa using this
    have hk0 : Keep [] w (((w.alloc (.cells #[.slice a J.fs.length c, .int .i64 0, .slice none 0 0, .int .i64 J.fuel, .int .i64 J.tasks] 26)).alloc (.cells #[.string (strB f.name), .int .i64 0, .int .i64 0, cv] 33)).alloc (.cells #[.int .i64 4, .int .i64 0] 67)) := (((Keep.refl [] w).alloc _).alloc _).alloc _
    have HX := Lib.hid (And.intro x0 (And.intro x2 hk0))
    clear x0 x2 hk0
    go_enter Tryd.func107, Tryd.ntmps107
    go_wp2_with fail
    refine (hasN6_spec _ _ (by simp [Op6])).mono ?_
    rintro e w1 ⟨rfl, rfl⟩
    unfold hasN6
    go_wp2_with fail
    refine (name6_spec _ _ (by simp [Op6])).mono ?_
    rintro e w2 ⟨⟨s, rfl, hs⟩, hk⟩
    have y0 := HX.out.1.keep hk (by simp)
    have y2 := HX.out.2.1.keep hk (by simp)
    have z0 : w2.cell? ⟨w.heap.size, 0, none⟩ = some (.slice a J.fs.length c) := y0.cell 0
    have i0 : w2.cell? ⟨w.heap.size + 1 + 1, 0, none⟩ = some (.int .i64 4) := y2.cell 0
    have i1 : w2.cell? ⟨w.heap.size + 1 + 1, 1, none⟩ = some (.int .i64 0) := y2.cell 1
    have HK := Lib.hid (HX.out.2.2.trans hk (by simp))
    clear hk y0 y2
    go_wp2
    go_ret
    exact ⟨rfl, HK.out⟩
  · skip
    obtain rfl : n = 0 := h0 (by decide) (by decide)
    clear h0 h16
    have x0 : Blk (((w.alloc (.cells #[.slice a J.fs.length c, .int .i64 0, .slice none 0 0, .int .i64 J.fuel, .int .i64 J.tasks] 26)).alloc (.cells #[.string (strB f.name), .int .i64 0, .int .i64 0, cv] 33)).alloc (.cells #[.int .i64 7, .int .i64 0] 67)) w.heap.size 26 [.slice a J.fs.length c, .int .i64 0, .slice none 0 0, .int .i64 J.fuel, .int .i64 J.tasks] := ((Blk.new' w 26 #[.slice a J.fs.length c, .int .i64 0, .slice none 0 0, .int .i64 J.fuel, .int .i64 J.tasks] [.slice a J.fs.length c, .int .i64 0, .slice none 0 0, .int .i64 J.fuel, .int .i64 J.tasks] rfl).alloc _).alloc _
    have x2 : Blk (((w.alloc (.cells #[.slice a J.fs.length c, .int .i64 0, .slice none 0 0, .int .i64 J.fuel, .int .i64 J.tasks] 26)).alloc (.cells #[.string (strB f.name), .int .i64 0, .int .i64 0, cv] 33)).alloc (.cells #[.int .i64 7, .int .i64 0] 67)) (w.heap.size + 2) 67 [.int .i64 7, .int .i64 0] := by
      have := Blk.new' ((w.alloc (.cells #[.slice a J.fs.length c, .int .i64 0, .slice none 0 0, .int .i64 J.fuel, .int .i64 J.tasks] 26)).alloc (.cells #[.string (strB f.name), .int .i64 0, .int .i64 0, cv] 33)) 67 #[.int .i64 7, .int .i64 0] [.int .i64 7, .int .i64 0] rfl
      simpa using this
    have hk0 : Keep [] w (((w.alloc (.cells #[.slice a J.fs.length c, .int .i64 0, .slice none 0 0, .int .i64 J.fuel, .int .i64 J.tasks] 26)).alloc (.cells #[.string (strB f.name), .int .i64 0, .int .i64 0, cv] 33)).alloc (.cells #[.int .i64 7, .int .i64 0] 67)) := (((Keep.refl [] w).alloc _).alloc _).alloc _
    have HX := Lib.hid (And.intro x0 (And.intro x2 hk0))
    clear x0 x2 hk0
    go_enter Tryd.func107, Tryd.ntmps107
    go_wp2_with fail
    refine (hasN6_spec _ _ (by simp [Op6])).mono ?_
    rintro e w1 ⟨rfl, rfl⟩
    unfold hasN6
    go_wp2_with fail
    refine (name6_spec _ _ (by simp [Op6])).mono ?_
    rintro e w2 ⟨⟨s, rfl, hs⟩, hk⟩
    have y0 := HX.out.1.keep hk (by simp)
    have y2 := HX.out.2.1.keep hk (by simp)
    have z0 : w2.cell? ⟨w.heap.size, 0, none⟩ = some (.slice a J.fs.length c) := y0.cell 0
    have i0 : w2.cell? ⟨w.heap.size + 1 + 1, 0, none⟩ = some (.int .i64 7) := y2.cell 0
    have i1 : w2.cell? ⟨w.heap.size + 1 + 1, 1, none⟩ = some (.int .i64 0) := y2.cell 1
    have HK := Lib.hid (HX.out.2.2.trans hk (by simp))
    clear hk y0 y2
    go_wp2
    go_ret
    exact ⟨rfl, HK.out⟩
  · skip
    obtain ⟨g0, g1⟩ := h16 rfl
    have g2 : ¬ (n < 0) := by omega
    clear h0 h16
    have x0 : Blk (((w.alloc (.cells #[.slice a J.fs.length c, .int .i64 0, .slice none 0 0, .int .i64 J.fuel, .int .i64 J.tasks] 26)).alloc (.cells #[.string (strB f.name), .int .i64 0, .int .i64 0, cv] 33)).alloc (.cells #[.int .i64 16, .int .i64 n] 67)) w.heap.size 26 [.slice a J.fs.length c, .int .i64 0, .slice none 0 0, .int .i64 J.fuel, .int .i64 J.tasks] := ((Blk.new' w 26 #[.slice a J.fs.length c, .int .i64 0, .slice none 0 0, .int .i64 J.fuel, .int .i64 J.tasks] [.slice a J.fs.length c, .int .i64 0, .slice none 0 0, .int .i64 J.fuel, .int .i64 J.tasks] rfl).alloc _).alloc _
    have x2 : Blk (((w.alloc (.cells #[.slice a J.fs.length c, .int .i64 0, .slice none 0 0, .int .i64 J.fuel, .int .i64 J.tasks] 26)).alloc (.cells #[.string (strB f.name), .int .i64 0, .int .i64 0, cv] 33)).alloc (.cells #[.int .i64 16, .int .i64 n] 67)) (w.heap.size + 2) 67 [.int .i64 16, .int .i64 n] := by
      have := Blk.new' ((w.alloc (.cells #[.slice a J.fs.length c, .int .i64 0, .slice none 0 0, .int .i64 J.fuel, .int .i64 J.tasks] 26)).alloc (.cells #[.string (strB f.name), .int .i64 0, .int .i64 0, cv] 33)) 67 #[.int .i64 16, .int .i64 n] [.int .i64 16, .int .i64 n] rfl
      simpa using this
    have hk0 : Keep [] w (((w.alloc (.cells #[.slice a J.fs.length c, .int .i64 0, .slice none 0 0, .int .i64 J.fuel, .int .i64 J.tasks] 26)).alloc (.cells #[.string (strB f.name), .int .i64 0, .int .i64 0, cv] 33)).alloc (.cells #[.int .i64 16, .int .i64 n] 67)) := (((Keep.refl [] w).alloc _).alloc _).alloc _
    have HX := Lib.hid (And.intro x0 (And.intro x2 hk0))
    clear x0 x2 hk0
    go_enter Tryd.func107, Tryd.ntmps107
    go_wp2_with fail
    refine (hasN6_spec _ _ (by simp [Op6])).mono ?_
    rintro e w1 ⟨rfl, rfl⟩
    unfold hasN6
    go_wp2_with fail
    refine (name6_spec _ _ (by simp [Op6])).mono ?_
    rintro e w2 ⟨⟨s, rfl, hs⟩, hk⟩
    have y0 := HX.out.1.keep hk (by simp)
    have y2 := HX.out.2.1.keep hk (by simp)
    have z0 : w2.cell? ⟨w.heap.size, 0, none⟩ = some (.slice a J.fs.length c) := y0.cell 0
    have i0 : w2.cell? ⟨w.heap.size + 1 + 1, 0, none⟩ = some (.int .i64 16) := y2.cell 0
    have i1 : w2.cell? ⟨w.heap.size + 1 + 1, 1, none⟩ = some (.int .i64 n) := y2.cell 1
    have HK := Lib.hid (HX.out.2.2.trans hk (by simp))
    clear hk y0 y2
    go_wp2
    go_ret
    exact ⟨rfl, HK.out⟩
  · skip
    obtain rfl : n = 0 := h0 (by decide) (by decide)
    clear h0 h16
    have x0 : Blk (((w.alloc (.cells #[.slice a J.fs.length c, .int .i64 0, .slice none 0 0, .int .i64 J.fuel, .int .i64 J.tasks] 26)).alloc (.cells #[.string (strB f.name), .int .i64 0, .int .i64 0, cv] 33)).alloc (.cells #[.int .i64 17, .int .i64 0] 67)) w.heap.size 26 [.slice a J.fs.length c, .int .i64 0, .slice none 0 0, .int .i64 J.fuel, .int .i64 J.tasks] := ((Blk.new' w 26 #[.slice a J.fs.length c, .int .i64 0, .slice none 0 0, .int .i64 J.fuel, .int .i64 J.tasks] [.slice a J.fs.length c, .int .i64 0, .slice none 0 0, .int .i64 J.fuel, .int .i64 J.tasks] rfl).alloc _).alloc _
    have x2 : Blk (((w.alloc (.cells #[.slice a J.fs.length c, .int .i64 0, .slice none 0 0, .int .i64 J.fuel, .int .i64 J.tasks] 26)).alloc (.cells #[.string (strB f.name), .int .i64 0, .int .i64 0, cv] 33)).alloc (.cells #[.int .i64 17, .int .i64 0] 67)) (w.heap.size + 2) 67 [.int .i64 17, .int .i64 0] := by
      have := Blk.new' ((w.alloc (.cells #[.slice a J.fs.length c, .int .i64 0, .slice none 0 0, .int .i64 J.fuel, .int .i64 J.tasks] 26)).alloc (.cells #[.string (strB f.name), .int .i64 0, .int .i64 0, cv] 33)) 67 #[.int .i64 17, .int .i64 0] [.int .i64 17, .int .i64 0] rfl
      simpa using this
    have hk0 : Keep [] w (((w.alloc (.cells #[.slice a J.fs.length c, .int .i64 0, .slice none 0 0, .int .i64 J.fuel, .int .i64 J.tasks] 26)).alloc (.cells #[.string (strB f.name), .int .i64 0, .int .i64 0, cv] 33)).alloc (.cells #[.int .i64 17, .int .i64 0] 67)) := (((Keep.refl [] w).alloc _).alloc _).alloc _
    have HX := Lib.hid (And.intro x0 (And.intro x2 hk0))
    clear x0 x2 hk0
    go_enter Tryd.func107, Tryd.ntmps107
    go_wp2_with fail
    refine (hasN6_spec _ _ (by simp [Op6])).mono ?_
    rintro e w1 ⟨rfl, rfl⟩
    unfold hasN6
    go_wp2_with fail
    refine (name6_spec _ _ (by simp [Op6])).mono ?_
    rintro e w2 ⟨⟨s, rfl, hs⟩, hk⟩
    have y0 := HX.out.1.keep hk (by simp)
    have y2 := HX.out.2.1.keep hk (by simp)
    have z0 : w2.cell? ⟨w.heap.size, 0, none⟩ = some (.slice a J.fs.length c) := y0.cell 0
    have i0 : w2.cell? ⟨w.heap.size + 1 + 1, 0, none⟩ = some (.int .i64 17) := y2.cell 0
    have i1 : w2.cell? ⟨w.heap.size + 1 + 1, 1, none⟩ = some (.int .i64 0) := y2.cell 1
    have HK := Lib.hid (HX.out.2.2.trans hk (by simp))
    clear hk y0 y2
    go_wp2
    go_ret
    exact ⟨rfl, HK.out⟩
  · skip
    obtain rfl : n = 0 := h0 (by decide) (by decide)
    clear h0 h16
    have x0 : Blk (((w.alloc (.cells #[.slice a J.fs.length c, .int .i64 0, .slice none 0 0, .int .i64 J.fuel, .int .i64 J.tasks] 26)).alloc (.cells #[.string (strB f.name), .int .i64 0, .int .i64 0, cv] 33)).alloc (.cells #[.int .i64 18, .int .i64 0] 67)) w.heap.size 26 [.slice a J.fs.length c, .int .i64 0, .slice none 0 0, .int .i64 J.fuel, .int .i64 J.tasks] := ((Blk.new' w 26 #[.slice a J.fs.length c, .int .i64 0, .slice none 0 0, .int .i64 J.fuel, .int .i64 J.tasks] [.slice a J.fs.length c, .int .i64 0, .slice none 0 0, .int .i64 J.fuel, .int .i64 J.tasks] rfl).alloc _).alloc _
    have x2 : Blk (((w.alloc (.cells #[.slice a J.fs.length c, .int .i64 0, .slice none 0 0, .int .i64 J.fuel, .int .i64 J.tasks] 26)).alloc (.cells #[.string (strB f.name), .int .i64 0, .int .i64 0, cv] 33)).alloc (.cells #[.int .i64 18, .int .i64 0] 67)) (w.heap.size + 2) 67 [.int .i64 18, .int .i64 0] := by
      have := Blk.new' ((w.alloc (.cells #[.slice a J.fs.length c, .int .i64 0, .slice none 0 0, .int .i64 J.fuel, .int .i64 J.tasks] 26)).alloc (.cells #[.string (strB f.name), .int .i64 0, .int .i64 0, cv] 33)) 67 #[.int .i64 18, .int .i64 0] [.int .i64 18, .int .i64 0] rfl
      simpa using this
    have hk0 : Keep [] w (((w.alloc (.cells #[.slice a J.fs.length c, .int .i64 0, .slice none 0 0, .int .i64 J.fuel, .int .i64 J.tasks] 26)).alloc (.cells #[.string (strB f.name), .int .i64 0, .int .i64 0, cv] 33)).alloc (.cells #[.int .i64 18, .int .i64 0] 67)) := (((Keep.refl [] w).alloc _).alloc _).alloc _
    have HX := Lib.hid (And.intro x0 (And.intro x2 hk0))
    clear x0 x2 hk0
    go_enter Tryd.func107, Tryd.ntmps107
    go_wp2_with fail
    refine (hasN6_spec _ _ (by simp [Op6])).mono ?_
    rintro e w1 ⟨rfl, rfl⟩
    unfold hasN6
    go_wp2_with fail
    refine (name6_spec _ _ (by simp [Op6])).mono ?_
    rintro e w2 ⟨⟨s, rfl, hs⟩, hk⟩
    have y0 := HX.out.1.keep hk (by simp)
    have y2 := HX.out.2.1.keep hk (by simp)
    have z0 : w2.cell? ⟨w.heap.size, 0, none⟩ = some (.slice a J.fs.length c) := y0.cell 0
    have i0 : w2.cell? ⟨w.heap.size + 1 + 1, 0, none⟩ = some (.int .i64 18) := y2.cell 0
    have i1 : w2.cell? ⟨w.heap.size + 1 + 1, 1, none⟩ = some (.int .i64 0) := y2.cell 1
    have HK := Lib.hid (HX.out.2.2.trans hk (by simp))
    clear hk y0 y2
    go_wp2
    go_ret
    exact ⟨rfl, HK.out⟩
end Go.Proofs.YtndpbkhpllmhmaaDoor
namespace Go.Proofs.YtndpbkhpllmhmaaDoor
set_option linter.unusedSimpArgs false
set_option linter.unnecessarySimpa false
set_option linter.unusedVariables false
open Go.RowKit
/-- the depths of straight code that ends with its only 'ret' -/
structure DepthOk (fs : List FN) (code : List IN) (d : List Int) : Prop where
  len : d.length = code.length
  small : code.length ≤ 64
  ne : 0 < code.length
  first : d[0]? = some 0
  ops : ∀ x ∈ code, Op6 x.op ∧ (x.op ≠ 1 → x.op ≠ 16 → x.n = 0) ∧ (x.op = 16 → ∃ (k : Nat) (f : FN), x.n = k ∧ fs[k]? = some f)
  step : ∀ (i : Nat) (x : IN) (n : Int), code[i]? = some x → d[i]? = some n → pops6 x.op ≤ n ∧ 0 ≤ n ∧ n ≤ 32 ∧ n - pops6 x.op + pushes6 x.op ≤ 32 ∧ 0 ≤ n - pops6 x.op + pushes6 x.op ∧ (x.op = 18 → i + 1 = code.length) ∧ (x.op ≠ 18 → d[i + 1]? = some (n - pops6 x.op + pushes6 x.op))
structure JobOk (J : JB) : Prop where
  ne : 0 < J.fs.length
  most : J.fs.length ≤ 6
  fuel : 1 ≤ J.fuel ∧ J.fuel ≤ 5000
  tasks : 1 ≤ J.tasks ∧ J.tasks ≤ 500
  len : J.ds.length = J.fs.length
  names : ∀ f ∈ J.fs, GoodName f.name
  apart : ∀ (i k : Nat) (f g : FN), J.fs[i]? = some f → J.fs[k]? = some g → i < k → f.name ≠ g.name
  depths : ∀ (k : Nat) (f : FN) (d : List Int), J.fs[k]? = some f → J.ds[k]? = some d → DepthOk J.fs f.code d
def J2 : JB := ⟨treeFns 2 1, [[0, 1, 2, 3, 3, 3, 2, 2, 2, 1], [0, 1]], 1000, 100⟩
def F0 : FN := ⟨[102, 48], [⟨16, 1⟩, ⟨16, 1⟩, ⟨1, 1⟩, ⟨4, 0⟩, ⟨17, 0⟩, ⟨7, 0⟩, ⟨4, 0⟩, ⟨17, 0⟩, ⟨7, 0⟩, ⟨18, 0⟩]⟩
def F1 : FN := ⟨[102, 49], [⟨1, 1⟩, ⟨18, 0⟩]⟩
theorem itoa0 : Lib.decDigits 0 = [48] := by rw [Lib.decDigits]; rfl
theorem itoa1 : Lib.decDigits 1 = [49] := by rw [Lib.decDigits]; rfl
theorem J2_fs : J2.fs = [F0, F1] := by
  show treeFns 2 1 = _
  unfold treeFns treeFn
  simp only [List.range_succ, List.range_zero, List.nil_append, List.map_cons, List.map_nil, List.cons_append]
  rw [itoa0, itoa1]
  rfl
theorem J2_len : J2.fs.length = 2 := by rw [J2_fs]; rfl
theorem at0 {pc : Nat} {i : IN} {fuel : Nat} {st : List Int} {kids : Nat} {wt : Bool} (h : F0.code[pc]? = some i) : J2.at_ ⟨0, pc, fuel, st, kids, wt⟩ i := ⟨F0, by rw [J2_fs]; rfl, h⟩
theorem at1 {pc : Nat} {i : IN} {fuel : Nat} {st : List Int} {kids : Nat} {wt : Bool} (h : F1.code[pc]? = some i) : J2.at_ ⟨1, pc, fuel, st, kids, wt⟩ i := ⟨F1, by rw [J2_fs]; rfl, h⟩
theorem may0 {pc : Nat} {i : IN} {fuel : Nat} {st : List Int} {kids : Nat} {wt : Bool} (h : F0.code[pc]? = some i) (hd : ([0, 1, 2, 3, 3, 3, 2, 2, 2, 1] : List Int)[pc]? = some (st.length : Int)) (hk : kids ≤ 16) (hf : fuel ≤ 1000) (hl : st.length ≤ 32) : MayR J2 ⟨0, pc, fuel, st, kids, wt⟩ :=
  ⟨⟨i, at0 h⟩, ⟨_, rfl, hd⟩, hk, hf, hl⟩
theorem may1 {pc : Nat} {i : IN} {fuel : Nat} {st : List Int} {kids : Nat} {wt : Bool} (h : F1.code[pc]? = some i) (hd : ([0, 1] : List Int)[pc]? = some (st.length : Int)) (hk : kids ≤ 16) (hf : fuel ≤ 1000) (hl : st.length ≤ 32) : MayR J2 ⟨1, pc, fuel, st, kids, wt⟩ :=
  ⟨⟨i, at1 h⟩, ⟨_, rfl, hd⟩, hk, hf, hl⟩
theorem leaf (n : Nat) (id : BS) (at_ : Nat) (E : List EK) : LoopR J2 (n + 1) id at_ ⟨1, 0, 0, [], 0, false⟩ [] E (E.set at_ (id, 1)) 1 :=
  .ended (m := 2) (may1 rfl rfl (by decide) (by decide) (by decide)) rfl (by decide) (.more (by decide) (by decide) (.push (n := 1) (at1 rfl)) (.last (by decide) (by decide) (.ret (n := 0) (l := []) (v := 1) (at1 rfl) rfl)))
theorem J2_loop : LoopR J2 6 [] 0 ⟨0, 0, 0, [], 0, false⟩ [] [([], 0)] [([], 3), ([0], 1), ([1], 1)] 3 := by
  refine .spawn (m := 1) (may0 rfl rfl (by decide) (by decide) (by decide)) rfl (by decide) (.last (by decide) (by decide) (.spawn (n := 1) (f := F1) (at0 rfl) (by rw [J2_fs]; rfl) (by decide) (by decide))) (by decide) (by decide) (by simp) (by decide) (by rw [J2_len]; decide) (leaf _ _ _ _) ?_
  refine .spawn (m := 1) (may0 rfl rfl (by decide) (by decide) (by decide)) rfl (by decide) (.last (by decide) (by decide) (.spawn (n := 1) (f := F1) (at0 rfl) (by rw [J2_fs]; rfl) (by decide) (by decide))) (by decide) (by decide) (by simp) (by decide) (by rw [J2_len]; decide) (leaf _ _ _ _) ?_
  refine .await (m := 3) (l := [0, 1]) (x := 1) (v := 1) (may0 rfl rfl (by decide) (by decide) (by decide)) rfl (by decide) (.more (by decide) (by decide) (.push (n := 1) (at0 rfl)) (.more (by decide) (by decide) (.swap (n := 0) (l := [0]) (x := 1) (y := 1) (at0 rfl) rfl) (.last (by decide) (by decide) (.await (n := 0) (l := [0, 1]) (k := 1) (at0 rfl) rfl (by decide))))) rfl (may0 rfl rfl (by decide) (by decide) (by decide)) ⟨⟨17, 0⟩, at0 rfl, rfl⟩ rfl rfl (by decide) rfl ?_
  refine .await (m := 3) (l := [2]) (x := 0) (v := 1) (may0 rfl rfl (by decide) (by decide) (by decide)) rfl (by decide) (.more (by decide) (by decide) (.add (n := 0) (l := [0]) (x := 1) (y := 1) (at0 rfl) rfl (by decide) (by decide) (by decide) (by decide)) (.more (by decide) (by decide) (.swap (n := 0) (l := []) (x := 0) (y := 2) (at0 rfl) rfl) (.last (by decide) (by decide) (.await (n := 0) (l := [2]) (k := 0) (at0 rfl) rfl (by decide))))) rfl (may0 rfl rfl (by decide) (by decide) (by decide)) ⟨⟨17, 0⟩, at0 rfl, rfl⟩ rfl rfl (by decide) rfl ?_
  exact .ended (m := 2) (may0 rfl rfl (by decide) (by decide) (by decide)) rfl (by decide) (.more (by decide) (by decide) (.add (n := 0) (l := []) (x := 2) (y := 1) (at0 rfl) rfl (by decide) (by decide) (by decide) (by decide)) (.last (by decide) (by decide) (.ret (n := 0) (l := []) (v := 3) (at0 rfl) rfl)))
theorem name0 : GoodName [102, 48] := ⟨by decide, by decide, fun i x h => by
  rcases i with _ | _ | i
  · cases h; left; decide
  · cases h; right; decide
  · cases h⟩
theorem name1 : GoodName [102, 49] := ⟨by decide, by decide, fun i x h => by
  rcases i with _ | _ | i
  · cases h; left; decide
  · cases h; right; decide
  · cases h⟩
theorem dep0 : DepthOk J2.fs F0.code [0, 1, 2, 3, 3, 3, 2, 2, 2, 1] := by
  rw [J2_fs]
  refine ⟨rfl, by decide, by decide, rfl, ?_, ?_⟩
  · intro x hx
    simp only [F0, List.mem_cons, List.not_mem_nil, or_false] at hx
    rcases hx with rfl | rfl | rfl | rfl | rfl | rfl | rfl | rfl | rfl | rfl
    all_goals
      refine ⟨by simp [Op6], by simp, fun h => ?_⟩
      first
      | exact ⟨1, F1, rfl, rfl⟩
      | (exfalso; revert h; decide)
  · intro i x n hx hn
    rcases i with _ | _ | _ | _ | _ | _ | _ | _ | _ | _ | i
    all_goals
      cases hx
      try cases hn
      try simp [pops6, pushes6, F0]
theorem dep1 : DepthOk J2.fs F1.code [0, 1] := by
  rw [J2_fs]
  refine ⟨rfl, by decide, by decide, rfl, ?_, ?_⟩
  · intro x hx
    simp only [F1, List.mem_cons, List.not_mem_nil, or_false] at hx
    rcases hx with rfl | rfl
    all_goals exact ⟨by simp [Op6], by simp, by simp⟩
  · intro i x n hx hn
    rcases i with _ | _ | i
    all_goals
      cases hx
      try cases hn
      try simp [pops6, pushes6, F1]
theorem J2_ok : JobOk J2 := by
  refine ⟨by rw [J2_len]; decide, by rw [J2_len]; decide, by decide, by decide, by rw [J2_len]; rfl, ?_, ?_, ?_⟩
  · intro f hf
    rw [J2_fs] at hf
    simp only [List.mem_cons, List.not_mem_nil, or_false] at hf
    rcases hf with rfl | rfl
    · exact name0
    · exact name1
  · intro i k f g hf hg hik
    rw [J2_fs] at hf hg
    rcases i with _ | _ | i
    · rcases k with _ | _ | k
      · omega
      · cases hf; cases hg; decide
      · cases hg
    · rcases k with _ | _ | k
      · omega
      · omega
      · cases hg
    · cases hf
  · intro k f d hf hd
    have hf' := hf
    rw [J2_fs] at hf'
    rcases k with _ | _ | k
    · cases hf'; cases hd; exact dep0
    · cases hf'; cases hd; exact dep1
    · cases hf'
end Go.Proofs.YtndpbkhpllmhmaaDoor
namespace Go.Proofs.YtndpbkhpllmhmaaDoor
set_option linter.unusedSimpArgs false
set_option linter.unnecessarySimpa false
set_option linter.unusedVariables false
open Go.RowKit
theorem blk_at {w : World} {arr : Array Value} {t : TypeId} {cs : List Value} {k : Nat} (hk : w.heap.size = k) (ha : arr = cs.toArray) : Blk (w.alloc (.cells arr t)) k t cs := by
  subst hk
  exact Blk.new' _ _ _ _ (by rw [ha])
def DepPost (d : List Int) (w : World) (e : Ending) (w' : World) : Prop :=
  ∃ g, e = .returned (.tuple #[.slice (some ⟨g, 0, none⟩) d.length d.length, .int .i64 0, .int .i64 0]) ∧ w.heap.size ≤ g ∧ Blk w' g 3 (d.map (.int .i64)) ∧ Keep [] w w'
/-- what holds ahead of step t -/
structure DepHead (w : World) (jc fc : List Value) (d : List Int) (t u : Nat) (wr : World) : Prop where
  keep : Keep [] w wr
  jj : Blk wr w.heap.size 26 jc
  ff : Blk wr (w.heap.size + 1) 33 fc
  dd : Blk wr (w.heap.size + 1 + 1) 3 (cellsN d.length (fdt d t))
  oo : Blk wr (w.heap.size + 1 + 1 + 1) 4 (cellsN d.length (fo u))
theorem DepHead.more {w : World} {jc fc : List Value} {d : List Int} {t u : Nat} {wr w' : World} (h : DepHead w jc fc d t u wr) (k : Keep [] wr w') : DepHead w jc fc d t u w' :=
  ⟨h.keep.trans k (by simp), h.jj.keep k (by simp), h.ff.keep k (by simp), h.dd.keep k (by simp), h.oo.keep k (by simp)⟩
theorem dep_cells {w w1 : World} {B bc offc n cc t u : Nat} {jc : List Value} {s a b : Value} {d : List Int} {f : FN} {x : IN} {m : Int} (h : DepHead w jc [s, a, b, .slice (some ⟨bc, offc, none⟩) n cc] d t u w1) {n2 c2 : Nat} (hc : CodeAt B w (.slice (some ⟨bc, offc, none⟩) n2 c2) f.code) (hB : B ≤ w.heap.size) (hx : f.code[t]? = some x) (hm : d[t]? = some m) :
    w1.cell? ⟨bc, offc + t * 2, none⟩ = some (.int .i64 x.op) ∧ w1.cell? ⟨bc, offc + t * 2 + 1, none⟩ = some (.int .i64 x.n) ∧ w1.cell? ⟨w.heap.size, 0, none⟩ = jc[0]? ∧ w1.cell? ⟨w.heap.size + 1, 3, none⟩ = some (.slice (some ⟨bc, offc, none⟩) n cc) ∧ w1.cell? ⟨w.heap.size + 1 + 1, t, none⟩ = some (.int .i64 m) := by
  have hbel := below_of h.keep hB
  obtain ⟨b', off', e, _, q0, q1⟩ := CodeAt.at_ (show CodeAt B w1 (.slice (some ⟨bc, offc, none⟩) n2 c2) f.code from hc.below hbel) hx
  injection e with e
  injection e with e1 e2
  subst e1 e2
  exact ⟨q0, q1, h.jj.cell 0, h.ff.cell 3, by rw [h.dd.cell, fdt_at (Nat.le_refl _) hm]⟩
def DepFill (w : World) (jc fc : List Value) (n i : Nat) (wr : World) : Prop :=
  Keep [] w wr ∧ Blk wr w.heap.size 26 jc ∧ Blk wr (w.heap.size + 1) 33 fc ∧ Blk wr (w.heap.size + 1 + 1) 3 (cellsN n (fd0 i)) ∧ Blk wr (w.heap.size + 1 + 1 + 1) 4 (cellsN n (fo 0))
set_option maxHeartbeats 6400000 in
set_option maxRecDepth 100000 in
theorem depths_spec (w : World) (B : Nat) (jv cv : Value) (J : JB) (f : FN) (d : List Int) (hj : JobIs B w jv J) (hc : CodeAt B w cv f.code) (hB : B ≤ w.heap.size) (hd : DepthOk J.fs f.code d) :
    Calls Tryd.prog 68 #[jv, fnV f cv] w (DepPost d w) := by
  obtain ⟨fv, rfl, hfs⟩ := hj
  obtain ⟨aj, cj, rfl⟩ := hfs.shape
  obtain ⟨ac, cc, rfl⟩ := hc.shape
  unfold fnV
  have hlen := hd.len
  have hsm := hd.small
  have hne := hd.ne
  have HD := Lib.hid hd
  have HF := Lib.hid (And.intro hfs (And.intro hc hB))
  rw [← hlen] at hsm hne ⊢
  have hnI : (d.length : Int) ≤ 64 := by omega
  have hnN : (0 : Int) ≤ (d.length : Int) := by omega
  have HL := Lib.hid hlen
  clear hd hfs hc hB hlen
  have hmk := mk_ints d.length (by omega)
  have hmb := mk_bools d.length (by omega)
  go_enter Tryd.func68, Tryd.ntmps68
  go_wp2_with fail
  go_loopw [9] (fun v wr => ∃ i : Nat, v = .int .i64 i ∧ 1 ≤ i ∧ i ≤ d.length ∧ DepFill w [.slice aj J.fs.length cj, .int .i64 0, .slice none 0 0, .int .i64 J.fuel, .int .i64 J.tasks] [.string (strB f.name), .int .i64 0, .int .i64 0, .slice ac d.length cc] d.length i wr) (fun v _ => d.length - (intOf v).toNat)
  case atStart =>
    refine ⟨1, rfl, Nat.le_refl _, hne, ((((Keep.refl [] w).alloc _).alloc _).alloc _).alloc _, (((Blk.new' _ _ _ _ rfl).alloc _).alloc _).alloc _, ((blk_at (by simp) rfl).alloc _).alloc _, (blk_at (by simp) (by rw [zI, fd0_start])).alloc _, blk_at (by simp) (by rw [zB, fo_start])⟩
  case round =>
    obtain ⟨i, rfl, h1, h2, hK⟩ := hrel
    have HK := Lib.hid hK
    obtain ⟨hk, hj, hf, hdd, hoo⟩ := hK
    by_cases hi : i < d.length
    · have hiI : (i : Int) < (d.length : Int) := by omega
      have hi0 : (0 : Int) ≤ (i : Int) := by omega
      have c0 : wr.cell? ⟨w.heap.size + 1 + 1, i, none⟩ = some (fd0 i i) := by rw [hdd.cell, cellsN_at _ _ hi]
      have c1 : ∀ j, wr.frozen? ⟨w.heap.size + 1 + 1, j, none⟩ = false := fun j => hdd.frozen j
      clear hk hj hf hdd hoo h2
      go_wp2_with fail
      go_roundw
      case rel =>
        obtain ⟨hk, hj, hf, hdd, hoo⟩ := HK.out
        exact ⟨i + 1, by go_num, by omega, by omega, hk.setCell (Or.inr (by simp; omega)) _, hj.far (by simp <;> omega) _, hf.far (by simp) _, by rw [← fd0_step _ _ h1]; exact hdd.set_ i _, hoo.far (by simp) _⟩
      case measure => simp [intOf]; omega
    · obtain rfl : i = d.length := by omega
      have hX : DepHead w [.slice aj J.fs.length cj, .int .i64 0, .slice none 0 0, .int .i64 J.fuel, .int .i64 J.tasks] [.string (strB f.name), .int .i64 0, .int .i64 0, .slice ac d.length cc] d 0 0 wr := ⟨hk, hj, hf, by rw [← fd0_end HD.out.first]; exact hdd, hoo⟩
      have HX := Lib.hid hX
      clear hk hj hf hdd hoo h2 hi HK hX h1 hmk hmb
      generalize wr = wo at *
      go_wp2_with fail
      go_loopw [] (fun wr => ∃ t : Nat, t ≤ d.length ∧ DepHead w [.slice aj J.fs.length cj, .int .i64 0, .slice none 0 0, .int .i64 J.fuel, .int .i64 J.tasks] [.string (strB f.name), .int .i64 0, .int .i64 0, .slice ac d.length cc] d t t wr) (fun wr => openLeft wr (w.heap.size + 1 + 1 + 1) d.length)
      case atStart => exact ⟨0, Nat.zero_le _, HX.out⟩
      case round =>
        clear HX
        obtain ⟨t, ht, hX⟩ := hrel
        have HX := Lib.hid hX
        obtain ⟨hk, hj, hf, hdd, hoo⟩ := hX
        generalize wr = wt at *
        by_cases htl : t < d.length
        · have htI : (t : Int) < (d.length : Int) := by omega
          have ht0 : (0 : Int) ≤ (t : Int) := by omega
          obtain ⟨n, hn⟩ := get_ex htl
          obtain ⟨⟨op, nn⟩, hx⟩ := get_ex (show t < f.code.length by rw [← HL.out]; exact htl)
          obtain ⟨s1, s2, s3, s4, s5, s6, s7⟩ := HD.out.step t _ n hx hn
          simp only at s1 s4 s5 s6 s7
          have HS := Lib.hid (And.intro s6 s7)
          have HC := Lib.hid (HD.out.ops _ (List.mem_of_getElem? hx))
          have HXX := Lib.hid (And.intro hx hn)
          have hj0 : wt.cell? ⟨w.heap.size, 0, none⟩ = some (.slice aj J.fs.length cj) := hj.cell 0
          have hf3 : wt.cell? ⟨w.heap.size + 1, 3, none⟩ = some (.slice ac d.length cc) := hf.cell 3
          have c2 : wt.cell? ⟨w.heap.size + 1 + 1, t, none⟩ = some (.int .i64 n) := by rw [hdd.cell, fdt_at (Nat.le_refl _) hn]
          have c3 : wt.cell? ⟨w.heap.size + 1 + 1 + 1, t, none⟩ = some (.bool false) := by rw [hoo.cell, fo_false htl]
          have c4 : ∀ j, wt.frozen? ⟨w.heap.size + 1 + 1 + 1, j, none⟩ = false := fun j => hoo.frozen j
          clear s6 s7 hx
          go_wp2_with fail
          go_loop [10] (fun v => ∃ i : Nat, v = .int .i64 i ∧ i ≤ t) (fun v => t - (intOf v).toNat)
          case atStart => exact ⟨0, rfl, Nat.zero_le _⟩
          case round =>
            obtain ⟨i, rfl, h2⟩ := hrel
            by_cases hi : i < t
            · have hiI : (i : Int) < (d.length : Int) := by omega
              have hi0 : (0 : Int) ≤ (i : Int) := by omega
              obtain ⟨y, hy⟩ := get_ex (show i < d.length by omega)
              have c0 : wt.cell? ⟨w.heap.size + 1 + 1, i, none⟩ = some (.int .i64 y) := by rw [hdd.cell, fdt_at (by omega) hy]
              have c1 : wt.cell? ⟨w.heap.size + 1 + 1 + 1, i, none⟩ = some (.bool true) := by rw [hoo.cell, fo_true hi (by omega)]
              clear hn
              go_wp2_with fail
              all_goals
                go_round
                case rel => exact ⟨i + 1, by go_num, by omega⟩
                case measure => simp [intOf]; omega
            · obtain rfl : t = i := by omega
              have hY := Lib.hid (show DepHead w [.slice aj J.fs.length cj, .int .i64 0, .slice none 0 0, .int .i64 J.fuel, .int .i64 J.tasks] [.string (strB f.name), .int .i64 0, .int .i64 0, .slice ac d.length cc] d t (t + 1) (wt.setCell ⟨w.heap.size + 1 + 1 + 1, t, none⟩ (.bool true)) from ⟨hk.setCell (Or.inr (by simp <;> omega)) _, hj.far (by simp <;> omega) _, hf.far (by simp <;> omega) _, hdd.far (by simp) _, by rw [← fo_step]; exact hoo.set_ t _⟩)
              clear h2 hi hn
              go_wp2_with fail
              clear hj0 hf3 c2 c3 c4 hk hj hf hdd hoo
              generalize wt.setCell ⟨w.heap.size + 1 + 1 + 1, t, none⟩ (.bool true) = w1 at *
              obtain ⟨hfs, hc, hB⟩ := HF.out
              obtain ⟨hop, _, h16⟩ := HC.out
              obtain ⟨bc, offc, rfl, hbc, _, _⟩ := CodeAt.at_ hc HXX.out.1
              have hbel := below_of hY.out.keep hB
              have HFS := Lib.hid (hfs.below hbel)
              obtain ⟨q0, q1, q2, q3, q4⟩ := dep_cells hY.out hc hB HXX.out.1 HXX.out.2
              have hbcw : bc < w1.heap.size := by have := hY.out.keep.size; omega
              have HOP := Lib.hid (And.intro hop (And.intro h16 (Nat.le_trans hB hY.out.keep.size)))
              clear hfs hc hbel hB hop h16
              refine wp_region_quiet_tail 7 (by kernel_rfl) (by kernel_rfl) ?_
              simp only [List.take_succ_cons, List.take_zero, List.drop_succ_cons, List.drop_zero]
              repeat (go_big_quiet_step (fail))
              refine quiet_tail_end ?_
              rintro _ ⟨nq, rfl⟩
              go_wp2_with fail
              refine (pops6_spec _ B op nn _ J.fs HOP.out.1 (HFS.out.below (below_of ((Keep.refl [] w1).drewN nq) HOP.out.2.2)) HOP.out.2.2 HOP.out.2.1).mono ?_
              rintro e w2 ⟨rfl, hk2⟩
              have hY2 := Lib.hid (hY.out.more hk2.of_drewN)
              have hp0 : 0 ≤ pops6 op ∧ pops6 op ≤ 2 := by unfold pops6; split <;> (try split) <;> omega
              have hp1 : 0 ≤ pushes6 op ∧ pushes6 op ≤ 2 := by unfold pushes6; split <;> (try split) <;> omega
              obtain ⟨p1, p2⟩ := hp0
              obtain ⟨p3, p4⟩ := hp1
              have hbcw2 : bc < w2.heap.size := by have := hk2.size; simp at this; omega
              clear q0 q1 q2 q3 q4 hk2
              obtain ⟨q0, q1, q2, q3, q4⟩ := dep_cells hY2.out HF.out.2.1 HF.out.2.2 HXX.out.1 HXX.out.2
              go_wp2_with fail
              go_region_held3 (fun w' => w'.cell? ⟨w.heap.size + 1, 3, none⟩ = some (.slice (some ⟨bc, offc, none⟩) d.length cc) ∧ w'.cell? ⟨w.heap.size + 1 + 1, t, none⟩ = some (.int .i64 n) ∧ w'.cell? ⟨bc, offc + t * 2, none⟩ = some (.int .i64 op) ∧ w'.cell? ⟨bc, offc + t * 2 + 1, none⟩ = some (.int .i64 nn)) (first | exact ⟨by assumption, by assumption, by assumption, by assumption⟩ | go_keep)
                (first | (go_at_call 85; go_must (refine (pushes6_spec _ op nn HOP.out.1).mono ?_; rintro e w3 ⟨rfl, hk3⟩; have r0 := cell_keep0 hk3.of_drew q3; have r1 := cell_keep0 hk3.of_drew q4; have r2 := cell_keep0 hk3.of_drew q0; have r3 := cell_keep0 hk3.of_drew q1; have hY3 := Lib.hid (hY2.out.more hk3.of_drew); have hsz3 := hk3.size)))
              have hbcw3 : bc < w3.heap.size := by simp at hsz3; omega
              clear q0 q1 q2 q3 q4 hk3 r0 r1 r2 r3
              obtain ⟨q0, q1, q2, q3, q4⟩ := dep_cells hY3.out HF.out.2.1 HF.out.2.2 HXX.out.1 HXX.out.2
              go_wp2_with fail
              refine (next6_spec _ op nn t HOP.out.1 (by omega) (by omega)).mono ?_
              rintro e w4 ⟨hk4, hcs⟩
              have hY4 := Lib.hid (hY3.out.more hk4)
              have hsz4 := hk4.size
              clear q0 q1 q2 q3 q4 hk4
              rcases hcs with ⟨h18, rfl⟩ | ⟨h18, g2, c5, rfl, hg2, hcell⟩
              · have hte : t + 1 = d.length := by rw [HL.out]; exact HS.out.1 h18
                have HTE := Lib.hid hte
                clear hte h18
                go_wp2_with fail
                go_loopw [14] (fun v wr => v = .int .i64 0 ∧ w4 = wr) (fun _ _ => 0)
                case atStart => exact ⟨rfl, rfl⟩
                case round =>
                  obtain ⟨rfl, rfl⟩ := hrel
                  go_wp2_with fail
                  go_roundw
                  case rel => exact ⟨t + 1, by omega, hY4.out.keep, hY4.out.jj, hY4.out.ff, by rw [← fdt_last HTE.out]; exact hY4.out.dd, hY4.out.oo⟩
                  case measure =>
                    have m1 := openLeft_is hY4.out.oo d.length (Nat.le_refl _)
                    have m2 := openLeft_is HX.out.oo d.length (Nat.le_refl _)
                    omega
              · have hm := HS.out.2 h18
                have hlt2 := get_lt hm
                have t2 : (t : Int) + 1 < (d.length : Int) := by omega
                have t3 : (0 : Int) ≤ (t : Int) + 1 := by omega
                have t4 : ((t : Int) + 1).toNat = t + 1 := by omega
                have HM := Lib.hid hm
                have HT2 := Lib.hid hlt2
                have z0 : w4.cell? ⟨w.heap.size + 1 + 1, t + 1, none⟩ = some (.int .i64 (-1)) := by rw [hY4.out.dd.cell, fdt_over (by omega) hlt2]
                have zf : ∀ j, w4.frozen? ⟨w.heap.size + 1 + 1, j, none⟩ = false := fun j => hY4.out.dd.frozen j
                clear hm hlt2 h18
                go_wp2_with fail
                go_loopw [14] (fun v wr => (v = .int .i64 0 ∧ w4 = wr) ∨ (v = .int .i64 1 ∧ wr = w4.setCell ⟨w.heap.size + 1 + 1, t + 1, none⟩ (.int .i64 (n - pops6 op + pushes6 op)))) (fun v _ => 1 - (intOf v).toNat)
                case atStart => exact Or.inl ⟨rfl, rfl⟩
                case round =>
                  rcases hrel with ⟨rfl, rfl⟩ | ⟨rfl, rfl⟩
                  · go_wp2_with fail
                    go_roundw
                    case rel => exact Or.inr ⟨rfl, trivial⟩
                    case measure => simp [intOf]
                  · have hY5 : DepHead w [.slice aj J.fs.length cj, .int .i64 0, .slice none 0 0, .int .i64 J.fuel, .int .i64 J.tasks] [.string (strB f.name), .int .i64 0, .int .i64 0, .slice (some ⟨bc, offc, none⟩) d.length cc] d (t + 1) (t + 1) (w4.setCell ⟨w.heap.size + 1 + 1, t + 1, none⟩ (.int .i64 (n - pops6 op + pushes6 op))) :=
                      ⟨hY4.out.keep.setCell (Or.inr (by simp <;> omega)) _, hY4.out.jj.far (by simp <;> omega) _, hY4.out.ff.far (by simp <;> omega) _, by rw [← fdt_step HM.out]; exact hY4.out.dd.set_ _ _, hY4.out.oo.far (by simp <;> omega) _⟩
                    have hY5 := Lib.hid hY5
                    go_wp2_with fail
                    go_roundw
                    case rel => exact ⟨t + 1, by have := HT2.out; omega, hY5.out⟩
                    case measure =>
                      have m1 := openLeft_is hY5.out.oo d.length (Nat.le_refl _)
                      have m2 := openLeft_is HX.out.oo d.length (Nat.le_refl _)
                      omega
        · obtain rfl : t = d.length := by omega
          clear ht htl
          have hj0 : wt.cell? ⟨w.heap.size, 0, none⟩ = some (.slice aj J.fs.length cj) := hj.cell 0
          have hf3 : wt.cell? ⟨w.heap.size + 1, 3, none⟩ = some (.slice ac d.length cc) := hf.cell 3
          go_wp2_with fail
          go_loop [10] (fun v => ∃ i : Nat, v = .int .i64 i ∧ i ≤ d.length) (fun v => d.length - (intOf v).toNat)
          case atStart => exact ⟨0, rfl, Nat.zero_le _⟩
          case round =>
            obtain ⟨i, rfl, h2⟩ := hrel
            by_cases hi : i < d.length
            · have hiI : (i : Int) < (d.length : Int) := by omega
              have hi0 : (0 : Int) ≤ (i : Int) := by omega
              obtain ⟨x, hx⟩ := get_ex hi
              have c0 : wt.cell? ⟨w.heap.size + 1 + 1, i, none⟩ = some (.int .i64 x) := by rw [hdd.cell, fdt_at (by omega) hx]
              have c1 : wt.cell? ⟨w.heap.size + 1 + 1 + 1, i, none⟩ = some (.bool true) := by rw [hoo.cell, fo_true hi hi]
              go_wp2_with fail
              all_goals
                go_round
                case rel => exact ⟨i + 1, by go_num, by omega⟩
                case measure => simp [intOf]; omega
            · obtain rfl : i = d.length := by omega
              clear h2 hi
              go_wp2_with fail
              go_ret3
              exact ⟨_, rfl, by omega, by rw [← fdt_done d _ (Nat.le_refl _)]; exact hdd, hk⟩
end Go.Proofs.YtndpbkhpllmhmaaDoor
namespace Go.Proofs.YtndpbkhpllmhmaaDoor
set_option linter.unusedSimpArgs false
set_option linter.unnecessarySimpa false
set_option linter.unusedVariables false
open Go.RowKit
/-- the boxes of a call that has a job and a function -/
structure Two (w : World) (jc fc : List Value) (wr : World) : Prop where
  keep : Keep [] w wr
  jj : Blk wr w.heap.size 26 jc
  ff : Blk wr (w.heap.size + 1) 33 fc
theorem Two.more {w : World} {jc fc : List Value} {wr w' : World} (h : Two w jc fc wr) (k : Keep [] wr w') : Two w jc fc w' :=
  ⟨h.keep.trans k (by simp), h.jj.keep k (by simp), h.ff.keep k (by simp)⟩
theorem fn_cells {B : Nat} {w w' : World} {b off n c : Nat} {fs : List FN} (h : FuncsAt B w (.slice (some ⟨b, off, none⟩) n c) fs) (hB : B ≤ w.heap.size) (k : Keep [] w w') {i : Nat} {f : FN} (hi : fs[i]? = some f) : w'.cell? ⟨b, off + i * 4, none⟩ = some (.string (strB f.name)) := by
  obtain ⟨b', off', cv, e, _, f0, _⟩ := (h.below (below_of k hB)).fn hi
  injection e with e
  injection e with e1 e2
  subst e1 e2
  exact f0
theorem strB_ne {a b : BS} (h : a ≠ b) : ((strB a).toList == (strB b).toList) = false := by
  rw [strB_toList, strB_toList]
  exact beq_false_of_ne h
set_option maxHeartbeats 6400000 in
set_option maxRecDepth 100000 in
theorem checkFunc_spec (w : World) (B k : Nat) (jv : Value) (J : JB) (f : FN) (d : List Int) (hj : JobIs B w jv J) (hB : B ≤ w.heap.size) (hJ : JobOk J) (hf : J.fs[k]? = some f) (hd : J.ds[k]? = some d) :
    Calls Tryd.prog 83 #[jv, .int .i64 k] w fun e w' => e = .returned (.tuple #[.int .i64 0, .int .i64 0]) ∧ Keep [] w w' := by
  have HJI := Lib.hid hj
  obtain ⟨fv, rfl, hfs⟩ := hj
  obtain ⟨aj, cj, rfl⟩ := hfs.shape
  obtain ⟨b, off, cv, rfl, hb, f0, f1, f2, f3, hcode⟩ := hfs.fn hf
  obtain ⟨ac, cc, rfl⟩ := hcode.shape
  have hk := get_lt hf
  have hm := hJ.most
  have hD := hJ.depths k f d hf hd
  have hkI : (k : Int) < (J.fs.length : Int) := by omega
  have hk0 : (0 : Int) ≤ (k : Int) := by omega
  have hk6 : (k : Int) ≤ 6 := by omega
  have hc1 : (f.code.length : Int) ≤ 64 := by have := hD.small; omega
  have hc0 : ((f.code.length : Int) == 0) = false := by rw [beq_eq_false_iff_ne]; have := hD.ne; omega
  have hcn : (0 : Int) ≤ (f.code.length : Int) := by omega
  have hbw : b < w.heap.size := by omega
  have HN := Lib.hid (hJ.names f (List.mem_of_getElem? hf))
  have HA := Lib.hid (fun (i : Nat) (g : FN) (hg : J.fs[i]? = some g) (hik : i < k) => hJ.apart i k g f hg hf hik)
  have HD := Lib.hid hD
  have HF := Lib.hid (And.intro hfs (And.intro hcode hB))
  have HK := Lib.hid hf
  clear hfs hcode hD hJ hd hf hm hb
  go_enter Tryd.func83, Tryd.ntmps83
  go_wp2_with fail
  refine (goodName_spec _ _ HN.out).mono ?_
  rintro e w1 ⟨rfl, rfl⟩
  have hT : Two w [.slice (some ⟨b, off, none⟩) J.fs.length cj, .int .i64 0, .slice none 0 0, .int .i64 J.fuel, .int .i64 J.tasks] [.string (strB f.name), .int .i64 0, .int .i64 0, .slice ac f.code.length cc] ((w.alloc (.cells #[.slice (some ⟨b, off, none⟩) J.fs.length cj, .int .i64 0, .slice none 0 0, .int .i64 J.fuel, .int .i64 J.tasks] 26)).alloc (.cells #[.string (strB f.name), .int .i64 0, .int .i64 0, .slice ac f.code.length cc] 33)) :=
    ⟨((Keep.refl [] w).alloc _).alloc _, (Blk.new' _ _ _ _ rfl).alloc _, blk_at (by simp) rfl⟩
  have HT := Lib.hid hT
  clear hT f0 f1 f2 f3
  go_wp2_with fail
  go_loopw [7, 8] (fun v i wr => v = .bool true ∧ ∃ n : Nat, n ≤ k ∧ i = .int .i64 n ∧ Two w [.slice (some ⟨b, off, none⟩) J.fs.length cj, .int .i64 0, .slice none 0 0, .int .i64 J.fuel, .int .i64 J.tasks] [.string (strB f.name), .int .i64 0, .int .i64 0, .slice ac f.code.length cc] wr) (fun _ i _ => k - (intOf i).toNat)
  case atStart => exact ⟨rfl, 0, Nat.zero_le _, rfl, HT.out⟩
  case round =>
    clear HT
    obtain ⟨rfl, n, hn, rfl, hT⟩ := hrel
    have HT := Lib.hid hT
    have j0 : wr.cell? ⟨w.heap.size, 0, none⟩ = some (.slice (some ⟨b, off, none⟩) J.fs.length cj) := hT.jj.cell 0
    have g0 : wr.cell? ⟨w.heap.size + 1, 0, none⟩ = some (.string (strB f.name)) := hT.ff.cell 0
    have hbr : b < wr.heap.size := by have := hT.keep.size; omega
    by_cases hlt : n < k
    · obtain ⟨g, hg⟩ := get_ex (show n < J.fs.length by omega)
      have c0 := fn_cells HF.out.1 HF.out.2.2 hT.keep hg
      have hne := strB_ne (HA.out n g hg hlt)
      have hnI : (n : Int) < (k : Int) := by omega
      have hnJ : (n : Int) < (J.fs.length : Int) := by omega
      have hn0 : (0 : Int) ≤ (n : Int) := by omega
      clear hT hg hn
      go_wp2_with fail
      go_quiet (fail)
      go_wp2_with fail
      go_roundw
      case rel => exact ⟨rfl, n + 1, by omega, by go_num, HT.out.more ((Keep.refl [] _).drewN _)⟩
      case measure => simp [intOf]; omega
    · obtain rfl : k = n := by omega
      have g1 : wr.cell? ⟨w.heap.size + 1, 1, none⟩ = some (.int .i64 0) := hT.ff.cell 1
      have g2 : wr.cell? ⟨w.heap.size + 1, 2, none⟩ = some (.int .i64 0) := hT.ff.cell 2
      have g3 : wr.cell? ⟨w.heap.size + 1, 3, none⟩ = some (.slice ac f.code.length cc) := hT.ff.cell 3
      clear hT hn hlt
      generalize wr = wo at *
      go_wp2_with fail
      go_loopw [9] (fun i wr => ∃ n : Nat, n ≤ f.code.length ∧ i = .int .i64 n ∧ Two w [.slice (some ⟨b, off, none⟩) J.fs.length cj, .int .i64 0, .slice none 0 0, .int .i64 J.fuel, .int .i64 J.tasks] [.string (strB f.name), .int .i64 0, .int .i64 0, .slice ac f.code.length cc] wr) (fun i _ => f.code.length - (intOf i).toNat)
      case atStart => exact ⟨0, Nat.zero_le _, rfl, HT.out⟩
      case round =>
        clear HT j0 g0 g1 g2 g3 hbr
        obtain ⟨n, hn, rfl, hT⟩ := hrel
        have HT := Lib.hid hT
        have j0 : wr.cell? ⟨w.heap.size, 0, none⟩ = some (.slice (some ⟨b, off, none⟩) J.fs.length cj) := hT.jj.cell 0
        have j1 : wr.cell? ⟨w.heap.size, 1, none⟩ = some (.int .i64 0) := hT.jj.cell 1
        have j2 : wr.cell? ⟨w.heap.size, 2, none⟩ = some (.slice none 0 0) := hT.jj.cell 2
        have j3 : wr.cell? ⟨w.heap.size, 3, none⟩ = some (.int .i64 J.fuel) := hT.jj.cell 3
        have j4 : wr.cell? ⟨w.heap.size, 4, none⟩ = some (.int .i64 J.tasks) := hT.jj.cell 4
        have g0 : wr.cell? ⟨w.heap.size + 1, 0, none⟩ = some (.string (strB f.name)) := hT.ff.cell 0
        have g1 : wr.cell? ⟨w.heap.size + 1, 1, none⟩ = some (.int .i64 0) := hT.ff.cell 1
        have g2 : wr.cell? ⟨w.heap.size + 1, 2, none⟩ = some (.int .i64 0) := hT.ff.cell 2
        have g3 : wr.cell? ⟨w.heap.size + 1, 3, none⟩ = some (.slice ac f.code.length cc) := hT.ff.cell 3
        by_cases hlt : n < f.code.length
        · obtain ⟨⟨op, nn⟩, hx⟩ := get_ex hlt
          obtain ⟨hop, h0, h16⟩ := HD.out.ops _ (List.mem_of_getElem? hx)
          obtain ⟨bc, offc, rfl, hbc, q0, q1⟩ := CodeAt.at_ (show CodeAt B wr (.slice ac f.code.length cc) f.code from HF.out.2.1.below (below_of hT.keep HF.out.2.2)) hx
          have hnI : (n : Int) < (f.code.length : Int) := by omega
          have hn0 : (0 : Int) ≤ (n : Int) := by omega
          have hbcw : bc < wr.heap.size := by have := hT.keep.size; have := HF.out.2.2; omega
          have HO := Lib.hid (And.intro hop (And.intro h0 (show op = 16 → 0 ≤ nn ∧ nn < J.fs.length from fun h => by obtain ⟨k', g', e1, e2⟩ := h16 h; have := get_lt e2; simp only at e1; omega)))
          clear hT hn hx hop h0 h16
          go_wp2_with fail
          refine wp_region_quiet_tail 7 (by kernel_rfl) (by kernel_rfl) ?_
          simp only [List.take_succ_cons, List.take_zero, List.drop_succ_cons, List.drop_zero]
          repeat (go_big_quiet_step (fail))
          refine quiet_tail_end ?_
          rintro _ ⟨nq, rfl⟩
          go_wp2_with fail
          refine (checkIns6_spec _ B _ J f _ op nn HO.out.1 (HJI.out.below (below_of (HT.out.keep.drewN nq) HF.out.2.2)) HO.out.2.1 HO.out.2.2).mono ?_
          rintro e w2 ⟨rfl, hk2⟩
          have H2 := Lib.hid (HT.out.more hk2.of_drewN)
          clear hk2
          go_wp2_with fail
          go_roundw
          case rel => exact ⟨n + 1, by omega, by go_num, H2.out⟩
          case measure => simp [intOf]; omega
        · obtain rfl : f.code.length = n := by omega
          clear hT hn hlt
          go_wp2_with fail
          refine (depths_spec _ B _ _ J f d (HJI.out.below (below_of HT.out.keep HF.out.2.2)) (HF.out.2.1.below (below_of HT.out.keep HF.out.2.2)) (Nat.le_trans HF.out.2.2 HT.out.keep.size) HD.out).mono ?_
          rintro e w2 ⟨g, rfl, hg, hbg, hk2⟩
          have H2 := Lib.hid (HT.out.keep.trans hk2 (by simp))
          clear hk2 hbg
          go_wp2_with fail
          go_ret2
          exact ⟨rfl, H2.out⟩
end Go.Proofs.YtndpbkhpllmhmaaDoor
namespace Go.Proofs.YtndpbkhpllmhmaaDoor
set_option linter.unusedSimpArgs false
set_option linter.unnecessarySimpa false
set_option linter.unusedVariables false
open Go.RowKit
set_option maxHeartbeats 6400000 in
set_option maxRecDepth 100000 in
theorem check_spec (w : World) (B : Nat) (jv : Value) (J : JB) (hj : JobIs B w jv J) (hB : B ≤ w.heap.size) (hJ : JobOk J) :
    Calls Tryd.prog 67 #[jv] w fun e w' => e = .returned (.tuple #[.int .i64 0, .int .i64 0, .int .i64 0]) ∧ Keep [] w w' := by
  have HJI := Lib.hid hj
  have HJ := Lib.hid hJ
  obtain ⟨fv, rfl, hfs⟩ := hj
  obtain ⟨aj, cj, rfl⟩ := hfs.shape
  obtain ⟨f, hf⟩ := get_ex hJ.ne
  obtain ⟨b, off, cv, rfl, hb, f0, f1, f2, f3, hcode⟩ := hfs.fn hf
  have f1 : w.cell? ⟨b, off + 1, none⟩ = some (.int .i64 0) := by simpa using f1
  have hnI : (J.fs.length : Int) ≤ 6 := by have := hJ.most; omega
  have hn1 : (0 : Int) < (J.fs.length : Int) := by have := hJ.ne; omega
  have hn0 : ((J.fs.length : Int) == 0) = false := by rw [beq_eq_false_iff_ne]; have := hJ.ne; omega
  have hne : ¬ J.fs = [] := by intro h; have := hJ.ne; rw [h] at this; simp at this
  have hu1 : (1 : Int) ≤ (J.fuel : Int) := by have := hJ.fuel; omega
  have hu2 : (J.fuel : Int) ≤ 5000 := by have := hJ.fuel; omega
  have ht1 : (1 : Int) ≤ (J.tasks : Int) := by have := hJ.tasks; omega
  have ht2 : (J.tasks : Int) ≤ 500 := by have := hJ.tasks; omega
  have hbw : b < w.heap.size := by omega
  have hbw1 : b < w.heap.size + 1 := by omega
  have HB := Lib.hid hB
  have hT : Keep [] w (w.alloc (.cells #[.slice (some ⟨b, off, none⟩) J.fs.length cj, .int .i64 0, .slice none 0 0, .int .i64 J.fuel, .int .i64 J.tasks] 26)) := (Keep.refl [] w).alloc _
  have hA : Blk (w.alloc (.cells #[.slice (some ⟨b, off, none⟩) J.fs.length cj, .int .i64 0, .slice none 0 0, .int .i64 J.fuel, .int .i64 J.tasks] 26)) w.heap.size 26 [.slice (some ⟨b, off, none⟩) J.fs.length cj, .int .i64 0, .slice none 0 0, .int .i64 J.fuel, .int .i64 J.tasks] := Blk.new' _ _ _ _ rfl
  have HT := Lib.hid (And.intro hT hA)
  clear hfs hcode hJ hf hb f0 f2 f3 hB hT hA
  go_enter Tryd.func67, Tryd.ntmps67
  go_wp2_with fail
  go_quiet (fail)
  go_wp2_with fail
  go_loopw [5] (fun i wr => ∃ n : Nat, n ≤ J.fs.length ∧ i = .int .i64 n ∧ Keep [] w wr ∧ Blk wr w.heap.size 26 [.slice (some ⟨b, off, none⟩) J.fs.length cj, .int .i64 0, .slice none 0 0, .int .i64 J.fuel, .int .i64 J.tasks]) (fun i _ => J.fs.length - (intOf i).toNat)
  case atStart => exact ⟨0, Nat.zero_le _, rfl, HT.out.1.drewN _, HT.out.2.drewN _⟩
  case round =>
    clear HT f1
    obtain ⟨n, hn, rfl, hT, hA⟩ := hrel
    have HT := Lib.hid (And.intro hT hA)
    have j0 : wr.cell? ⟨w.heap.size, 0, none⟩ = some (.slice (some ⟨b, off, none⟩) J.fs.length cj) := hA.cell 0
    have j1 : wr.cell? ⟨w.heap.size, 1, none⟩ = some (.int .i64 0) := hA.cell 1
    have j2 : wr.cell? ⟨w.heap.size, 2, none⟩ = some (.slice none 0 0) := hA.cell 2
    have j3 : wr.cell? ⟨w.heap.size, 3, none⟩ = some (.int .i64 J.fuel) := hA.cell 3
    have j4 : wr.cell? ⟨w.heap.size, 4, none⟩ = some (.int .i64 J.tasks) := hA.cell 4
    by_cases hlt : n < J.fs.length
    · obtain ⟨g, hg⟩ := get_ex hlt
      obtain ⟨d, hd⟩ := get_ex (show n < J.ds.length by rw [HJ.out.len]; exact hlt)
      have hnI : (n : Int) < (J.fs.length : Int) := by omega
      have HG := Lib.hid (And.intro hg hd)
      clear hT hA hn hg hd
      go_wp2_with fail
      refine (checkFunc_spec _ B n _ J g d (HJI.out.below (below_of HT.out.1 HB.out)) (Nat.le_trans HB.out HT.out.1.size) HJ.out HG.out.1 HG.out.2).mono ?_
      rintro e w2 ⟨rfl, hk2⟩
      have H2 := Lib.hid (And.intro (HT.out.1.trans hk2 (by simp)) (HT.out.2.keep hk2 (by simp)))
      clear hk2
      go_wp2_with fail
      go_roundw
      case rel => exact ⟨n + 1, by omega, by go_num, H2.out.1, H2.out.2⟩
      case measure => simp [intOf]; omega
    · obtain rfl : J.fs.length = n := by omega
      clear hT hA hn hlt
      go_wp2_with fail
      go_ret3
      exact ⟨rfl, HT.out.1⟩
end Go.Proofs.YtndpbkhpllmhmaaDoor
