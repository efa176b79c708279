/- Plain lemmas on worlds, blocks and numbers that the walks of this seat use; no program in sight. A region that draws its order: a head of operations and calls that only read (they may draw), then a tail that runs in one order. After the pattern of the library's texts on quiet regions and on tails; no program in sight. How arguments that came in are read: slices of numbers, slices of structs of numbers. No program in sight. Appends onto slices of the call's own, from whatever source; slices of the call's own, read and written. No program in sight. Slices of the call's own that begin anywhere in their block: appended to, cut at either end, read. No program in sight. Slices of structs: rows of a fixed number of cells; slices of bytes. No program in sight. -/
import Derived.WalkKit
import Derived.Deep.Draws
import Derived.IntWalk
import Derived.StillTail
import Derived.BigQuiet
import Derived.ProofKit
import Derived.OpenShut
import Derived.Deep.Slices
import Derived.Deep.Fields
import Derived.Maps.AppendAt
import Derived.Laws.OwnMore
import Derived.OwnWalk
import Derived.Deep.RegionLaw
namespace Go.Proofs.YtndpbkhpllmhmaaDoor
set_option linter.unusedSimpArgs false
set_option linter.unnecessarySimpa false
set_option linter.unusedVariables false
open Go.RowKit

/-! ### Worlds that agree but for some blocks -/
/-- 'Keep S w w'': every block of w that is not named in S is in w' as it was; new blocks may have come. -/
structure Keep (S : List Nat) (w w' : World) : Prop where
  os : w'.os = w.os
  tape : w'.tape = w.tape
  output : w'.output = w.output
  size : w.heap.size ≤ w'.heap.size
  block : ∀ k, k < w.heap.size → k ∉ S → w'.heap[k]? = w.heap[k]?

theorem Keep.refl (S : List Nat) (w : World) : Keep S w w := ⟨rfl, rfl, rfl, Nat.le_refl _, fun _ _ _ => rfl⟩
/-- Two steps; what the second one turns is named already or is new. -/
theorem Keep.trans {S T : List Nat} {a b c : World} (h : Keep S a b) (k : Keep T b c) (hT : ∀ x ∈ T, x ∈ S ∨ a.heap.size ≤ x) : Keep S a c :=
  ⟨k.os.trans h.os, k.tape.trans h.tape, k.output.trans h.output, Nat.le_trans h.size k.size, fun i hi hn => by
    rw [k.block i (Nat.lt_of_lt_of_le hi h.size) (fun hx => by rcases hT i hx with h1 | h1; exact hn h1; omega), h.block i hi hn]⟩
theorem Keep.mono {S T : List Nat} {a b : World} (h : Keep S a b) (hT : ∀ x ∈ S, x ∈ T ∨ a.heap.size ≤ x) : Keep T a b :=
  ⟨h.os, h.tape, h.output, h.size, fun i hi hn => h.block i hi (fun hx => by rcases hT i hx with h1 | h1; exact hn h1; omega)⟩
theorem Keep.drew {S : List Nat} {a w : World} (h : Keep S a w) : Keep S a w.drew := ⟨h.os, h.tape, h.output, h.size, h.block⟩
theorem Keep.drewN {S : List Nat} {a w : World} (h : Keep S a w) (n : Nat) : Keep S a (w.drewN n) := ⟨h.os, h.tape, h.output, h.size, h.block⟩
theorem Keep.of_drewN {S : List Nat} {a w : World} {n : Nat} (h : Keep S (a.drewN n) w) : Keep S a w := ⟨h.os, h.tape, h.output, h.size, h.block⟩
theorem Keep.of_drew {S : List Nat} {a w : World} (h : Keep S a.drew w) : Keep S a w := ⟨h.os, h.tape, h.output, h.size, h.block⟩
theorem Keep.alloc {S : List Nat} {a w : World} (h : Keep S a w) (o : Obj) : Keep S a (w.alloc o) :=
  h.trans (T := []) ⟨rfl, rfl, rfl, by simp, fun k hk _ => Below.heap_alloc _ _ _ hk⟩ (by simp)
theorem Keep.setCell {S : List Nat} {a w : World} (h : Keep S a w) {p : Addr} (hp : p.block ∈ S ∨ a.heap.size ≤ p.block) (u : Value) : Keep S a (w.setCell p u) :=
  h.trans (T := [p.block]) ⟨rfl, rfl, rfl, by simp [World.setCell], fun k _ hk => Below.heap_setCell _ _ _ _ (by simpa using hk)⟩ (by simpa using hp)
theorem Keep.of_grown {w w' : World} {row : Option Nat} {S : List Nat} (h : w.grownBy w' row) (hr : ∀ k, row = some k → k ∈ S ∨ w.heap.size ≤ k) : Keep S w w' :=
  ⟨h.os, h.tape, h.output, h.size, fun k hk hn => h.block k hk (fun e => by rcases hr k e.symm with h1 | h1; exact hn h1; omega)⟩
theorem Keep.below {S : List Nat} {a w w' : World} {B : Nat} (hb : Below B a w) (h : Keep S w w') (hB : B ≤ w.heap.size) (hS : ∀ x ∈ S, B ≤ x) : Below B a w' :=
  hb.trans ⟨h.os, h.tape, h.output, h.size, fun k hk => h.block k (by omega) (fun hx => by have := hS k hx; omega)⟩
theorem Keep.to_below {w w' : World} (h : Keep [] w w') : Below w.heap.size w w' := Keep.below (Below.refl _ _) h (Nat.le_refl _) (by simp)
theorem Keep.cell {S : List Nat} {w w' : World} (h : Keep S w w') {p : Addr} (hp : p.block < w.heap.size) (hn : p.block ∉ S) : w'.cell? p = w.cell? p :=
  World.cell?_of_block (w := w) (h.block p.block hp hn)

/-! ### Blocks known whole -/
/-- Block g is just the cells cs, of element type t, none frozen. -/
def Blk (w : World) (g : Nat) (t : TypeId) (cs : List Value) : Prop := w.heap[g]? = some (.cells cs.toArray t (0, 0))
section
variable {w w' : World} {g : Nat} {t : TypeId} {cs : List Value}
theorem Blk.lt (h : Blk w g t cs) : g < w.heap.size := by
  rcases Nat.lt_or_ge g w.heap.size with hlt | hge
  · exact hlt
  · unfold Blk at h; rw [Array.getElem?_eq_none hge] at h; cases h
theorem Blk.cell (h : Blk w g t cs) (i : Nat) : w.cell? ⟨g, i, none⟩ = cs[i]? := by
  unfold Blk at h; simp [World.cell?, h]
theorem Blk.cell_at (h : Blk w g t cs) {i : Nat} (hi : i < cs.length) : w.cell? ⟨g, i, none⟩ = some cs[i] := by
  rw [h.cell, List.getElem?_eq_getElem hi]
theorem Blk.frozen (h : Blk w g t cs) (i : Nat) : w.frozen? ⟨g, i, none⟩ = false := by
  unfold Blk at h; simp [World.frozen?, h]
theorem Blk.new (w : World) (t : TypeId) (cs : List Value) : Blk (w.alloc (.cells cs.toArray t)) w.heap.size t cs := heap_alloc_new w _
theorem Blk.new' (w : World) (t : TypeId) (cs : Array Value) (l : List Value) (h : cs = l.toArray) : Blk (w.alloc (.cells cs t)) w.heap.size t l := by subst h; exact heap_alloc_new w _
theorem Blk.drew (h : Blk w g t cs) : Blk w.drew g t cs := h
theorem Blk.drewN (h : Blk w g t cs) (n : Nat) : Blk (w.drewN n) g t cs := h
theorem Blk.alloc (h : Blk w g t cs) (o : Obj) : Blk (w.alloc o) g t cs := (Below.heap_alloc w o g h.lt).trans h
theorem Blk.set_ (h : Blk w g t cs) (i : Nat) (u : Value) : Blk (w.setCell ⟨g, i, none⟩ u) g t (cs.set i u) := by
  unfold Blk at h ⊢
  simp [World.setCell, Array.getElem?_modify, h]
theorem Blk.far (h : Blk w g t cs) {p : Addr} (hp : g ≠ p.block) (u : Value) : Blk (w.setCell p u) g t cs := (Below.heap_setCell w p u g hp).trans h
theorem Blk.keep {S : List Nat} (h : Blk w g t cs) (hk : Keep S w w') (hn : g ∉ S) : Blk w' g t cs := (hk.block g h.lt hn).trans h
theorem Blk.below {B : Nat} (h : Blk w g t cs) (hb : Below B w w') (hg : g < B) : Blk w' g t cs := (hb.block g hg).trans h
theorem Blk.ne_ {g' : Nat} {t' : TypeId} {cs' : List Value} (h : Blk w g t cs) (h' : Blk w g' t' cs') (hne : t ≠ t') : g ≠ g' := by
  rintro rfl
  unfold Blk at h h'
  rw [h] at h'
  injection h' with h'
  injection h' with _ ht
  exact hne ht
end

/-! ### A slice of numbers that is read -/
/-- The slice value v reads, in w, as the numbers ys (nil and empty ones too). -/
def IntsOf (w : World) (v : Value) (ys : List Int) : Prop :=
  ∃ a c, v = .slice a ys.length c ∧ (ys ≠ [] → ∃ b off, a = some ⟨b, off, none⟩ ∧ b < w.heap.size ∧ ∀ k x, ys[k]? = some x → w.cell? ⟨b, off + k, none⟩ = some (.int .i64 x))
def sliceBlock : Value → List Nat
  | .slice (some a) _ _ => [a.block]
  | _ => []
theorem IntsOf.nil (w : World) : IntsOf w (.slice none 0 0) [] := ⟨none, 0, rfl, fun h => absurd rfl h⟩
theorem IntsOf.keep {w w' : World} {v : Value} {ys : List Int} {S : List Nat} (h : IntsOf w v ys) (hk : Keep S w w') (hn : ∀ x ∈ sliceBlock v, x ∉ S) : IntsOf w' v ys := by
  obtain ⟨a, c, rfl, h⟩ := h
  refine ⟨a, c, rfl, fun hy => ?_⟩
  obtain ⟨b, off, rfl, hb, hc⟩ := h hy
  exact ⟨b, off, rfl, Nat.lt_of_lt_of_le hb hk.size, fun k x hx => (hk.cell hb (hn b (by simp [sliceBlock]))).trans (hc k x hx)⟩
theorem IntsOf.below {w w' : World} {v : Value} {ys : List Int} {B : Nat} (h : IntsOf w v ys) (hb : Below B w w') (hn : ∀ x ∈ sliceBlock v, x < B) : IntsOf w' v ys := by
  obtain ⟨a, c, rfl, h⟩ := h
  refine ⟨a, c, rfl, fun hy => ?_⟩
  obtain ⟨b, off, rfl, hb', hc⟩ := h hy
  exact ⟨b, off, rfl, Nat.lt_of_lt_of_le hb' hb.size, fun k x hx => (hb.cell (p := ⟨b, off + k, none⟩) (hn b (by simp [sliceBlock]))).trans (hc k x hx)⟩

theorem IntsOf.at_ {w : World} {ys : List Int} {av : Option Addr} {n cv : Nat} (h : IntsOf w (.slice av n cv) ys) {k : Nat} (hk : k < ys.length) :
    ∃ b off, av = some ⟨b, off, none⟩ ∧ b < w.heap.size ∧ ∀ (j : Nat) (x : Int), ys[j]? = some x → w.cell? ⟨b, off + j, none⟩ = some (.int .i64 x) := by
  obtain ⟨a, c, hv, h⟩ := h
  obtain ⟨b, off, rfl, hb, hc⟩ := h (by intro h; subst h; simp at hk)
  injection hv with h1 h2 h3
  exact ⟨b, off, h1, hb, hc⟩
theorem IntsOf.shape {w : World} {v : Value} {ys : List Int} (h : IntsOf w v ys) : ∃ a c, v = .slice a ys.length c := by
  obtain ⟨a, c, hv, _⟩ := h
  exact ⟨a, c, hv⟩

/-! ### Numbers -/
theorem ret_bool {a b : Bool} (h : a = b) : Ending.returned (.bool a) = .returned (.bool b) := by rw [h]
theorem ret_int {k : IntKind} {a b : Int} (h : a = b) : Ending.returned (.int k a) = .returned (.int k b) := by rw [h]
theorem bits_and_mask (i : Int) (k : Nat) (hk : k ≤ 62) : bits .and .i64 i ((2 ^ k : Nat) - 1 : Int) = i % (2 ^ k : Nat) := by
  have hp : (0 : Nat) < 2 ^ k := Nat.two_pow_pos k
  have h62 : (2 : Nat) ^ k ≤ 2 ^ 62 := Nat.pow_le_pow_right (by decide) hk
  have h1 : (BitVec.ofInt 64 i).toNat = (i % (2 ^ 64 : Nat)).toNat := by rw [BitVec.toNat_ofInt]
  have h2 : (BitVec.ofInt 64 ((2 ^ k : Nat) - 1 : Int)).toNat = 2 ^ k - 1 := by
    rw [BitVec.toNat_ofInt]
    have e : ((2 ^ k : Nat) - 1 : Int) = ((2 ^ k - 1 : Nat) : Int) := by omega
    rw [e, ← Int.natCast_emod, Int.toNat_natCast]
    exact Nat.mod_eq_of_lt (by omega)
  have hd : ((2 ^ k : Nat) : Int) ∣ ((2 ^ 64 : Nat) : Int) := by
    refine Int.natCast_dvd_natCast.2 (Nat.pow_dvd_pow 2 (by omega))
  have hv : ((BitVec.ofInt 64 i &&& BitVec.ofInt 64 ((2 ^ k : Nat) - 1 : Int)).toNat : Int) = i % (2 ^ k : Nat) := by
    rw [BitVec.toNat_and, h1, h2, Nat.and_two_pow_sub_one_eq_mod, Int.natCast_emod, Int.toNat_of_nonneg (Int.emod_nonneg _ (by decide)), Int.emod_emod_of_dvd _ hd]
  have hlo : 0 ≤ i % (2 ^ k : Nat) := Int.emod_nonneg _ (by omega)
  have hhi : i % (2 ^ k : Nat) < (2 ^ k : Nat) := Int.emod_lt_of_pos _ (by omega)
  show IntKind.i64.wrap ((BitVec.ofInt 64 i &&& BitVec.ofInt 64 ((2 ^ k : Nat) - 1 : Int)).toNat : Int) = _
  rw [hv]
  exact IntWalk.i64_in _ (by omega)
end Go.Proofs.YtndpbkhpllmhmaaDoor
namespace Go.Proofs.YtndpbkhpllmhmaaDoor
set_option linter.unusedSimpArgs false
set_option linter.unnecessarySimpa false
set_option linter.unusedVariables false
section
variable {P : Program} {ops : Array Oper} {md : Region.Mode} {C : World → Prop}
def wpAnyT (P : Program) (md : Region.Mode) (ops : Array Oper) (C : World → Prop) (n : Nat) (L : Array Bool → Act → Prop) : Nat → Array Bool → Act → Prop
  | 0, listed, a => L listed a
  | f + 1, listed, a =>
    Region.ready md ops listed ≠ [] ∧ ∀ i ∈ Region.ready md ops listed, i < n ∧ qOp P ops C i (wpAnyT P md ops C n L f (listed.setIfInBounds i true)) a
theorem wpAny_of_headT {n g : Nat} {L : Array Bool → Act → Prop} {Q' : Exit → Act → World → Prop} (hL : ∀ listed a w, C w → L listed a → wpAny P md ops Q' g listed a w) :
    ∀ (f : Nat) (listed : Array Bool) (a : Act) (w : World), C w → wpAnyT P md ops C n L f listed a → wpAny P md ops Q' (f + g) listed a w
  | 0, listed, a, w, hw, h => by rw [Nat.zero_add]; exact hL _ _ _ hw h
  | f + 1, listed, a, w, hw, h => by
    rw [show f + 1 + g = (f + g) + 1 by omega]
    exact ⟨fun h0 => absurd h0 h.1, fun i hi => wpOp_of_qOp hw (fun a' w' hw' h' => wpAny_of_headT hL f _ a' w' hw' h') (h.2 i hi).2⟩
theorem wpAnyT_first {n i : Nat} {oi : Oper} {v : Value} {L : Array Bool → Act → Prop} (hi : ops[i]? = some oi) (hsel : ∀ (j : Nat) (o : Oper) cs b, ops[j]? = some o → o.op ≠ .select cs b)
    (hs : Region.sinkB md ops n = true) (hc : Region.chainB md ops n = true) (hn : n < ops.size) (hin : i < n)
    (hdone : ∀ listed a, L listed a → ∀ j ∈ Region.ready md ops listed, n ≤ j) :
    ∀ (f : Nat) (listed : Array Bool) (a : Act), HeadInv md ops n listed →
      (∀ j oj, ops[j]? = some oj → j ≠ i → listed.getD j true = false → (∀ e ∈ oj.after, Region.binds md e = true → e.on ≠ i) → oi.apart ops oj = true) →
      i ∈ Region.ready md ops listed → YieldsIn P ops C oi v a →
      wpAnyT P md ops C n L f (listed.setIfInBounds i true) (a.put oi.dst v) → wpAnyT P md ops C n L (f + 1) listed a := by
  intro f
  induction f with
  | zero =>
    intro listed a inv _ hr hy H
    have hun := (mem_ready.1 hr).1
    refine ⟨fun h => (by rw [h] at hr; cases hr), fun j hj => ?_⟩
    have hjn : j < n := by
      rcases Nat.lt_or_ge j n with h | h
      · exact h
      · exact absurd hj (tail_waits hs hc hn inv _ i rfl hin hun j h)
    refine ⟨hjn, ?_⟩
    by_cases hji : j = i
    · subst hji; exact hy.qOp hi H
    · have := hdone _ _ H j (ready_mono hj hji)
      omega
  | succ f ih =>
    intro listed a inv hfree hr hy H
    have hun := (mem_ready.1 hr).1
    refine ⟨fun h => (by rw [h] at hr; cases hr), fun j hj => ?_⟩
    have hjn : j < n := by
      rcases Nat.lt_or_ge j n with h | h
      · exact h
      · exact absurd hj (tail_waits hs hc hn inv _ i rfl hin hun j h)
    refine ⟨hjn, ?_⟩
    by_cases hji : j = i
    · subst hji; exact hy.qOp hi H
    · have h1 := (H.2 j (ready_mono hj hji)).2
      obtain ⟨hjun, oj, hoj, hall⟩ := mem_ready.1 hj
      have hnot : ∀ e ∈ oj.after, Region.binds md e = true → e.on ≠ i := fun e he hb heq => by
        have h1 := hall e he hb
        rw [heq, getD_both hun] at h1
        cases h1
      have h2 := qOp_put hoj (hfree j oj hoj hji hjun hnot) (fun cs b => hsel i oi cs b hi) (fun cs b => hsel j oj cs b hoj) hy h1
      have hfree' : ∀ k ok, ops[k]? = some ok → k ≠ i → (listed.setIfInBounds j true).getD k true = false →
          (∀ e ∈ ok.after, Region.binds md e = true → e.on ≠ i) → oi.apart ops ok = true := fun k ok hk hki hun hno => by
        refine hfree k ok hk hki ?_ hno
        by_cases hjk : j = k
        · subst hjk; exact hjun
        · rw [getD_set_ne true hjk] at hun; exact hun
      refine qOp_mono (fun a' h3 => ih (listed.setIfInBounds j true) a' (inv.set hj hjn) hfree' (ready_mono hr (Ne.symm hji)) h3.1 ?_) h2
      rw [Array.setIfInBounds_comm _ _ hji]
      exact h3.2
theorem wpAnyT_lex {n g : Nat} {Lq : Act → Prop} (hsel : Region.noSelect ops = true) (hs : Region.sinkB md ops n = true) (hc : Region.chainB md ops n = true) (hn : n < ops.size) :
    ∀ (l : List Oper) (k : Nat) (listed : Array Bool) (a : Act), (∀ j, j < l.length → l[j]? = ops[k + j]?) → k + l.length = n → HeadInv md ops n listed →
    Region.lexHead md ops g l.length k listed = true → wpQuiet P ops C Lq l a →
    wpAnyT P md ops C n (fun listed' a' => Region.seqB md ops g n listed' = true ∧ Lq a') l.length listed a
  | [], k, listed, a, _, hk, _, hB, h => by
    have : k = n := by simpa using hk
    subst this
    exact ⟨by simpa [Region.lexHead] using hB, h⟩
  | o :: l, k, listed, a, hl, hk, inv, hB, h => by
    have h0 : ops[k]? = some o := by simpa using (hl 0 (by simp)).symm
    simp only [List.length_cons, Region.lexHead, Bool.and_eq_true] at hB
    obtain ⟨⟨hr, hf⟩, hB'⟩ := hB
    have hkn : k < n := by simp only [List.length_cons] at hk; omega
    have hr' : k ∈ Region.ready md ops listed := by simpa using hr
    have hst : qOp P ops C k (wpQuiet P ops C Lq l) a := by unfold qOp; simp only [h0]; exact h
    obtain ⟨v, hy, hK⟩ := yieldsIn_of_qOp h0 hst
    exact wpAnyT_first h0 (Region.noSelect_spec hsel) hs hc hn hkn (fun listed' a' hL => seqB_ready hL.1) l.length listed a inv (Region.free_spec h0 hf) hr' hy
      (wpAnyT_lex hsel hs hc hn l (k + 1) _ _ (fun j hj => by have := hl (j + 1) (by simp; omega); simpa [Nat.add_assoc, Nat.add_comm 1 j] using this) (by simp only [List.length_cons] at hk; omega) (inv.set hr' hkn) hB' hK)
/-- ONE WALK FOR ALL ORDERS: the first n operations only read (a call may draw), the others wait for them and for one another. -/
theorem wp_region_quiet_tail {id : Nat} {Q : Exit → Act → World → Prop} {a : Act} {w : World} {l : List Oper} (n : Nat) (hm : P.follows .mixedOrders = true) (hB : Region.lexTailB .any l.toArray n = true)
    (h : wpQuiet P l.toArray (fun w' => ∃ k, w' = w.drewN k) (fun a' => ∀ w', (∃ k, w' = w.drewN k) → wpList P l.toArray Q (l.drop n) a' w') (l.take n) a) : (Code.region id l.toArray true).wp P Q a w := by
  simp only [Region.lexTailB, Bool.and_eq_true, decide_eq_true_eq] at hB
  obtain ⟨⟨⟨⟨hsel, hn⟩, hs⟩, hc⟩, hlex⟩ := hB
  have hn' : n < l.length := by simpa using hn
  have htl : (l.take n).length = n := by simp; omega
  have hdl : (l.drop n).length = l.toArray.size - n := by simp
  have inv0 : HeadInv .any l.toArray n (Array.replicate l.toArray.size false) :=
    ⟨by simp, fun j oj _ hl => (by rw [getD_replicate_false] at hl; cases hl), fun t _ ht => getD_in (by simpa using ht) (getD_replicate_false _ _)⟩
  have H := wpAnyT_lex (md := .any) (g := l.toArray.size - n) hsel hs hc hn (l.take n) 0 _ a (fun j hj => by
    have hj' : j < n := by rw [htl] at hj; exact hj
    simp [hj']) (by simpa using htl) inv0 (by rw [htl]; exact hlex) h
  refine wp_region_any hm ?_
  have := wpAny_of_headT (Q' := Q) (g := l.toArray.size - n) (fun listed a' w' hw' hL => by
    have := wpAny_of_seq (md := .any) (Q' := Q) (l.drop n) n listed a' w' (fun j => by simp [List.getElem?_drop]) (by rw [hdl]; exact hL.1) (hL.2 w' hw')
    rwa [hdl] at this) _ _ _ { w with drawn := w.drawn + 1 } ⟨1, rfl⟩ H
  rw [htl, show n + (l.toArray.size - n) = l.toArray.size by omega] at this
  exact this
/-- The same where the head is written out with what is left of it. -/
theorem quiet_tail_end {C : World → Prop} {Q : Act → Prop} {a : Act} (h : Q a) : wpQuiet P ops C Q [] a := h
end
end Go.Proofs.YtndpbkhpllmhmaaDoor
namespace Go.Proofs.YtndpbkhpllmhmaaDoor
set_option linter.unusedSimpArgs false
set_option linter.unnecessarySimpa false
set_option linter.unusedVariables false
open Go.ChangeShapes Go.WideShapes Go.RowKit Go.Deep

/-- The slice value v reads, in w, as the rows css of sz cells each. -/
def Rows_ (w : World) (v : Value) (sz : Nat) (css : List (List Value)) : Prop :=
  ∃ a c, v = .slice a css.length c ∧ (css ≠ [] → ∃ b off, a = some ⟨b, off, none⟩ ∧ b < w.heap.size ∧
    ∀ i cs, css[i]? = some cs → cs.length = sz ∧ ∀ j x, cs[j]? = some x → w.cell? ⟨b, off + i * sz + j, none⟩ = some x)
theorem Rows_.keep {w w' : World} {v : Value} {sz : Nat} {css : List (List Value)} (h : Rows_ w v sz css) (hk : Keep [] w w') : Rows_ w' v sz css := by
  obtain ⟨a, c, rfl, h⟩ := h
  refine ⟨a, c, rfl, fun hy => ?_⟩
  obtain ⟨b, off, rfl, hb, hc⟩ := h hy
  exact ⟨b, off, rfl, Nat.lt_of_lt_of_le hb hk.size, fun i cs hi => ⟨(hc i cs hi).1, fun j x hx => (hk.cell hb (by simp)).trans ((hc i cs hi).2 j x hx)⟩⟩
theorem IntsOf.keep0 {w w' : World} {v : Value} {ys : List Int} (h : IntsOf w v ys) (hk : Keep [] w w') : IntsOf w' v ys := h.keep hk (by simp)

section
variable {H : Type} {enc : TypeId × Value → H} {P : Program} {w : World}
theorem add_none (b off n : Nat) : (⟨b, off, none⟩ : Addr).add n = ⟨b, off + n, none⟩ := by
  unfold Addr.add
  by_cases h : n = 0 <;> simp [h]
theorem rows_open {r : Reach} {b0 : Nat} {t e : TypeId} {v : Value} {d : DataW H} {p : List MemPlace} (sz : Nat) (ht : P.underlying t = some (.slice e)) (hC : P.cellsOf e = sz) (hsz : 0 < sz)
    (ho : Value.okWide P w r b0 t v) (h : DataW.Trod enc P w 0 (fun _ => true) true t v d p) :
    ∃ css, Rows_ w v sz css ∧ ∀ cs ∈ css, ∃ n y, DataW.trod enc P w 0 (fun _ => true) true n e cs = some y := by
  obtain ⟨a, len, cap, rfl⟩ := okWide_slice ht ho
  obtain ⟨fuel, hf⟩ := h
  rcases open_slice ht hf with ⟨hcs, _⟩ | ⟨a', len', cap', m, n, D, Pl, hcs, _, hl, _, hm, _, hi⟩
  · simp [Value.cells] at hcs
    obtain ⟨rfl, rfl, rfl⟩ := hcs
    exact ⟨[], ⟨none, 0, rfl, fun h => absurd rfl h⟩, by simp⟩
  · simp [Value.cells] at hcs
    obtain ⟨rfl, rfl, rfl⟩ := hcs
    simp only [if_true] at hm
    subst hm
    rw [hC] at hi
    have hch : ∀ i, ∃ cs', i < len → w.cells? 0 (a'.add (i * sz)) sz = some cs' ∧ DataW.trod enc P w 0 (fun _ => true) true n e cs' = some (D i, Pl i) := fun i => by
      by_cases h : i < len
      · obtain ⟨cs', h1, h2⟩ := hi i (by omega)
        exact ⟨cs', fun _ => ⟨h1, h2⟩⟩
      · exact ⟨[], fun h' => absurd h' h⟩
    obtain ⟨f, hf'⟩ := Classical.axiomOfChoice hch
    refine ⟨(List.range len).map f, ⟨some a', m, by simp, fun hne => ?_⟩, fun cs hcs => ?_⟩
    · have hlen : 0 < len := by
        rcases Nat.eq_zero_or_pos len with h0 | h0
        · subst h0; simp at hne
        · exact h0
      obtain ⟨h1, _⟩ := hf' 0 hlen
      obtain ⟨_, hl0, hat⟩ := World.cells?_some h1
      have h2 := hat 0 hsz
      rw [List.getElem?_eq_getElem (by omega)] at h2
      have hspot : a'.spot = none := by
        rw [Nat.zero_mul] at h2
        simpa [Addr.add] using World.cell?_spot h2
      obtain ⟨b, off, spot⟩ := a'
      simp only at hspot
      subst hspot
      refine ⟨b, off, rfl, ?_, fun i cs hi' => ?_⟩
      · have := World.block_lt_of_cell? _ _ h2
        simpa [add_none] using this
      · have hil : i < len := by
          rcases Nat.lt_or_ge i len with h | h
          · exact h
          · rw [List.getElem?_eq_none (by simpa using h)] at hi'; cases hi'
        rw [List.getElem?_map, List.getElem?_range hil] at hi'
        simp only [Option.map_some, Option.some.injEq] at hi'
        subst hi'
        obtain ⟨h4, _⟩ := hf' i hil
        obtain ⟨_, hl4, hat4⟩ := World.cells?_some h4
        refine ⟨hl4, fun j x hx => ?_⟩
        have hj : j < sz := by
          rcases Nat.lt_or_ge j sz with h | h
          · exact h
          · rw [List.getElem?_eq_none (by omega)] at hx; cases hx
        have h5 := hat4 j hj
        rw [add_none, add_none] at h5
        rw [h5, hx]
    · obtain ⟨i, hi', rfl⟩ := List.mem_map.1 hcs
      exact ⟨n, _, (hf' i (List.mem_range.1 hi')).2⟩
/-- a struct all of whose fields are int -/
def allInts (P : Program) (fs : Array Field) : Bool :=
  (List.range fs.size).all fun i => match fs[i]? with | some f => f.offset == i && (P.cellsOf f.type == 1 && (match P.underlying f.type with | some (.int .i64) => true | _ => false)) | none => false
theorem ints_of_struct {e : TypeId} {fs : Array Field} {n : Nat} {cs : List Value} {y : DataW H × List MemPlace} (he : P.underlying e = some (.struct fs)) (hall : allInts P fs = true) (hC : P.cellsOf e = fs.size)
    (h : DataW.trod enc P w 0 (fun _ => true) true n e cs = some y) : ∃ xs : List Int, cs = xs.map (.int .i64) ∧ xs.length = fs.size ∧ ∀ x ∈ xs, (Lit.int .i64 x).wf = true := by
  obtain ⟨ys, m, _, _, hlen, hyl, hf⟩ := DataW.trod_struct he h
  have key : ∀ i, i < fs.size → ∃ x : Int, cs[i]? = some (.int .i64 x) ∧ (Lit.int .i64 x).wf = true := by
    intro i hi
    have h1 := List.all_eq_true.1 hall i (List.mem_range.2 hi)
    rw [Array.getElem?_eq_getElem hi] at h1
    simp only [Bool.and_eq_true, beq_iff_eq] at h1
    obtain ⟨ho, hk, hu⟩ := h1
    have h2 := hf i fs[i] (Array.getElem?_eq_getElem hi)
    rw [ho, hk] at h2
    have hcl : i < cs.length := by omega
    have hone : (cs.drop i).take 1 = [cs[i]] := by
      rw [List.drop_eq_getElem_cons hcl]; rfl
    rw [hone, List.getElem?_eq_getElem (by omega)] at h2
    have hu' : P.underlying fs[i].type = some (.int .i64) := by
      split at hu <;> first | assumption | cases hu
    obtain ⟨x, hx, _, hw⟩ := DataW.trod_int hu' h2
    simp at hx
    exact ⟨x, by rw [List.getElem?_eq_getElem hcl, hx], hw⟩
  have hch : ∀ i, ∃ x : Int, i < fs.size → cs[i]? = some (.int .i64 x) ∧ (Lit.int .i64 x).wf = true := fun i => by
    by_cases h : i < fs.size
    · obtain ⟨x, hx⟩ := key i h; exact ⟨x, fun _ => hx⟩
    · exact ⟨0, fun h' => absurd h' h⟩
  obtain ⟨f, hf'⟩ := Classical.axiomOfChoice hch
  refine ⟨(List.range fs.size).map f, ?_, by simp, fun x hx => ?_⟩
  · apply List.ext_getElem?
    intro i
    rcases Nat.lt_or_ge i fs.size with hi | hi
    · rw [(hf' i hi).1]
      simp [List.getElem?_range hi]
    · rw [List.getElem?_eq_none (by omega), List.getElem?_eq_none (by simpa using hi)]
  · obtain ⟨i, hi, rfl⟩ := List.mem_map.1 hx
    exact (hf' i (List.mem_range.1 hi)).2
/-- The slice value v reads as rows of sz numbers each. -/
def IntRows (w : World) (v : Value) (sz : Nat) (xss : List (List Int)) : Prop := Rows_ w v sz (xss.map (·.map (.int .i64)))
theorem IntRows.keep {w w' : World} {v : Value} {sz : Nat} {xss : List (List Int)} (h : IntRows w v sz xss) (hk : Keep [] w w') : IntRows w' v sz xss := Rows_.keep h hk
theorem choose_list {α β : Type} (R : α → β → Prop) : ∀ l : List α, (∀ a ∈ l, ∃ b, R a b) → ∃ m : List β, m.length = l.length ∧ ∀ (i : Nat) (a : α) (b : β), l[i]? = some a → m[i]? = some b → R a b
  | [], _ => ⟨[], rfl, by simp⟩
  | a :: l, h => by
    obtain ⟨b, hb⟩ := h a (by simp)
    obtain ⟨m, hm, hR⟩ := choose_list R l (fun x hx => h x (by simp [hx]))
    refine ⟨b :: m, by simp [hm], fun i x y hx hy => ?_⟩
    cases i with
    | zero => simp at hx hy; subst hx; subst hy; exact hb
    | succ i => simp at hx hy; exact hR i x y hx hy
theorem intRows_open {r : Reach} {b0 : Nat} {t e : TypeId} {fs : Array Field} {v : Value} {d : DataW H} {p : List MemPlace} (ht : P.underlying t = some (.slice e)) (he : P.underlying e = some (.struct fs)) (hall : allInts P fs = true) (hC : P.cellsOf e = fs.size) (hsz : 0 < fs.size)
    (ho : Value.okWide P w r b0 t v) (h : DataW.Trod enc P w 0 (fun _ => true) true t v d p) :
    ∃ xss, IntRows w v fs.size xss ∧ ∀ xs ∈ xss, xs.length = fs.size ∧ ∀ x ∈ xs, (Lit.int .i64 x).wf = true := by
  obtain ⟨css, hr, hall'⟩ := rows_open fs.size ht hC hsz ho h
  obtain ⟨xss, hlen, hx⟩ := choose_list (fun cs xs => cs = List.map (Value.int .i64) xs ∧ xs.length = fs.size ∧ ∀ x ∈ xs, (Lit.int .i64 x).wf = true) css (fun cs hcs => by
    obtain ⟨n, y, hy⟩ := hall' cs hcs
    exact ints_of_struct he hall hC hy)
  have e : css = xss.map (·.map (.int .i64)) := by
    apply List.ext_getElem?
    intro i
    rcases Nat.lt_or_ge i css.length with hi | hi
    · have hi' : i < xss.length := by omega
      rw [List.getElem?_eq_getElem hi, List.getElem?_map, List.getElem?_eq_getElem hi']
      simp only [Option.map_some, Option.some.injEq]
      exact (hx i _ _ (List.getElem?_eq_getElem hi) (List.getElem?_eq_getElem hi')).1
    · rw [List.getElem?_eq_none hi, List.getElem?_eq_none (by simp; omega)]
  refine ⟨xss, by unfold IntRows; rw [← e]; exact hr, fun xs hxs => ?_⟩
  obtain ⟨i, hi, rfl⟩ := List.mem_iff_getElem.1 hxs
  exact (hx i _ _ (List.getElem?_eq_getElem (by omega)) (List.getElem?_eq_getElem hi)).2
theorem ints_open {r : Reach} {b0 : Nat} {t e : TypeId} {v : Value} {d : DataW H} {p : List MemPlace} (ht : P.underlying t = some (.slice e)) (he : P.underlying e = some (.int .i64)) (hC : P.cellsOf e = 1)
    (ho : Value.okWide P w r b0 t v) (h : DataW.Trod enc P w 0 (fun _ => true) true t v d p) :
    ∃ ys, IntsOf w v ys ∧ ∀ x ∈ ys, (Lit.int .i64 x).wf = true := by
  obtain ⟨css, ⟨a, c, hv, hr⟩, hall'⟩ := rows_open 1 ht hC (by omega) ho h
  obtain ⟨ys, hlen, hx⟩ := choose_list (fun cs x => cs = [Value.int .i64 x] ∧ (Lit.int .i64 x).wf = true) css (fun cs hcs => by
    obtain ⟨n, y, hy⟩ := hall' cs hcs
    obtain ⟨i, hi, rfl⟩ := List.mem_iff_getElem.1 hcs
    obtain ⟨_, _, _, _, h1⟩ := hr (by intro h; subst h; simp at hi)
    have h2 := (h1 i _ (List.getElem?_eq_getElem hi)).1
    obtain ⟨u, hu⟩ := List.length_eq_one_iff.1 h2
    rw [hu] at hy ⊢
    obtain ⟨x, hx, _, hw⟩ := DataW.trod_int he hy
    simp at hx
    exact ⟨x, by rw [hx], hw⟩)
  refine ⟨ys, ⟨a, c, by rw [hlen]; exact hv, fun hne => ?_⟩, fun x hxs => ?_⟩
  · obtain ⟨b, off, ha, hb, hc⟩ := hr (by intro h; subst h; simp at hlen; exact hne hlen)
    refine ⟨b, off, ha, hb, fun k x hk => ?_⟩
    have hk' : k < ys.length := by
      rcases Nat.lt_or_ge k ys.length with h | h
      · exact h
      · rw [List.getElem?_eq_none h] at hk; cases hk
    have h1 := (hx k _ _ (List.getElem?_eq_getElem (by omega)) hk).1
    have h2 := (hc k _ (List.getElem?_eq_getElem (by omega))).2 0 (.int .i64 x) (by rw [h1]; rfl)
    simpa using h2
  · obtain ⟨i, hi, rfl⟩ := List.mem_iff_getElem.1 hxs
    exact (hx i _ _ (List.getElem?_eq_getElem (by omega)) (List.getElem?_eq_getElem hi)).2
end
end Go.Proofs.YtndpbkhpllmhmaaDoor
namespace Go.Proofs.YtndpbkhpllmhmaaDoor
set_option linter.unusedSimpArgs false
set_option linter.unnecessarySimpa false
set_option linter.unusedVariables false
open Go.RowKit

/-- What is known of a slice type t: its elements' type e, their zero value, cells and bytes. -/
structure SliceTy (P : Program) (t e : TypeId) (z : Value) (size bytes : Nat) : Prop where
  und : P.underlying t = some (.slice e)
  info : (P.info? e).map (fun i => (i.zero, i.size, i.bytes)) = some (some z, size, bytes)
  zs : z.cells.size = size
  pos : 0 < size

/-- The slice value src has m elements of size cells each; the cells are news. -/
def SrcOf (w : World) (src : Value) (size m : Nat) (news : List Value) : Prop :=
  ∃ a c, src = .slice a m c ∧ news.length = m * size ∧ (news ≠ [] → ∃ ad, a = some ad ∧ ∀ (j : Nat) (u : Value), news[j]? = some u → w.cell? (ad.add j) = some u)

theorem SrcOf.of_ints {w : World} {v : Value} {ys : List Int} (h : IntsOf w v ys) : SrcOf w v 1 ys.length (ys.map (.int .i64)) := by
  obtain ⟨a, c, rfl, h⟩ := h
  refine ⟨a, c, rfl, by simp, fun hne => ?_⟩
  obtain ⟨b, off, rfl, _, hc⟩ := h (by simpa using hne)
  refine ⟨_, rfl, fun j u hu => ?_⟩
  rw [add_none]
  rw [List.getElem?_map] at hu
  cases hx : ys[j]? with
  | none => rw [hx] at hu; cases hu
  | some x => rw [hx] at hu; cases hu; exact hc j x hx

/-- the blocks of a slice of the call's own: none or one -/
def ownBlocks (v : Value) : List Nat := v.ownBlock.toList

section
variable {P : Program} {w : World}
theorem run_append_any {t e : TypeId} {z : Value} {size bytes : Nat} (st : SliceTy P t e z size bytes) (ty : TypeId) (B : Nat) (v : Value) (n : Nat) (xs : List Value) (hown : w.ownsRow B e size v n xs)
    (src : Value) (m : Nat) (news : List Value) (hsrc : SrcOf w src size m news) (h1 : ∀ u ∈ news, u.oneCell' = true) (h63 : n + m ≤ maxLen) (hbytes : (n + m) * bytes ≤ 140737488355328) (hB : B ≤ w.heap.size) :
    ∃ v' w', (Builtin.append_ #[t, t] ty #[v, src]).run P w = .ok v' w' ∧ w'.ownsRow B e size v' (n + m) (xs ++ news) ∧ Keep (ownBlocks v) w w' ∧ (v'.ownBlock = v.ownBlock ∨ v'.ownBlock = some w.heap.size) := by
  obtain ⟨i, hi, hz0, hz1, hz2⟩ := info_parts st.info
  obtain ⟨a, c, rfl, hl, hc⟩ := hsrc
  have pos := st.pos
  have fin : ∀ {w' : World}, w.grownBy w' v.ownBlock → Keep (ownBlocks v) w w' := fun h => Keep.of_grown h (fun k hk => Or.inl (by simp [ownBlocks, hk]))
  rcases a with _ | ad
  · have hn : news = [] := by
      refine Classical.byContradiction fun hne => ?_
      obtain ⟨_, h, _⟩ := hc hne
      cases h
    subst hn
    have hm : m = 0 := by
      rcases Nat.eq_zero_or_pos m with h | h
      · exact h
      · have := Nat.mul_pos h pos
        simp at hl
        omega
    subst hm
    refine ⟨v, w, ?_, by simpa using hown, Keep.refl _ _, Or.inl rfl⟩
    rcases hown.2 with ⟨rfl, rfl⟩ | ⟨g, cap, cur, rfl, _, _, hnc, _⟩
    · simp [Builtin.append_, run_underlying st.und, sizeOf, typeInfo, hi, Builtin.lenOf, Builtin.firstCells]
    · simp [Builtin.append_, run_underlying st.und, sizeOf, typeInfo, hi, Builtin.lenOf, Builtin.firstCells, hnc, storeCells]
  · have hcells : ∀ (j : Nat) (u : Value), news[j]? = some u → w.cell? (ad.add j) = some u := by
      intro j u hu
      obtain ⟨ad', h, hc'⟩ := hc (by rintro rfl; simp at hu)
      injection h with h
      subst h
      exact hc' j u hu
    obtain ⟨v', w', hr, h2, h3, _, h5⟩ := run_append_own_at (P := P) w B t ty e i z size bytes st.und hi hz0 hz1 hz2 st.zs pos v n xs hown ad m c news hl hcells h1 h63 hbytes hB
    exact ⟨v', w', hr, h2, fin h3, h5⟩
theorem wpList_append_src {ops : Array Oper} {rest : List Oper} {o : Oper} {a : Act} {Q : Exit → Act → World → Prop} (hgd : o.guard = none) (s x : Operand) {t e : TypeId}
    (ho : o.op = .call { callee := .builtin .append, args := #[s, x], argTypes := #[t, t] }) {z : Value} {size bytes : Nat} (st : SliceTy P t e z size bytes) (B : Nat)
    (v : Value) (n : Nat) (xs : List Value) (hs : a.eval s = v) (hown : w.ownsRow B e size v n xs)
    (src : Value) (m : Nat) (news : List Value) (hx : a.eval x = src) (hsrc : SrcOf w src size m news) (h1 : ∀ u ∈ news, u.oneCell' = true) (h63 : n + m ≤ maxLen) (hbytes : (n + m) * bytes ≤ 140737488355328) (hB : B ≤ w.heap.size)
    (h : ∀ v' w', w'.ownsRow B e size v' (n + m) (xs ++ news) → Keep (ownBlocks v) w w' → (v'.ownBlock = v.ownBlock ∨ v'.ownBlock = some w.heap.size) → wpList P ops Q rest (a.put o.dst v') w') : wpList P ops Q (o :: rest) a w := by
  refine wpList_plain hgd fun K hK => ?_
  obtain ⟨v', w', hr, h2, h3, h4⟩ := run_append_any (w := w) st o.type B v n xs hown src m news hsrc h1 h63 hbytes hB
  unfold Oper.wp execOp
  simp only [ho, resolve, invoke, builtin, Sem.run_bind, Sem.run_pure, Result.andThen_ok, List.map_toArray, List.map_cons, List.map_nil, hs, hx, hr]
  exact hK _ _ (h v' w' h2 h3 h4)
end
/-- A slice of the call's own reads as its numbers. -/
theorem ints_of_own {w : World} {B : Nat} {e : TypeId} {v : Value} {ys : List Int} (h : w.ownsRow B e 1 v ys.length (ys.map (.int .i64))) : IntsOf w v ys := by
  rcases h.2 with ⟨rfl, hn⟩ | ⟨g, cap, cur, rfl, hb, hg, _, _, hcs, htake⟩
  · have : ys = [] := List.eq_nil_of_length_eq_zero hn
    subst this
    exact IntsOf.nil w
  · refine ⟨_, _, rfl, fun _ => ⟨g, 0, rfl, lt_of_block hg, fun k x hx => ?_⟩⟩
    have := h.cells (g := g) rfl k (.int .i64 x) (by rw [List.getElem?_map, hx]; rfl)
    simpa [add_none] using this
theorem ownsRow_keep {w w' : World} {B : Nat} {e : TypeId} {size n : Nat} {v : Value} {xs : List Value} {S : List Nat} (h : w.ownsRow B e size v n xs) (hk : Keep S w w') (hn : ∀ g, v.ownBlock = some g → g ∉ S) : w'.ownsRow B e size v n xs := by
  refine ⟨h.1, ?_⟩
  rcases h.2 with h0 | ⟨g, cap, cur, rfl, hb, hg, rest⟩
  · exact Or.inl h0
  · exact Or.inr ⟨g, cap, cur, rfl, hb, (hk.block g (lt_of_block hg) (hn g rfl)).trans hg, rest⟩
theorem own_shape {w : World} {B : Nat} {e : TypeId} {size n : Nat} {v : Value} {xs : List Value} (h : w.ownsRow B e size v n xs) : ∃ a c, v = .slice a n c := by
  rcases h.2 with ⟨rfl, hn⟩ | ⟨g, cap, cur, rfl, _⟩
  · subst hn; exact ⟨none, 0, rfl⟩
  · exact ⟨_, _, rfl⟩
end Go.Proofs.YtndpbkhpllmhmaaDoor
namespace Go.Proofs.YtndpbkhpllmhmaaDoor
set_option linter.unusedSimpArgs false
set_option linter.unnecessarySimpa false
set_option linter.unusedVariables false
open Go.RowKit

/-- v has n elements of size cells each, the cells xs, somewhere in a block of its own, from B on; or it is nil. -/
def OwnsAt (w : World) (B : Nat) (e : TypeId) (size : Nat) (v : Value) (n : Nat) (xs : List Value) : Prop :=
  xs.length = n * size ∧ ((v = .slice none 0 0 ∧ n = 0) ∨ ∃ g off cap cur, v = .slice (some ⟨g, off, none⟩) n cap ∧ B ≤ g ∧ w.heap[g]? = some (.cells cur e (0, 0)) ∧ n ≤ cap ∧ cap ≤ maxLen ∧
    off + cap * size ≤ cur.size ∧ (cur.toList.drop off).take (n * size) = xs)
section
variable {w w' : World} {B : Nat} {e : TypeId} {size n : Nat} {v : Value} {xs : List Value}
theorem OwnsAt.nil (w : World) (B : Nat) (e : TypeId) (size : Nat) : OwnsAt w B e size (.slice none 0 0) 0 [] := ⟨by simp, Or.inl ⟨rfl, rfl⟩⟩
theorem OwnsAt.of_owns (h : w.ownsRow B e size v n xs) : OwnsAt w B e size v n xs := by
  refine ⟨h.1, ?_⟩
  rcases h.2 with h0 | ⟨g, cap, cur, h1, h2, h3, h4, h5, h6, h7⟩
  · exact Or.inl h0
  · exact Or.inr ⟨g, 0, cap, cur, h1, h2, h3, h4, h5, by omega, by simpa using h7⟩
theorem OwnsAt.shape (h : OwnsAt w B e size v n xs) : ∃ a c, v = .slice a n c := by
  rcases h.2 with ⟨rfl, rfl⟩ | ⟨g, off, cap, cur, rfl, _⟩
  · exact ⟨none, 0, rfl⟩
  · exact ⟨_, _, rfl⟩
theorem OwnsAt.form (h : OwnsAt w B e size v n xs) (hn : 0 < n) : ∃ g off cap, v = .slice (some ⟨g, off, none⟩) n cap ∧ n ≤ cap ∧ cap ≤ maxLen ∧ B ≤ g ∧ g < w.heap.size ∧ ∀ j u, xs[j]? = some u → w.cell? ⟨g, off + j, none⟩ = some u := by
  rcases h.2 with ⟨_, h0⟩ | ⟨g, off, cap, cur, rfl, hb, hg, h1, h2, h3, h4⟩
  · omega
  · refine ⟨g, off, cap, rfl, h1, h2, hb, lt_of_block hg, fun j u hu => ?_⟩
    rw [cell_of_row w g (off + j) cur e (0, 0) hg]
    rw [← h4, List.getElem?_take] at hu
    split at hu
    · simpa [List.getElem?_drop] using hu
    · cases hu
theorem OwnsAt.lt (h : OwnsAt w B e size v n xs) : ∀ k, v.ownBlock = some k → B ≤ k ∧ k < w.heap.size := by
  intro k hk
  rcases h.2 with ⟨rfl, _⟩ | ⟨g, off, cap, cur, rfl, hb, hg, _⟩
  · simp [Value.ownBlock] at hk
  · simp [Value.ownBlock] at hk
    subst hk
    exact ⟨hb, lt_of_block hg⟩
theorem OwnsAt.keep {S : List Nat} (h : OwnsAt w B e size v n xs) (hk : Keep S w w') (hn : ∀ g, v.ownBlock = some g → g ∉ S) : OwnsAt w' B e size v n xs := by
  refine ⟨h.1, ?_⟩
  rcases h.2 with h0 | ⟨g, off, cap, cur, rfl, hb, hg, rest⟩
  · exact Or.inl h0
  · exact Or.inr ⟨g, off, cap, cur, rfl, hb, (hk.block g (lt_of_block hg) (hn g rfl)).trans hg, rest⟩
/-- cut at the front by one -/
theorem OwnsAt.tail {g off cap : Nat} {one : List Value} (h : OwnsAt w B e size (.slice (some ⟨g, off, none⟩) (n + 1) cap) (n + 1) (one ++ xs)) (h1 : one.length = size) : OwnsAt w B e size (.slice (some ⟨g, off + size, none⟩) n (cap - 1)) n xs := by
  have hl := h.1
  rw [List.length_append, h1, Nat.succ_mul] at hl
  refine ⟨by omega, ?_⟩
  rcases h.2 with ⟨h0, _⟩ | ⟨g', off', cap', cur, hv, hb, hg, h3, h4, h5, h6⟩
  · cases h0
  · injection hv with e1 e2 e3
    injection e1 with e1
    injection e1 with e1 e4
    subst e1 e3 e4
    refine Or.inr ⟨g, off + size, cap - 1, cur, rfl, hb, hg, by omega, by omega, ?_, ?_⟩
    · obtain ⟨c, rfl⟩ : ∃ c, cap = c + 1 := ⟨cap - 1, by omega⟩
      rw [Nat.succ_mul] at h5
      simp only [Nat.add_sub_cancel]
      omega
    · have : (List.drop off cur.toList).take ((n + 1) * size) = one ++ xs := h6
      have h8 := congrArg (List.drop size) this
      rw [List.drop_left' h1, List.drop_take, List.drop_drop] at h8
      rw [← h8]
      congr 1
      rw [Nat.succ_mul]
      omega
/-- cut to nothing, wherever -/
theorem OwnsAt.none_left {g off cap n' : Nat} (h : OwnsAt w B e size (.slice (some ⟨g, off, none⟩) n' cap) n' xs) {off' : Nat} (ho : off' ≤ off + cap * size) : OwnsAt w B e size (.slice (some ⟨g, off', none⟩) 0 0) 0 [] := by
  refine ⟨by simp, ?_⟩
  rcases h.2 with ⟨h0, _⟩ | ⟨g', off'', cap', cur, hv, hb, hg, h3, h4, h5, h6⟩
  · cases h0
  · injection hv with e1 e2 e3
    injection e1 with e1
    injection e1 with e1 e4
    subst e1 e3 e4
    exact Or.inr ⟨g, off', 0, cur, rfl, hb, hg, by omega, by omega, by omega, by simp⟩
/-- cut at the end by one -/
theorem OwnsAt.init {g off cap : Nat} {one : List Value} (h : OwnsAt w B e size (.slice (some ⟨g, off, none⟩) (n + 1) cap) (n + 1) (xs ++ one)) (h1 : one.length = size) : OwnsAt w B e size (.slice (some ⟨g, off, none⟩) n cap) n xs := by
  have hl := h.1
  rw [List.length_append, h1, Nat.succ_mul] at hl
  refine ⟨by omega, ?_⟩
  rcases h.2 with ⟨h0, _⟩ | ⟨g', off', cap', cur, hv, hb, hg, h3, h4, h5, h6⟩
  · cases h0
  · injection hv with e1 e2 e3
    injection e1 with e1
    injection e1 with e1 e4
    subst e1 e3 e4
    refine Or.inr ⟨g, off, cap, cur, rfl, hb, hg, by omega, h4, h5, ?_⟩
    have h8 := congrArg (List.take (n * size)) h6
    rw [List.take_take, List.take_left' (by omega)] at h8
    rw [← h8]
    congr 1
    rw [Nat.succ_mul]
    omega
end
section
variable {P : Program} {w : World}
theorem run_append_off {t e : TypeId} {z : Value} {size bytes : Nat} (st : SliceTy P t e z size bytes) (ty : TypeId) (B : Nat) (v : Value) (n : Nat) (xs : List Value) (hown : OwnsAt w B e size v n xs)
    (src : Value) (m : Nat) (news : List Value) (hsrc : SrcOf w src size m news) (h1 : ∀ u ∈ news, u.oneCell' = true) (h63 : n + m ≤ maxLen) (hbytes : (n + m) * bytes ≤ 140737488355328) (hB : B ≤ w.heap.size) :
    ∃ v' w', (Builtin.append_ #[t, t] ty #[v, src]).run P w = .ok v' w' ∧ OwnsAt w' B e size v' (n + m) (xs ++ news) ∧ Keep (ownBlocks v) w w' ∧ (v'.ownBlock = v.ownBlock ∨ v'.ownBlock = some w.heap.size) := by
  rcases hown.2 with ⟨rfl, rfl⟩ | ⟨g, off, cap, cur, rfl, hbg, hg, hnc, hcm, hcs, htake⟩
  · have hx : xs = [] := List.eq_nil_of_length_eq_zero (by simpa using hown.1)
    subst hx
    obtain ⟨v', w', h2, h3, h4, h5⟩ := run_append_any (w := w) st ty B _ 0 [] (World.ownsRow_nil _ _ _ _) src m news hsrc h1 h63 hbytes hB
    exact ⟨v', w', h2, OwnsAt.of_owns h3, h4, h5⟩
  · obtain ⟨i, hi, hz0, hz1, hz2⟩ := info_parts st.info
    obtain ⟨a, c, rfl, hl, hc⟩ := hsrc
    have pos := st.pos
    subst hz1
    subst hz2
    have holds : ∀ j u, xs[j]? = some u → w.cell? ((⟨g, off, none⟩ : Addr).add j) = some u := by
      intro j u hu
      rw [add_none, cell_of_row w g (off + j) cur e (0, 0) hg]
      rw [← htake, List.getElem?_take] at hu
      split at hu
      · simpa [List.getElem?_drop] using hu
      · cases hu
    rcases a with _ | ad
    · have hn : news = [] := by
        refine Classical.byContradiction fun hne => ?_
        obtain ⟨_, h, _⟩ := hc hne
        cases h
      subst hn
      have hm : m = 0 := by
        rcases Nat.eq_zero_or_pos m with h | h
        · exact h
        · have := Nat.mul_pos h pos
          simp at hl
          omega
      subst hm
      refine ⟨_, w, ?_, by simpa using hown, Keep.refl _ _, Or.inl rfl⟩
      simp [Builtin.append_, run_underlying st.und, sizeOf, typeInfo, hi, Builtin.lenOf, Builtin.firstCells, hnc, storeCells]
    · have hcells : ∀ (j : Nat) (u : Value), news[j]? = some u → w.cell? (ad.add j) = some u := by
        intro j u hu
        obtain ⟨ad', h, hc'⟩ := hc (by rintro rfl; simp at hu)
        injection h with h
        subst h
        exact hc' j u hu
      by_cases hroom : n + m ≤ cap
      · have hmul : n * i.size + m * i.size ≤ cap * i.size := by rw [← Nat.add_mul]; exact Nat.mul_le_mul_right _ hroom
        have hf := run_firstCells_some (P := P) w i.size m ad m c news hl hcells
        have hst := run_storeCells_at P g (off + n * i.size) e news 0 cur w hg (by omega) h1
        simp only [Nat.add_zero] at hst
        refine ⟨.slice (some ⟨g, off, none⟩) (n + m) cap, w.setRow g (cur.toList.take (off + n * i.size) ++ news ++ cur.toList.drop (off + n * i.size + news.length)).toArray, ?_, ?_, ?_, Or.inl rfl⟩
        · simp [Builtin.append_, run_underlying st.und, sizeOf, typeInfo, hi, Builtin.lenOf, hroom, hf, add_none, hst]
        · refine ⟨by rw [List.length_append, hown.1, hl, Nat.add_mul], Or.inr ⟨g, off, cap, _, rfl, hbg, setRow_heap w g cur _ e _ hg, hroom, hcm, ?_, ?_⟩⟩
          · simp only [List.size_toArray, List.length_append, List.length_take, List.length_drop, Array.length_toList]
            omega
          · have h0 : off ≤ cur.toList.length := by simp only [Array.length_toList]; omega
            have e1 : cur.toList.take (off + n * i.size) = cur.toList.take off ++ xs := by rw [List.take_add, htake]
            rw [e1]
            simp only [List.append_assoc]
            rw [List.drop_left' (by rw [List.length_take]; omega)]
            rw [← List.append_assoc]
            exact List.take_left' (by rw [List.length_append, hown.1, hl, Nat.add_mul])
        · exact Keep.of_grown (row := some g) ⟨rfl, rfl, rfl, by simp, fun k _ hk => setRow_other w g k _ (fun e => hk (by rw [e]))⟩ (fun k hk => Or.inl (by cases hk; simp [ownBlocks, Value.ownBlock]))
      · have hr := run_append_grow (P := P) w t ty e i z st.und hi hz0 ⟨g, off, none⟩ n cap xs hown.1 holds ad m c news hl hcells (by omega) (by simp only [maxLen] at h63; omega) (growslice_fits (by omega) hbytes)
        have hge := grownCap_ge w (n + m) cap e
        have hcm : grownCap w (n + m) cap e ≤ maxLen := grownCap_le_maxLen w (n + m) cap e h63
        have hlen : (xs ++ news).length = (n + m) * i.size := by rw [List.length_append, hown.1, hl, Nat.add_mul]
        refine ⟨_, _, hr, OwnsAt.of_owns ⟨hlen, .inr ⟨w.heap.size, _, _, rfl, hB, heap_alloc_new w.drew _, hge, hcm, ?_, ?_⟩⟩, Keep.of_grown (row := none) ⟨rfl, rfl, rfl, by simp, fun k hk _ => Below.heap_alloc w.drew _ k hk⟩ (by simp), Or.inr rfl⟩
        · simp only [Array.size_append, List.size_toArray, size_zeroCells, st.zs, hown.1, hl, ← Nat.add_mul]
          congr 1
          omega
        · simp only [Array.toList_append, List.append_assoc]
          rw [← List.append_assoc, ← hlen]
          exact List.take_left
theorem wpList_append_off {ops : Array Oper} {rest : List Oper} {o : Oper} {a : Act} {Q : Exit → Act → World → Prop} (hgd : o.guard = none) (s x : Operand) {t e : TypeId}
    (ho : o.op = .call { callee := .builtin .append, args := #[s, x], argTypes := #[t, t] }) {z : Value} {size bytes : Nat} (st : SliceTy P t e z size bytes) (B : Nat)
    (v : Value) (n : Nat) (xs : List Value) (hs : a.eval s = v) (hown : OwnsAt w B e size v n xs)
    (src : Value) (m : Nat) (news : List Value) (hx : a.eval x = src) (hsrc : SrcOf w src size m news) (h1 : ∀ u ∈ news, u.oneCell' = true) (h63 : n + m ≤ maxLen) (hbytes : (n + m) * bytes ≤ 140737488355328) (hB : B ≤ w.heap.size)
    (h : ∀ v' w', OwnsAt w' B e size v' (n + m) (xs ++ news) → Keep (ownBlocks v) w w' → (v'.ownBlock = v.ownBlock ∨ v'.ownBlock = some w.heap.size) → wpList P ops Q rest (a.put o.dst v') w') : wpList P ops Q (o :: rest) a w := by
  refine wpList_plain hgd fun K hK => ?_
  obtain ⟨v', w', hr, h2, h3, h4⟩ := run_append_off (w := w) st o.type B v n xs hown src m news hsrc h1 h63 hbytes hB
  unfold Oper.wp execOp
  simp only [ho, resolve, invoke, builtin, Sem.run_bind, Sem.run_pure, Result.andThen_ok, List.map_toArray, List.map_cons, List.map_nil, hs, hx, hr]
  exact hK _ _ (h v' w' h2 h3 h4)
end
/-- A slice of the call's own reads as its numbers. -/
theorem ints_of_off {w : World} {B : Nat} {e : TypeId} {v : Value} {ys : List Int} (h : OwnsAt w B e 1 v ys.length (ys.map (.int .i64))) : IntsOf w v ys := by
  obtain ⟨a, c, hv⟩ := h.shape
  refine ⟨a, c, hv, fun hne => ?_⟩
  obtain ⟨g, off, cap, hv', h1, h2, h3, h4, h5⟩ := h.form (List.length_pos_iff.2 hne)
  rw [hv] at hv'
  injection hv' with e1 e2 e3
  exact ⟨g, off, e1, h4, fun k x hk => h5 k _ (by rw [List.getElem?_map, hk]; rfl)⟩
end Go.Proofs.YtndpbkhpllmhmaaDoor
namespace Go.Proofs.YtndpbkhpllmhmaaDoor
set_option linter.unusedSimpArgs false
set_option linter.unnecessarySimpa false
set_option linter.unusedVariables false
open Go.RowKit

section
variable {α β : Type} {c : α → List β} {sz : Nat}
theorem flat_len (hc : ∀ a, (c a).length = sz) : ∀ l : List α, (l.flatMap c).length = l.length * sz
  | [] => by simp
  | a :: l => by rw [List.flatMap_cons, List.length_append, hc, flat_len hc l, List.length_cons, Nat.succ_mul]; omega
theorem flat_at (hc : ∀ a, (c a).length = sz) : ∀ (l : List α) (n : Nat) (a : α) (j : Nat), l[n]? = some a → j < sz → (l.flatMap c)[n * sz + j]? = (c a)[j]?
  | [], n, a, j, h, _ => by simp at h
  | x :: l, 0, a, j, h, hj => by
    simp only [List.getElem?_cons_zero, Option.some.injEq] at h
    subst h
    rw [List.flatMap_cons, Nat.zero_mul, Nat.zero_add, List.getElem?_append_left (by rw [hc]; omega)]
  | x :: l, n + 1, a, j, h, hj => by
    rw [List.getElem?_cons_succ] at h
    rw [List.flatMap_cons, List.getElem?_append_right (by rw [hc, Nat.succ_mul]; omega), hc, show (n + 1) * sz + j - sz = n * sz + j by rw [Nat.succ_mul]; omega]
    exact flat_at hc l n a j h hj
theorem flat_take (hc : ∀ a, (c a).length = sz) : ∀ (l : List α) (n : Nat), (l.flatMap c).take (n * sz) = (l.take n).flatMap c
  | [], n => by simp
  | x :: l, 0 => by simp
  | x :: l, n + 1 => by
    rw [List.flatMap_cons, List.take_succ_cons, List.flatMap_cons, Nat.succ_mul, ← flat_take hc l n, Nat.add_comm, ← hc x, List.take_length_add_append]
theorem flat_drop (hc : ∀ a, (c a).length = sz) : ∀ (l : List α) (n : Nat), (l.flatMap c).drop (n * sz) = (l.drop n).flatMap c
  | [], n => by simp
  | x :: l, 0 => by simp
  | x :: l, n + 1 => by
    rw [List.flatMap_cons, List.drop_succ_cons, Nat.succ_mul, ← flat_drop hc l n, Nat.add_comm, ← hc x, List.drop_length_add_append]
/-- one cell of one row turned -/
theorem flat_set_ (hc : ∀ a, (c a).length = sz) : ∀ (l : List α) (n : Nat) (a a' : α) (j : Nat) (x : β), l[n]? = some a → j < sz → c a' = (c a).set j x → (l.flatMap c).set (n * sz + j) x = (l.set n a').flatMap c
  | [], n, a, a', j, x, h, _, _ => by simp at h
  | y :: l, 0, a, a', j, x, h, hj, hr => by
    simp only [List.getElem?_cons_zero, Option.some.injEq] at h
    subst h
    rw [List.flatMap_cons, List.set_cons_zero, List.flatMap_cons, Nat.zero_mul, Nat.zero_add, List.set_append_left _ _ (by rw [hc]; omega), hr]
  | y :: l, n + 1, a, a', j, x, h, hj, hr => by
    rw [List.getElem?_cons_succ] at h
    rw [List.flatMap_cons, List.set_cons_succ, List.flatMap_cons, List.set_append_right _ _ (by rw [hc, Nat.succ_mul]; omega), hc, show (n + 1) * sz + j - sz = n * sz + j by rw [Nat.succ_mul]; omega, flat_set_ hc l n a a' j x h hj hr]
end

/-! ### Own slices, a cell set -/
section
variable {w w' : World} {B : Nat} {e : TypeId} {size n : Nat} {v : Value} {xs : List Value}
/-- the block's cells where something lies: they are not frozen -/
theorem OwnsAt.free {g off cap : Nat} (h : OwnsAt w B e size (.slice (some ⟨g, off, none⟩) n cap) n xs) (i : Nat) : w.frozen? ⟨g, i, none⟩ = false := by
  rcases h.2 with ⟨h0, _⟩ | ⟨g', off', cap', cur, hv, hb, hg, _⟩
  · cases h0
  · injection hv with e1 e2 e3
    injection e1 with e1
    injection e1 with e1 e4
    subst e1
    simp [World.frozen?, hg]
theorem OwnsAt.set_ {g off cap : Nat} (h : OwnsAt w B e size (.slice (some ⟨g, off, none⟩) n cap) n xs) (j : Nat) (u : Value) : OwnsAt (w.setCell ⟨g, off + j, none⟩ u) B e size (.slice (some ⟨g, off, none⟩) n cap) n (xs.set j u) := by
  refine ⟨by rw [List.length_set]; exact h.1, ?_⟩
  rcases h.2 with ⟨h0, _⟩ | ⟨g', off', cap', cur, hv, hb, hg, h1, h2, h3, h4⟩
  · cases h0
  · injection hv with e1 e2 e3
    injection e1 with e1
    injection e1 with e1 e4
    subst e1 e3 e4
    refine Or.inr ⟨g, off, cap, cur.setIfInBounds (off + j) u, rfl, hb, ?_, h1, h2, by simpa using h3, ?_⟩
    · simp [World.setCell, Array.getElem?_modify, hg]
    · have h5 : ((cur.toList.set (off + j) u).drop off).take (n * size) = xs.set j u := by
        rw [List.drop_set, if_neg (by omega), show off + j - off = j by omega, List.take_set, h4]
      simpa using h5
end

/-! ### Appends that fit, and clear -/
section
variable {P : Program} {w : World}
/-- an append that fits stays where it is -/
theorem run_append_fit {t e : TypeId} {z : Value} {size bytes : Nat} (st : SliceTy P t e z size bytes) (ty : TypeId) (B g off cap n : Nat) (xs : List Value) (hown : OwnsAt w B e size (.slice (some ⟨g, off, none⟩) n cap) n xs)
    (src : Value) (m : Nat) (news : List Value) (hsrc : SrcOf w src size m news) (h1 : ∀ u ∈ news, u.oneCell' = true) (hroom : n + m ≤ cap) :
    ∃ w', (Builtin.append_ #[t, t] ty #[.slice (some ⟨g, off, none⟩) n cap, src]).run P w = .ok (.slice (some ⟨g, off, none⟩) (n + m) cap) w' ∧ OwnsAt w' B e size (.slice (some ⟨g, off, none⟩) (n + m) cap) (n + m) (xs ++ news) ∧ Keep [g] w w' := by
  rcases hown.2 with ⟨h0, _⟩ | ⟨g', off', cap', cur, hv, hbg, hg, hnc, hcm, hcs, htake⟩
  · cases h0
  · injection hv with e1 e2 e3
    injection e1 with e1
    injection e1 with e1 e4
    subst e1 e3 e4
    obtain ⟨i, hi, hz0, hz1, hz2⟩ := info_parts st.info
    obtain ⟨a, c, rfl, hl, hc⟩ := hsrc
    have pos := st.pos
    subst hz1
    rcases a with _ | ad
    · have hn : news = [] := by
        refine Classical.byContradiction fun hne => ?_
        obtain ⟨_, h, _⟩ := hc hne
        cases h
      subst hn
      have hm : m = 0 := by
        rcases Nat.eq_zero_or_pos m with h | h
        · exact h
        · have := Nat.mul_pos h pos
          simp at hl
          omega
      subst hm
      refine ⟨w, ?_, by simpa using hown, Keep.refl _ _⟩
      simp [Builtin.append_, run_underlying st.und, sizeOf, typeInfo, hi, Builtin.lenOf, Builtin.firstCells, hnc, storeCells]
    · have hcells : ∀ (j : Nat) (u : Value), news[j]? = some u → w.cell? (ad.add j) = some u := by
        intro j u hu
        obtain ⟨ad', h, hc'⟩ := hc (by rintro rfl; simp at hu)
        injection h with h
        subst h
        exact hc' j u hu
      have hmul : n * i.size + m * i.size ≤ cap * i.size := by rw [← Nat.add_mul]; exact Nat.mul_le_mul_right _ hroom
      have hf := run_firstCells_some (P := P) w i.size m ad m c news hl hcells
      have hst := run_storeCells_at P g (off + n * i.size) e news 0 cur w hg (by omega) h1
      simp only [Nat.add_zero] at hst
      refine ⟨w.setRow g (cur.toList.take (off + n * i.size) ++ news ++ cur.toList.drop (off + n * i.size + news.length)).toArray, ?_, ?_, ?_⟩
      · simp [Builtin.append_, run_underlying st.und, sizeOf, typeInfo, hi, Builtin.lenOf, hroom, hf, add_none, hst]
      · refine ⟨by rw [List.length_append, hown.1, hl, Nat.add_mul], Or.inr ⟨g, off, cap, _, rfl, hbg, setRow_heap w g cur _ e _ hg, hroom, hcm, ?_, ?_⟩⟩
        · simp only [List.size_toArray, List.length_append, List.length_take, List.length_drop, Array.length_toList]
          omega
        · have h0 : off ≤ cur.toList.length := by simp only [Array.length_toList]; omega
          have e1 : cur.toList.take (off + n * i.size) = cur.toList.take off ++ xs := by rw [List.take_add, htake]
          rw [e1]
          simp only [List.append_assoc]
          rw [List.drop_left' (by rw [List.length_take]; omega)]
          rw [← List.append_assoc]
          exact List.take_left' (by rw [List.length_append, hown.1, hl, Nat.add_mul])
      · exact Keep.of_grown (row := some g) ⟨rfl, rfl, rfl, by simp, fun k _ hk => setRow_other w g k _ (fun e => hk (by rw [e]))⟩ (fun k hk => Or.inl (by cases hk; simp))
theorem wpList_append_fit {ops : Array Oper} {rest : List Oper} {o : Oper} {a : Act} {Q : Exit → Act → World → Prop} (hgd : o.guard = none) (s x : Operand) {t e : TypeId}
    (ho : o.op = .call { callee := .builtin .append, args := #[s, x], argTypes := #[t, t] }) {z : Value} {size bytes : Nat} (st : SliceTy P t e z size bytes) (B g off cap n : Nat) (xs : List Value)
    (hs : a.eval s = .slice (some ⟨g, off, none⟩) n cap) (hown : OwnsAt w B e size (.slice (some ⟨g, off, none⟩) n cap) n xs)
    (src : Value) (m : Nat) (news : List Value) (hx : a.eval x = src) (hsrc : SrcOf w src size m news) (h1 : ∀ u ∈ news, u.oneCell' = true) (hroom : n + m ≤ cap)
    (h : ∀ w', OwnsAt w' B e size (.slice (some ⟨g, off, none⟩) (n + m) cap) (n + m) (xs ++ news) → Keep [g] w w' → wpList P ops Q rest (a.put o.dst (.slice (some ⟨g, off, none⟩) (n + m) cap)) w') : wpList P ops Q (o :: rest) a w := by
  refine wpList_plain hgd fun K hK => ?_
  obtain ⟨w', hr, h2, h3⟩ := run_append_fit (w := w) st o.type B g off cap n xs hown src m news hsrc h1 hroom
  unfold Oper.wp execOp
  simp only [ho, resolve, invoke, builtin, Sem.run_bind, Sem.run_pure, Result.andThen_ok, List.map_toArray, List.map_cons, List.map_nil, hs, hx, hr]
  exact hK _ _ (h w' h2 h3)
/-- 'clear' of what lies behind an own slice's elements -/
theorem run_clear_own {t e : TypeId} {z : Value} {size : Nat} (hu : P.underlying t = some (.slice e)) (hz : ∀ w, (zeroValue e).run P w = .ok z w) (hzs : z.cells.size = size) (hz1 : ∀ u ∈ z.cells, u.oneCell' = true) (ty : TypeId) (B g off cap n m c : Nat) (xs : List Value)
    (hown : OwnsAt w B e size (.slice (some ⟨g, off, none⟩) n cap) n xs) (hroom : n + m ≤ cap) :
    ∃ w', (Builtin.clear_ #[t] ty #[.slice (some ⟨g, off + n * size, none⟩) m c]).run P w = .ok (.tuple #[]) w' ∧ OwnsAt w' B e size (.slice (some ⟨g, off, none⟩) n cap) n xs ∧ Keep [g] w w' := by
  rcases Nat.eq_zero_or_pos m with hm | hm
  · subst hm
    refine ⟨w, ?_, hown, Keep.refl _ _⟩
    simp [Builtin.clear_, run_underlying hu]
  · rcases hown.2 with ⟨h0, _⟩ | ⟨g', off', cap', cur, hv, hbg, hg, hnc, hcm, hcs, htake⟩
    · cases h0
    · injection hv with e1 e2 e3
      injection e1 with e1
      injection e1 with e1 e4
      subst e1 e3 e4
      subst hzs
      have hmul : n * z.cells.size + m * z.cells.size ≤ cap * z.cells.size := by rw [← Nat.add_mul]; exact Nat.mul_le_mul_right _ hroom
      have hlen : (Builtin.zeroCells z.cells m).toList.length = m * z.cells.size := by rw [Array.length_toList, size_zeroCells]
      have hst := run_storeCells_at P g (off + n * z.cells.size) e (Builtin.zeroCells z.cells m).toList 0 cur w hg (by omega) (by
        intro u hu'
        unfold Builtin.zeroCells at hu'
        simp at hu'
        obtain ⟨i, hi, rfl⟩ := hu'
        by_cases hs : i % z.cells.size < z.cells.size
        · rw [getElem!_pos z.cells _ hs]
          exact hz1 _ (Array.getElem_mem hs)
        · exfalso
          rcases Nat.eq_zero_or_pos z.cells.size with h0 | h0
          · rw [h0] at hi; simp at hi
          · exact hs (Nat.mod_lt _ h0))
      simp only [Nat.add_zero] at hst
      obtain ⟨m', rfl⟩ : ∃ m', m = m' + 1 := ⟨m - 1, by omega⟩
      refine ⟨w.setRow g (cur.toList.take (off + n * z.cells.size) ++ (Builtin.zeroCells z.cells (m' + 1)).toList ++ cur.toList.drop (off + n * z.cells.size + (Builtin.zeroCells z.cells (m' + 1)).toList.length)).toArray, ?_, ?_, ?_⟩
      · simp [Builtin.clear_, run_underlying hu, hz, hst]
      · refine ⟨hown.1, Or.inr ⟨g, off, cap, _, rfl, hbg, setRow_heap w g cur _ e _ hg, hnc, hcm, ?_, ?_⟩⟩
        · simp only [List.size_toArray, List.length_append, List.length_take, List.length_drop, hlen]
          simp only [Array.length_toList]
          omega
        · have h0 : off ≤ cur.toList.length := by simp only [Array.length_toList]; omega
          have e1 : cur.toList.take (off + n * z.cells.size) = cur.toList.take off ++ xs := by rw [List.take_add, htake]
          rw [e1]
          simp only [List.append_assoc]
          rw [List.drop_left' (by rw [List.length_take]; omega)]
          exact List.take_left' hown.1
      · exact Keep.of_grown (row := some g) ⟨rfl, rfl, rfl, by simp, fun k _ hk => setRow_other w g k _ (fun e => hk (by rw [e]))⟩ (fun k hk => Or.inl (by cases hk; simp))
/-- an append at a step of a region that draws its order -/
theorem step_append_off {ops : Array Oper} {o : Oper} {a : Act} {K : Act → World → Prop} {Q : Exit → Act → World → Prop} {E : Prop} (hgd : o.guard = none) (s x : Operand) {t e : TypeId}
    (ho : o.op = .call { callee := .builtin .append, args := #[s, x], argTypes := #[t, t] }) {z : Value} {size bytes : Nat} (st : SliceTy P t e z size bytes) (B : Nat)
    (v : Value) (n : Nat) (xs : List Value) (hs : a.eval s = v) (hown : OwnsAt w B e size v n xs)
    (src : Value) (m : Nat) (news : List Value) (hx : a.eval x = src) (hsrc : SrcOf w src size m news) (h1 : ∀ u ∈ news, u.oneCell' = true) (h63 : n + m ≤ maxLen) (hbytes : (n + m) * bytes ≤ 140737488355328) (hB : B ≤ w.heap.size)
    (h : ∀ v' w', OwnsAt w' B e size v' (n + m) (xs ++ news) → Keep (ownBlocks v) w w' → (v'.ownBlock = v.ownBlock ∨ v'.ownBlock = some w.heap.size) → K (a.put o.dst v') w') :
    if Region.wanted o (yielded ops a.tmps) = true then Oper.wp P o a w K Q else E := by
  have hw : Region.wanted o (yielded ops a.tmps) = true := by simp [Region.wanted, hgd]
  rw [if_pos hw]
  obtain ⟨v', w', hr, h2, h3, h4⟩ := run_append_off (w := w) st o.type B v n xs hown src m news hsrc h1 h63 hbytes hB
  unfold Oper.wp execOp
  simp only [ho, resolve, invoke, builtin, Sem.run_bind, Sem.run_pure, Result.andThen_ok, List.map_toArray, List.map_cons, List.map_nil, hs, hx, hr]
  exact h v' w' h2 h3 h4
end
end Go.Proofs.YtndpbkhpllmhmaaDoor
