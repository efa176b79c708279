/- Terms: what they are, in plain words and in memory. -/
import Derived.Test.YtiicmlhpcfhfeaaRows
import Derived.WalkKit
import Derived.WalkSpells
import Derived.WalkLawsBesides
import Derived.RegionTactic
import Derived.ChangeAlike
import Derived.BigQuiet
import Derived.Deep.QuietTactic
import Derived.StillTailTactics
import Derived.IntWalk
import Derived.Handy
import Derived.Lib.Hide
import Derived.Deep.AppendLies
import Derived.Deep.RegionWith
import Derived.Test.YtiicmlhpcfhfeaaBase
import Derived.Test.YtiicmlhpcfhfeaaTail
import Derived.Test.YtiicmlhpcfhfeaaArgs
import Derived.Test.YtiicmlhpcfhfeaaAppend
import Derived.Deep.RegionLaw
import Derived.Test.YtiicmlhpcfhfeaaOffs
import Derived.Test.YtiicmlhpcfhfeaaStructs
import Derived.Test.YtiicmlhpcfhfeaaSplit
namespace Go.Proofs.Ytiicmlhpcfhfeaa
open Go.RowKit

theorem Try.info51 : (Try.prog.info? 51).map (fun i => (i.zero, i.size, i.bytes)) = some (some (.agg #[.int .i64 0, .bool false, .int .i64 0]), 3, 24) := by kernel_rfl
theorem Try.info44 : (Try.prog.info? 44).map (fun i => (i.zero, i.size, i.bytes)) = some (some (.agg #[.int .i64 0, .int .i64 0, .bool false]), 3, 24) := by kernel_rfl
theorem Try.nds45 : SliceTy Try.prog 45 51 (.agg #[.int .i64 0, .bool false, .int .i64 0]) 3 24 := ⟨Try.underlying45, Try.info51, rfl, by decide⟩
theorem Try.sgs31 : SliceTy Try.prog 31 44 (.agg #[.int .i64 0, .int .i64 0, .bool false]) 3 24 := ⟨Try.underlying31, Try.info44, rfl, by decide⟩

/-! ### Plain -/
/-- a node: what it owes, is it active, on whom it hangs -/
abbrev Nd := Int × Bool × Int
/-- a signal: from, to, is it an acknowledgement -/
abbrev Sg := Int × Int × Bool
structure TM where
  nodes : List Nd
  way : List Sg
def ndC (x : Nd) : List Value := [.int .i64 x.1, .bool x.2.1, .int .i64 x.2.2]
def sgC (x : Sg) : List Value := [.int .i64 x.1, .int .i64 x.2.1, .bool x.2.2]
theorem ndC_len (x : Nd) : (ndC x).length = 3 := rfl
theorem sgC_len (x : Sg) : (sgC x).length = 3 := rfl
def isN (q : TM) (n : Int) : Bool := decide (0 ≤ n ∧ n < q.nodes.length)
def nd (q : TM) (n : Int) : Nd := q.nodes.getD n.toNat (0, false, -1)
def activeN (q : TM) (n : Int) : Bool := isN q n && (nd q n).2.1
def owesN (q : TM) (n : Int) : Int := if isN q n then (nd q n).1 else 0
def upN (q : TM) (n : Int) : Int := if isN q n then (nd q n).2.2 else -1
def declN (q : TM) : Bool := !(nd q 0).2.1 && ((nd q 0).1 == 0)
def stuck (x : Nd) : Bool := (x.2.2 != -1) && !x.2.1 && (x.1 == 0)
def unhang (x : Nd) : Nd := if stuck x then (x.1, x.2.1, -1) else x
def acks : Nat → List Nd → List Sg
  | _, [] => []
  | i, x :: l => if stuck x then ((i : Int), x.2.2, true) :: acks (i + 1) l else acks (i + 1) l
def settle (q : TM) : TM := ⟨q.nodes.map unhang, q.way ++ acks 0 q.nodes⟩
def idleN (q : TM) (n : Int) : TM × Bool := if activeN q n then (settle ⟨q.nodes.set n.toNat ((nd q n).1, false, (nd q n).2.2), q.way⟩, true) else (q, false)
def validTo (q : TM) (to : List Int) : List Int := to.filter (isN q)
def sentN (q : TM) (from_ : Int) (l : List Int) : TM := ⟨q.nodes.set from_.toNat ((nd q from_).1 + l.length, (nd q from_).2.1, (nd q from_).2.2), q.way ++ l.map fun n => (from_, n, false)⟩
def sendN (q : TM) (from_ : Int) (to : List Int) : TM × Nat := if activeN q from_ then (settle (sentN q from_ (validTo q to)), (validTo q to).length) else (q, 0)
def broughtN (q : TM) (s : Sg) (k : Nat) : TM :=
  if s.2.2 then ⟨q.nodes.set s.2.1.toNat ((nd q s.2.1).1 - 1, (nd q s.2.1).2.1, (nd q s.2.1).2.2), q.way.eraseIdx k⟩
  else if s.2.1 ≠ 0 ∧ (nd q s.2.1).2.2 = -1 then ⟨q.nodes.set s.2.1.toNat ((nd q s.2.1).1, true, s.1), q.way.eraseIdx k⟩
  else ⟨q.nodes.set s.2.1.toNat ((nd q s.2.1).1, true, (nd q s.2.1).2.2), q.way.eraseIdx k ++ [(s.2.1, s.1, true)]⟩
def deliverN (q : TM) (k : Int) : TM × Bool :=
  if 0 ≤ k ∧ k < q.way.length then (settle (broughtN q (q.way.getD k.toNat (0, 0, false)) k.toNat), true) else (q, false)
def newN (n : Int) : TM := ⟨(0, true, -1) :: List.replicate (min (max 1 n) 16).toNat.pred (0, false, -1), []⟩

/-! ### What a term is in memory -/
structure TermIn (w : World) (B p : Nat) (vn vw : Value) (q : TM) : Prop where
  head : Blk w p 47 [vn, vw]
  nodes : OwnsAt w B 51 3 vn q.nodes.length (q.nodes.flatMap ndC)
  way : OwnsAt w B 44 3 vw q.way.length (q.way.flatMap sgC)
  base : B ≤ p
def termFoot (p : Nat) (vn vw : Value) : List Nat := p :: (ownBlocks vn ++ ownBlocks vw)
def TermAt (w : World) (B p : Nat) (F : List Nat) (q : TM) : Prop := ∃ vn vw, TermIn w B p vn vw q ∧ F = termFoot p vn vw
theorem mem_own {v : Value} {x : Nat} : x ∈ ownBlocks v ↔ v.ownBlock = some x := by simp [ownBlocks]
theorem OwnsAt.mono {w : World} {B B' : Nat} {e : TypeId} {size n : Nat} {v : Value} {xs : List Value} (h : OwnsAt w B e size v n xs) (hb : B' ≤ B) : OwnsAt w B' e size v n xs :=
  ⟨h.1, h.2.imp id fun ⟨g, off, cap, cur, h1, h2, h3⟩ => ⟨g, off, cap, cur, h1, Nat.le_trans hb h2, h3⟩⟩
theorem OwnsAt.blk {w : World} {B : Nat} {e : TypeId} {size n : Nat} {v : Value} {xs : List Value} (h : OwnsAt w B e size v n xs) {g : Nat} (hg : v.ownBlock = some g) : ∃ cur : Array Value, w.heap[g]? = some (.cells cur e (0, 0)) := by
  rcases h.2 with ⟨rfl, _⟩ | ⟨g', off, cap, cur, rfl, hb, hg', _⟩
  · cases hg
  · cases hg
    exact ⟨cur, hg'⟩
theorem OwnsAt.ne_own {w : World} {B B' : Nat} {e e' : TypeId} {size n size' n' : Nat} {v v' : Value} {xs xs' : List Value} (h : OwnsAt w B e size v n xs) (h' : OwnsAt w B' e' size' v' n' xs') (hne : e ≠ e') : ∀ g, v.ownBlock = some g → v'.ownBlock ≠ some g := by
  intro g hg hg'
  obtain ⟨c, hc⟩ := h.blk hg
  obtain ⟨c', hc'⟩ := h'.blk hg'
  rw [hc] at hc'
  injection hc' with hc'
  injection hc' with _ ht
  exact hne ht
theorem OwnsAt.ne_blk {w : World} {B p : Nat} {t e : TypeId} {size n : Nat} {v : Value} {xs cs : List Value} (h : OwnsAt w B e size v n xs) (h' : Blk w p t cs) (hne : e ≠ t) : v.ownBlock ≠ some p := by
  intro hg
  obtain ⟨c, hc⟩ := h.blk hg
  unfold Blk at h'
  rw [hc] at h'
  injection h' with h'
  injection h' with _ ht
  exact hne ht
theorem TermIn.keep {w w' : World} {B p : Nat} {vn vw : Value} {q : TM} {S : List Nat} (h : TermIn w B p vn vw q) (hk : Keep S w w') (hn : ∀ x ∈ termFoot p vn vw, x ∉ S) : TermIn w' B p vn vw q :=
  ⟨h.head.keep hk (hn p (by simp [termFoot])), h.nodes.keep hk (fun g hg => hn g (by simp [termFoot, mem_own, hg])), h.way.keep hk (fun g hg => hn g (by simp [termFoot, mem_own, hg])), h.base⟩
theorem TermAt.keep {w w' : World} {B p : Nat} {F : List Nat} {q : TM} {S : List Nat} (h : TermAt w B p F q) (hk : Keep S w w') (hn : ∀ x ∈ F, x ∉ S) : TermAt w' B p F q := by
  obtain ⟨vn, vw, h, rfl⟩ := h
  exact ⟨vn, vw, h.keep hk hn, rfl⟩
theorem TermAt.lt {w : World} {B p : Nat} {F : List Nat} {q : TM} (h : TermAt w B p F q) : ∀ x ∈ F, B ≤ x ∧ x < w.heap.size := by
  obtain ⟨vn, vw, h, rfl⟩ := h
  intro x hx
  simp only [termFoot, List.mem_cons, List.mem_append] at hx
  rcases hx with rfl | hx | hx
  · exact ⟨h.base, h.head.lt⟩
  · exact h.nodes.lt x (mem_own.1 hx)
  · exact h.way.lt x (mem_own.1 hx)
def TPost (B p : Nat) (F : List Nat) (w : World) (v : Value) (q' : TM) (e : Ending) (w' : World) : Prop :=
  e = .returned v ∧ ∃ F', TermAt w' B p F' q' ∧ Keep F w w' ∧ ∀ x ∈ F', x ∈ F ∨ w.heap.size ≤ x
theorem reach_trans {F F1 F2 : List Nat} {w w1 w2 : World} (h1 : Keep F w w1) (f1 : ∀ x ∈ F1, x ∈ F ∨ w.heap.size ≤ x) (h2 : Keep F1 w1 w2) (f2 : ∀ x ∈ F2, x ∈ F1 ∨ w1.heap.size ≤ x) :
    Keep F w w2 ∧ ∀ x ∈ F2, x ∈ F ∨ w.heap.size ≤ x := by
  refine ⟨h1.trans h2 f1, fun x hx => ?_⟩
  rcases f2 x hx with h | h
  · exact f1 x h
  · have := h1.size
    exact Or.inr (by omega)
theorem OwnsAt.rowAt {α : Type} {w : World} {B : Nat} {e : TypeId} {sz : Nat} {av : Option Addr} {n cv : Nat} {l : List α} {c : α → List Value} (h : OwnsAt w B e sz (.slice av n cv) n (l.flatMap c)) (hc : ∀ a, (c a).length = sz) {i : Nat} {a : α} (hi : l[i]? = some a) (hn : i < n) :
    ∃ g off, av = some ⟨g, off, none⟩ ∧ B ≤ g ∧ g < w.heap.size ∧ (∀ (j : Nat) (u : Value), j < sz → (c a)[j]? = some u → w.cell? ⟨g, off + i * sz + j, none⟩ = some u) ∧ n ≤ cv ∧ ∀ j, w.frozen? ⟨g, j, none⟩ = false := by
  obtain ⟨g, off, cap, hv, h1, h2, h3, h4, h5⟩ := h.form (by omega)
  injection hv with e1 e2 e3
  subst e1 e3
  refine ⟨g, off, rfl, h3, h4, fun j u hj hu => ?_, h1, h.free⟩
  rw [Nat.add_assoc]
  exact h5 _ u ((flat_at hc l i a j hi hj).trans hu)
theorem nd_of {q : TM} {k : Nat} {x : Nd} (h : q.nodes[k]? = some x) : nd q k = x := by
  unfold nd
  rw [Int.toNat_natCast, List.getD_eq_getElem?_getD, h]
  rfl
theorem src_row {w : World} {t : TypeId} {cs : List Value} (sz : Nat) (h : cs.length = sz) (c : Array Value) (hc : c = cs.toArray) : SrcOf (w.alloc (.cells c t)) (.slice (some ⟨w.heap.size, 0, none⟩) 1 1) sz 1 cs := by
  subst hc
  refine ⟨_, _, rfl, by omega, fun _ => ⟨_, rfl, fun j u hu => ?_⟩⟩
  rw [add_none, Nat.zero_add]
  exact ((Blk.new w t cs).cell j).trans hu
/-- a node turned: three cells of it -/
theorem TermIn.turn0 {w : World} {B p g off cn k : Nat} {vw : Value} {q : TM} {x : Nd} (h : TermIn w B p (.slice (some ⟨g, off, none⟩) q.nodes.length cn) vw q) (hx : q.nodes[k]? = some x) (j : Nat) (hj : j < 3) (u : Value) (x' : Nd) (hx' : ndC x' = (ndC x).set j u) :
    TermIn (w.setCell ⟨g, off + k * 3 + j, none⟩ u) B p (.slice (some ⟨g, off, none⟩) q.nodes.length cn) vw ⟨q.nodes.set k x', q.way⟩ ∧ Keep (termFoot p (.slice (some ⟨g, off, none⟩) q.nodes.length cn) vw) w (w.setCell ⟨g, off + k * 3 + j, none⟩ u) := by
  have n1 : g ≠ p := fun e => by subst e; exact OwnsAt.ne_blk h.nodes h.head (by decide) rfl
  have n2 : vw.ownBlock ≠ some g := OwnsAt.ne_own h.nodes h.way (by decide) _ rfl
  have k1 : Keep [g] w (w.setCell ⟨g, off + k * 3 + j, none⟩ u) := (Keep.refl _ _).setCell (by simp) _
  refine ⟨⟨h.head.far n1.symm _, ?_, h.way.keep k1 (fun x hx hm => n2 ((show x = g by simpa using hm) ▸ hx)), h.base⟩, k1.mono (fun x hx => Or.inl (by rw [show x = g by simpa using hx]; simp [termFoot, ownBlocks, Value.ownBlock]))⟩
  have h1 := h.nodes.set_ (k * 3 + j) u
  rw [flat_set_ ndC_len q.nodes k x x' j u hx hj hx'] at h1
  rw [Nat.add_assoc, List.length_set]
  exact h1
end Go.Proofs.Ytiicmlhpcfhfeaa
