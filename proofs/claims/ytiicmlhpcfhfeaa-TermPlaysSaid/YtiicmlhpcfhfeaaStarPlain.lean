/- The star, in plain words; a row of one's own beside a term. -/
import Derived.Test.YtiicmlhpcfhfeaaRows
import Derived.WalkKit
import Derived.WalkSpells
import Derived.WalkLawsBesides
import Derived.RegionTactic
import Derived.ChangeAlike
import Derived.BigQuiet
import Derived.Deep.QuietTactic
import Derived.StillTailTactics
import Derived.IntWalk
import Derived.Handy
import Derived.Lib.Hide
import Derived.Deep.AppendLies
import Derived.Deep.RegionWith
import Derived.Test.YtiicmlhpcfhfeaaBase
import Derived.Test.YtiicmlhpcfhfeaaTail
import Derived.Test.YtiicmlhpcfhfeaaArgs
import Derived.Test.YtiicmlhpcfhfeaaAppend
import Derived.Deep.RegionLaw
import Derived.Test.YtiicmlhpcfhfeaaOffs
import Derived.Test.YtiicmlhpcfhfeaaStructs
import Derived.Test.YtiicmlhpcfhfeaaSplit
import Derived.Test.YtiicmlhpcfhfeaaTermObj
import Derived.Test.YtiicmlhpcfhfeaaTermRead
import Derived.Test.YtiicmlhpcfhfeaaTermSettle
import Derived.Test.YtiicmlhpcfhfeaaTermSettle2
import Derived.Test.YtiicmlhpcfhfeaaTermDel
import Derived.Test.YtiicmlhpcfhfeaaTermSend
import Derived.Test.YtiicmlhpcfhfeaaTermDeliver
import Derived.Test.YtiicmlhpcfhfeaaTermNew2
import Derived.Test.YtiicmlhpcfhfeaaTermAlive
import Derived.Test.YtiicmlhpcfhfeaaTermInv2
namespace Go.Proofs.Ytiicmlhpcfhfeaa
open Go.RowKit
theorem Try.ints23 : SliceTy Try.prog 23 3 (.int .i64 0) 1 8 := ⟨Try.underlying23, by kernel_rfl, rfl, by decide⟩
/-- what the rule gives for the calls -/
theorem InvT.ok {q : TM} {M : Nat} (h : InvT q M) (hM : M ≤ 900000) : OkT q := by
  refine ⟨h.len1, h.len2, fun x hx => ?_, by have := h.load; omega, fun s hs => (h.sgs s hs).2⟩
  obtain ⟨k, hk, rfl⟩ := List.mem_iff_getElem.1 hx
  have h1 := h.cnts k _ (List.getElem?_eq_getElem hk)
  have h2 : cnt q k ≤ q.way.length + q.nodes.length := by
    unfold cnt
    have := List.countP_le_length (p := contrib (k : Int)) (l := q.way)
    have := List.countP_le_length (p := child (k : Int)) (l := q.nodes)
    omega
  have := h.load
  have := h.len2
  omega
structure Good (q : TM) (M n : Nat) : Prop where
  inv : InvT q M
  calm : Calm q
  len : q.nodes.length = n
theorem good_new {n : Int} {N : Nat} (h : n = N) (h1 : 1 ≤ N) (h2 : N ≤ 16) : Good (newN n) 0 N := by
  obtain ⟨a, b, c⟩ := inv_new n
  exact ⟨a, b, by rw [c]; unfold cutN; omega⟩
theorem Good.idle {q : TM} {M N : Nat} (h : Good q M N) (n : Int) : Good (idleN q n).1 M N := by
  obtain ⟨a, b, c, d⟩ := inv_idle n h.inv h.calm
  exact ⟨a, c, d.trans h.len⟩
theorem Good.send {q : TM} {M N : Nat} (h : Good q M N) (n : Int) (to : List Int) : Good (sendN q n to).1 (M + to.length) N := by
  obtain ⟨a, b, c⟩ := inv_send n to h.inv h.calm
  exact ⟨a, b, c.trans h.len⟩
theorem Good.deliver {q : TM} {M N : Nat} (h : Good q M N) (n : Int) : Good (deliverN q n).1 M N := by
  obtain ⟨a, b, c, _⟩ := inv_deliver n h.inv h.calm
  exact ⟨a, b, c.trans h.len⟩
theorem Good.mono {q : TM} {M M' N : Nat} (h : Good q M N) (hm : M ≤ M') : Good q M' N :=
  ⟨⟨h.inv.len1, h.inv.len2, h.inv.root, h.inv.ups, h.inv.sgs, h.inv.cnts, h.inv.off, h.inv.rank, Nat.le_trans h.inv.load hm⟩, h.calm, h.len⟩
theorem Good.ok {q : TM} {M N : Nat} (h : Good q M N) (hM : M ≤ 900000) : OkT q := h.inv.ok hM
theorem phi_le {q : TM} {M N : Nat} (h : Good q M N) : phi q ≤ 3 * M := by
  have h1 := h.inv.load
  have h2 := List.countP_le_length (p := work) (l := q.way)
  unfold phi
  omega
/-! ### The star, plain -/
def upto (k : Nat) : List Int := (List.range k).map fun (i : Nat) => (i : Int) + 1
def dels : Nat → TM → TM
  | 0, q => q
  | m + 1, q => (deliverN (dels m q) 0).1
def idles : Nat → TM → TM
  | 0, q => q
  | m + 1, q => (idleN (idles m q) ((m : Int) + 1)).1
def drain : Nat → TM → TM
  | 0, q => q
  | f + 1, q => if q.way.isEmpty then q else drain f (deliverN q 0).1
def sends (n : Nat) : Nat → TM
  | 0 => newN n
  | k + 1 => (sendN (sends n k) 0 (upto (n - 1))).1
def star1 (n t : Nat) : TM := (idleN (sends n t) 0).1
def star2 (n t : Nat) : TM := dels (t * (n - 1)) (star1 n t)
def star3 (n t : Nat) : TM := drain 300 (star2 n t)
def star4 (n t : Nat) : TM := idles (n - 1) (star3 n t)
def star5 (n t : Nat) : TM := drain 300 (star4 n t)
def checkS (n t : Nat) : Bool :=
  (owesN (star1 n t) 0 == (t : Int) * ((n : Int) - 1)) && ((star2 n t).way.length == (t - 1) * (n - 1)) && (owesN (star3 n t) 0 == (n : Int) - 1) && !declN (star3 n t) && declN (star5 n t)
theorem star_check : ∀ n, n < 17 → 2 ≤ n → ∀ t, t < 7 → 1 ≤ t → checkS n t = true := by decide +kernel
theorem star_sends : ∀ n, n < 17 → 2 ≤ n → ∀ k, k < 6 → ((sendN (sends n k) 0 (upto (n - 1))).2 == n - 1) = true := by decide +kernel
theorem good_sends {N : Nat} (h1 : 1 ≤ N) (h2 : N ≤ 16) : ∀ k, Good (sends N k) (k * 15) N
  | 0 => good_new rfl h1 h2
  | k + 1 => by
    have h := (good_sends h1 h2 k).send 0 (upto (N - 1))
    refine h.mono ?_
    have : (upto (N - 1)).length = N - 1 := by unfold upto; simp
    rw [this]
    omega
theorem good_dels {q : TM} {M N : Nat} (h : Good q M N) : ∀ m, Good (dels m q) M N
  | 0 => h
  | m + 1 => (good_dels h m).deliver 0
theorem good_idles {q : TM} {M N : Nat} (h : Good q M N) : ∀ m, Good (idles m q) M N
  | 0 => h
  | m + 1 => (good_idles h m).idle _
theorem good_drain {M N : Nat} : ∀ (f : Nat) {q : TM}, Good q M N → Good (drain f q) M N
  | 0, _, h => h
  | f + 1, q, h => by
    unfold drain
    split
    · exact h
    · exact good_drain f (h.deliver 0)
theorem drain_nil {f : Nat} {q : TM} (h : q.way = []) : drain f q = q := by
  cases f with
  | zero => rfl
  | succ f => unfold drain; rw [h]; rfl
/-! ### the least number -/
def Least (P : Nat → Prop) (n : Nat) : Prop := P n ∧ ∀ m, m < n → ¬ P m
theorem least_ex {P : Nat → Prop} : ∀ n, P n → ∃ m, Least P m := by
  intro n
  induction n using Nat.strongRecOn with
  | _ n ih =>
    intro h
    by_cases hm : ∃ m, m < n ∧ P m
    · obtain ⟨m, h1, h2⟩ := hm
      exact ih m h1 h2
    · exact ⟨n, h, fun m h1 h2 => hm ⟨m, h1, h2⟩⟩
theorem least_eps {P : Nat → Prop} {n : Nat} (h : P n) : Least P (Classical.epsilon (Least P)) := Classical.epsilon_spec (least_ex n h)
theorem least_le {P : Nat → Prop} {n : Nat} (h : P n) : Classical.epsilon (Least P) ≤ n := by
  have h1 := least_eps h
  rcases Nat.lt_or_ge n (Classical.epsilon (Least P)) with h2 | h2
  · exact absurd h (h1.2 n h2)
  · exact h2
/-! ### a slice of one's own beside a term -/
section
variable {B p : Nat} {w0 w : World} {q : TM}
theorem TLive.keep_own {w' : World} {n : Nat} {v : Value} {xs : List Value} (h : TLive B p w0 w q) (ho : OwnsAt w w0.heap.size 3 1 v n xs) (k : Keep (ownBlocks v) w w') : TLive B p w0 w' q := by
  obtain ⟨F, h1, h2, h3, h4⟩ := h
  refine ⟨F, h1.keep k (fun x hx hm => ?_), h2.trans k (fun x hx => Or.inr (ho.lt x (mem_own.1 hx)).1), h3, by have := k.size; omega⟩
  obtain ⟨vn, vw, h5, rfl⟩ := h1
  simp only [termFoot, List.mem_cons, List.mem_append] at hx
  rcases hx with rfl | hx | hx
  · exact ho.ne_blk h5.head (by decide) (mem_own.1 hm)
  · exact ho.ne_own h5.nodes (by decide) x (mem_own.1 hm) (mem_own.1 hx)
  · exact ho.ne_own h5.way (by decide) x (mem_own.1 hm) (mem_own.1 hx)
theorem live_send_own {v : Value} {to : List Int} (n : Int) (h : TLive B p w0 w q) (ok : OkT q) (ho : OwnsAt w w0.heap.size 3 1 v to.length (to.map (.int .i64))) (hl : to.length ≤ 1000000) :
    Calls Try.prog 10 #[.pointer (some ⟨p, 0, none⟩), .int .i64 n, v] w fun e w' => e = .returned (.int .i64 (sendN q n to).2) ∧ TLive B p w0 w' (sendN q n to).1 ∧ OwnsAt w' w0.heap.size 3 1 v to.length (to.map (.int .i64)) := by
  obtain ⟨F, h1, h2, h3, h4⟩ := h
  have hsep : ∀ g, v.ownBlock = some g → g ∉ F := fun g hg hm => by
    obtain ⟨vn, vw, h5, rfl⟩ := h1
    simp only [termFoot, List.mem_cons, List.mem_append] at hm
    rcases hm with rfl | hm | hm
    · exact ho.ne_blk h5.head (by decide) hg
    · exact ho.ne_own h5.nodes (by decide) g hg (mem_own.1 hm)
    · exact ho.ne_own h5.way (by decide) g hg (mem_own.1 hm)
  refine (send_spec n h1 h4 (fun w' hk => ints_of_off (ho.keep hk hsep)) (by have := ok.l2; omega) (by have := ok.w_; omega) (fun x hx => by have := ok.n_ x hx; omega)).mono fun e w' hp => ?_
  obtain ⟨he, F', h5, h6, h7⟩ := hp
  have := TPost.run (v := .int .i64 (sendN q n to).2) (q' := (sendN q n to).1) ⟨he, F', h5, h6, h7⟩ h2 h3 h4
  exact ⟨this.1, this.2, ho.keep h6 hsep⟩
end
end Go.Proofs.Ytiicmlhpcfhfeaa
