/- Terms: the calls that are handed in; what it is that is declared. -/
import Derived.Test.YtiicmlhpcfhfeaaRows
import Derived.WalkKit
import Derived.WalkSpells
import Derived.WalkLawsBesides
import Derived.RegionTactic
import Derived.ChangeAlike
import Derived.BigQuiet
import Derived.Deep.QuietTactic
import Derived.StillTailTactics
import Derived.IntWalk
import Derived.Handy
import Derived.Lib.Hide
import Derived.Deep.AppendLies
import Derived.Deep.RegionWith
import Derived.Test.YtiicmlhpcfhfeaaBase
import Derived.Test.YtiicmlhpcfhfeaaTail
import Derived.Test.YtiicmlhpcfhfeaaArgs
import Derived.Test.YtiicmlhpcfhfeaaAppend
import Derived.Deep.RegionLaw
import Derived.Test.YtiicmlhpcfhfeaaOffs
import Derived.Test.YtiicmlhpcfhfeaaStructs
import Derived.Test.YtiicmlhpcfhfeaaSplit
import Derived.Test.YtiicmlhpcfhfeaaTermObj
import Derived.Test.YtiicmlhpcfhfeaaTermRead
import Derived.Test.YtiicmlhpcfhfeaaTermSettle
import Derived.Test.YtiicmlhpcfhfeaaTermSettle2
import Derived.Test.YtiicmlhpcfhfeaaTermDel
import Derived.Test.YtiicmlhpcfhfeaaTermSend
import Derived.Test.YtiicmlhpcfhfeaaTermDeliver
import Derived.Test.YtiicmlhpcfhfeaaTermNew2
import Derived.Test.YtiicmlhpcfhfeaaTermAlive
import Derived.Test.YtiicmlhpcfhfeaaTermInv2
import Derived.Test.YtiicmlhpcfhfeaaStarPlain
import Derived.Test.YtiicmlhpcfhfeaaOpens
namespace Go.Proofs.Ytiicmlhpcfhfeaa
open Go.ChangeShapes Go.WideShapes Go.RowKit Go.Deep
/-- a call that is to be made -/
structure Actv where
  way : Int
  node : Int
  to : List Int
def ActsOf (w : World) (v : Value) (l : List Actv) : Prop :=
  ∃ a c, v = .slice a l.length c ∧ ∀ (i : Nat) (x : Actv), l[i]? = some x → ∃ b off tv, a = some ⟨b, off, none⟩ ∧ b < w.heap.size ∧ w.cell? ⟨b, off + i * 3, none⟩ = some (.int .i64 x.way) ∧ w.cell? ⟨b, off + i * 3 + 1, none⟩ = some (.int .i64 x.node) ∧ w.cell? ⟨b, off + i * 3 + 2, none⟩ = some tv ∧ IntsOf w tv x.to
theorem ActsOf.keep0 {w w' : World} {v : Value} {l : List Actv} (h : ActsOf w v l) (hk : Keep [] w w') : ActsOf w' v l := by
  obtain ⟨a, c, rfl, h⟩ := h
  refine ⟨a, c, rfl, fun i x hx => ?_⟩
  obtain ⟨b, off, tv, rfl, hb, h0, h1, h2, h3⟩ := h i x hx
  exact ⟨b, off, tv, rfl, Nat.lt_of_lt_of_le hb hk.size, (hk.cell hb (by simp)).trans h0, (hk.cell hb (by simp)).trans h1, (hk.cell hb (by simp)).trans h2, h3.keep0 hk⟩
theorem acts_open {H : Type} {enc : TypeId × Value → H} {w : World} {r : Reach} {b0 : Nat} {v : Value} {d : DataW H} {p : List MemPlace} (ho : Value.okWide Try.prog w r b0 22 v) (h : DataW.Trod enc Try.prog w 0 (fun _ => true) true 22 v d p) :
    ∃ l, ActsOf w v l := by
  obtain ⟨v', css, hv, ⟨a, c, rfl, hr⟩, hall⟩ := reads_rows 3 Try.underlying22 (by kernel_rfl) (by omega) (reads_of Try.underlying22 ho h)
  obtain rfl : v = .slice a css.length c := by simpa using hv
  obtain ⟨L, hL⟩ : ∃ L, L = (#[(3, 0), (3, 1), (23, 2)] : Array (TypeId × Nat)) := ⟨_, rfl⟩
  obtain ⟨l, hlen, hx⟩ := choose_list (fun cs (x : Actv) => ∃ tv, cs[0]? = some (.int .i64 x.way) ∧ cs[1]? = some (.int .i64 x.node) ∧ cs[2]? = some tv ∧ IntsOf w tv x.to) css (fun cs hcs => by
    have hR := hall cs hcs
    obtain ⟨x0, h0, _⟩ := reads_int_at (i := 0) (t := 3) (o := 0) Try.underlying28 (show _ = (#[(3, 0), (3, 1), (23, 2)] : Array (TypeId × Nat)) by kernel_rfl) hR rfl Try.underlying3 (by kernel_rfl)
    obtain ⟨x1, h1, _⟩ := reads_int_at (i := 1) (t := 3) (o := 1) Try.underlying28 (show _ = (#[(3, 0), (3, 1), (23, 2)] : Array (TypeId × Nat)) by kernel_rfl) hR rfl Try.underlying3 (by kernel_rfl)
    have h2 := reads_at (i := 2) (t := 23) (o := 2) Try.underlying28 (show _ = (#[(3, 0), (3, 1), (23, 2)] : Array (TypeId × Nat)) by kernel_rfl) hR rfl
    rw [show Try.prog.cellsOf 23 = 1 by kernel_rfl] at h2
    obtain ⟨tv, ys, h3, h4, _⟩ := reads_ints Try.underlying23 Try.underlying3 (by kernel_rfl) h2
    exact ⟨⟨x0, x1, ys⟩, tv, h0, h1, one_at h3, h4⟩)
  refine ⟨l, a, c, by rw [hlen], fun i x hi => ?_⟩
  have hil : i < css.length := by
    rw [← hlen]
    rcases Nat.lt_or_ge i l.length with h' | h'
    · exact h'
    · rw [List.getElem?_eq_none h'] at hi; cases hi
  obtain ⟨b, off, rfl, hb, hc⟩ := hr (by intro h; rw [h] at hil; simp at hil)
  have hcs := List.getElem?_eq_getElem hil
  obtain ⟨tv, h0, h1, h2, h3⟩ := hx i _ x hcs hi
  have hcell := (hc i _ hcs).2
  exact ⟨b, off, tv, rfl, hb, hcell 0 _ h0, hcell 1 _ h1, hcell 2 _ h2, h3⟩
/-! ### What the calls make, plain -/
def stepT (q : TM) (a : Actv) : TM := if a.way = 0 then (sendN q a.node a.to).1 else if a.way = 1 then (idleN q a.node).1 else (deliverN q a.node).1
theorem Good.step {q : TM} {M N b : Nat} (h : Good q M N) {a : Actv} (ha : a.to.length ≤ b) : Good (stepT q a) (M + b) N := by
  unfold stepT
  split
  · exact (h.send _ _).mono (by omega)
  · split
    · exact (h.idle _).mono (by omega)
    · exact (h.deliver _).mono (by omega)
theorem nohung {q : TM} {M : Nat} (h : InvT q M) (h0 : ∀ x, q.nodes[0]? = some x → x.1 = 0) : ∀ (k : Nat) (x : Nd), q.nodes[k]? = some x → x.2.2 = -1 := by
  obtain ⟨r, hr⟩ := h.rank
  have key : ∀ (m : Nat) (k : Nat) (x : Nd), r k = m → q.nodes[k]? = some x → x.2.2 = -1 := by
    intro m
    induction m using Nat.strongRecOn with
    | _ m ih =>
      intro k x hm hx
      refine Classical.byContradiction fun hu => ?_
      have hu2 := (h.ups k x hx).resolve_left hu
      obtain ⟨u, hue⟩ := Int.eq_ofNat_of_zero_le hu2.1
      have hlt := hr k x hx hu
      rw [hue, Int.toNat_natCast] at hlt
      have hul : u < q.nodes.length := by omega
      obtain ⟨y, hy⟩ : ∃ y, q.nodes[u]? = some y := ⟨_, List.getElem?_eq_getElem hul⟩
      have h7 : 0 < q.nodes.countP (child (u : Int)) := List.countP_pos_iff.2 ⟨x, List.mem_of_getElem? hx, by simp [child, hue]⟩
      have h8 := h.cnts u y hy
      have h9 : 1 ≤ cnt q u := by unfold cnt; omega
      by_cases hu0 : u = 0
      · subst hu0
        have := h0 y hy
        omega
      · have h10 := ih (r u) (by omega) u y rfl hy
        have := (h.off u y hy hu0 h10).2
        omega
  exact fun k x hx => key _ k x rfl hx
theorem decl_zero {q : TM} (h1 : 1 ≤ q.nodes.length) : declN q = true ↔ ∀ x, q.nodes[0]? = some x → x.2.1 = false ∧ x.1 = 0 := by
  have hx := List.getElem?_eq_getElem h1
  have hnd : nd q 0 = q.nodes[0] := by have := nd_of hx; exact this
  unfold declN
  rw [hnd]
  constructor
  · intro h x hx'
    rw [hx] at hx'
    cases hx'
    simpa using h
  · intro h
    have := h _ hx
    simpa using this
/-- declared: nobody is active, nothing is owed, nothing is on the way -/
theorem decl_all {q : TM} {M : Nat} (h : InvT q M) (hd : declN q = true) : (∀ (k : Nat) (x : Nd), q.nodes[k]? = some x → x.2.1 = false ∧ x.1 = 0) ∧ q.way = [] := by
  have h0 := (decl_zero h.len1).1 hd
  have hn := nohung h (fun x hx => (h0 x hx).2)
  have hall : ∀ (k : Nat) (x : Nd), q.nodes[k]? = some x → x.2.1 = false ∧ x.1 = 0 := fun k x hx => by
    by_cases hk : k = 0
    · subst hk
      exact h0 x hx
    · exact h.off k x hx hk (hn k x hx)
  refine ⟨hall, List.eq_nil_iff_forall_not_mem.2 fun s hs => ?_⟩
  have hsg := h.sgs s hs
  have key : ∀ i : Int, 0 ≤ i → i < (q.nodes.length : Int) → contrib i s = true → False := fun i h1 h2 h3 => by
    obtain ⟨k, rfl⟩ := Int.eq_ofNat_of_zero_le h1
    have hk : k < q.nodes.length := by omega
    have hx := List.getElem?_eq_getElem hk
    have h4 := h.cnts k _ hx
    have h5 := (hall k _ hx).2
    have h6 : 0 < q.way.countP (contrib (k : Int)) := List.countP_pos_iff.2 ⟨s, hs, h3⟩
    have : 1 ≤ cnt q k := by unfold cnt; omega
    omega
  cases hb : s.2.2 with
  | true => exact key s.2.1 hsg.2.1 hsg.2.2 (by simp [contrib, hb])
  | false => exact key s.1 hsg.1.1 hsg.1.2 (by simp [contrib, hb])
theorem idle_all {q : TM} (h : ∀ (k : Nat) (x : Nd), q.nodes[k]? = some x → x.2.1 = false) (n : Int) : activeN q n = false := by
  unfold activeN
  cases hi : isN q n with
  | false => rfl
  | true =>
    have hi' : 0 ≤ n ∧ n < q.nodes.length := by unfold isN at hi; simpa using hi
    obtain ⟨k, rfl⟩ := Int.eq_ofNat_of_zero_le hi'.1
    have hk : k < q.nodes.length := by omega
    have hx := List.getElem?_eq_getElem hk
    rw [nd_of hx, h k _ hx]
    rfl
theorem decl_stays {q : TM} {M : Nat} (h : InvT q M) (hd : declN q = true) (a : Actv) : declN (stepT q a) = true := by
  obtain ⟨h1, h2⟩ := decl_all h hd
  have hac : ∀ n, activeN q n = false := idle_all fun k x hx => (h1 k x hx).1
  have e1 : (sendN q a.node a.to).1 = q := by unfold sendN; rw [hac]; rfl
  have e2 : (idleN q a.node).1 = q := by unfold idleN; rw [hac]; rfl
  have e3 : (deliverN q a.node).1 = q := by
    unfold deliverN
    rw [h2, if_neg (by simp)]
  unfold stepT
  rw [e1, e2, e3]
  simp [hd]
/-- all idle, nothing on the way: declared -/
theorem ends_decl {q : TM} {M : Nat} (h : InvT q M) (hc : Calm q) (ha : ∀ (k : Nat) (x : Nd), q.nodes[k]? = some x → x.2.1 = false) (hw : q.way = []) : declN q = true := by
  obtain ⟨r, hr⟩ := h.rank
  have hno : ∀ (m : Nat) (k : Nat) (x : Nd), q.nodes[k]? = some x → x.2.2 ≠ -1 → m ≤ r k → False := by
    -- the ranks of those that hang are bounded
    have hbound : ∃ B, ∀ (k : Nat) (x : Nd), q.nodes[k]? = some x → r k ≤ B := by
      have : ∀ n, ∃ B, ∀ k, k < n → r k ≤ B := by
        intro n
        induction n with
        | zero => exact ⟨0, fun k hk => by omega⟩
        | succ n ih =>
          obtain ⟨B, hB⟩ := ih
          refine ⟨B + r n, fun k hk => ?_⟩
          by_cases hkn : k = n
          · subst hkn; omega
          · have := hB k (by omega); omega
      obtain ⟨B, hB⟩ := this q.nodes.length
      exact ⟨B, fun k x hx => hB k (lt_of_get hx)⟩
    obtain ⟨B, hB⟩ := hbound
    have hchild : ∀ (k : Nat) (x : Nd), q.nodes[k]? = some x → x.2.2 ≠ -1 → ∃ (j : Nat) (y : Nd), q.nodes[j]? = some y ∧ y.2.2 ≠ -1 ∧ r k < r j := by
      intro k x hx hu
      have h1 : x.1 ≠ 0 := fun h1 => by
        have := hc k x hx
        simp [stuck, hu, ha k x hx, h1] at this
      have h2 := h.cnts k x hx
      have h3 : 1 ≤ cnt q k := by omega
      unfold cnt at h3
      rw [hw] at h3
      simp only [List.countP_nil, Nat.zero_add] at h3
      obtain ⟨y, hy, hcy⟩ := List.countP_pos_iff.1 h3
      obtain ⟨j, hj, rfl⟩ := List.mem_iff_getElem.1 hy
      have hjx := List.getElem?_eq_getElem hj
      have hup : q.nodes[j].2.2 = (k : Int) := by simpa [child] using hcy
      have hne : q.nodes[j].2.2 ≠ -1 := by omega
      have := hr j _ hjx hne
      rw [hup, Int.toNat_natCast] at this
      exact ⟨j, _, hjx, hne, this⟩
    have : ∀ d (k : Nat) (x : Nd), B - r k ≤ d → q.nodes[k]? = some x → x.2.2 ≠ -1 → False := by
      intro d
      induction d with
      | zero =>
        intro k x hd hx hu
        obtain ⟨j, y, hy, _, hlt⟩ := hchild k x hx hu
        have := hB j y hy
        omega
      | succ d ih =>
        intro k x hd hx hu
        obtain ⟨j, y, hy, hyu, hlt⟩ := hchild k x hx hu
        have := hB j y hy
        exact ih j y (by omega) hy hyu
    intro m k x hx hu _
    exact this (B - r k) k x (Nat.le_refl _) hx hu
  rw [decl_zero h.len1]
  intro x hx
  refine ⟨ha 0 x hx, ?_⟩
  have h2 := h.cnts 0 x hx
  have h4 : q.nodes.countP (child (0 : Nat)) = 0 := List.countP_eq_zero.2 fun y hy hcy => by
    obtain ⟨j, hj, rfl⟩ := List.mem_iff_getElem.1 hy
    have hup : q.nodes[j].2.2 = (0 : Nat) := by simpa [child] using hcy
    exact hno 0 j _ (List.getElem?_eq_getElem hj) (by omega) (Nat.zero_le _)
  rw [h2]
  unfold cnt
  rw [hw, h4]
  rfl
end Go.Proofs.Ytiicmlhpcfhfeaa
