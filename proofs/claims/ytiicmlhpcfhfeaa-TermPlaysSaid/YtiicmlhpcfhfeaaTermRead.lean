/- Terms: what is read. -/
import Derived.Test.YtiicmlhpcfhfeaaRows
import Derived.WalkKit
import Derived.WalkSpells
import Derived.WalkLawsBesides
import Derived.RegionTactic
import Derived.ChangeAlike
import Derived.BigQuiet
import Derived.Deep.QuietTactic
import Derived.StillTailTactics
import Derived.IntWalk
import Derived.Handy
import Derived.Lib.Hide
import Derived.Deep.AppendLies
import Derived.Deep.RegionWith
import Derived.Test.YtiicmlhpcfhfeaaBase
import Derived.Test.YtiicmlhpcfhfeaaTail
import Derived.Test.YtiicmlhpcfhfeaaArgs
import Derived.Test.YtiicmlhpcfhfeaaAppend
import Derived.Deep.RegionLaw
import Derived.Test.YtiicmlhpcfhfeaaOffs
import Derived.Test.YtiicmlhpcfhfeaaStructs
import Derived.Test.YtiicmlhpcfhfeaaSplit
import Derived.Test.YtiicmlhpcfhfeaaTermObj
namespace Go.Proofs.Ytiicmlhpcfhfeaa
open Go.RowKit
def Same' (v : Value) (w : World) (e : Ending) (w' : World) : Prop := e = .returned v ∧ w = w'
set_option maxHeartbeats 1000000 in
theorem is_spec {w : World} {B p : Nat} {F : List Nat} {q : TM} (n : Int) (h : TermAt w B p F q) : Calls Try.prog 23 #[.pointer (some ⟨p, 0, none⟩), .int .i64 n] w (Same' (.bool (isN q n)) w) := by
  obtain ⟨vn, vw, h, rfl⟩ := h
  obtain ⟨a, c, rfl⟩ := h.nodes.shape
  have c0 : w.cell? ⟨p, 0, none⟩ = some (.slice a q.nodes.length c) := h.head.cell 0
  by_cases h0 : n < 0
  · rw [show isN q n = false by unfold isN; simp; omega]
    go_enter Try.func23, Try.ntmps23
    go_wp2
    go_ret
    exact ⟨rfl, rfl⟩
  · by_cases h1 : n < (q.nodes.length : Int)
    · rw [show isN q n = true by unfold isN; simp; omega]
      go_enter Try.func23, Try.ntmps23
      go_wp2
      go_ret
      exact ⟨rfl, rfl⟩
    · rw [show isN q n = false by unfold isN; simp; omega]
      go_enter Try.func23, Try.ntmps23
      go_wp2
      go_ret
      exact ⟨rfl, rfl⟩
/-- there is such a node: where it lies -/
theorem TermIn.at_ {w : World} {B p : Nat} {vn vw : Value} {q : TM} {n : Int} (h : TermIn w B p vn vw q) (hi : isN q n = true) : ∃ (k : Nat) (x : Nd) (g off c : Nat), n = k ∧ k < q.nodes.length ∧ q.nodes[k]? = some x ∧ nd q n = x ∧ vn = .slice (some ⟨g, off, none⟩) q.nodes.length c ∧ g < w.heap.size ∧ (w.cell? ⟨g, off + k * 3, none⟩ = some (.int .i64 x.1)) ∧ (w.cell? ⟨g, off + k * 3 + 1, none⟩ = some (.bool x.2.1)) ∧ (w.cell? ⟨g, off + k * 3 + 2, none⟩ = some (.int .i64 x.2.2)) ∧ (∀ j, w.frozen? ⟨g, j, none⟩ = false) ∧ q.nodes.length ≤ c := by
  have hi' : 0 ≤ n ∧ n < q.nodes.length := by unfold isN at hi; simpa using hi
  obtain ⟨k, rfl⟩ := Int.eq_ofNat_of_zero_le hi'.1
  have hk : k < q.nodes.length := by omega
  obtain ⟨a, c, rfl⟩ := h.nodes.shape
  have hx := List.getElem?_eq_getElem hk
  obtain ⟨g, off, rfl, h1, h2, hc, h3, h4⟩ := h.nodes.rowAt ndC_len hx hk
  exact ⟨k, _, g, off, c, rfl, hk, hx, nd_of hx, rfl, h2, hc 0 _ (by omega) rfl, hc 1 _ (by omega) rfl, hc 2 _ (by omega) rfl, h4, h3⟩
set_option maxHeartbeats 1000000 in
theorem active_spec {w : World} {B p : Nat} {F : List Nat} {q : TM} (n : Int) (h : TermAt w B p F q) : Calls Try.prog 15 #[.pointer (some ⟨p, 0, none⟩), .int .i64 n] w (Same' (.bool (activeN q n)) w) := by
  have his := is_spec n h
  obtain ⟨vn, vw, h, rfl⟩ := h
  cases hi : isN q n with
  | false =>
    rw [hi] at his
    rw [show activeN q n = false by unfold activeN; rw [hi]; rfl]
    have His := Lib.hid his
    clear his hi h
    go_enter Try.func15, Try.ntmps15
    go_wp2_with fail
    refine His.out.mono ?_
    rintro e w1 ⟨rfl, rfl⟩
    go_wp2
    go_ret
    exact ⟨rfl, rfl⟩
  | true =>
    rw [hi] at his
    obtain ⟨k, x, g, off, c, rfl, hk, hx, hnd, rfl, hg, e0, e1, e2, hf, hcap⟩ := h.at_ hi
    rw [show activeN q k = x.2.1 by unfold activeN; rw [hi, hnd]; rfl]
    have c0 : w.cell? ⟨p, 0, none⟩ = some (.slice (some ⟨g, off, none⟩) q.nodes.length c) := h.head.cell 0
    have hk2 : (k : Int) < (q.nodes.length : Int) := by omega
    have His := Lib.hid his
    clear his hi h hx hnd hf
    go_enter Try.func15, Try.ntmps15
    go_wp2_with fail
    refine His.out.mono ?_
    rintro e w1 ⟨rfl, rfl⟩
    go_wp2
    go_ret
    exact ⟨rfl, rfl⟩
set_option maxHeartbeats 1000000 in
theorem owes_spec {w : World} {B p : Nat} {F : List Nat} {q : TM} (n : Int) (h : TermAt w B p F q) : Calls Try.prog 16 #[.pointer (some ⟨p, 0, none⟩), .int .i64 n] w (Same' (.int .i64 (owesN q n)) w) := by
  have his := is_spec n h
  obtain ⟨vn, vw, h, rfl⟩ := h
  cases hi : isN q n with
  | false =>
    rw [hi] at his
    rw [show owesN q n = 0 by unfold owesN; rw [hi]; rfl]
    have His := Lib.hid his
    clear his hi h
    go_enter Try.func16, Try.ntmps16
    go_wp2_with fail
    refine His.out.mono ?_
    rintro e w1 ⟨rfl, rfl⟩
    go_wp2
    go_ret
    exact ⟨rfl, rfl⟩
  | true =>
    rw [hi] at his
    obtain ⟨k, x, g, off, c, rfl, hk, hx, hnd, rfl, hg, e0, e1, e2, hf, hcap⟩ := h.at_ hi
    rw [show owesN q k = x.1 by unfold owesN; rw [hi, hnd]; rfl]
    have c0 : w.cell? ⟨p, 0, none⟩ = some (.slice (some ⟨g, off, none⟩) q.nodes.length c) := h.head.cell 0
    have hk2 : (k : Int) < (q.nodes.length : Int) := by omega
    have His := Lib.hid his
    clear his hi h hx hnd hf
    go_enter Try.func16, Try.ntmps16
    go_wp2_with fail
    refine His.out.mono ?_
    rintro e w1 ⟨rfl, rfl⟩
    go_wp2
    go_ret
    exact ⟨rfl, rfl⟩
set_option maxHeartbeats 1000000 in
theorem up_spec {w : World} {B p : Nat} {F : List Nat} {q : TM} (n : Int) (h : TermAt w B p F q) : Calls Try.prog 17 #[.pointer (some ⟨p, 0, none⟩), .int .i64 n] w (Same' (.int .i64 (upN q n)) w) := by
  have his := is_spec n h
  obtain ⟨vn, vw, h, rfl⟩ := h
  cases hi : isN q n with
  | false =>
    rw [hi] at his
    rw [show upN q n = -1 by unfold upN; rw [hi]; rfl]
    have His := Lib.hid his
    clear his hi h
    go_enter Try.func17, Try.ntmps17
    go_wp2_with fail
    refine His.out.mono ?_
    rintro e w1 ⟨rfl, rfl⟩
    go_wp2
    go_ret
    exact ⟨rfl, rfl⟩
  | true =>
    rw [hi] at his
    obtain ⟨k, x, g, off, c, rfl, hk, hx, hnd, rfl, hg, e0, e1, e2, hf, hcap⟩ := h.at_ hi
    rw [show upN q k = x.2.2 by unfold upN; rw [hi, hnd]; rfl]
    have c0 : w.cell? ⟨p, 0, none⟩ = some (.slice (some ⟨g, off, none⟩) q.nodes.length c) := h.head.cell 0
    have hk2 : (k : Int) < (q.nodes.length : Int) := by omega
    have His := Lib.hid his
    clear his hi h hx hnd hf
    go_enter Try.func17, Try.ntmps17
    go_wp2_with fail
    refine His.out.mono ?_
    rintro e w1 ⟨rfl, rfl⟩
    go_wp2
    go_ret
    exact ⟨rfl, rfl⟩
theorem free_spec {w : World} {a : Addr} {n : Int} (h : w.cell? a = some (.int .i64 n)) : Calls Try.prog 28 #[.pointer (some a)] w (Same' (.bool (n == 0)) w) := by
  obtain ⟨b, o, s⟩ := a
  obtain rfl : s = none := World.cell?_spot h
  cases hb : (n == 0) with
  | true =>
    have : n = 0 := by simpa using hb
    subst this
    go_enter Try.func28, Try.ntmps28
    go_wp2
    go_ret
    exact ⟨rfl, rfl⟩
  | false =>
    have : n ≠ 0 := by simpa using hb
    go_enter Try.func28, Try.ntmps28
    go_wp2
    go_ret
    exact ⟨by simp [hb], rfl⟩
theorem debt_spec {w : World} {g o : Nat} {n d : Int} (h : w.cell? ⟨g, o, none⟩ = some (.int .i64 n)) (hf : w.frozen? ⟨g, o, none⟩ = false) (hb : -1000000000000 ≤ n ∧ n ≤ 1000000000000) (hd : -10 ≤ d ∧ d ≤ 10) :
    Calls Try.prog 24 #[.pointer (some ⟨g, o, none⟩), .int .i64 d] w fun e w' => e = .returned (.tuple #[]) ∧ w' = w.setCell ⟨g, o, none⟩ (.int .i64 (n + d)) := by
  have hw : IntKind.i64.wrap (n + d) = n + d := IntWalk.i64_in _ (by omega)
  go_enter Try.func24, Try.ntmps24
  go_wp2
  go_end0
  exact ⟨rfl, rfl⟩
set_option maxHeartbeats 1000000 in
set_option maxRecDepth 100000 in
theorem decl_spec {w : World} {B p : Nat} {F : List Nat} {q : TM} (h : TermAt w B p F q) (h0 : 0 < q.nodes.length) : Calls Try.prog 14 #[.pointer (some ⟨p, 0, none⟩)] w (Same' (.bool (declN q)) w) := by
  obtain ⟨vn, vw, h, rfl⟩ := h
  have hi : isN q 0 = true := by unfold isN; simp; omega
  obtain ⟨k, x, g, off, c, hk0, hk, hx, hnd, rfl, hg, e0, e1, e2, hf, hcap⟩ := h.at_ hi
  obtain rfl : k = 0 := by omega
  have c0 : w.cell? ⟨p, 0, none⟩ = some (.slice (some ⟨g, off, none⟩) q.nodes.length c) := h.head.cell 0
  rw [show declN q = (!x.2.1 && (x.1 == 0)) by unfold declN; rw [hnd]]
  simp only [Nat.zero_mul, Nat.add_zero] at e0 e1 e2
  have hfree := free_spec e0
  have Hf := Lib.hid hfree
  have hk2 : (0 : Int) < (q.nodes.length : Int) := by omega
  obtain ⟨n, a, u⟩ := x
  simp only at e0 e1 e2 Hf
  clear hfree hi h hx hnd hf hk0 h0 hk
  cases a with
  | true =>
    go_enter Try.func14, Try.ntmps14
    go_wp2
    go_ret
    exact ⟨rfl, rfl⟩
  | false =>
    go_enter Try.func14, Try.ntmps14
    go_wp2_with fail
    refine Hf.out.mono ?_
    rintro e w1 ⟨rfl, rfl⟩
    go_wp2
    go_ret
    exact ⟨by simp, rfl⟩
end Go.Proofs.Ytiicmlhpcfhfeaa
