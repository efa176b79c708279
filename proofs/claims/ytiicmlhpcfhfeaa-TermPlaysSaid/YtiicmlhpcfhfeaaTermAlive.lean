/- Terms that a law made: the calls, alive. -/
import Derived.Test.YtiicmlhpcfhfeaaRows
import Derived.WalkKit
import Derived.WalkSpells
import Derived.WalkLawsBesides
import Derived.RegionTactic
import Derived.ChangeAlike
import Derived.BigQuiet
import Derived.Deep.QuietTactic
import Derived.StillTailTactics
import Derived.IntWalk
import Derived.Handy
import Derived.Lib.Hide
import Derived.Deep.AppendLies
import Derived.Deep.RegionWith
import Derived.Test.YtiicmlhpcfhfeaaBase
import Derived.Test.YtiicmlhpcfhfeaaTail
import Derived.Test.YtiicmlhpcfhfeaaArgs
import Derived.Test.YtiicmlhpcfhfeaaAppend
import Derived.Deep.RegionLaw
import Derived.Test.YtiicmlhpcfhfeaaOffs
import Derived.Test.YtiicmlhpcfhfeaaStructs
import Derived.Test.YtiicmlhpcfhfeaaSplit
import Derived.Test.YtiicmlhpcfhfeaaTermObj
import Derived.Test.YtiicmlhpcfhfeaaTermRead
import Derived.Test.YtiicmlhpcfhfeaaTermSettle
import Derived.Test.YtiicmlhpcfhfeaaTermSettle2
import Derived.Test.YtiicmlhpcfhfeaaTermDel
import Derived.Test.YtiicmlhpcfhfeaaTermSend
import Derived.Test.YtiicmlhpcfhfeaaTermDeliver
import Derived.Test.YtiicmlhpcfhfeaaTermNew2
namespace Go.Proofs.Ytiicmlhpcfhfeaa
open Go.RowKit
/-- what the calls ask of a term -/
structure OkT (q : TM) : Prop where
  l1 : 1 ≤ q.nodes.length
  l2 : q.nodes.length ≤ 16
  n_ : ∀ x ∈ q.nodes, -1000000 ≤ x.1 ∧ x.1 ≤ 1000000
  w_ : q.way.length ≤ 1000000
  f_ : ∀ s ∈ q.way, 0 ≤ s.2.1 ∧ s.2.1 < (q.nodes.length : Int)
def okB (q : TM) : Bool := decide (1 ≤ q.nodes.length) && decide (q.nodes.length ≤ 16) && q.nodes.all (fun x => decide (-1000000 ≤ x.1) && decide (x.1 ≤ 1000000)) && decide (q.way.length ≤ 1000000) && q.way.all (fun s => decide (0 ≤ s.2.1) && decide (s.2.1 < (q.nodes.length : Int)))
theorem OkT.of {q : TM} (h : okB q = true) : OkT q := by
  unfold okB at h
  simp only [Bool.and_eq_true, decide_eq_true_eq, List.all_eq_true] at h
  exact ⟨h.1.1.1.1, h.1.1.1.2, h.1.1.2, h.1.2, h.2⟩
/-- a call of the owner: the answer, the term's new state; nothing of the outer world turned -/
def TRun (B p : Nat) (w0 : World) (v : Value) (q' : TM) (e : Ending) (w' : World) : Prop :=
  e = .returned v ∧ ∃ F', TermAt w' B p F' q' ∧ Keep [] w0 w' ∧ (∀ x ∈ F', w0.heap.size ≤ x) ∧ B ≤ w'.heap.size
/-- a term that the law made -/
def TLive (B p : Nat) (w0 w : World) (q : TM) : Prop := ∃ F, TermAt w B p F q ∧ Keep [] w0 w ∧ (∀ x ∈ F, w0.heap.size ≤ x) ∧ B ≤ w.heap.size
theorem TPost.run {B p : Nat} {F : List Nat} {w0 w : World} {v : Value} {q' : TM} {e : Ending} {w' : World} (h : TPost B p F w v q' e w') (k : Keep [] w0 w) (f : ∀ x ∈ F, w0.heap.size ≤ x) (b : B ≤ w.heap.size) : e = .returned v ∧ TLive B p w0 w' q' := by
  obtain ⟨rfl, F', h1, h2, h3⟩ := h
  have := reach_trans k (fun x hx => Or.inr (f x hx)) h2 h3
  refine ⟨rfl, F', h1, this.1, fun x hx => ?_, by have := h2.size; omega⟩
  rcases this.2 x hx with h | h
  · cases h
  · exact h
section
variable {B p : Nat} {w0 w : World} {q : TM}
theorem TLive.keep0 {w' : World} (h : TLive B p w0 w q) (k : Keep [] w w') : TLive B p w0 w' q := by
  obtain ⟨F, h1, h2, h3, h4⟩ := h
  exact ⟨F, h1.keep k (by simp), h2.trans k (by simp), h3, by have := k.size; omega⟩
theorem TLive.out (h : TLive B p w0 w q) : Keep [] w0 w := by obtain ⟨F, _, h, _⟩ := h; exact h
theorem live_new (w : World) (n : Int) (w0 : World) (k : Keep [] w0 w) : Calls Try.prog 9 #[.int .i64 n] w fun e w' => ∃ p, e = .returned (.pointer (some ⟨p, 0, none⟩)) ∧ TLive w.heap.size p w0 w' (newN n) := by
  refine (new_spec w n).mono ?_
  rintro e w' ⟨p, F, rfl, h1, h2⟩
  exact ⟨p, rfl, F, h1, k.trans h2 (by simp), fun x hx => by have := (h1.lt x hx).1; have := k.size; omega, h2.size⟩
theorem live_idle (n : Int) (h : TLive B p w0 w q) (ok : OkT q) : Calls Try.prog 11 #[.pointer (some ⟨p, 0, none⟩), .int .i64 n] w fun e w' => e = .returned (.bool (idleN q n).2) ∧ TLive B p w0 w' (idleN q n).1 := by
  obtain ⟨F, h1, h2, h3, h4⟩ := h
  exact (idle_spec n h1 h4 (by have := ok.l2; omega) (by have := ok.w_; omega)).mono fun _ _ hp => hp.run h2 h3 h4
theorem live_deliver (n : Int) (h : TLive B p w0 w q) (ok : OkT q) : Calls Try.prog 12 #[.pointer (some ⟨p, 0, none⟩), .int .i64 n] w fun e w' => e = .returned (.bool (deliverN q n).2) ∧ TLive B p w0 w' (deliverN q n).1 := by
  obtain ⟨F, h1, h2, h3, h4⟩ := h
  exact (deliver_spec n h1 h4 (by have := ok.l2; omega) (by have := ok.w_; omega) (fun x hx => by have := ok.n_ x hx; omega) ok.f_).mono fun _ _ hp => hp.run h2 h3 h4
theorem live_send {v : Value} {to : List Int} (n : Int) (h : TLive B p w0 w q) (ok : OkT q) (hv : ∀ w', Keep [] w0 w' → w.heap.size ≤ w'.heap.size → (∀ x, x < w.heap.size → w0.heap.size ≤ x → (∀ F, TermAt w B p F q → x ∉ F) → w'.heap[x]? = w.heap[x]?) → IntsOf w' v to) (hl : to.length ≤ 1000000) : Calls Try.prog 10 #[.pointer (some ⟨p, 0, none⟩), .int .i64 n, v] w fun e w' => e = .returned (.int .i64 (sendN q n to).2) ∧ TLive B p w0 w' (sendN q n to).1 := by
  obtain ⟨F, h1, h2, h3, h4⟩ := h
  exact (send_spec n h1 h4 (fun w' hk => hv w' (h2.trans hk (fun x hx => Or.inr (h3 x hx))) hk.size (fun x hx h0 hF => hk.block x hx (hF F h1))) (by have := ok.l2; omega) (by have := ok.w_; omega) (fun x hx => by have := ok.n_ x hx; omega)).mono fun _ _ hp => hp.run h2 h3 h4
/-- .. a slice that was handed in -/
theorem live_send_in {v : Value} {to : List Int} (n : Int) (h : TLive B p w0 w q) (ok : OkT q) (hv : IntsOf w0 v to) (hl : to.length ≤ 1000000) : Calls Try.prog 10 #[.pointer (some ⟨p, 0, none⟩), .int .i64 n, v] w fun e w' => e = .returned (.int .i64 (sendN q n to).2) ∧ TLive B p w0 w' (sendN q n to).1 :=
  live_send n h ok (fun w' hk _ _ => hv.keep0 hk) hl
/-- .. a slice of one's own, just made or elsewhere -/
theorem live_send_lit {g c : Nat} {to : List Int} (n : Int) (h : TLive B p w0 w q) (ok : OkT q) (hb : Blk w g 3 (to.map (.int .i64))) (hg : w0.heap.size ≤ g) (hl : to.length ≤ 1000000) : Calls Try.prog 10 #[.pointer (some ⟨p, 0, none⟩), .int .i64 n, .slice (some ⟨g, 0, none⟩) to.length c] w fun e w' => e = .returned (.int .i64 (sendN q n to).2) ∧ TLive B p w0 w' (sendN q n to).1 := by
  refine live_send n h ok (fun w' hk hs hx => ?_) hl
  have hb' : Blk w' g 3 (to.map (.int .i64)) := by
    unfold Blk at hb ⊢
    rw [hx g (Blk.lt hb) hg (fun F hF hm => ?_)]
    · exact hb
    · obtain ⟨vn, vw, h1, rfl⟩ := hF
      simp only [termFoot, List.mem_cons, List.mem_append] at hm
      rcases hm with rfl | hm | hm
      · exact Blk.ne_ hb h1.head (by decide) rfl
      · exact OwnsAt.ne_blk h1.nodes hb (by decide) (mem_own.1 hm)
      · exact OwnsAt.ne_blk h1.way hb (by decide) (mem_own.1 hm)
  refine ⟨_, _, rfl, fun _ => ⟨g, 0, rfl, hb'.lt, fun k x hk => ?_⟩⟩
  rw [hb'.cell, Nat.zero_add, List.getElem?_map, hk]
  rfl
theorem live_way (h : TLive B p w0 w q) (ok : OkT q) : Calls Try.prog 13 #[.pointer (some ⟨p, 0, none⟩)] w fun e w' => ∃ v, e = .returned v ∧ OwnsAt w' w.heap.size 44 3 v q.way.length (q.way.flatMap sgC) ∧ TLive B p w0 w' q := by
  have h' := h
  obtain ⟨F, h1, h2, h3, h4⟩ := h
  refine (way_spec h1 (by have := ok.w_; omega)).mono ?_
  rintro e w' ⟨v, rfl, h5, h6⟩
  exact ⟨v, rfl, h5, h'.keep0 h6⟩
theorem live_decl (h : TLive B p w0 w q) (ok : OkT q) : Calls Try.prog 14 #[.pointer (some ⟨p, 0, none⟩)] w (Same' (.bool (declN q)) w) := by
  obtain ⟨F, h1, _⟩ := h
  exact decl_spec h1 (by have := ok.l1; omega)
theorem live_active (n : Int) (h : TLive B p w0 w q) : Calls Try.prog 15 #[.pointer (some ⟨p, 0, none⟩), .int .i64 n] w (Same' (.bool (activeN q n)) w) := by
  obtain ⟨F, h1, _⟩ := h
  exact active_spec n h1
theorem live_owes (n : Int) (h : TLive B p w0 w q) : Calls Try.prog 16 #[.pointer (some ⟨p, 0, none⟩), .int .i64 n] w (Same' (.int .i64 (owesN q n)) w) := by
  obtain ⟨F, h1, _⟩ := h
  exact owes_spec n h1
theorem live_up (n : Int) (h : TLive B p w0 w q) : Calls Try.prog 17 #[.pointer (some ⟨p, 0, none⟩), .int .i64 n] w (Same' (.int .i64 (upN q n)) w) := by
  obtain ⟨F, h1, _⟩ := h
  exact up_spec n h1
end
set_option maxHeartbeats 4000000 in
theorem alive_spec (w : World) : Calls Try.prog 8 #[] w fun e w' => e = .returned (.bool true) ∧ Keep [] w w' := by
  go_enter Try.func8, Try.ntmps8
  go_wp2_with fail
  refine (live_new w 2 w (Keep.refl _ _)).mono ?_
  rintro e w1 ⟨p, rfl, h1⟩
  have hA := Blk.new' w1 3 #[.int .i64 1] [.int .i64 1] rfl
  have h2 := h1.keep0 ((Keep.refl [] w1).alloc (.cells #[.int .i64 1] 3))
  have hs := Lib.hid (live_send_lit (to := [1]) (c := 1) 0 h2 (OkT.of (by decide)) hA h1.out.size (by simp))
  clear hA h2
  go_wp2_with fail
  refine hs.out.mono ?_
  rintro e w2 ⟨rfl, h3⟩
  have hi := Lib.hid (live_idle 0 h3 (OkT.of (by decide)))
  go_wp2_with fail
  refine hi.out.mono ?_
  rintro e w3 ⟨rfl, h4⟩
  have hd := Lib.hid (live_decl h4 (OkT.of (by decide)))
  go_wp2_with fail
  refine hd.out.mono ?_
  rintro e w4 ⟨rfl, rfl⟩
  have hd := Lib.hid (live_deliver 0 h4 (OkT.of (by decide)))
  go_wp2_with fail
  refine hd.out.mono ?_
  rintro e w5 ⟨rfl, h5⟩
  have hi := Lib.hid (live_idle 1 h5 (OkT.of (by decide)))
  go_wp2_with fail
  refine hi.out.mono ?_
  rintro e w6 ⟨rfl, h6⟩
  have hd := Lib.hid (live_deliver 0 h6 (OkT.of (by decide)))
  go_wp2_with fail
  refine hd.out.mono ?_
  rintro e w7 ⟨rfl, h7⟩
  have hd := Lib.hid (live_decl h7 (OkT.of (by decide)))
  have e1 : declN (idleN (sendN (newN 2) 0 [1]).1 0).1 = false := by decide
  have e2 : declN (deliverN (idleN (deliverN (idleN (sendN (newN 2) 0 [1]).1 0).1 0).1 1).1 0).1 = true := by decide
  have k := h7.out
  rw [e2] at hd
  clear h7 h6 h5 h4 h3 h1
  go_wp2_with fail
  refine hd.out.mono ?_
  rintro e w8 ⟨rfl, rfl⟩
  go_wp2
  go_ret
  exact ⟨rfl, k⟩
end Go.Proofs.Ytiicmlhpcfhfeaa
