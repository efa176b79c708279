/- Links that a law made: the calls, alive. -/
import Derived.Test.YtacifjjhadjhfaaRows
import Derived.WalkKit
import Derived.WalkSpells
import Derived.WalkLawsBesides
import Derived.RegionTactic
import Derived.ChangeAlike
import Derived.BigQuiet
import Derived.Deep.QuietTactic
import Derived.StillTailTactics
import Derived.IntWalk
import Derived.Handy
import Derived.Lib.Hide
import Derived.Deep.AppendLies
import Derived.Deep.RegionWith
import Derived.Test.YtacifjjhadjhfaaBase
import Derived.Test.YtacifjjhadjhfaaTail
import Derived.Test.YtacifjjhadjhfaaArgs
import Derived.Test.YtacifjjhadjhfaaAppend
import Derived.Deep.RegionLaw
import Derived.Test.YtacifjjhadjhfaaOffs
import Derived.Test.YtacifjjhadjhfaaStructs
import Derived.Test.YtacifjjhadjhfaaSplit
import Derived.Maps.OwnSet
import Derived.Maps.Views
import Derived.Test.YtacifjjhadjhfaaLinkBytes
import Derived.Test.YtacifjjhadjhfaaLinkObj
import Derived.Test.YtacifjjhadjhfaaLinkSend
import Derived.Test.YtacifjjhadjhfaaLinkDue
import Derived.Test.YtacifjjhadjhfaaLinkFrame
import Derived.Test.YtacifjjhadjhfaaLinkOut
import Derived.Test.YtacifjjhadjhfaaLinkOut2
import Derived.Test.YtacifjjhadjhfaaLinkOne
namespace Go.Proofs.Ytacifjjhadjhfaa
open Go.RowKit
def Same' (v : Value) (w : World) (e : Ending) (w' : World) : Prop := e = .returned v ∧ w = w'
theorem open_spec {w : World} {B p : Nat} {F : List Nat} {q : LK} (h : LinkAt w B p F q) : Calls Try.prog 13 #[.pointer (some ⟨p, 0, none⟩)] w (Same' (.int .i64 q.open_.length) w) := by
  obtain ⟨vo, mb, h, rfl⟩ := h
  obtain ⟨ao, co, rfl⟩ := h.rows.shape
  have c2 : w.cell? ⟨p, 2, none⟩ = some (.slice ao q.open_.length co) := h.head.cell 2
  clear h
  go_enter Try.func13, Try.ntmps13
  go_wp2
  go_ret
  exact ⟨rfl, rfl⟩
theorem seq_spec {w : World} {B p : Nat} {F : List Nat} {q : LK} (h : LinkAt w B p F q) : Calls Try.prog 25 #[.pointer (some ⟨p, 0, none⟩)] w (Same' (.int .i64 q.seq) w) := by
  obtain ⟨vo, mb, h, rfl⟩ := h
  have c1 : w.cell? ⟨p, 1, none⟩ = some (.int .i64 q.seq) := h.head.cell 1
  clear h
  go_enter Try.func25, Try.ntmps25
  go_wp2
  go_ret
  exact ⟨rfl, rfl⟩
theorem num_spec (w : World) (n : Int) (hn : 0 ≤ n ∧ n ≤ 1000) : Calls Try.prog 19 #[.int .i64 n] w (Same' (.int .i64 n) w) := by
  have hw : IntKind.i64.wrap n = n := IntWalk.i64_in _ (by omega)
  go_enter Try.func19, Try.ntmps19
  go_wp2
  go_ret
  exact ⟨rfl, rfl⟩
/-- what the calls ask of a link -/
structure OkL (q : LK) : Prop where
  seq : 0 ≤ q.seq
  last : q.last ≤ 9223372036854775807
  len : q.open_.length ≤ 100
  lds : ∀ s ∈ q.open_, (0 ≤ s.times ∧ s.times ≤ 100000000) ∧ (-9223372036854775808 ≤ s.at_ ∧ s.at_ ≤ 9223372036854775807) ∧ s.bs.length ≤ 1000000
def LLive (B p : Nat) (w0 w : World) (q : LK) : Prop := ∃ F, LinkAt w B p F q ∧ Keep [] w0 w ∧ (∀ x ∈ F, w0.heap.size ≤ x) ∧ B ≤ w.heap.size
theorem LPost.run {B p : Nat} {F : List Nat} {w0 w : World} {v : Value} {q' : LK} {e : Ending} {w' : World} (h : LPost B p F w v q' e w') (k : Keep [] w0 w) (f : ∀ x ∈ F, w0.heap.size ≤ x) (b : B ≤ w.heap.size) : e = .returned v ∧ LLive B p w0 w' q' := by
  obtain ⟨rfl, F', h1, h2, h3⟩ := h
  have := reach_trans k (fun x hx => Or.inr (f x hx)) h2 h3
  refine ⟨rfl, F', h1, this.1, fun x hx => ?_, by have := h2.size; omega⟩
  rcases this.2 x hx with h | h
  · cases h
  · exact h
section
variable {B p : Nat} {w0 w : World} {q : LK}
theorem LLive.keep0 {w' : World} (h : LLive B p w0 w q) (k : Keep [] w w') : LLive B p w0 w' q := by
  obtain ⟨F, h1, h2, h3, h4⟩ := h
  exact ⟨F, h1.keep k (by simp), h2.trans k (by simp), h3, by have := k.size; omega⟩
theorem LLive.out (h : LLive B p w0 w q) : Keep [] w0 w := by obtain ⟨F, _, h, _⟩ := h; exact h
theorem live_new (w : World) (self peer life theirs last : Int) (w0 : World) (k : Keep [] w0 w) : Calls Try.prog 10 #[.int .i64 self, .int .i64 peer, .int .i64 life, .int .i64 theirs, .int .i64 last] w fun e w' => ∃ p, e = .returned (.pointer (some ⟨p, 0, none⟩)) ∧ LLive w.heap.size p w0 w' (newL self peer life theirs last) := by
  refine (new_spec w self peer life theirs last).mono ?_
  rintro e w' ⟨p, F, rfl, h1, h2⟩
  exact ⟨p, rfl, F, h1, k.trans h2 (by simp), fun x hx => by have := (h1.lt x hx).1; have := k.size; omega, h2.size⟩
/-- Send of bytes that lie in a block just made, or elsewhere -/
theorem live_send {bs : List UInt8} {v : Value} (h : LLive B p w0 w q) (ok : OkL q) (hv : ∀ F, LinkAt w B p F q → ∀ w', Keep [] w0 w' → Keep F w w' → BytesOf w' v bs) (hb : bs.length ≤ 4096) (hs : q.seq < q.last) (hl : q.open_.length < 8) :
    Calls Try.prog 11 #[.pointer (some ⟨p, 0, none⟩), v] w fun e w' => e = .returned (.int .i64 0) ∧ ∃ bv, LLive B p w0 w' { q with seq := q.seq + 1, open_ := q.open_ ++ [⟨q.seq + 1, 0, 0, bs, bv⟩] } := by
  obtain ⟨F, h1, h2, h3, h4⟩ := h
  refine (send_spec h1 h4 (fun w' hk => hv F h1 w' (h2.trans hk (fun x hx => Or.inr (h3 x hx))) hk) (by omega) ok.seq ok.last).mono fun e w' hp => ?_
  unfold SendPost at hp
  rw [if_neg (by omega), if_neg (by omega), if_neg (by omega)] at hp
  obtain ⟨bv, hp⟩ := hp
  have := hp.run h2 h3 h4
  exact ⟨this.1, bv, this.2⟩
/-- .. a byte just made -/
theorem live_send_new (x : UInt8) (h : LLive B p w0 w q) (ok : OkL q) (hs : q.seq < q.last) (hl : q.open_.length < 8) :
    Calls Try.prog 11 #[.pointer (some ⟨p, 0, none⟩), .slice (some ⟨w.heap.size, 0, none⟩) 1 1] (oneByte w (u8 x)) fun e w' => e = .returned (.int .i64 0) ∧ ∃ bv, LLive B p w0 w' { q with seq := q.seq + 1, open_ := q.open_ ++ [⟨q.seq + 1, 0, 0, [x], bv⟩] } := by
  have hF : ∀ F, LinkAt (oneByte w (u8 x)) B p F q → w.heap.size ∉ F := by
    intro F hF hm
    obtain ⟨F0, h1, _⟩ := h
    have h1' := h1.keep (oneByte_keep w (u8 x)) (by simp)
    obtain ⟨vo, mb, h2, rfl⟩ := hF
    obtain ⟨vo', mb', h3, rfl⟩ := h1'
    have e1 : vo = vo' ∧ mb = mb' := by
      have c1 : (oneByte w (u8 x)).cell? ⟨p, 2, none⟩ = some vo := h2.head.cell 2
      have c2 : (oneByte w (u8 x)).cell? ⟨p, 2, none⟩ = some vo' := h3.head.cell 2
      have c3 : (oneByte w (u8 x)).cell? ⟨p, 4, none⟩ = some (.map (some mb)) := h2.head.cell 4
      have c4 : (oneByte w (u8 x)).cell? ⟨p, 4, none⟩ = some (.map (some mb')) := h3.head.cell 4
      rw [c1] at c2
      rw [c3] at c4
      cases c2
      cases c4
      exact ⟨rfl, rfl⟩
    obtain ⟨rfl, rfl⟩ := e1
    have := (h1.lt _ hm).2
    omega
  refine live_send (h.keep0 (oneByte_keep w (u8 x))) ok (fun F hF' w' _ hk => ?_) (by simp) hs hl
  exact oneByte_bytes ((hk.block w.heap.size (by rw [oneByte_size]; omega) (hF F hF')).trans (oneByte_new w (u8 x)))
theorem live_out (now : Int) (h : LLive B p w0 w q) (ok : OkL q) (hn : -9223372036854775808 ≤ now ∧ now ≤ 9223372036854775807) : Calls Try.prog 12 #[.pointer (some ⟨p, 0, none⟩), .int .i64 now] w fun e w' => ∃ v fs, e = .returned v ∧ fs.map frd = outF q now ∧ FramesIn w' w.heap.size v fs ∧ LLive B p w0 w' (outL q now) := by
  obtain ⟨F, h1, h2, h3, h4⟩ := h
  refine (out_spec now h1 h4 ok.len ok.lds hn).mono ?_
  rintro e w' ⟨v, fs, he, hfd, hfs, hl, hk⟩
  exact ⟨v, fs, he, hfd, hfs, F, hl, h2.trans hk (fun x hx => Or.inr (h3 x hx)), h3, by have := hk.size; omega⟩
/-- .. how many frames alone -/
theorem live_out_len {n : Nat} (now : Int) (h : LLive B p w0 w q) (ok : OkL q) (hn : -9223372036854775808 ≤ now ∧ now ≤ 9223372036854775807) (hl : (outF q now).length = n) : Calls Try.prog 12 #[.pointer (some ⟨p, 0, none⟩), .int .i64 now] w fun e w' => ∃ a c, e = .returned (.slice a n c) ∧ LLive B p w0 w' (outL q now) := by
  refine (live_out now h ok hn).mono ?_
  rintro e w' ⟨v, fs, he, hfd, hfs, hL⟩
  obtain ⟨a, c, rfl⟩ := hfs.rows.shape
  have : fs.length = n := by have := congrArg List.length hfd; simp only [List.length_map] at this; omega
  exact ⟨a, c, by rw [he, this], hL⟩
theorem live_open (h : LLive B p w0 w q) : Calls Try.prog 13 #[.pointer (some ⟨p, 0, none⟩)] w (Same' (.int .i64 q.open_.length) w) := by obtain ⟨F, h1, _⟩ := h; exact open_spec h1
theorem live_seq (h : LLive B p w0 w q) : Calls Try.prog 25 #[.pointer (some ⟨p, 0, none⟩)] w (Same' (.int .i64 q.seq) w) := by obtain ⟨F, h1, _⟩ := h; exact seq_spec h1
end
/-- a link with one open load -/
theorem ok_one {self peer life theirs last seq upto : Int} {kept : List LD} {owed : Bool} {s : LD} (h1 : 0 ≤ seq) (h2 : last ≤ 9223372036854775807) (h3 : 0 ≤ s.times ∧ s.times ≤ 100000000) (h4 : -9223372036854775808 ≤ s.at_ ∧ s.at_ ≤ 9223372036854775807) (h5 : s.bs.length ≤ 1000000) : OkL ⟨last, seq, [s], upto, kept, owed, self, peer, life, theirs⟩ :=
  ⟨h1, h2, by simp, fun t ht => (show t = s by simpa using ht) ▸ ⟨h3, h4, h5⟩⟩
set_option maxHeartbeats 4000000 in
theorem alive_spec (w : World) : Calls Try.prog 9 #[] w fun e w' => e = .returned (.bool true) ∧ Keep [] w w' := by
  have hcv := conv_new
  go_enter Try.func9, Try.ntmps9
  go_wp2_with fail
  refine (live_new w 0 1 1 1 100 w (Keep.refl _ _)).mono ?_
  rintro e w1 ⟨p, rfl, h1⟩
  have hs := Lib.hid (live_send_new 120 h1 ⟨by simp [newL], by simp [newL], by simp [newL], by simp [newL]⟩ (by simp [newL]) (by simp [newL]))
  go_wp2_with fail
  refine hs.out.mono ?_
  rintro e w2 ⟨rfl, bv, h2⟩
  have h2 : LLive w.heap.size p w w2 ⟨100, 1, [⟨1, 0, 0, [120], bv⟩], 0, [], false, 0, 1, 1, 1⟩ := h2
  have ho := Lib.hid (live_out_len (n := 1) 0 h2 (ok_one (by omega) (by omega) (by simp) (by simp) (by simp)) (by omega) (by rfl))
  clear hs h1
  go_wp2_with fail
  refine ho.out.mono ?_
  rintro e w3 ⟨a1, c1, rfl, h3⟩
  have h3 : LLive w.heap.size p w w3 ⟨100, 1, [⟨1, 1, 0, [120], bv⟩], 0, [], false, 0, 1, 1, 1⟩ := h3
  have ho := Lib.hid (live_out_len (n := 0) 1 h3 (ok_one (by omega) (by omega) (by simp) (by simp) (by simp)) (by omega) (by rfl))
  clear h2
  go_wp2_with fail
  refine ho.out.mono ?_
  rintro e w4 ⟨a2, c2, rfl, h4⟩
  have h4 : LLive w.heap.size p w w4 ⟨100, 1, [⟨1, 1, 0, [120], bv⟩], 0, [], false, 0, 1, 1, 1⟩ := h4
  have ho := Lib.hid (live_out_len (n := 1) 4 h4 (ok_one (by omega) (by omega) (by simp) (by simp) (by simp)) (by omega) (by rfl))
  clear h3
  go_wp2_with fail
  refine ho.out.mono ?_
  rintro e w5 ⟨a3, c3, rfl, h5⟩
  have h5 : LLive w.heap.size p w w5 ⟨100, 1, [⟨1, 2, 4, [120], bv⟩], 0, [], false, 0, 1, 1, 1⟩ := h5
  have ho := Lib.hid (live_out_len (n := 0) 8 h5 (ok_one (by omega) (by omega) (by simp) (by simp) (by simp)) (by omega) (by rfl))
  clear h4
  go_wp2_with fail
  refine ho.out.mono ?_
  rintro e w6 ⟨a4, c4, rfl, h6⟩
  have h6 : LLive w.heap.size p w w6 ⟨100, 1, [⟨1, 2, 4, [120], bv⟩], 0, [], false, 0, 1, 1, 1⟩ := h6
  have ho := Lib.hid (live_out_len (n := 1) 12 h6 (ok_one (by omega) (by omega) (by simp) (by simp) (by simp)) (by omega) (by rfl))
  clear h5
  go_wp2_with fail
  refine ho.out.mono ?_
  rintro e w7 ⟨a5, c5, rfl, h7⟩
  have kk := h7.out
  clear h6 h7
  go_wp2_with fail
  refine (num_spec w7 0 (by omega)).mono ?_
  rintro e w8 ⟨rfl, rfl⟩
  go_wp2
  go_ret
  exact ⟨rfl, kk⟩
end Go.Proofs.Ytacifjjhadjhfaa
