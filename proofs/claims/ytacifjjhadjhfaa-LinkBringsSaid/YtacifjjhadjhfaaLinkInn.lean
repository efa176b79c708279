/- Links: In. -/
import Derived.Test.YtacifjjhadjhfaaRows
import Derived.WalkKit
import Derived.WalkSpells
import Derived.WalkLawsBesides
import Derived.RegionTactic
import Derived.ChangeAlike
import Derived.BigQuiet
import Derived.Deep.QuietTactic
import Derived.StillTailTactics
import Derived.IntWalk
import Derived.Handy
import Derived.Lib.Hide
import Derived.Deep.AppendLies
import Derived.Deep.RegionWith
import Derived.Test.YtacifjjhadjhfaaBase
import Derived.Test.YtacifjjhadjhfaaTail
import Derived.Test.YtacifjjhadjhfaaArgs
import Derived.Test.YtacifjjhadjhfaaAppend
import Derived.Deep.RegionLaw
import Derived.Test.YtacifjjhadjhfaaOffs
import Derived.Test.YtacifjjhadjhfaaStructs
import Derived.Test.YtacifjjhadjhfaaSplit
import Derived.Maps.OwnSet
import Derived.Maps.Views
import Derived.Test.YtacifjjhadjhfaaLinkBytes
import Derived.Test.YtacifjjhadjhfaaLinkObj
import Derived.Test.YtacifjjhadjhfaaLinkSend
import Derived.Test.YtacifjjhadjhfaaLinkDue
import Derived.Test.YtacifjjhadjhfaaLinkFrame
import Derived.Test.YtacifjjhadjhfaaLinkOut
import Derived.Test.YtacifjjhadjhfaaLinkOut2
import Derived.Test.YtacifjjhadjhfaaLinkOne
import Derived.Test.YtacifjjhadjhfaaLinkLive
import Derived.Test.YtacifjjhadjhfaaLinkAck
import Derived.Test.YtacifjjhadjhfaaLinkAck2
import Derived.Test.YtacifjjhadjhfaaLinkGot
import Derived.Test.YtacifjjhadjhfaaLinkGot2
import Derived.Test.YtacifjjhadjhfaaLinkGot3
namespace Go.Proofs.Ytacifjjhadjhfaa
open Go.RowKit
def inOk (q : LK) (fr to life sq ack : Int) (bs : List UInt8) : Bool := decide (fr = q.peer) && decide (to = q.self) && decide (life = q.theirs) && decide (ack ≤ q.seq) && decide (0 ≤ sq) && decide (bs.length ≤ 4096)
def ackd (q : LK) (ack : Int) : LK := { q with open_ := keepL ack q.open_ }
def inR (q : LK) (sq : Int) (bs : List UInt8) (bv : Value) : Int × List LD × List LD :=
  if sq ≠ 0 ∧ gotTake q sq = true then runK (q.kept.length + 2) q.upto (q.kept ++ [⟨sq, 0, 0, bs, bv⟩]) else (q.upto, q.kept, [])
/-- what In leaves: the loads that are next, the link -/
def InPost (B p : Nat) (F : List Nat) (q : LK) (fr to life sq ack : Int) (bs : List UInt8) (w : World) (e : Ending) (w' : World) : Prop :=
  if inOk q fr to life sq ack bs = true then
    ∃ bv v F', e = .returned (.tuple #[v, .bool true]) ∧ OutsIn w' B v (inR (ackd q ack) sq bs bv).2.2 ∧
      LinkAt w' B p F' { ackd q ack with upto := (inR (ackd q ack) sq bs bv).1, kept := (inR (ackd q ack) sq bs bv).2.1, owed := q.owed || decide (sq ≠ 0) } ∧ Keep F w w' ∧ (∀ x ∈ F', x ∈ F ∨ w.heap.size ≤ x) ∧ (byteBlocks ((inR (ackd q ack) sq bs bv).2.2 ++ ((ackd q ack).open_ ++ (inR (ackd q ack) sq bs bv).2.1))).Nodup
  else e = .returned (.tuple #[.slice none 0 0, .bool false]) ∧ Keep [] w w'
set_option maxHeartbeats 40000000 in
set_option maxRecDepth 100000 in
theorem in_spec {w : World} {B p : Nat} {F : List Nat} {q : LK} {fr to life sq ack : Int} {bs : List UInt8} {v : Value} (h : LinkAt w B p F q) (hB : B ≤ w.heap.size) (hv : ∀ w', Keep F w w' → BytesOf w' v bs) (hu : 0 ≤ q.upto ∧ q.upto ≤ 1000000000) (hsq : sq ≤ 9223372036854775807) (hkl : q.kept.length ≤ 1000) (hol : q.open_.length ≤ 1000) :
    Calls Try.prog 14 #[.pointer (some ⟨p, 0, none⟩), .agg #[.int .i64 fr, .int .i64 to, .int .i64 life, .int .i64 sq, .int .i64 ack, v]] w (InPost B p F q fr to life sq ack bs w) := by
  have hlt0 := h.lt
  have hL := h
  obtain ⟨vo, mb, h, rfl⟩ := h
  obtain ⟨ab, cb, rfl⟩ := (hv w (Keep.refl _ _)).shape
  have hA : Keep [] w (w.alloc (.cells #[.int .i64 fr, .int .i64 to, .int .i64 life, .int .i64 sq, .int .i64 ack, .slice ab bs.length cb] 46)) := (Keep.refl _ _).alloc _
  have bA : Blk (w.alloc (.cells #[.int .i64 fr, .int .i64 to, .int .i64 life, .int .i64 sq, .int .i64 ack, .slice ab bs.length cb] 46)) w.heap.size 46 [.int .i64 fr, .int .i64 to, .int .i64 life, .int .i64 sq, .int .i64 ack, .slice ab bs.length cb] := Blk.new' _ _ _ _ rfl
  have hA1 := h.keep hA (by simp)
  have d0 : (w.alloc (.cells #[.int .i64 fr, .int .i64 to, .int .i64 life, .int .i64 sq, .int .i64 ack, .slice ab bs.length cb] 46)).cell? ⟨w.heap.size, 0, none⟩ = some (.int .i64 fr) := bA.cell 0
  have d1 : (w.alloc (.cells #[.int .i64 fr, .int .i64 to, .int .i64 life, .int .i64 sq, .int .i64 ack, .slice ab bs.length cb] 46)).cell? ⟨w.heap.size, 1, none⟩ = some (.int .i64 to) := bA.cell 1
  have d2 : (w.alloc (.cells #[.int .i64 fr, .int .i64 to, .int .i64 life, .int .i64 sq, .int .i64 ack, .slice ab bs.length cb] 46)).cell? ⟨w.heap.size, 2, none⟩ = some (.int .i64 life) := bA.cell 2
  have d3 : (w.alloc (.cells #[.int .i64 fr, .int .i64 to, .int .i64 life, .int .i64 sq, .int .i64 ack, .slice ab bs.length cb] 46)).cell? ⟨w.heap.size, 3, none⟩ = some (.int .i64 sq) := bA.cell 3
  have d4 : (w.alloc (.cells #[.int .i64 fr, .int .i64 to, .int .i64 life, .int .i64 sq, .int .i64 ack, .slice ab bs.length cb] 46)).cell? ⟨w.heap.size, 4, none⟩ = some (.int .i64 ack) := bA.cell 4
  have d5 : (w.alloc (.cells #[.int .i64 fr, .int .i64 to, .int .i64 life, .int .i64 sq, .int .i64 ack, .slice ab bs.length cb] 46)).cell? ⟨w.heap.size, 5, none⟩ = some (.slice ab bs.length cb) := bA.cell 5
  have l1 : (w.alloc (.cells #[.int .i64 fr, .int .i64 to, .int .i64 life, .int .i64 sq, .int .i64 ack, .slice ab bs.length cb] 46)).cell? ⟨p, 1, none⟩ = some (.int .i64 q.seq) := hA1.head.cell 1
  have l6 : (w.alloc (.cells #[.int .i64 fr, .int .i64 to, .int .i64 life, .int .i64 sq, .int .i64 ack, .slice ab bs.length cb] 46)).cell? ⟨p, 6, none⟩ = some (.int .i64 q.self) := hA1.head.cell 6
  have l7 : (w.alloc (.cells #[.int .i64 fr, .int .i64 to, .int .i64 life, .int .i64 sq, .int .i64 ack, .slice ab bs.length cb] 46)).cell? ⟨p, 7, none⟩ = some (.int .i64 q.peer) := hA1.head.cell 7
  have l9 : (w.alloc (.cells #[.int .i64 fr, .int .i64 to, .int .i64 life, .int .i64 sq, .int .i64 ack, .slice ab bs.length cb] 46)).cell? ⟨p, 9, none⟩ = some (.int .i64 q.theirs) := hA1.head.cell 9
  have BA := Lib.hid bA
  have HA := Lib.hid hA
  have HL := Lib.hid (hL.keep hA (by simp))
  have Hv := Lib.hid hv
  have Hlt := Lib.hid hlt0
  clear h hA1 bA hL hv hlt0
  by_cases h1 : fr = q.peer
  · by_cases h2 : to = q.self
    · by_cases h3 : life = q.theirs
      · by_cases h4 : q.seq < ack
        · have b1 : (fr != q.peer) = false := by simp [h1]
          have b2 : (to != q.self) = false := by simp [h2]
          have b3 : (life != q.theirs) = false := by simp [h3]
          have b4 : decide (q.seq < ack) = true := by simpa using h4
          have Hno := Lib.hid (show inOk q fr to life sq ack bs = false by unfold inOk; simp; omega)
          clear h1 h2 h3 h4
          go_enter Try.func14, Try.ntmps14
          go_wp2_with fail
          refine wp_region_quiet_tail 45 (by kernel_rfl) (by kernel_rfl) ?_
          simp only [List.take_succ_cons, List.take_zero, List.drop_succ_cons, List.drop_zero]
          repeat (go_big_quiet_step (fail))
          refine quiet_tail_end ?_
          rintro _ ⟨nq, rfl⟩
          go_wp2
          go_ret2
          unfold InPost
          rw [if_neg (by simp [Hno.out])]
          exact ⟨rfl, hA.drewN _⟩
        · by_cases h5 : sq < 0
          · have b1 : (fr != q.peer) = false := by simp [h1]
            have b2 : (to != q.self) = false := by simp [h2]
            have b3 : (life != q.theirs) = false := by simp [h3]
            have b4 : decide (q.seq < ack) = false := by simpa using h4
            have b5 : decide (sq < 0) = true := by simpa using h5
            have Hno := Lib.hid (show inOk q fr to life sq ack bs = false by unfold inOk; simp; omega)
            clear h1 h2 h3 h4 h5
            go_enter Try.func14, Try.ntmps14
            go_wp2_with fail
            refine wp_region_quiet_tail 45 (by kernel_rfl) (by kernel_rfl) ?_
            simp only [List.take_succ_cons, List.take_zero, List.drop_succ_cons, List.drop_zero]
            repeat (go_big_quiet_step (fail))
            refine quiet_tail_end ?_
            rintro _ ⟨nq, rfl⟩
            go_wp2
            go_ret2
            unfold InPost
            rw [if_neg (by simp [Hno.out])]
            exact ⟨rfl, hA.drewN _⟩
          · by_cases h6 : 4096 < bs.length
            · have b1 : (fr != q.peer) = false := by simp [h1]
              have b2 : (to != q.self) = false := by simp [h2]
              have b3 : (life != q.theirs) = false := by simp [h3]
              have b4 : decide (q.seq < ack) = false := by simpa using h4
              have b5 : decide (sq < 0) = false := by simpa using h5
              have b6 : decide ((4096 : Int) < (bs.length : Int)) = true := by simp; omega
              have Hno := Lib.hid (show inOk q fr to life sq ack bs = false by unfold inOk; simp; omega)
              clear h1 h2 h3 h4 h5 h6
              go_enter Try.func14, Try.ntmps14
              go_wp2_with fail
              refine wp_region_quiet_tail 45 (by kernel_rfl) (by kernel_rfl) ?_
              simp only [List.take_succ_cons, List.take_zero, List.drop_succ_cons, List.drop_zero]
              repeat (go_big_quiet_step (fail))
              refine quiet_tail_end ?_
              rintro _ ⟨nq, rfl⟩
              go_wp2
              go_ret2
              unfold InPost
              rw [if_neg (by simp [Hno.out])]
              exact ⟨rfl, hA.drewN _⟩
            · have b1 : (fr != q.peer) = false := by simp [h1]
              have b2 : (to != q.self) = false := by simp [h2]
              have b3 : (life != q.theirs) = false := by simp [h3]
              have b4 : decide (q.seq < ack) = false := by simpa using h4
              have b5 : decide (sq < 0) = false := by simpa using h5
              have b6 : decide ((4096 : Int) < (bs.length : Int)) = false := by simp; omega
              have Hyes := Lib.hid (show inOk q fr to life sq ack bs = true by unfold inOk; simp; omega)
              have hsq0 : 0 ≤ sq := by omega
              have Hb6 := Lib.hid h6
              clear h1 h2 h3 h4 h5 h6
              go_enter Try.func14, Try.ntmps14
              go_wp2_with fail
              go_quiet (fail)
              clear b1 b2 b3 b4 b5 b6 l1 l6 l7 l9 d0 d1 d2
              go_wp2_with fail
              refine wp_region_quiet_tail 5 (by kernel_rfl) (by kernel_rfl) ?_
              simp only [List.take_succ_cons, List.take_zero, List.drop_succ_cons, List.drop_zero]
              repeat (go_big_quiet_step (fail))
              refine quiet_tail_end ?_
              rintro _ ⟨nq2, rfl⟩
              go_wp2_with fail
              refine (ack_spec (F := linkFoot p vo mb (q.open_ ++ q.kept)) (q := q) ack (HL.out.keep ((Keep.refl [] _).drewN _) (by simp)) hol).mono ?_
              rintro e w3 ⟨rfl, F3, h3, k3, f3⟩
              have hkl3 : (ackd q ack).kept.length ≤ 1000 := hkl
              have hfb : w.heap.size ∉ linkFoot p vo mb (q.open_ ++ q.kept) := fun hm => by have := (Hlt.out _ hm).2; omega
              have b3 := (BA.out.drewN _).keep k3 hfb
              have e3 : w3.cell? ⟨w.heap.size, 3, none⟩ = some (.int .i64 sq) := b3.cell 3
              have e5 : w3.cell? ⟨w.heap.size, 5, none⟩ = some (.slice ab bs.length cb) := b3.cell 5
              have K3 := Lib.hid ((HA.out.mono (T := linkFoot p vo mb (q.open_ ++ q.kept)) (by simp)).trans ((Keep.refl (linkFoot p vo mb (q.open_ ++ q.kept)) _).drewN _ |>.trans k3 (fun x hx => Or.inl hx)) (fun x hx => Or.inl hx))
              have F3' : ∀ x ∈ F3, x ∈ linkFoot p vo mb (q.open_ ++ q.kept) ∨ w.heap.size ≤ x := fun x hx => by
                rcases f3 x hx with h | h
                · exact Or.inl h
                · have := HA.out.size
                  simp at h
                  exact Or.inr (by omega)
              have hlt3 := h3.lt
              have H3 := Lib.hid h3
              have FF := Lib.hid F3'
              clear h3 k3 f3 b3 F3' d3 d4 d5
              by_cases h0 : sq = 0
              · have hr : inR (ackd q ack) sq bs (.slice none 0 0) = (q.upto, q.kept, []) := by unfold inR; rw [if_neg (by simp [h0])]; rfl
                have Hr := Lib.hid hr
                have hs0 : (sq == 0) = true := by simpa using h0
                have H0 := Lib.hid h0
                clear hr h0
                go_wp2
                go_ret2
                unfold InPost
                rw [if_pos Hyes.out]
                refine ⟨.slice none 0 0, _, F3, rfl, ?_, ?_, K3.out, FF.out, ?_⟩
                · rw [Hr.out]; exact ⟨OwnsAt.nil _ _ _ _, by simp⟩
                · rw [Hr.out]
                  simpa [ackd, H0.out] using H3.out
                · rw [Hr.out]
                  obtain ⟨vo', mb', hh, _⟩ := H3.out
                  simpa [ackd] using hh.nodup
              · have hs0 : (sq == 0) = false := by simpa using h0
                have H0 := Lib.hid h0
                have hbl : bs.length ≤ 1000000 := by have := Hb6.out; omega
                have hsz3 : w.heap.size ≤ w3.heap.size := by have := K3.out.size; exact this
                clear h0
                go_wp2_with fail
                refine wp_region_quiet_tail 7 (by kernel_rfl) (by kernel_rfl) ?_
                simp only [List.take_succ_cons, List.take_zero, List.drop_succ_cons, List.drop_zero]
                repeat (go_big_quiet_step (fail))
                refine quiet_tail_end ?_
                rintro _ ⟨nq3, rfl⟩
                go_wp2_with fail
                refine (got_spec (F := F3) (q := ackd q ack) (sq := sq) (bs := bs) (v := .slice ab bs.length cb) (H3.out.keep ((Keep.refl [] _).drewN _) (by simp)) (Nat.le_trans hB hsz3) ?_ hbl hu ⟨hsq0, hsq⟩ hkl3).mono ?_
                · intro w'' k''
                  exact Hv.out w'' (K3.out.trans (((Keep.refl F3 w3).drewN _).trans k'' (fun x hx => Or.inl hx)) (fun x hx => FF.out x hx))
                · intro e w4 hg
                  have hfin : ∃ vr, e = .returned vr ∧ InPost B p (linkFoot p vo mb (q.open_ ++ q.kept)) q fr to life sq ack bs w (.returned (.tuple #[vr, .bool true])) w4 := by
                    unfold InPost
                    simp only [if_pos Hyes.out]
                    unfold GotAll at hg
                    by_cases ht : gotTake (ackd q ack) sq = true
                    · rw [if_pos ht] at hg
                      obtain ⟨bv, vr, F', rfl, ho, hl, hk, hf, hn⟩ := hg
                      have hkk := K3.out.trans (((Keep.refl F3 w3).drewN _).trans hk (fun x hx => Or.inl hx)) (fun x hx => FF.out x hx)
                      have hr : inR (ackd q ack) sq bs bv = runK ((ackd q ack).kept.length + 2) (ackd q ack).upto ((ackd q ack).kept ++ [⟨sq, 0, 0, bs, bv⟩]) := by
                        have : gotTake q sq = true := ht
                        unfold inR; rw [if_pos ⟨H0.out, ht⟩]
                      refine ⟨vr, rfl, bv, vr, F', rfl, ?_, ?_, hkk, fun x hx => ?_, ?_⟩
                      · rw [hr]; exact ho
                      · rw [hr]
                        simpa [H0.out] using hl
                      · rcases hf x hx with h | h
                        · exact FF.out x h
                        · exact Or.inr (Nat.le_trans hsz3 h)
                      · rw [hr]; exact hn
                    · rw [if_neg ht] at hg
                      obtain ⟨vr, F', rfl, ho, hl, hk, hf, hn⟩ := hg
                      have hkk := K3.out.trans (((Keep.refl F3 w3).drewN _).trans hk (fun x hx => Or.inl hx)) (fun x hx => FF.out x hx)
                      have hr : inR (ackd q ack) sq bs vr = ((ackd q ack).upto, (ackd q ack).kept, []) := by
                        unfold inR; rw [if_neg (fun h => ht h.2)]
                      refine ⟨vr, rfl, vr, vr, F', rfl, ?_, ?_, hkk, fun x hx => ?_, ?_⟩
                      · rw [hr]; exact ho
                      · rw [hr]
                        simpa [H0.out] using hl
                      · rcases hf x hx with h | h
                        · exact FF.out x h
                        · exact Or.inr (Nat.le_trans hsz3 h)
                      · rw [hr]; exact hn
                  obtain ⟨vr, rfl, hpost⟩ := hfin
                  have Hp := Lib.hid hpost
                  clear hg hpost
                  go_wp2
                  go_ret2
                  exact Hp.out
      · have b1 : (fr != q.peer) = false := by simp [h1]
        have b2 : (to != q.self) = false := by simp [h2]
        have b3 : (life != q.theirs) = true := by simpa using h3
        have Hno := Lib.hid (show inOk q fr to life sq ack bs = false by unfold inOk; simp; omega)
        clear h1 h2 h3
        go_enter Try.func14, Try.ntmps14
        go_wp2_with fail
        refine wp_region_quiet_tail 45 (by kernel_rfl) (by kernel_rfl) ?_
        simp only [List.take_succ_cons, List.take_zero, List.drop_succ_cons, List.drop_zero]
        repeat (go_big_quiet_step (fail))
        refine quiet_tail_end ?_
        rintro _ ⟨nq, rfl⟩
        go_wp2
        go_ret2
        unfold InPost
        rw [if_neg (by simp [Hno.out])]
        exact ⟨rfl, hA.drewN _⟩
    · have b1 : (fr != q.peer) = false := by simp [h1]
      have b2 : (to != q.self) = true := by simpa using h2
      have Hno := Lib.hid (show inOk q fr to life sq ack bs = false by unfold inOk; simp; omega)
      clear h1 h2
      go_enter Try.func14, Try.ntmps14
      go_wp2_with fail
      refine wp_region_quiet_tail 45 (by kernel_rfl) (by kernel_rfl) ?_
      simp only [List.take_succ_cons, List.take_zero, List.drop_succ_cons, List.drop_zero]
      repeat (go_big_quiet_step (fail))
      refine quiet_tail_end ?_
      rintro _ ⟨nq, rfl⟩
      go_wp2
      go_ret2
      unfold InPost
      rw [if_neg (by simp [Hno.out])]
      exact ⟨rfl, hA.drewN _⟩
  · have b1 : (fr != q.peer) = true := by simpa using h1
    have Hno := Lib.hid (show inOk q fr to life sq ack bs = false by unfold inOk; simp; omega)
    clear h1
    go_enter Try.func14, Try.ntmps14
    go_wp2_with fail
    refine wp_region_quiet_tail 45 (by kernel_rfl) (by kernel_rfl) ?_
    simp only [List.take_succ_cons, List.take_zero, List.drop_succ_cons, List.drop_zero]
    repeat (go_big_quiet_step (fail))
    refine quiet_tail_end ?_
    rintro _ ⟨nq, rfl⟩
    go_wp2
    go_ret2
    unfold InPost
    rw [if_neg (by simp [Hno.out])]
    exact ⟨rfl, hA.drewN _⟩
end Go.Proofs.Ytacifjjhadjhfaa
