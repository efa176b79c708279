/- The reference link: In. -/
import Derived.Test.YtacifjjhadjhfaaRows
import Derived.WalkKit
import Derived.WalkSpells
import Derived.WalkLawsBesides
import Derived.RegionTactic
import Derived.ChangeAlike
import Derived.BigQuiet
import Derived.Deep.QuietTactic
import Derived.StillTailTactics
import Derived.IntWalk
import Derived.Handy
import Derived.Lib.Hide
import Derived.Deep.AppendLies
import Derived.Deep.RegionWith
import Derived.Test.YtacifjjhadjhfaaBase
import Derived.Test.YtacifjjhadjhfaaTail
import Derived.Test.YtacifjjhadjhfaaArgs
import Derived.Test.YtacifjjhadjhfaaAppend
import Derived.Deep.RegionLaw
import Derived.Test.YtacifjjhadjhfaaOffs
import Derived.Test.YtacifjjhadjhfaaStructs
import Derived.Test.YtacifjjhadjhfaaSplit
import Derived.Maps.OwnSet
import Derived.Maps.Views
import Derived.Test.YtacifjjhadjhfaaLinkBytes
import Derived.Test.YtacifjjhadjhfaaLinkObj
import Derived.Test.YtacifjjhadjhfaaLinkSend
import Derived.Test.YtacifjjhadjhfaaLinkDue
import Derived.Test.YtacifjjhadjhfaaLinkFrame
import Derived.Test.YtacifjjhadjhfaaLinkOut
import Derived.Test.YtacifjjhadjhfaaLinkOut2
import Derived.Test.YtacifjjhadjhfaaLinkOne
import Derived.Test.YtacifjjhadjhfaaLinkLive
import Derived.Test.YtacifjjhadjhfaaLinkAck
import Derived.Test.YtacifjjhadjhfaaLinkAck2
import Derived.Test.YtacifjjhadjhfaaLinkGot
import Derived.Test.YtacifjjhadjhfaaLinkGot2
import Derived.Test.YtacifjjhadjhfaaLinkGot3
import Derived.Test.YtacifjjhadjhfaaLinkInn
import Derived.Test.YtacifjjhadjhfaaLinkX2
import Derived.Deep.CutRange
import Derived.Deep.DeepCutAuto
import Derived.BigRegion
import Derived.Test.YtacifjjhadjhfaaRLink
import Derived.Test.YtacifjjhadjhfaaRLink2
import Derived.Test.YtacifjjhadjhfaaRLink3
import Derived.Test.YtacifjjhadjhfaaRKS
namespace Go.Proofs.Ytacifjjhadjhfaa
open Go.RowKit
set_option maxHeartbeats 40000000 in
set_option maxRecDepth 100000 in
theorem inR_spec {w : World} {B p : Nat} {F : List Nat} {q : LK} {fr to_ life sq ack : Int} {bs : List UInt8} {v : Value} (h : RAt w B p F q) (hB : B ≤ w.heap.size) (hv : ∀ w', Keep F w w' → BytesOf w' v bs) (hu : 0 ≤ q.upto ∧ q.upto ≤ 1000000000) (hsq : sq ≤ 9223372036854775807) (hkl : q.kept.length ≤ 1000) (hol : q.open_.length ≤ 1000) (hnd : (q.kept.map LD.seq).Nodup) :
    Calls Try.prog 23 #[.pointer (some ⟨p, 0, none⟩), .agg #[.int .i64 fr, .int .i64 to_, .int .i64 life, .int .i64 sq, .int .i64 ack, v]] w (RInPost B p F q fr to_ life sq ack bs w) := by
  have hlt0 := h.lt
  obtain ⟨vo, vk, h, rfl⟩ := h
  obtain ⟨ao, co, rfl⟩ := h.rows.shape
  obtain ⟨ak, ck, rfl⟩ := h.keeps.shape
  obtain ⟨ab, cb, rfl⟩ := (hv w (Keep.refl _ _)).shape
  have hA : Keep [] w (w.alloc (.cells #[.int .i64 fr, .int .i64 to_, .int .i64 life, .int .i64 sq, .int .i64 ack, .slice ab bs.length cb] 46)) := (Keep.refl _ _).alloc _
  have bA : Blk (w.alloc (.cells #[.int .i64 fr, .int .i64 to_, .int .i64 life, .int .i64 sq, .int .i64 ack, .slice ab bs.length cb] 46)) w.heap.size 46 [.int .i64 fr, .int .i64 to_, .int .i64 life, .int .i64 sq, .int .i64 ack, .slice ab bs.length cb] := Blk.new' _ _ _ _ rfl
  have hA1 := h.keep hA (by simp)
  have d0 : (w.alloc (.cells #[.int .i64 fr, .int .i64 to_, .int .i64 life, .int .i64 sq, .int .i64 ack, .slice ab bs.length cb] 46)).cell? ⟨w.heap.size, 0, none⟩ = some (.int .i64 fr) := bA.cell 0
  have d1 : (w.alloc (.cells #[.int .i64 fr, .int .i64 to_, .int .i64 life, .int .i64 sq, .int .i64 ack, .slice ab bs.length cb] 46)).cell? ⟨w.heap.size, 1, none⟩ = some (.int .i64 to_) := bA.cell 1
  have d2 : (w.alloc (.cells #[.int .i64 fr, .int .i64 to_, .int .i64 life, .int .i64 sq, .int .i64 ack, .slice ab bs.length cb] 46)).cell? ⟨w.heap.size, 2, none⟩ = some (.int .i64 life) := bA.cell 2
  have d3 : (w.alloc (.cells #[.int .i64 fr, .int .i64 to_, .int .i64 life, .int .i64 sq, .int .i64 ack, .slice ab bs.length cb] 46)).cell? ⟨w.heap.size, 3, none⟩ = some (.int .i64 sq) := bA.cell 3
  have d4 : (w.alloc (.cells #[.int .i64 fr, .int .i64 to_, .int .i64 life, .int .i64 sq, .int .i64 ack, .slice ab bs.length cb] 46)).cell? ⟨w.heap.size, 4, none⟩ = some (.int .i64 ack) := bA.cell 4
  have d5 : (w.alloc (.cells #[.int .i64 fr, .int .i64 to_, .int .i64 life, .int .i64 sq, .int .i64 ack, .slice ab bs.length cb] 46)).cell? ⟨w.heap.size, 5, none⟩ = some (.slice ab bs.length cb) := bA.cell 5
  have l0 : (w.alloc (.cells #[.int .i64 fr, .int .i64 to_, .int .i64 life, .int .i64 sq, .int .i64 ack, .slice ab bs.length cb] 46)).cell? ⟨p, 0, none⟩ = some (.int .i64 q.self) := hA1.head.cell 0
  have l1 : (w.alloc (.cells #[.int .i64 fr, .int .i64 to_, .int .i64 life, .int .i64 sq, .int .i64 ack, .slice ab bs.length cb] 46)).cell? ⟨p, 1, none⟩ = some (.int .i64 q.peer) := hA1.head.cell 1
  have l3 : (w.alloc (.cells #[.int .i64 fr, .int .i64 to_, .int .i64 life, .int .i64 sq, .int .i64 ack, .slice ab bs.length cb] 46)).cell? ⟨p, 3, none⟩ = some (.int .i64 q.theirs) := hA1.head.cell 3
  have l5 : (w.alloc (.cells #[.int .i64 fr, .int .i64 to_, .int .i64 life, .int .i64 sq, .int .i64 ack, .slice ab bs.length cb] 46)).cell? ⟨p, 5, none⟩ = some (.int .i64 q.seq) := hA1.head.cell 5
  have BA := Lib.hid bA
  have HA := Lib.hid hA
  have HR := Lib.hid hA1
  have H := Lib.hid h
  have Hv := Lib.hid hv
  have Hlt := Lib.hid hlt0
  have Hnd := Lib.hid hnd
  clear h hA1 bA hv hlt0 hnd
  by_cases h1 : fr = q.peer
  · by_cases h2 : to_ = q.self
    · by_cases h3 : life = q.theirs
      · by_cases h4 : q.seq < ack
        · have b1 : (fr != q.peer) = false := by simp [h1]
          have b2 : (to_ != q.self) = false := by simp [h2]
          have b3 : (life != q.theirs) = false := by simp [h3]
          have b4 : decide (q.seq < ack) = true := by simpa using h4
          have Hno := Lib.hid (show inOk q fr to_ life sq ack bs = false by unfold inOk; simp; omega)
          clear h1 h2 h3 h4
          go_enter Try.func23, Try.ntmps23
          go_wp2_with fail
          go_quiet (fail)
          go_wp2
          go_ret2
          unfold RInPost
          rw [if_neg (by simp [Hno.out])]
          exact ⟨rfl, hA.drewN _⟩
        · by_cases h5 : sq < 0
          · have b1 : (fr != q.peer) = false := by simp [h1]
            have b2 : (to_ != q.self) = false := by simp [h2]
            have b3 : (life != q.theirs) = false := by simp [h3]
            have b4 : decide (q.seq < ack) = false := by simpa using h4
            have b5 : decide (sq < 0) = true := by simpa using h5
            have Hno := Lib.hid (show inOk q fr to_ life sq ack bs = false by unfold inOk; simp; omega)
            clear h1 h2 h3 h4 h5
            go_enter Try.func23, Try.ntmps23
            go_wp2_with fail
            go_quiet (fail)
            go_wp2
            go_ret2
            unfold RInPost
            rw [if_neg (by simp [Hno.out])]
            exact ⟨rfl, hA.drewN _⟩
          · by_cases h6 : 4096 < bs.length
            · have b1 : (fr != q.peer) = false := by simp [h1]
              have b2 : (to_ != q.self) = false := by simp [h2]
              have b3 : (life != q.theirs) = false := by simp [h3]
              have b4 : decide (q.seq < ack) = false := by simpa using h4
              have b5 : decide (sq < 0) = false := by simpa using h5
              have b6 : decide ((4096 : Int) < (bs.length : Int)) = true := by simp; omega
              have Hno := Lib.hid (show inOk q fr to_ life sq ack bs = false by unfold inOk; simp; omega)
              clear h1 h2 h3 h4 h5 h6
              go_enter Try.func23, Try.ntmps23
              go_wp2_with fail
              go_quiet (fail)
              go_wp2
              go_ret2
              unfold RInPost
              rw [if_neg (by simp [Hno.out])]
              exact ⟨rfl, hA.drewN _⟩
            · have b1 : (fr != q.peer) = false := by simp [h1]
              have b2 : (to_ != q.self) = false := by simp [h2]
              have b3 : (life != q.theirs) = false := by simp [h3]
              have b4 : decide (q.seq < ack) = false := by simpa using h4
              have b5 : decide (sq < 0) = false := by simpa using h5
              have b6 : decide ((4096 : Int) < (bs.length : Int)) = false := by simp; omega
              have Hyes := Lib.hid (show inOk q fr to_ life sq ack bs = true by unfold inOk; simp; omega)
              have hsq0 : 0 ≤ sq := by omega
              have hbl : bs.length ≤ 4096 := by omega
              clear h1 h2 h3 h4 h5 h6
              go_enter Try.func23, Try.ntmps23
              go_wp2_with fail
              go_quiet (fail)
              clear b1 b2 b3 b4 b5 b6 l0 l1 l3 l5 d0 d1 d2 d3 d4 d5
              have R1 := Lib.hid (HR.out.keep ((Keep.refl [] _).drewN nq) (by simp))
              have B1 := BA.out.drewN nq
              have K1 := (HA.out).drewN nq
              clear BA HA HR
              generalize (w.alloc (.cells #[.int .i64 fr, .int .i64 to_, .int .i64 life, .int .i64 sq, .int .i64 ack, .slice ab bs.length cb] 46)).drewN nq = w1 at *
              go_wp2_with fail
              go_loopw [6, 7] (fun v6 v7 wr => ∃ i : Nat, i ≤ q.open_.length ∧ v7 = .int .i64 i ∧ OwnsAt wr w.heap.size 83 4 v6 (keepL ack (q.open_.take i)).length ((keepL ack (q.open_.take i)).flatMap LD.o) ∧ Blk wr w.heap.size 46 [.int .i64 fr, .int .i64 to_, .int .i64 life, .int .i64 sq, .int .i64 ack, .slice ab bs.length cb] ∧ Keep [] w wr) (fun _ v _ => q.open_.length - (intOf v).toNat)
              case atStart => exact ⟨0, by omega, rfl, OwnsAt.nil _ _ _ _, B1, K1⟩
              case round =>
                clear B1 K1 R1
                obtain ⟨i, hi, rfl, ho6, hb, hk⟩ := hrel
                have hat := H.out.keep hk (by simp)
                have c7 : wr.cell? ⟨p, 7, none⟩ = some (.slice ao q.open_.length co) := hat.head.cell 7
                have hkl6 : (keepL ack (q.open_.take i)).length ≤ 1000 := by
                  unfold keepL
                  have := List.length_filter_le (fun s => !ackB ack s) (q.open_.take i)
                  simp at this ⊢
                  omega
                obtain ⟨a6, c6, rfl⟩ := ho6.shape
                by_cases hlt : i < q.open_.length
                · obtain ⟨s, hs⟩ : ∃ s, q.open_[i]? = some s := ⟨_, List.getElem?_eq_getElem hlt⟩
                  obtain ⟨g, off, rfl, _, hg2, hcells, hcap, hfr⟩ := hat.rows.rowAt LD.o_len hs hlt
                  have hbs : BytesOf wr s.bv s.bs := bytes_of_off (hat.bytes s (List.mem_append_left _ (List.mem_of_getElem? hs)))
                  have htk := keepL_take (n := ack) hs
                  obtain ⟨ssq, st, sa, sbs, sbv⟩ := s
                  obtain ⟨sab, scb, hbv⟩ := hbs.shape
                  simp only at hbv
                  subst hbv
                  have e0 : wr.cell? ⟨g, off + i * 4, none⟩ = some (.int .i64 ssq) := hcells 0 _ (by omega) rfl
                  have e1 : wr.cell? ⟨g, off + i * 4 + 1, none⟩ = some (.int .i64 sa) := hcells 1 _ (by omega) rfl
                  have e2 : wr.cell? ⟨g, off + i * 4 + 2, none⟩ = some (.int .i64 st) := hcells 2 _ (by omega) rfl
                  have e3 : wr.cell? ⟨g, off + i * 4 + 3, none⟩ = some (.slice sab sbs.length scb) := hcells 3 _ (by omega) rfl
                  have d4 : wr.cell? ⟨w.heap.size, 4, none⟩ = some (.int .i64 ack) := hb.cell 4
                  have hltI : (i : Int) < (q.open_.length : Int) := by omega
                  have Htk := Lib.hid htk
                  have Ho6 := Lib.hid ho6
                  have Hb := Lib.hid hb
                  have Hk := Lib.hid hk
                  have hszr := hk.size
                  clear hcells hbs htk ho6 hb hk hat hs hfr
                  by_cases hac : ack < ssq
                  · have hb7 : decide (ack < ssq) = true := by simpa using hac
                    have hak : ackB ack ⟨ssq, st, sa, sbs, .slice sab sbs.length scb⟩ = false := by unfold ackB; simp; omega
                    rw [hak] at Htk
                    clear hac hak
                    go_wp2_with fail
                    go_quiet (fail)
                    clear hb7
                    have C7 : (wr.drewN nq).cell? ⟨p, 7, none⟩ = some (.slice (some ⟨g, off, none⟩) q.open_.length co) := c7
                    have E0 : (wr.drewN nq).cell? ⟨g, off + i * 4, none⟩ = some (.int .i64 ssq) := e0
                    have E1 : (wr.drewN nq).cell? ⟨g, off + i * 4 + 1, none⟩ = some (.int .i64 sa) := e1
                    have E2 : (wr.drewN nq).cell? ⟨g, off + i * 4 + 2, none⟩ = some (.int .i64 st) := e2
                    have E3 : (wr.drewN nq).cell? ⟨g, off + i * 4 + 3, none⟩ = some (.slice sab sbs.length scb) := e3
                    have ho := Ho6.out.keep ((Keep.refl [] wr).drewN nq) (by simp)
                    have hb := Hb.out.drewN nq
                    have hk := Hk.out.drewN nq
                    have hszq : w.heap.size ≤ (wr.drewN nq).heap.size := hszr
                    clear c7 e0 e1 e2 e3 d4 Ho6 Hb Hk hszr
                    generalize wr.drewN nq = wq at *
                    have hown6 := ho.keep ((Keep.refl [] wq).alloc (.cells #[.int .i64 ssq, .int .i64 sa, .int .i64 st, .slice sab sbs.length scb] 83)) (by simp)
                    have Hb := Lib.hid hb
                    have Hk := Lib.hid hk
                    clear ho hb hk
                    go_wp2_with (at_builtin; refine wpList_append_off rfl _ _ rfl Try.ros62 w.heap.size _ (keepL ack (q.open_.take i)).length _ rfl hown6 _ 1 _ rfl (src_row 4 rfl _ rfl) (by simp [Value.oneCell']) (by unfold maxLen; omega) (by omega) (by simp; omega) ?_)
                    intro v' w4 hown4 hk4 hat4
                    have hb4 : Blk w4 w.heap.size 46 [.int .i64 fr, .int .i64 to_, .int .i64 life, .int .i64 sq, .int .i64 ack, .slice ab bs.length cb] := (Hb.out.alloc _).keep hk4 (fun hx => hown6.ne_blk (Hb.out.alloc _) (by decide) (mem_own.1 hx))
                    have hk44 : Keep [] w w4 := (Hk.out.alloc _).trans hk4 (fun x hx => Or.inr (hown6.lt x (mem_own.1 hx)).1)
                    have hown5 : OwnsAt w4 w.heap.size 83 4 v' (keepL ack (q.open_.take (i + 1))).length ((keepL ack (q.open_.take (i + 1))).flatMap LD.o) := by
                      rw [Htk.out]
                      simpa [LD.o] using hown4
                    have Hrel := Lib.hid (And.intro hown5 (And.intro hb4 hk44))
                    obtain ⟨a7, c7', rfl⟩ := hown4.shape
                    clear hown4 hown5 hb4 hk44 hk4 hat4 hown6
                    go_wp2
                    go_roundw
                    case rel => exact ⟨i + 1, by omega, by go_num, Hrel.out.1, Hrel.out.2.1, Hrel.out.2.2⟩
                    case measure => simp [intOf]; omega
                  · have hb7 : decide (ack < ssq) = false := by simpa using hac
                    have hak : ackB ack ⟨ssq, st, sa, sbs, .slice sab sbs.length scb⟩ = true := by unfold ackB; simp; omega
                    rw [hak] at Htk
                    clear hac hak
                    go_wp2_with fail
                    go_quiet (fail)
                    clear hb7
                    have hown5 : OwnsAt (wr.drewN nq) w.heap.size 83 4 (.slice a6 (keepL ack (q.open_.take i)).length c6) (keepL ack (q.open_.take (i + 1))).length ((keepL ack (q.open_.take (i + 1))).flatMap LD.o) := by
                      rw [Htk.out]
                      simpa using Ho6.out.keep ((Keep.refl [] wr).drewN nq) (by simp)
                    have Hrel := Lib.hid (And.intro hown5 (And.intro (Hb.out.drewN nq) (Hk.out.drewN nq)))
                    clear hown5 Ho6 Hb Hk
                    go_wp2
                    go_roundw
                    case rel => exact ⟨i + 1, by omega, by go_num, Hrel.out.1, Hrel.out.2.1, Hrel.out.2.2⟩
                    case measure => simp [intOf]; omega
                · obtain rfl : i = q.open_.length := by omega
                  rw [List.take_length] at ho6 hkl6
                  rw [List.take_length]
                  have f7 := hat.head.frozen 7
                  have hplt : p < w.heap.size := (Hlt.out p (mem_rFoot.2 (Or.inl rfl))).2
                  obtain ⟨t1, t2, t3⟩ := RIn.setRows (l := keepL ack q.open_) H.out (hk.mono (by simp)) (OwnsAt.mono ho6 hB) (fun s hs => OwnsAt.keep (H.out.bytes s (List.mem_append_left _ ((List.mem_filter.1 hs).1))) hk (by simp)) (fun x hx => Or.inr (ho6.lt x hx).1) (fun s hs x hx => Or.inl ⟨s, (List.mem_filter.1 hs).1, hx⟩)
                  have hb2 : Blk (wr.setCell ⟨p, 7, none⟩ (.slice a6 (keepL ack q.open_).length c6)) w.heap.size 46 [.int .i64 fr, .int .i64 to_, .int .i64 life, .int .i64 sq, .int .i64 ack, .slice ab bs.length cb] := hb.far (by simp; omega) _
                  have hsz2 : w.heap.size ≤ (wr.setCell ⟨p, 7, none⟩ (.slice a6 (keepL ack q.open_).length c6)).heap.size := by have := hk.size; simpa using this
                  have t1 : RIn (wr.setCell ⟨p, 7, none⟩ (.slice a6 (keepL ack q.open_).length c6)) B p (.slice a6 (keepL ack q.open_).length c6) (.slice ak q.kept.length ck) (ackd q ack) := t1
                  have T1 := Lib.hid t1
                  have T2 := Lib.hid t2
                  have T3 := Lib.hid t3
                  have B2 := Lib.hid hb2
                  have d3 : (wr.setCell ⟨p, 7, none⟩ (.slice a6 (keepL ack q.open_).length c6)).cell? ⟨w.heap.size, 3, none⟩ = some (.int .i64 sq) := hb2.cell 3
                  have x9 : (wr.setCell ⟨p, 7, none⟩ (.slice a6 (keepL ack q.open_).length c6)).cell? ⟨p, 9, none⟩ = some (.bool q.owed) := t1.head.cell 9
                  have y9 := t1.head.frozen 9
                  clear t1 t2 t3 hb2 hat hb hk ho6
                  by_cases h0 : sq = 0
                  · have hr : inR (ackd q ack) sq bs (.slice none 0 0) = (q.upto, q.kept, []) := by unfold inR; rw [if_neg (by simp [h0])]; rfl
                    have Hfin := Lib.hid (rin_done (w := w) (F := (rFoot p (.slice ao q.open_.length co) (.slice ak q.kept.length ck) (q.open_ ++ q.kept))) (sq := sq) (bs := bs) Hyes.out hr T1.out T2.out T3.out (by simp [h0, ackd]))
                    have hs0 : (sq == 0) = true := by simpa using h0
                    clear hr h0 T1 T2 T3 B2 x9 y9
                    go_wp2
                    go_ret2
                    exact Hfin.out
                  · have hs0 : (sq == 0) = false := by simpa using h0
                    have H0 := Lib.hid h0
                    clear h0
                    go_upto_region 12 with fail
                    clear c7 f7 d3
                    generalize wr.setCell ⟨p, 7, none⟩ (.slice a6 (keepL ack q.open_).length c6) = w2 at *
                    obtain ⟨s1, s2⟩ := RIn.turn (q' := { ackd q ack with owed := true }) T1.out 9 (.bool true) rfl rfl rfl
                    have hb3 : Blk (w2.setCell ⟨p, 9, none⟩ (.bool true)) w.heap.size 46 [.int .i64 fr, .int .i64 to_, .int .i64 life, .int .i64 sq, .int .i64 ack, .slice ab bs.length cb] := B2.out.far (by simp; omega) _
                    have k3 := T2.out.trans s2 (fun x hx => T3.out x hx)
                    have S1 := Lib.hid s1
                    have K3 := Lib.hid k3
                    have B3 := Lib.hid hb3
                    have x6 : (w2.setCell ⟨p, 9, none⟩ (.bool true)).cell? ⟨p, 6, none⟩ = some (.int .i64 q.upto) := s1.head.cell 6
                    have d3 : (w2.setCell ⟨p, 9, none⟩ (.bool true)).cell? ⟨w.heap.size, 3, none⟩ = some (.int .i64 sq) := hb3.cell 3
                    have hsz3 : w.heap.size ≤ (w2.setCell ⟨p, 9, none⟩ (.bool true)).heap.size := by simpa using hsz2
                    clear s1 s2 hb3 k3 T1 T2 B2
                    go_upto_region 13 with fail
                    clear x9 y9
                    generalize w2.setCell ⟨p, 9, none⟩ (.bool true) = w3 at *
                    have hDone : gotTake q sq = false → ∀ wx, Keep [] w3 wx → RInPost B p (rFoot p (.slice ao q.open_.length co) (.slice ak q.kept.length ck) (q.open_ ++ q.kept)) q fr to_ life sq ack bs w (.returned (.tuple #[.slice none 0 0, .bool true])) wx := fun hg wx hkx => by
                      have hr : inR (ackd q ack) sq bs (.slice none 0 0) = (q.upto, q.kept, []) := by
                        have hg2 : gotTake (ackd q ack) sq = false := hg
                        unfold inR; rw [if_neg (by simp [hg2])]; rfl
                      have S2 : RIn wx B p (.slice a6 (keepL ack q.open_).length c6) (.slice ak q.kept.length ck) { ackd q ack with owed := true } := S1.out.keep hkx (by simp)
                      exact rin_done (w := w) (F := (rFoot p (.slice ao q.open_.length co) (.slice ak q.kept.length ck) (q.open_ ++ q.kept))) (sq := sq) (bs := bs) Hyes.out hr S2 (K3.out.trans hkx (by simp)) T3.out (by simp [H0.out, ackd])
                    have HDone := Lib.hid hDone
                    clear hDone
                    have hwr : IntKind.i64.wrap (sq - q.upto) = sq - q.upto := IntWalk.i64_in _ (by omega)
                    by_cases hle : sq ≤ q.upto
                    · have Hfin := Lib.hid (HDone.out (by unfold gotTake; simp; omega))
                      have hbl1 : decide (sq ≤ q.upto) = true := by simpa using hle
                      clear hle HDone S1 K3 B3
                      go_wp2_with fail
                      go_quiet (fail)
                      go_wp2
                      go_ret2
                      exact Hfin.out _ ((Keep.refl [] _).drewN _)
                    · have hbl1 : decide (sq ≤ q.upto) = false := by simpa using hle
                      by_cases hgt : 8 < sq - q.upto
                      · have Hfin := Lib.hid (HDone.out (by unfold gotTake; simp; omega))
                        have hbl2 : decide (8 < sq - q.upto) = true := by simpa using hgt
                        clear hle hgt HDone S1 K3 B3
                        go_wp2_with fail
                        go_quiet (fail)
                        go_wp2
                        go_ret2
                        exact Hfin.out _ ((Keep.refl [] _).drewN _)
                      · have hbl2 : decide (8 < sq - q.upto) = false := by simpa using hgt
                        have Hle := Lib.hid hle
                        have Hgt := Lib.hid hgt
                        clear hle hgt
                        go_wp2_with fail
                        go_quiet (fail)
                        clear x6 d3 hbl1 hbl2
                        have S2 := Lib.hid (S1.out.keep ((Keep.refl [] _).drewN nq) (by simp))
                        have K4 := Lib.hid (K3.out.drewN nq)
                        have B4 := Lib.hid (B3.out.drewN nq)
                        have hD2 : gotTake q sq = false → ∀ wx, Keep [] (w3.drewN nq) wx → RInPost B p (rFoot p (.slice ao q.open_.length co) (.slice ak q.kept.length ck) (q.open_ ++ q.kept)) q fr to_ life sq ack bs w (.returned (.tuple #[.slice none 0 0, .bool true])) wx := fun hg wx hkx => HDone.out hg wx (((Keep.refl [] w3).drewN nq).trans hkx (by simp))
                        have HD2 := Lib.hid hD2
                        have hsz4 : w.heap.size ≤ (w3.drewN nq).heap.size := hsz3
                        clear S1 K3 B3 HDone hD2 hwr
                        generalize w3.drewN nq = w4 at *
                        go_wp2_with fail
                        go_loopw [8] (fun v8 wr => ∃ i : Nat, i ≤ q.kept.length ∧ v8 = .int .i64 i ∧ (∀ (j : Nat) (s : LD), j < i → q.kept[j]? = some s → s.seq ≠ sq) ∧ Keep [] w4 wr) (fun v _ => q.kept.length - (intOf v).toNat)
                        case atStart => exact ⟨0, by omega, rfl, by omega, Keep.refl _ _⟩
                        case round =>
                          obtain ⟨i, hi, rfl, hno, hk⟩ := hrel
                          have hat := S2.out.keep hk (by simp)
                          have x8 : wr.cell? ⟨p, 8, none⟩ = some (.slice ak q.kept.length ck) := hat.head.cell 8
                          by_cases hlt : i < q.kept.length
                          · obtain ⟨s, hs⟩ : ∃ s, q.kept[i]? = some s := ⟨_, List.getElem?_eq_getElem hlt⟩
                            obtain ⟨g, off, rfl, _, hg2, hcells, hcap, hfr⟩ := hat.keeps.rowAt LD.k_len hs hlt
                            have e0 : wr.cell? ⟨g, off + i * 2, none⟩ = some (.int .i64 s.seq) := hcells 0 _ (by omega) rfl
                            have d3 : wr.cell? ⟨w.heap.size, 3, none⟩ = some (.int .i64 sq) := (B4.out.keep hk (by simp)).cell 3
                            have hltI : (i : Int) < (q.kept.length : Int) := by omega
                            by_cases hsq2 : s.seq = sq
                            · have Hfin := Lib.hid (HD2.out (by
                                unfold gotTake
                                have : (q.kept.any fun s => s.seq == sq) = true := List.any_eq_true.2 ⟨s, List.mem_of_getElem? hs, by simpa using hsq2⟩
                                rw [this]; rfl))
                              have hb2 : (s.seq == sq) = true := by simpa using hsq2
                              have Hk := Lib.hid hk
                              clear hcells hfr hs hsq2 hat hno hk S2 K4 B4 HD2
                              go_wp2_with fail
                              go_quiet (fail)
                              go_wp2
                              go_ret2
                              exact Hfin.out _ (Hk.out.drewN _)
                            · have hb2 : (s.seq == sq) = false := by simpa using hsq2
                              have hno2 : ∀ (j : Nat) (t : LD), j < i + 1 → q.kept[j]? = some t → t.seq ≠ sq := fun j t hj ht => by
                                by_cases hji : j = i
                                · subst hji
                                  rw [hs] at ht
                                  cases ht
                                  exact hsq2
                                · exact hno j t (by omega) ht
                              have Hrel := Lib.hid (And.intro hno2 hk)
                              clear hcells hfr hs hsq2 hat hno hk hno2
                              go_wp2_with fail
                              go_quiet (fail)
                              go_wp2
                              go_roundw
                              case rel => exact ⟨i + 1, by omega, by go_num, Hrel.out.1, Hrel.out.2.drewN _⟩
                              case measure => simp [intOf]; omega
                          · obtain rfl : i = q.kept.length := by omega
                            have hany : (q.kept.any fun s => s.seq == sq) = false := by
                              rw [List.any_eq_false]
                              intro s hs
                              obtain ⟨j, hj, rfl⟩ := List.mem_iff_getElem.1 hs
                              simpa using hno j _ hj (List.getElem?_eq_getElem hj)
                            have hgt2 : gotTake q sq = true := by
                              unfold gotTake
                              rw [hany]
                              have := Hle.out
                              have := Hgt.out
                              simp
                              omega
                            have R5 := Lib.hid hat
                            have B5 := Lib.hid (B4.out.keep hk (by simp))
                            have K5 := Lib.hid (K4.out.trans hk (by simp))
                            have Hgt2 := Lib.hid hgt2
                            have Hany := Lib.hid hany
                            have hsz5 : w.heap.size ≤ wr.heap.size := by have := hk.size; omega
                            clear hgt2 hany hat hk hno S2 K4 B4 HD2
                            generalize wr = w5 at *
                            go_upto_region 20 with fail
                            clear x8
                            have x8 : w5.cell? ⟨p, 8, none⟩ = some (.slice ak q.kept.length ck) := R5.out.head.cell 8
                            have d3 : w5.cell? ⟨w.heap.size, 3, none⟩ = some (.int .i64 sq) := B5.out.cell 3
                            have d5 : w5.cell? ⟨w.heap.size, 5, none⟩ = some (.slice ab bs.length cb) := B5.out.cell 5
                            have Hby := Lib.hid (Hv.out _ K5.out)
                            have hn2 := R5.out.keep (Keep.refl [] _).drew (by simp)
                            refine wp_region_split 15 (fun w' => w'.cell? ⟨p, 8, none⟩ = some (.slice ak q.kept.length ck) ∧ w'.cell? ⟨w.heap.size, 3, none⟩ = some (.int .i64 sq) ∧ w'.cell? ⟨w.heap.size, 5, none⟩ = some (.slice ab bs.length cb)) (by kernel_rfl) rfl (by kernel_rfl) ⟨x8, d3, d5⟩ ?_
                            intro hHeld
                            simp only [List.take_succ_cons, List.take_zero]
                            refine wpAnyH_take (i := 0) (v := ?_) rfl (by kernel_rfl) (by kernel_rfl) (by kernel_rfl) (fun _ _ _ h => h) (Or.inl ⟨by rfl, by (intro w hSw; (try dsimp only at hSw); go_simp) <;> with_reducible rfl⟩) (by assumption) ?_
                            (try simp only [Act.put, List.setIfInBounds_toArray])
                            refine wpAnyH_take (i := 1) (v := ?_) rfl (by kernel_rfl) (by kernel_rfl) (by kernel_rfl) (fun _ _ _ h => h) (Or.inl ⟨by rfl, by (intro w hSw; (try dsimp only at hSw); go_simp) <;> with_reducible rfl⟩) (by assumption) ?_
                            (try simp only [Act.put])
                            refine wpAnyH_take (i := 2) (v := ?_) rfl (by kernel_rfl) (by kernel_rfl) (by kernel_rfl) (fun _ _ _ h => h) (Or.inl ⟨by rfl, by (intro w hSw; (try dsimp only at hSw); go_simp) <;> with_reducible rfl⟩) (by assumption) ?_
                            (try simp only [Act.put])
                            refine wpAnyH_take (i := 3) (v := ?_) rfl (by kernel_rfl) (by kernel_rfl) (by kernel_rfl) (fun _ _ _ h => h) (Or.inl ⟨by rfl, by (intro w hSw; (try dsimp only at hSw); go_simp) <;> with_reducible rfl⟩) (by assumption) ?_
                            (try simp only [Act.put])
                            refine wpAnyH_take (i := 4) (v := ?_) rfl (by kernel_rfl) (by kernel_rfl) (by kernel_rfl) (fun _ _ _ h => h) (Or.inl ⟨by rfl, by (intro w hSw; (try dsimp only at hSw); go_simp) <;> with_reducible rfl⟩) (by assumption) ?_
                            (try simp only [Act.put])
                            refine wpAnyH_take (i := 5) (v := ?_) rfl (by kernel_rfl) (by kernel_rfl) (by kernel_rfl) (fun _ _ _ h => h) (Or.inl ⟨by rfl, by (intro w hSw; (try dsimp only at hSw); go_simp) <;> with_reducible rfl⟩) (by assumption) ?_
                            (try simp only [Act.put])
                            refine wpAnyH_take (i := 6) (v := ?_) rfl (by kernel_rfl) (by kernel_rfl) (by kernel_rfl) (fun _ _ _ h => h) (Or.inl ⟨by rfl, by (intro w hSw; (try dsimp only at hSw); go_simp) <;> with_reducible rfl⟩) (by assumption) ?_
                            (try simp only [Act.put])
                            refine wpAnyH_take (i := 7) (v := ?_) rfl (by kernel_rfl) (by kernel_rfl) (by kernel_rfl) (fun _ _ _ h => h) (Or.inl ⟨by rfl, by (intro w hSw; (try dsimp only at hSw); go_simp) <;> with_reducible rfl⟩) (by assumption) ?_
                            (try simp only [Act.put])
                            refine wpAnyH_take (i := 8) (v := ?_) rfl (by kernel_rfl) (by kernel_rfl) (by kernel_rfl) (fun _ _ _ h => h) (Or.inl ⟨by rfl, by (intro w hSw; (try dsimp only at hSw); go_simp) <;> with_reducible rfl⟩) (by assumption) ?_
                            (try simp only [Act.put])
                            refine wpAnyH_ready (rs := [9]) (by kernel_rfl) (by simp) ?_
                            refine AllReadyH.cons (o := { dst := some 144, op := .call { callee := .builtin .append, args := #[.const (.slice none 0 0), .tmp 143], argTypes := #[35, 35] }, type := 35, pos := "net.go:388", after := #[{ on := 8, ground := .data }], guard := none }) rfl (fun K hK => ?_) AllReadyH.nil
                            refine step_append_off rfl (.const (.slice none 0 0)) (.tmp 143) rfl Try.bytes35 w5.heap.size (.slice none 0 0) 0 [] (by simp [Act.eval]) (OwnsAt.nil _ _ _ _) (.slice ab bs.length cb) bs.length (bs.map u8) (by simp [Act.eval]) (SrcOf.of_bytes (Hby.out.keep0 (Keep.refl [] _).drew)) (by simp [u8, Value.oneCell']) (by unfold maxLen; omega) (by omega) (by simp) ?_
                            intro v3 w6 ho3 hk3 hat3
                            have hk3 : Keep [] w5.drew w6 := hk3
                            have ho : OwnB w6 w5.heap.size v3 bs := by unfold OwnB; simpa using ho3
                            have hn3 := hn2.keep hk3 (by simp)
                            have hb6 := B5.out.drew.keep hk3 (by simp)
                            have hsz6 := hk3.size
                            have hsh := OwnsAt.shape ho
                            clear ho3 hat3
                            refine hK.out _ _ ?_ (fun hHeld => ?_)
                            · exact ⟨hn3.head.cell 8, hb6.cell 3, hb6.cell 5⟩
                            clear hK K
                            obtain ⟨a9, c9, rfl⟩ := hsh
                            (try simp only [Act.put])
                            refine wpAnyH_take (i := 10) (v := ?_) rfl (by kernel_rfl) (by kernel_rfl) (by kernel_rfl) (fun _ _ _ h => h) (Or.inl ⟨by rfl, by (intro w hSw; (try dsimp only at hSw); go_simp) <;> with_reducible rfl⟩) (by assumption) ?_
                            (try simp only [Act.put])
                            refine wpAnyH_ready (rs := [11]) (by kernel_rfl) (by simp) ?_
                            refine AllReadyH.cons rfl (fun K hK => ?_) AllReadyH.nil
                            go_simp
                            refine hK.out _ _ ?_ (fun hHeld => ?_)
                            · exact ⟨(hn3.head.alloc _).cell 8, (hb6.alloc _).cell 3, (hb6.alloc _).cell 5⟩
                            clear hK K
                            (try simp only [Act.put, List.setIfInBounds_toArray, List.set_cons_zero, List.set_cons_succ])
                            refine wpAnyH_ready (rs := [12]) (by kernel_rfl) (by simp) ?_
                            refine AllReadyH.cons rfl (fun K hK => ?_) AllReadyH.nil
                            refine step_append_off rfl (.tmp 139) (.tmp 146) rfl Try.rks63 B (.slice ak q.kept.length ck) q.kept.length (q.kept.flatMap LD.k) (by simp [Act.eval]) (hn3.keeps.keep ((Keep.refl [] _).alloc _) (by simp)) (.slice (some ⟨w6.heap.size, 0, none⟩) 1 1) 1 [.int .i64 sq, .slice a9 bs.length c9] (by simp [Act.eval]) (src_row 2 rfl _ rfl) (by simp [Value.oneCell']) (by unfold maxLen; omega) (by omega) (by simp at hsz6; simp; omega) ?_
                            intro v' w7 hown4 hk4 hat4
                            have hp4 : p ∉ ownBlocks (.slice ak q.kept.length ck) := (fun hx => hn3.apart.2.1 (mem_own.1 hx))
                            have hd4 := (hn3.head.alloc (.cells #[.int .i64 sq, .slice a9 bs.length c9] 88)).keep hk4 hp4
                            have hb4 : w.heap.size ∉ ownBlocks (.slice ak q.kept.length ck) := fun hx => hn3.keeps.ne_blk hb6 (by decide) (mem_own.1 hx)
                            have hb7 := (hb6.alloc (.cells #[.int .i64 sq, .slice a9 bs.length c9] 88)).keep hk4 hb4
                            have x7 : w7.cell? ⟨p, 8, none⟩ = some (.slice ak q.kept.length ck) := hd4.cell 8
                            have f7 : w7.frozen? ⟨p, 8, none⟩ = false := hd4.frozen 8
                            have hsh := hown4.shape
                            refine hK.out _ _ ?_ (fun hHeld => ?_)
                            · exact ⟨x7, hb7.cell 3, hb7.cell 5⟩
                            clear hK K
                            obtain ⟨a7, c7', rfl⟩ := hsh
                            (try simp only [Act.put, List.setIfInBounds_toArray])
                            refine wpAnyH_take (i := 13) (v := ?_) rfl (by kernel_rfl) (by kernel_rfl) (by kernel_rfl) (fun _ _ _ h => h) (Or.inl ⟨by rfl, by (intro w hSw; (try dsimp only at hSw); go_simp) <;> with_reducible rfl⟩) (by assumption) ?_
                            (try simp only [Act.put])
                            refine wpAnyH_take (i := 14) (v := ?_) rfl (by kernel_rfl) (by kernel_rfl) (by kernel_rfl) (fun _ _ _ h => h) (Or.inl ⟨by rfl, by (intro w hSw; (try dsimp only at hSw); go_simp) <;> with_reducible rfl⟩) (by assumption) ?_
                            (try simp only [Act.put])
                            refine wpAnyH_done (by kernel_rfl) ?_ _
                            have ho4 : OwnB w7 w5.heap.size (.slice a9 bs.length c9) bs := OwnsAt.keep (OwnsAt.keep ho ((Keep.refl [] _).alloc _) (by simp)) hk4 (fun g hg hx => by
                              have h1 := (OwnsAt.lt ho g hg).1
                              have h2 := (hn2.keeps.lt g (mem_own.1 hx)).2
                              simp at h2
                              omega)
                            have k34 : Keep (ownBlocks (.slice ak q.kept.length ck)) w5.drew w7 := ((hk3.mono (T := ownBlocks (.slice ak q.kept.length ck)) (by simp)).alloc (.cells #[.int .i64 sq, .slice a9 bs.length c9] 88)).trans hk4 (fun x hx => Or.inl hx)
                            obtain ⟨g1, g2, g3⟩ := RIn.setKept (l := q.kept ++ [⟨sq, 0, 0, bs, .slice a9 bs.length c9⟩]) hn2 k34 (by simpa [LD.k] using hown4) (fun s hs => by
                                rcases List.mem_append.1 hs with hs | hs
                                · exact OwnsAt.keep (hn2.bytes s (List.mem_append_right _ hs)) k34 (fun g hg hx => ((hn2.apart.2.2.2 s (List.mem_append_right _ hs)).2.2 g (mem_own.1 hx)) hg)
                                · rw [show s = _ by simpa using hs]
                                  exact OwnsAt.mono ho4 (Nat.le_trans hB hsz5)) (fun x hx => by
                                rcases hat4 with h' | h'
                                · exact Or.inl (by rw [← h']; exact hx)
                                · rw [h'] at hx
                                  cases hx
                                  exact Or.inr (by simp at hsz6; simp; omega)) (fun s hs x hx => by
                                rcases List.mem_append.1 hs with hs | hs
                                · exact Or.inl ⟨s, hs, hx⟩
                                · rw [show s = _ by simpa using hs] at hx
                                  exact Or.inr (OwnsAt.lt ho4 x hx).1)
                            have g3' : ∀ x ∈ rFoot p (.slice a6 (keepL ack q.open_).length c6) (.slice a7 (q.kept.length + 1) c7') (keepL ack q.open_ ++ (q.kept ++ [⟨sq, 0, 0, bs, .slice a9 bs.length c9⟩])), x ∈ (rFoot p (.slice ao q.open_.length co) (.slice ak q.kept.length ck) (q.open_ ++ q.kept)) ∨ w.heap.size ≤ x := fun x hx => by
                              rcases g3 x hx with h' | h'
                              · exact T3.out x h'
                              · exact Or.inr (by simp at h'; omega)
                            have g2' := (K5.out.trans (Keep.refl (rFoot p (.slice ao q.open_.length co) (.slice ak q.kept.length ck) (q.open_ ++ q.kept)) _).drew (fun x hx => Or.inl hx)).trans g2 (fun x hx => T3.out x hx)
                            have hb8 : Blk (w7.setCell ⟨p, 8, none⟩ (.slice a7 (q.kept.length + 1) c7')) w.heap.size 46 [.int .i64 fr, .int .i64 to_, .int .i64 life, .int .i64 sq, .int .i64 ack, .slice ab bs.length cb] := hb7.far (by simp; omega) _
                            have hnd : ((q.kept ++ [(⟨sq, 0, 0, bs, .slice a9 bs.length c9⟩ : LD)]).map LD.seq).Nodup := by
                              rw [List.map_append]
                              refine List.nodup_append.2 ⟨Hnd.out, by simp, fun x hx y hy e => ?_⟩
                              subst e
                              obtain ⟨s, hs, rfl⟩ := List.mem_map.1 hx
                              have h1 : s.seq = sq := by simpa using hy
                              have := List.any_eq_false.1 Hany.out s hs
                              simp [h1] at this
                            have G1 : Hid (RIn (w7.setCell ⟨p, 8, none⟩ (.slice a7 (q.kept.length + 1) c7')) B p (.slice a6 (keepL ack q.open_).length c6) (.slice a7 (q.kept.length + 1) c7') { ackd q ack with owed := true, upto := q.upto, kept := q.kept ++ [⟨sq, 0, 0, bs, .slice a9 bs.length c9⟩] }) := Lib.hid g1
                            have G2 := Lib.hid g2'
                            have G3 := Lib.hid g3'
                            have G4 := Lib.hid hnd
                            have hsz8 : w.heap.size ≤ (w7.setCell ⟨p, 8, none⟩ (.slice a7 (q.kept.length + 1) c7')).heap.size := by have := k34.size; simp at this; simp; omega
                            have Hpost : Hid (∀ wx vr, OutsIn wx B vr (runK (q.kept.length + 2) q.upto (q.kept ++ [⟨sq, 0, 0, bs, .slice a9 bs.length c9⟩])).2.2 →
                                (∃ F', RAt wx B p F' { ackd q ack with owed := true, upto := (runK (q.kept.length + 2) q.upto (q.kept ++ [⟨sq, 0, 0, bs, .slice a9 bs.length c9⟩])).1, kept := (runK (q.kept.length + 2) q.upto (q.kept ++ [⟨sq, 0, 0, bs, .slice a9 bs.length c9⟩])).2.1 } ∧ ∀ x ∈ F', x ∈ (rFoot p (.slice ao q.open_.length co) (.slice ak q.kept.length ck) (q.open_ ++ q.kept)) ∨ w.heap.size ≤ x) → Keep (rFoot p (.slice ao q.open_.length co) (.slice ak q.kept.length ck) (q.open_ ++ q.kept)) w wx →
                                RInPost B p (rFoot p (.slice ao q.open_.length co) (.slice ak q.kept.length ck) (q.open_ ++ q.kept)) q fr to_ life sq ack bs w (.returned (.tuple #[vr, .bool true])) wx) := Lib.hid (fun wx vr h1 h2 h3 => by
                              obtain ⟨F', h2, h4⟩ := h2
                              have hr : inR (ackd q ack) sq bs (.slice a9 bs.length c9) = runK (q.kept.length + 2) q.upto (q.kept ++ [⟨sq, 0, 0, bs, .slice a9 bs.length c9⟩]) := by
                                have hg2 : gotTake (ackd q ack) sq = true := Hgt2.out
                                unfold inR; rw [if_pos ⟨H0.out, hg2⟩]; rfl
                              unfold RInPost
                              rw [if_pos Hyes.out]
                              refine ⟨.slice a9 bs.length c9, vr, F', rfl, by rw [hr]; exact h1, ?_, h3, h4⟩
                              rw [hr]
                              simpa [H0.out] using h2)
                            generalize hks0 : q.kept ++ [(⟨sq, 0, 0, bs, .slice a9 bs.length c9⟩ : LD)] = ks0 at *
                            have hkl0 : ks0.length = q.kept.length + 1 := by rw [← hks0]; simp
                            clear g1 g2 g2' g3 g3' hn3 hn2 hk3 hk4 hown4 hat4 ho ho4 k34 hd4 hnd hb6 hb7 hks0 K5 T3 R5 B5 hb8
                            show Oper.wp _ _ _ _ _ _
                            go_simp
                            go_upto_region 21 with fail
                            clear x7 f7
                            generalize w7.setCell ⟨p, 8, none⟩ (.slice a7 (q.kept.length + 1) c7') = w8 at *
                            have KS0 : Hid (KS w w8 B p (rFoot p (.slice ao q.open_.length co) (.slice ak q.kept.length ck) (q.open_ ++ q.kept)) (.slice a6 (keepL ack q.open_).length c6) (ackd q ack) (q.kept.length + 1) (runK (q.kept.length + 2) q.upto ks0) (.slice none 0 0) true (q.kept.length + 2) q.upto ks0 [] (.slice a7 (q.kept.length + 1) c7')) := Lib.hid ⟨G1.out, ⟨OwnsAt.nil _ _ _ _, by simp⟩, by simp [ownBlocks, Value.ownBlock], G2.out, G3.out, G4.out, by simp; omega, by omega, by simp, by simp; omega, by simp⟩
                            have hplt8 : p < w.heap.size := (Hlt.out p (mem_rFoot.2 (Or.inl rfl))).2
                            clear G1 G2 G3 G4
                            go_wp2_with fail
                            go_loopw [9, 10, 11, 12] (fun v9 v10 _ _ wr => ∃ (ag : Bool) (f : Nat) (u : Int) (ks os : List LD) (vk : Value), v10 = .bool ag ∧ KS w wr B p (rFoot p (.slice ao q.open_.length co) (.slice ak q.kept.length ck) (q.open_ ++ q.kept)) (.slice a6 (keepL ack q.open_).length c6) (ackd q ack) (q.kept.length + 1) (runK (q.kept.length + 2) q.upto ks0) v9 ag f u ks os vk) (fun v9 v10 _ _ _ => 2 * (q.kept.length + 3 - lenV v9) + agN v10)
                            case atStart => exact ⟨true, _, _, _, _, _, rfl, KS0.out⟩
                            case round =>
                              clear KS0
                              obtain ⟨ag, f, u, ks, os, vk, rfl, hS⟩ := hrel
                              obtain ⟨a9, c9, rfl⟩ := hS.outs.rows.shape
                              have hol2 : os.length ≤ 2000 := by have := hS.len; omega
                              cases ag with
                              | false =>
                                have hrun := hS.stop
                                have Hfin := Lib.hid (Hpost.out wr (.slice a9 os.length c9) (by rw [hrun]; exact hS.outs) (by rw [hrun]; exact ⟨_, ⟨_, _, hS.rin, rfl⟩, hS.reach⟩) hS.k)
                                clear hS hrun
                                go_wp2
                                go_ret2
                                exact Hfin.out
                              | true =>
                                have HS := Lib.hid hS
                                clear hS
                                generalize wr = wo at *
                                go_wp2_with fail
                                go_loopw [9, 10, 11, 12] (fun v9 v10 v11 _ wr => ∃ i : Nat, i ≤ ks.length ∧ v9 = .slice a9 os.length c9 ∧ v10 = .bool false ∧ v11 = .int .i64 i ∧ (∀ (j : Nat) (s : LD), j < i → ks[j]? = some s → s.seq ≠ u + 1) ∧ Keep [] wo wr) (fun _ _ v _ _ => ks.length - (intOf v).toNat)
                                case atStart => exact ⟨0, by omega, rfl, rfl, rfl, by omega, Keep.refl _ _⟩
                                case round =>
                                  obtain ⟨i, hi, rfl, rfl, rfl, hno, hk⟩ := hrel
                                  have hS := HS.out.keep0 hk
                                  obtain ⟨ak2, ck2, hvk⟩ := hS.rin.keeps.shape
                                  subst hvk
                                  have x8 : wr.cell? ⟨p, 8, none⟩ = some (.slice ak2 ks.length ck2) := hS.rin.head.cell 8
                                  have x6 : wr.cell? ⟨p, 6, none⟩ = some (.int .i64 u) := hS.rin.head.cell 6
                                  have hub := hS.ub
                                  have hlb := hS.len
                                  have hwu : IntKind.i64.wrap (u + 1) = u + 1 := IntWalk.i64_in _ (by omega)
                                  by_cases hlt : i < ks.length
                                  · obtain ⟨s, hs⟩ : ∃ s, ks[i]? = some s := ⟨_, List.getElem?_eq_getElem hlt⟩
                                    obtain ⟨g, off, rfl, _, hg2, hcells, hcap, hfr⟩ := hS.rin.keeps.rowAt LD.k_len hs hlt
                                    have hbs := bytes_of_off (hS.rin.bytes s (List.mem_append_right _ (List.mem_of_getElem? hs)))
                                    obtain ⟨sab, scb, hbv⟩ := hbs.shape
                                    have e0 : wr.cell? ⟨g, off + i * 2, none⟩ = some (.int .i64 s.seq) := hcells 0 _ (by omega) rfl
                                    have e1 : wr.cell? ⟨g, off + i * 2 + 1, none⟩ = some s.bv := hcells 1 _ (by omega) rfl
                                    rw [hbv] at e1
                                    have hltI : (i : Int) < (ks.length : Int) := by omega
                                    by_cases hq : s.seq = u + 1
                                    · have hb2 : (s.seq == u + 1) = true := by simpa using hq
                                      have Hs := Lib.hid hs
                                      have Hno := Lib.hid hno
                                      have Hq := Lib.hid hq
                                      have Hbv := Lib.hid hbv
                                      have hkl2 : ks.length ≤ 2000 := by omega
                                      have HSq : Hid (∀ m, KS w (wr.drewN m) B p (rFoot p (.slice ao q.open_.length co) (.slice ak q.kept.length ck) (q.open_ ++ q.kept)) (.slice a6 (keepL ack q.open_).length c6) (ackd q ack) (q.kept.length + 1) (runK (q.kept.length + 2) q.upto ks0) (.slice a9 os.length c9) true f u ks os (.slice (some ⟨g, off, none⟩) ks.length ck2)) := Lib.hid (fun m => hS.keep0 ((Keep.refl [] _).drewN m))
                                      have hi2 : (i : Int) ≤ 2000 := by omega
                                      have hcapk : ks.length ≤ ck2 := hcap
                                      clear hcells hfr hbs hs hno hq hS HS hk hbv hi
                                      go_wp2_with fail
                                      go_quiet (fail)
                                      have hS := HSq.out nq
                                      have E1 : (wr.drewN nq).cell? ⟨g, off + i * 2 + 1, none⟩ = some (.slice sab s.bs.length scb) := e1
                                      clear x8 x6 e0 e1 hb2 HSq
                                      generalize wr.drewN nq = wq at *
                                      have x8 : wq.cell? ⟨p, 8, none⟩ = some (.slice (some ⟨g, off, none⟩) ks.length ck2) := hS.rin.head.cell 8
                                      have hA9 : Keep [] wq (wq.alloc (.cells #[.slice sab s.bs.length scb] 35)) := (Keep.refl _ _).alloc _
                                      have hown9 := hS.outs.rows.keep hA9 (by simp)
                                      have hszq : w.heap.size ≤ wq.heap.size := hS.k.size
                                      have HSq := Lib.hid hS
                                      clear hS
                                      go_wp2_with (at_builtin; refine wpList_append_off rfl _ _ rfl Try.bss42 B _ os.length _ rfl hown9 _ 1 _ rfl (src_row 1 rfl _ rfl) (by simp [Value.oneCell']) (by unfold maxLen; omega) (by omega) (by simp; omega) ?_)
                                      intro v' w9 hown9' hk9 hat9
                                      have r9 := (HSq.out.rin.keep hA9 (by simp)).far hown9 (by decide) (by decide) (by decide) (by decide) hk9
                                      have o9 : OutsIn w9 B v' (os ++ [s]) := ⟨by simpa [Hbv.out] using hown9', fun t ht => by
                                        have h1 : OwnB wq B t.bv t.bs := by
                                          rcases List.mem_append.1 ht with ht | ht
                                          · exact HSq.out.outs.bytes t ht
                                          · rw [show t = s by simpa using ht]
                                            exact HSq.out.rin.bytes s (List.mem_append_right _ (List.mem_of_getElem? Hs.out))
                                        have h2 := OwnsAt.keep h1 hA9 (by simp)
                                        exact OwnsAt.keep h2 hk9 (fun g hg hx => OwnsAt.ne_own hown9 h2 (by decide) g (mem_own.1 hx) hg)⟩
                                      have n9 : ∀ x ∈ ownBlocks v', w.heap.size ≤ x := fun x hx => by
                                        rcases hat9 with h | h
                                        · exact HSq.out.new9 x (mem_own.2 (by rw [← h]; exact mem_own.1 hx))
                                        · rw [mem_own, h] at hx
                                          cases hx
                                          first | omega | (simp; omega)
                                      have k9 : Keep (rFoot p (.slice ao q.open_.length co) (.slice ak q.kept.length ck) (q.open_ ++ q.kept)) w w9 := (HSq.out.k.trans hA9 (by simp)).trans hk9 (fun x hx => Or.inr (HSq.out.new9 x hx))
                                      obtain ⟨t1, _⟩ := RIn.turn (q' := { ackd q ack with owed := true, upto := u + 1, kept := ks }) r9 6 (.int .i64 (u + 1)) rfl rfl rfl
                                      have kp : Keep [p] w9 (w9.setCell ⟨p, 6, none⟩ (.int .i64 (u + 1))) := (Keep.refl [p] w9).setCell (by simp) _
                                      have o10 := o9.beside r9.head (by decide) (by decide) kp
                                      have k10 : Keep (rFoot p (.slice ao q.open_.length co) (.slice ak q.kept.length ck) (q.open_ ++ q.kept)) w (w9.setCell ⟨p, 6, none⟩ (.int .i64 (u + 1))) := k9.trans kp (fun x hx => Or.inl (by rw [show x = p by simpa using hx]; exact mem_rFoot.2 (Or.inl rfl)))
                                      have x6 : w9.cell? ⟨p, 6, none⟩ = some (.int .i64 u) := r9.head.cell 6
                                      have f6 := r9.head.frozen 6
                                      obtain ⟨av, cv, rfl⟩ := hown9'.shape
                                      have T1 := Lib.hid t1
                                      have O10 := Lib.hid o10
                                      have K10 := Lib.hid k10
                                      have N9 := Lib.hid n9
                                      clear E1 x8 t1 o10 k10 n9 k9 o9 r9 hown9 hown9' hk9 hat9 hA9 kp
                                      go_upto_region 31 with fail
                                      clear x6 f6
                                      generalize w9.setCell ⟨p, 6, none⟩ (.int .i64 (u + 1)) = w10 at *
                                      have x8 : w10.cell? ⟨p, 8, none⟩ = some (.slice (some ⟨g, off, none⟩) ks.length ck2) := T1.out.head.cell 8
                                      have hwi : IntKind.i64.wrap ((i : Int) + 1) = ((i + 1 : Nat) : Int) := by rw [IntWalk.i64_in _ (by omega)]; rfl
                                      have hBw : B ≤ w10.heap.size := by have := K10.out.size; omega
                                      have hone : ∀ t ∈ ks, OwnB w10 B t.bv t.bs := fun t ht => T1.out.bytes t (List.mem_append_right _ ht)
                                      have Hone := Lib.hid hone
                                      have hknc : i + 1 ≤ ck2 := by omega
                                      clear hone
                                      go_cut [12] from 151 to 211 (fun v12 wx => OwnsAt wx B 88 2 v12 (ks.length - (i + 1)) ((ks.drop (i + 1)).flatMap LD.k) ∧ Keep [] w10 wx ∧ ∀ x, v12.ownBlock = some x → w10.heap.size ≤ x)
                                      case first =>
                                        by_cases hc : ck2 = i + 1
                                        · have hnk : ks.length = i + 1 := by omega
                                          have hdrop : ks.drop (i + 1) = [] := List.drop_of_length_le (by omega)
                                          have Hdrop := Lib.hid hdrop
                                          have Hnk := Lib.hid hnk
                                          have hsrc : ∀ a c, SrcOf w10 (.slice a 0 c) 2 0 ([] : List Value) := fun a c => ⟨a, c, rfl, rfl, fun h => absurd rfl h⟩
                                          rw [hnk] at x8
                                          subst hc
                                          clear hdrop hnk
                                          go_wp2_with (at_builtin; refine wpList_append_off rfl _ _ rfl Try.rks63 B (.slice none 0 0) 0 [] rfl (OwnsAt.nil _ _ _ _) _ 0 _ rfl (hsrc _ _) (by simp) (by unfold maxLen; omega) (by omega) (by omega) ?_)
                                          intro v6 w11 h6 k6 hb6
                                          go_wp2
                                          go_meet
                                          case rel => exact ⟨by rw [Hdrop.out, Hnk.out, Nat.sub_self]; simpa using h6, k6, fun y hy => by
                                            rcases hb6 with h | h
                                            · rw [h] at hy; cases hy
                                            · rw [h] at hy; cases hy; exact Nat.le_refl _⟩
                                        · have hsrc := SrcOf.of_own T1.out.keeps (show i + 1 ≤ ks.length by omega) (ck2 - (i + 1))
                                          rw [flat_drop LD.k_len] at hsrc
                                          have Hsrc := Lib.hid hsrc
                                          have hdl : (ks.drop (i + 1)).flatMap LD.k = (ks.drop (i + 1)).flatMap LD.k := rfl
                                          clear hsrc hdl
                                          go_wp2_with (at_builtin; refine wpList_append_off rfl _ _ rfl Try.rks63 B (.slice none 0 0) 0 [] rfl (OwnsAt.nil _ _ _ _) _ (ks.length - (i + 1)) _ rfl Hsrc.out (ld_one (fun t ht => Hone.out t (List.mem_of_mem_drop ht))) (by unfold maxLen; omega) (by omega) (by omega) ?_)
                                          intro v6 w11 h6 k6 hb6
                                          go_wp2
                                          go_meet
                                          case rel => exact ⟨by simpa using h6, k6, fun y hy => by
                                            rcases hb6 with h | h
                                            · rw [h] at hy; cases hy
                                            · rw [h] at hy; cases hy; exact Nat.le_refl _⟩
                                      case rest =>
                                        obtain ⟨h6, k6, hb6⟩ := hcut
                                        have hpre := ((T1.out.keeps).keep k6 (by simp)).cutAt (show i ≤ ks.length by omega)
                                        rw [flat_take LD.k_len] at hpre
                                        have hszc : w10.heap.size ≤ wc.heap.size := k6.size
                                        have x8c : wc.cell? ⟨p, 8, none⟩ = some (.slice (some ⟨g, off, none⟩) ks.length ck2) := (T1.out.head.keep k6 (by simp)).cell 8
                                        have Hpre := Lib.hid hpre
                                        have H6 := Lib.hid h6
                                        have K6 := Lib.hid k6
                                        obtain ⟨a6', c6', rfl⟩ := h6.shape
                                        clear h6 k6 hpre x8
                                        go_wp2_with (at_builtin; refine wpList_append_off rfl _ _ rfl Try.rks63 B (.slice none 0 0) 0 [] rfl (OwnsAt.nil _ _ _ _) _ i _ rfl (src_own Hpre.out) (ld_one (fun t ht => OwnsAt.keep (Hone.out t (List.mem_of_mem_take ht)) K6.out (by simp))) (by unfold maxLen; omega) (by omega) (by omega) ?_)
                                        intro v5 w5' h5 k5 hb5
                                        have h5 : OwnsAt w5' B 88 2 v5 i ((ks.take i).flatMap LD.k) := by simpa using h5
                                        have k5' : Keep [] wc w5' := k5
                                        have H6' := Lib.hid (H6.out.keep k5' (by simp))
                                        have hb5' : ∀ y, v5.ownBlock = some y → wc.heap.size ≤ y := fun y hy => by
                                          rcases hb5 with h | h
                                          · rw [h] at hy; cases hy
                                          · rw [h] at hy; cases hy; exact Nat.le_refl _
                                        have hsz5' : wc.heap.size ≤ w5'.heap.size := k5'.size
                                        have H5 := Lib.hid h5
                                        have K5' := Lib.hid k5'
                                        have Hb5 := Lib.hid hb5'
                                        obtain ⟨a5, c5, rfl⟩ := h5.shape
                                        clear h5 k5 k5' hb5 hb5' H6 Hpre
                                        go_wp2_with (at_builtin; refine wpList_append_off rfl _ _ rfl Try.rks63 B (.slice a5 i c5) i _ rfl H5.out _ (ks.length - (i + 1)) _ rfl (src_own H6'.out) (ld_one (fun t ht => OwnsAt.keep (OwnsAt.keep (Hone.out t (List.mem_of_mem_drop ht)) K6.out (by simp)) K5'.out (by simp))) (by unfold maxLen; omega) (by omega) (by omega) ?_)
                                        intro v7 w7' h7 k7 hb7
                                        have hb7' : ∀ y, v7.ownBlock = some y → w10.heap.size ≤ y := fun y hy => by
                                          rcases hb7 with h | h
                                          · rw [h] at hy; have := Hb5.out y hy; omega
                                          · rw [h] at hy; cases hy; omega
                                        have hflat : (ks.take i).flatMap LD.k ++ (ks.drop (i + 1)).flatMap LD.k = (ks.eraseIdx i).flatMap LD.k := by
                                          rw [← List.flatMap_append, List.eraseIdx_eq_take_drop_succ]
                                        have hel : (ks.eraseIdx i).length = ks.length - 1 := List.length_eraseIdx_of_lt hlt
                                        rw [hflat, show i + (ks.length - (i + 1)) = (ks.eraseIdx i).length by omega] at h7
                                        have Hel := Lib.hid hel
                                        have k7A : Keep [] w10 w7' := (K6.out.trans K5'.out (by simp)).trans k7 (fun y hy => Or.inr (by have := Hb5.out y (mem_own.1 hy); omega))
                                        have hmemE : ∀ t ∈ ks.eraseIdx i, t ∈ ks := fun t ht => (List.eraseIdx_sublist ks i).subset ht
                                        obtain ⟨s1, s2, s3⟩ := RIn.setKept (l := ks.eraseIdx i) T1.out (k7A.mono (by simp)) h7 (fun t ht => OwnsAt.keep (Hone.out t (hmemE t ht)) k7A (by simp)) (fun x hx => Or.inr (hb7' x hx)) (fun t ht x hx => Or.inl ⟨t, hmemE t ht, hx⟩)
                                        have hd7 := T1.out.head.keep k7A (by simp)
                                        have x87 : w7'.cell? ⟨p, 8, none⟩ = some (.slice (some ⟨g, off, none⟩) ks.length ck2) := hd7.cell 8
                                        have f87 := hd7.frozen 8
                                        have kp : Keep [p] w7' (w7'.setCell ⟨p, 8, none⟩ v7) := (Keep.refl [p] w7').setCell (by simp) _
                                        have o11 := (O10.out.keep k7A (by simp) (by simp)).beside hd7 (by decide) (by decide) kp
                                        have k11 : Keep (rFoot p (.slice ao q.open_.length co) (.slice ak q.kept.length ck) (q.open_ ++ q.kept)) w (w7'.setCell ⟨p, 8, none⟩ v7) := (K10.out.trans k7A (by simp)).trans kp (fun x hx => Or.inl (by rw [show x = p by simpa using hx]; exact mem_rFoot.2 (Or.inl rfl)))
                                        have hNext := Lib.hid (HSq.out.next Hs.out Hq.out Hno.out s1 o11 N9.out k11 (fun x hx => by
                                          rcases s3 x hx with h' | h'
                                          · exact HSq.out.reach x h'
                                          · have := K10.out.size
                                            exact Or.inr (by omega)))
                                        obtain ⟨a7', c7'', rfl⟩ := h7.shape
                                        clear hel h7 k7 hb7 hb7' hflat s1 s2 s3 hd7 kp o11 k11 k7A H5 H6' K5' Hb5 hb6
                                        go_wp2
                                        go_roundw
                                        case rel => exact ⟨true, _, _, _, _, _, rfl, hNext.out⟩
                                        case measure => simp [agN, lenV]; omega
                                    · have hb2 : (s.seq == u + 1) = false := by simpa using hq
                                      have hno2 : ∀ (j : Nat) (t : LD), j < i + 1 → ks[j]? = some t → t.seq ≠ u + 1 := fun j t hj ht => by
                                        by_cases hji : j = i
                                        · subst hji
                                          rw [hs] at ht
                                          cases ht
                                          exact hq
                                        · exact hno j t (by omega) ht
                                      have Hrel := Lib.hid (And.intro hno2 hk)
                                      have hi2 : (i : Int) ≤ 2000 := by omega
                                      clear hcells hfr hbs hs hno hq hS hk hno2 hub
                                      go_wp2_with fail
                                      go_quiet (fail)
                                      go_wp2
                                      go_roundw
                                      case rel => exact ⟨i + 1, by omega, rfl, rfl, by go_num, Hrel.out.1, Hrel.out.2.drewN _⟩
                                      case measure => simp [intOf]; omega
                                  · obtain rfl : i = ks.length := by omega
                                    have hnone : ks.find? (fun s => s.seq == u + 1) = none := by
                                      rw [List.find?_eq_none]
                                      intro s hs
                                      obtain ⟨j, hj, rfl⟩ := List.mem_iff_getElem.1 hs
                                      simpa using hno j _ hj (List.getElem?_eq_getElem hj)
                                    have Hrel := Lib.hid (hS.off hnone)
                                    clear hno hk hS HS hnone hub hlb
                                    go_wp2
                                    go_roundw
                                    case rel => exact ⟨false, f, u, ks, os, _, rfl, Hrel.out⟩
                                    case measure => simp [agN, lenV]
      · have b1 : (fr != q.peer) = false := by simp [h1]
        have b2 : (to_ != q.self) = false := by simp [h2]
        have b3 : (life != q.theirs) = true := by simp [h3]
        have Hno := Lib.hid (show inOk q fr to_ life sq ack bs = false by unfold inOk; simp; omega)
        clear h1 h2 h3
        go_enter Try.func23, Try.ntmps23
        go_wp2_with fail
        go_quiet (fail)
        go_wp2
        go_ret2
        unfold RInPost
        rw [if_neg (by simp [Hno.out])]
        exact ⟨rfl, hA.drewN _⟩
    · have b1 : (fr != q.peer) = false := by simp [h1]
      have b2 : (to_ != q.self) = true := by simp [h2]
      have Hno := Lib.hid (show inOk q fr to_ life sq ack bs = false by unfold inOk; simp; omega)
      clear h1 h2
      go_enter Try.func23, Try.ntmps23
      go_wp2_with fail
      go_quiet (fail)
      go_wp2
      go_ret2
      unfold RInPost
      rw [if_neg (by simp [Hno.out])]
      exact ⟨rfl, hA.drewN _⟩
  · have b1 : (fr != q.peer) = true := by simp [h1]
    have Hno := Lib.hid (show inOk q fr to_ life sq ack bs = false by unfold inOk; simp; omega)
    clear h1
    go_enter Try.func23, Try.ntmps23
    go_wp2_with fail
    go_quiet (fail)
    go_wp2
    go_ret2
    unfold RInPost
    rw [if_neg (by simp [Hno.out])]
    exact ⟨rfl, hA.drewN _⟩
end Go.Proofs.Ytacifjjhadjhfaa
