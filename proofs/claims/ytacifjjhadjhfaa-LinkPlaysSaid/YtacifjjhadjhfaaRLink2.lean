/- The reference link: frame, Send. -/
import Derived.Test.YtacifjjhadjhfaaRows
import Derived.WalkKit
import Derived.WalkSpells
import Derived.WalkLawsBesides
import Derived.RegionTactic
import Derived.ChangeAlike
import Derived.BigQuiet
import Derived.Deep.QuietTactic
import Derived.StillTailTactics
import Derived.IntWalk
import Derived.Handy
import Derived.Lib.Hide
import Derived.Deep.AppendLies
import Derived.Deep.RegionWith
import Derived.Test.YtacifjjhadjhfaaBase
import Derived.Test.YtacifjjhadjhfaaTail
import Derived.Test.YtacifjjhadjhfaaArgs
import Derived.Test.YtacifjjhadjhfaaAppend
import Derived.Deep.RegionLaw
import Derived.Test.YtacifjjhadjhfaaOffs
import Derived.Test.YtacifjjhadjhfaaStructs
import Derived.Test.YtacifjjhadjhfaaSplit
import Derived.Maps.OwnSet
import Derived.Maps.Views
import Derived.Test.YtacifjjhadjhfaaLinkBytes
import Derived.Test.YtacifjjhadjhfaaLinkObj
import Derived.Test.YtacifjjhadjhfaaLinkSend
import Derived.Test.YtacifjjhadjhfaaLinkDue
import Derived.Test.YtacifjjhadjhfaaLinkFrame
import Derived.Test.YtacifjjhadjhfaaLinkOut
import Derived.Test.YtacifjjhadjhfaaLinkOut2
import Derived.Test.YtacifjjhadjhfaaLinkOne
import Derived.Test.YtacifjjhadjhfaaLinkLive
import Derived.Test.YtacifjjhadjhfaaLinkAck
import Derived.Test.YtacifjjhadjhfaaLinkAck2
import Derived.Test.YtacifjjhadjhfaaLinkGot
import Derived.Test.YtacifjjhadjhfaaLinkGot2
import Derived.Test.YtacifjjhadjhfaaLinkGot3
import Derived.Test.YtacifjjhadjhfaaLinkInn
import Derived.Test.YtacifjjhadjhfaaLinkX2
import Derived.Deep.CutRange
import Derived.Deep.DeepCutAuto
import Derived.BigRegion
import Derived.Test.YtacifjjhadjhfaaRLink
namespace Go.Proofs.Ytacifjjhadjhfaa
open Go.RowKit
theorem ahead_n {Q : Exit → Act → World → Prop} {N : Act → World → Prop} {a : Act} {w : World} (h : N a w) : Ahead Q N Exit.normal a w := h
set_option maxHeartbeats 16000000 in
set_option maxRecDepth 100000 in
theorem frameR_spec {w : World} {B p : Nat} {vo vk : Value} {q : LK} {sq : Int} {bs : List UInt8} {v : Value} (h : RIn w B p vo vk q) (hv : BytesOf w v bs) (hbl : bs.length ≤ 1000000000) :
    Calls Try.prog 34 #[.pointer (some ⟨p, 0, none⟩), .int .i64 sq, v] w (FramePost q sq bs w) := by
  obtain ⟨ab, cb, rfl⟩ := hv.shape
  have hk0 : Keep [] w (w.alloc (.cells #[.int .i64 0, .int .i64 0, .int .i64 0, .int .i64 0, .int .i64 0, .slice none 0 0] 46)) := (Keep.refl _ _).alloc _
  have b1 : Blk (w.alloc (.cells #[.int .i64 0, .int .i64 0, .int .i64 0, .int .i64 0, .int .i64 0, .slice none 0 0] 46)) w.heap.size 46 [.int .i64 0, .int .i64 0, .int .i64 0, .int .i64 0, .int .i64 0, .slice none 0 0] := Blk.new' _ _ _ _ rfl
  have hd1 := h.head.keep hk0 (by simp)
  have hbk := hv.keep0 hk0
  have hsz : (w.alloc (.cells #[.int .i64 0, .int .i64 0, .int .i64 0, .int .i64 0, .int .i64 0, .slice none 0 0] 46)).heap.size = w.heap.size + 1 := by simp
  generalize hwA : w.alloc (.cells #[.int .i64 0, .int .i64 0, .int .i64 0, .int .i64 0, .int .i64 0, .slice none 0 0] 46) = wA at *
  have Hby := Lib.hid hbk
  clear h hv hbk
  go_enter Try.func34, Try.ntmps34
  go_wp2_with fail
  refine wp_region_split 20 (fun w' => w'.cell? ⟨p, 0, none⟩ = some (.int .i64 q.self) ∧ w'.cell? ⟨p, 1, none⟩ = some (.int .i64 q.peer) ∧ w'.cell? ⟨p, 2, none⟩ = some (.int .i64 q.life) ∧ w'.cell? ⟨p, 6, none⟩ = some (.int .i64 q.upto)) (by kernel_rfl) rfl (by kernel_rfl) ⟨hd1.cell 0, hd1.cell 1, hd1.cell 2, hd1.cell 6⟩ ?_
  intro hHeld
  simp only [List.take_succ_cons, List.take_zero]
  refine wpAnyH_take (i := 0) (v := ?_) rfl (by kernel_rfl) (by kernel_rfl) (by kernel_rfl) (fun _ _ _ h => h) (Or.inl ⟨by rfl, by (intro w hSw; (try dsimp only at hSw); go_simp) <;> with_reducible rfl⟩) (by assumption) ?_
  (try simp only [Act.put, List.setIfInBounds_toArray])
  refine wpAnyH_take (i := 1) (v := ?_) rfl (by kernel_rfl) (by kernel_rfl) (by kernel_rfl) (fun _ _ _ h => h) (Or.inl ⟨by rfl, by (intro w hSw; (try dsimp only at hSw); go_simp) <;> with_reducible rfl⟩) (by assumption) ?_
  (try simp only [Act.put])
  refine wpAnyH_take (i := 2) (v := ?_) rfl (by kernel_rfl) (by kernel_rfl) (by kernel_rfl) (fun _ _ _ h => h) (Or.inl ⟨by rfl, by (intro w hSw; (try dsimp only at hSw); go_simp) <;> with_reducible rfl⟩) (by assumption) ?_
  (try simp only [Act.put])
  refine wpAnyH_take (i := 3) (v := ?_) rfl (by kernel_rfl) (by kernel_rfl) (by kernel_rfl) (fun _ _ _ h => h) (Or.inl ⟨by rfl, by (intro w hSw; (try dsimp only at hSw); go_simp) <;> with_reducible rfl⟩) (by assumption) ?_
  (try simp only [Act.put])
  refine wpAnyH_take (i := 4) (v := ?_) rfl (by kernel_rfl) (by kernel_rfl) (by kernel_rfl) (fun _ _ _ h => h) (Or.inl ⟨by rfl, by (intro w hSw; (try dsimp only at hSw); go_simp) <;> with_reducible rfl⟩) (by assumption) ?_
  (try simp only [Act.put])
  refine wpAnyH_take (i := 5) (v := ?_) rfl (by kernel_rfl) (by kernel_rfl) (by kernel_rfl) (fun _ _ _ h => h) (Or.inl ⟨by rfl, by (intro w hSw; (try dsimp only at hSw); go_simp) <;> with_reducible rfl⟩) (by assumption) ?_
  (try simp only [Act.put])
  refine wpAnyH_take (i := 6) (v := ?_) rfl (by kernel_rfl) (by kernel_rfl) (by kernel_rfl) (fun _ _ _ h => h) (Or.inl ⟨by rfl, by (intro w hSw; (try dsimp only at hSw); go_simp) <;> with_reducible rfl⟩) (by assumption) ?_
  (try simp only [Act.put])
  refine wpAnyH_take (i := 7) (v := ?_) rfl (by kernel_rfl) (by kernel_rfl) (by kernel_rfl) (fun _ _ _ h => h) (Or.inl ⟨by rfl, by (intro w hSw; (try dsimp only at hSw); go_simp) <;> with_reducible rfl⟩) (by assumption) ?_
  (try simp only [Act.put])
  refine wpAnyH_take (i := 8) (v := ?_) rfl (by kernel_rfl) (by kernel_rfl) (by kernel_rfl) (fun _ _ _ h => h) (Or.inl ⟨by rfl, by (intro w hSw; (try dsimp only at hSw); go_simp) <;> with_reducible rfl⟩) (by assumption) ?_
  (try simp only [Act.put])
  refine wpAnyH_take (i := 9) (v := ?_) rfl (by kernel_rfl) (by kernel_rfl) (by kernel_rfl) (fun _ _ _ h => h) (Or.inl ⟨by rfl, by (intro w hSw; (try dsimp only at hSw); go_simp) <;> with_reducible rfl⟩) (by assumption) ?_
  (try simp only [Act.put])
  refine wpAnyH_take (i := 10) (v := ?_) rfl (by kernel_rfl) (by kernel_rfl) (by kernel_rfl) (fun _ _ _ h => h) (Or.inl ⟨by rfl, by (intro w hSw; (try dsimp only at hSw); go_simp) <;> with_reducible rfl⟩) (by assumption) ?_
  (try simp only [Act.put])
  refine wpAnyH_take (i := 11) (v := ?_) rfl (by kernel_rfl) (by kernel_rfl) (by kernel_rfl) (fun _ _ _ h => h) (Or.inl ⟨by rfl, by (intro w hSw; (try dsimp only at hSw); go_simp) <;> with_reducible rfl⟩) (by assumption) ?_
  (try simp only [Act.put])
  refine wpAnyH_take (i := 12) (v := ?_) rfl (by kernel_rfl) (by kernel_rfl) (by kernel_rfl) (fun _ _ _ h => h) (Or.inl ⟨by rfl, by (intro w hSw; (try dsimp only at hSw); go_simp) <;> with_reducible rfl⟩) (by assumption) ?_
  (try simp only [Act.put])
  refine wpAnyH_take (i := 13) (v := ?_) rfl (by kernel_rfl) (by kernel_rfl) (by kernel_rfl) (fun _ _ _ h => h) (Or.inl ⟨by rfl, by (intro w hSw; (try dsimp only at hSw); go_simp) <;> with_reducible rfl⟩) (by assumption) ?_
  (try simp only [Act.put])
  refine wpAnyH_take (i := 14) (v := ?_) rfl (by kernel_rfl) (by kernel_rfl) (by kernel_rfl) (fun _ _ _ h => h) (Or.inl ⟨by rfl, by (intro w hSw; (try dsimp only at hSw); go_simp) <;> with_reducible rfl⟩) (by assumption) ?_
  (try simp only [Act.put])
  refine wpAnyH_take (i := 15) (v := ?_) rfl (by kernel_rfl) (by kernel_rfl) (by kernel_rfl) (fun _ _ _ h => h) (Or.inl ⟨by rfl, by (intro w hSw; (try dsimp only at hSw); go_simp) <;> with_reducible rfl⟩) (by assumption) ?_
  (try simp only [Act.put])
  refine wpAnyH_take (i := 16) (v := ?_) rfl (by kernel_rfl) (by kernel_rfl) (by kernel_rfl) (fun _ _ _ h => h) (Or.inl ⟨by rfl, by (intro w hSw; (try dsimp only at hSw); go_simp) <;> with_reducible rfl⟩) (by assumption) ?_
  (try simp only [Act.put])
  refine wpAnyH_take (i := 17) (v := ?_) rfl (by kernel_rfl) (by kernel_rfl) (by kernel_rfl) (fun _ _ _ h => h) (Or.inl ⟨by rfl, by (intro w hSw; (try dsimp only at hSw); go_simp) <;> with_reducible rfl⟩) (by assumption) ?_
  (try simp only [Act.put])
  refine wpAnyH_ready (rs := [18]) (by kernel_rfl) (by simp) ?_
  refine AllReadyH.cons (o := { dst := some 25, op := .call { callee := .builtin .append, args := #[.const (.slice none 0 0), .tmp 24], argTypes := #[35, 35] }, type := 35, pos := "net.go:340", after := #[{ on := 17, ground := .data }], guard := none }) rfl (fun K hK => ?_) AllReadyH.nil
  refine step_append_off rfl (.const (.slice none 0 0)) (.tmp 24) rfl Try.bytes35 wA.heap.size (.slice none 0 0) 0 [] (by simp [Act.eval]) (OwnsAt.nil _ _ _ _) (.slice ab bs.length cb) bs.length (bs.map u8) (by simp [Act.eval]) (SrcOf.of_bytes (Hby.out.keep0 (Keep.refl [] _).drew)) (by simp [u8, Value.oneCell']) (by unfold maxLen; omega) (by omega) (by simp) ?_
  intro v3 w3 ho3 hk3 hat3
  have hk3 : Keep [] wA.drew w3 := hk3
  have ho : OwnB w3 wA.heap.size v3 bs := by unfold OwnB; simpa using ho3
  have hd3 := hd1.drew.keep hk3 (by simp)
  have b3 := b1.drew.keep hk3 (by simp)
  have hsh := OwnsAt.shape ho
  clear ho3 hat3
  refine hK.out _ _ ?_ (fun hHeld => ?_)
  · exact ⟨hd3.cell 0, hd3.cell 1, hd3.cell 2, hd3.cell 6⟩
  clear hK K
  obtain ⟨a9, c9, rfl⟩ := hsh
  (try simp only [Act.put])
  refine wpAnyH_take (i := 19) (v := ?_) rfl (by kernel_rfl) (by kernel_rfl) (by kernel_rfl) (fun _ _ _ h => h) (Or.inl ⟨by rfl, by (intro w hSw; (try dsimp only at hSw); go_simp) <;> with_reducible rfl⟩) (by assumption) ?_
  (try simp only [Act.put])
  refine wpAnyH_done (by kernel_rfl) ?_ _
  have d0 : w3.cell? ⟨w.heap.size, 0, none⟩ = some (.int .i64 0) := b3.cell 0
  have d1 : w3.cell? ⟨w.heap.size, 1, none⟩ = some (.int .i64 0) := b3.cell 1
  have d2 : w3.cell? ⟨w.heap.size, 2, none⟩ = some (.int .i64 0) := b3.cell 2
  have d3 : w3.cell? ⟨w.heap.size, 3, none⟩ = some (.int .i64 0) := b3.cell 3
  have d4 : w3.cell? ⟨w.heap.size, 4, none⟩ = some (.int .i64 0) := b3.cell 4
  have d5 : w3.cell? ⟨w.heap.size, 5, none⟩ = some (.slice none 0 0) := b3.cell 5
  have f0 := b3.frozen 0
  have f1 := b3.frozen 1
  have f2 := b3.frozen 2
  have f3 := b3.frozen 3
  have f4 := b3.frozen 4
  have f5 := b3.frozen 5
  have hfin : ∀ w4, w4 = ((((((w3.setCell ⟨w.heap.size, 0, none⟩ (.int .i64 q.self)).setCell ⟨w.heap.size, 1, none⟩ (.int .i64 q.peer)).setCell ⟨w.heap.size, 2, none⟩ (.int .i64 q.life)).setCell ⟨w.heap.size, 3, none⟩ (.int .i64 sq)).setCell ⟨w.heap.size, 4, none⟩ (.int .i64 q.upto)).setCell ⟨w.heap.size, 5, none⟩ (.slice a9 bs.length c9)) →
      FramePost q sq bs w (.returned (.agg #[.int .i64 q.self, .int .i64 q.peer, .int .i64 q.life, .int .i64 sq, .int .i64 q.upto, .slice a9 bs.length c9])) w4 := by
    rintro w4 rfl
    have hk4 : Keep [w.heap.size] w3 ((((((w3.setCell ⟨w.heap.size, 0, none⟩ (.int .i64 q.self)).setCell ⟨w.heap.size, 1, none⟩ (.int .i64 q.peer)).setCell ⟨w.heap.size, 2, none⟩ (.int .i64 q.life)).setCell ⟨w.heap.size, 3, none⟩ (.int .i64 sq)).setCell ⟨w.heap.size, 4, none⟩ (.int .i64 q.upto)).setCell ⟨w.heap.size, 5, none⟩ (.slice a9 bs.length c9)) :=
      ((((((Keep.refl _ _).setCell (by simp) _).setCell (by simp) _).setCell (by simp) _).setCell (by simp) _).setCell (by simp) _).setCell (by simp) _
    refine ⟨_, rfl, ?_, ((hk0.trans hk3.of_drew (by simp)).trans hk4 (by simp))⟩
    refine OwnsAt.mono (OwnsAt.keep ho hk4 (fun g hg hm => ?_)) (by omega)
    have h1 := (OwnsAt.lt ho g hg).1
    have h2 : g = w.heap.size := by simpa using hm
    omega
  have Hfin := Lib.hid hfin
  clear hfin hk0 hk3 ho hd3 b3
  refine ahead_n ?_
  show Oper.wp _ _ _ _ _ _
  go_simp
  go_wp2
  exact bodyPost_ret (v := .agg #[.int .i64 q.self, .int .i64 q.peer, .int .i64 q.life, .int .i64 sq, .int .i64 q.upto, .slice a9 bs.length c9]) (by simp [results, Try.results34, go_sem, d0, d1, d2, d3, d4, d5]) rfl (Hfin.out _ rfl)
/-- what Send answers, and leaves -/
def sendCode (q : LK) (bs : List UInt8) : Int := if 4096 < bs.length then 3 else if q.last ≤ q.seq then 32 else if 8 ≤ q.open_.length then 31 else 0
def SentTo (q : LK) (bs : List UInt8) (c : Int) (q2 : LK) : Prop := if c = 0 then ∃ bv, q2 = { q with seq := q.seq + 1, open_ := q.open_ ++ [⟨q.seq + 1, 0, 0, bs, bv⟩] } else q2 = q
def RSent (B p : Nat) (F : List Nat) (w : World) (q : LK) (bs : List UInt8) (e : Ending) (w' : World) : Prop :=
  ∃ q2 F', e = .returned (.int .i64 (sendCode q bs)) ∧ RAt w' B p F' q2 ∧ Keep F w w' ∧ (∀ x ∈ F', x ∈ F ∨ w.heap.size ≤ x) ∧ SentTo q bs (sendCode q bs) q2
def RSent0 (B p : Nat) (F : List Nat) (w : World) (q : LK) (bs : List UInt8) (e : Ending) (w' : World) : Prop :=
  ∃ q2 F', e = .returned (.int .i64 0) ∧ RAt w' B p F' q2 ∧ Keep F w w' ∧ (∀ x ∈ F', x ∈ F ∨ w.heap.size ≤ x) ∧ SentTo q bs 0 q2
theorem RSent.same {B p : Nat} {F : List Nat} {w w' : World} {q : LK} {bs : List UInt8} {c : Int} (h : RAt w B p F q) (k : Keep [] w w') (hc : sendCode q bs = c) (h0 : c ≠ 0) : RSent B p F w q bs (.returned (.int .i64 c)) w' := by
  refine ⟨q, F, by rw [hc], h.keep k (by simp), k.mono (by simp), fun x hx => Or.inl hx, ?_⟩
  unfold SentTo
  rw [hc, if_neg h0]
set_option maxHeartbeats 16000000 in
set_option maxRecDepth 100000 in
theorem sendR_spec {w : World} {B p : Nat} {F : List Nat} {q : LK} {bs : List UInt8} {v : Value} (h : RAt w B p F q) (hB : B ≤ w.heap.size) (hv : ∀ w', Keep F w w' → BytesOf w' v bs) (hbl : bs.length ≤ 1000000) (hs0 : 0 ≤ q.seq) (hlast : q.last ≤ 9223372036854775807) :
    Calls Try.prog 20 #[.pointer (some ⟨p, 0, none⟩), v] w (RSent B p F w q bs) := by
  have hR := h
  obtain ⟨vo, vk, h, rfl⟩ := h
  obtain ⟨aw, cw, rfl⟩ := h.rows.shape
  obtain ⟨ab, cb, rfl⟩ := (hv w (Keep.refl _ _)).shape
  have c4 : w.cell? ⟨p, 4, none⟩ = some (.int .i64 q.last) := h.head.cell 4
  have c5 : w.cell? ⟨p, 5, none⟩ = some (.int .i64 q.seq) := h.head.cell 5
  have c7 : w.cell? ⟨p, 7, none⟩ = some (.slice aw q.open_.length cw) := h.head.cell 7
  have f5 := h.head.frozen 5
  by_cases hb : 4096 < bs.length
  · have hbI : (4096 : Int) < (bs.length : Int) := by omega
    have Hfin := Lib.hid (RSent.same (c := 3) (w' := w) hR (Keep.refl _ _) (by unfold sendCode; rw [if_pos hb]) (by decide))
    clear h hv hb hR
    go_enter Try.func20, Try.ntmps20
    go_wp2
    go_ret
    exact Hfin.out
  · have hbI : ¬ (4096 : Int) < (bs.length : Int) := by omega
    by_cases hsl : q.last ≤ q.seq
    · have Hfin := Lib.hid (fun n => RSent.same (c := 32) (w' := w.drewN n) hR ((Keep.refl _ _).drewN n) (by unfold sendCode; rw [if_neg hb, if_pos hsl]) (by decide))
      clear h hv hb hR
      go_enter Try.func20, Try.ntmps20
      go_wp2_with fail
      go_quiet (fail)
      go_wp2
      go_ret
      exact Hfin.out _
    · by_cases hol : 8 ≤ q.open_.length
      · have holI : (8 : Int) ≤ (q.open_.length : Int) := by omega
        have Hfin := Lib.hid (fun n => RSent.same (c := 31) (w' := w.drewN n) hR ((Keep.refl _ _).drewN n) (by unfold sendCode; rw [if_neg hb, if_neg hsl, if_pos hol]) (by decide))
        clear h hv hb hol hR
        go_enter Try.func20, Try.ntmps20
        go_wp2_with fail
        go_quiet (fail)
        go_wp2
        go_ret
        exact Hfin.out _
      · have holI : ¬ (8 : Int) ≤ (q.open_.length : Int) := by omega
        have hw1 : IntKind.i64.wrap (q.seq + 1) = q.seq + 1 := IntWalk.i64_in _ (by omega)
        have hcode : sendCode q bs = 0 := by unfold sendCode; rw [if_neg hb, if_neg hsl, if_neg hol]
        have hpost : RSent B p (rFoot p (.slice aw q.open_.length cw) vk (q.open_ ++ q.kept)) w q bs = RSent0 B p (rFoot p (.slice aw q.open_.length cw) vk (q.open_ ++ q.kept)) w q bs := by
          funext e w'
          unfold RSent RSent0
          rw [hcode]
        rw [hpost]
        have H := Lib.hid h
        have Hv := Lib.hid hv
        have hol8 : q.open_.length < 8 := by omega
        clear h hv hol hR hpost hcode
        go_enter Try.func20, Try.ntmps20
        go_wp2_with fail
        go_quiet (fail)
        have h2 := H.out.keep ((Keep.refl [] w).drewN nq) (by simp)
        obtain ⟨t1, t2⟩ := RIn.turn (q' := { q with seq := q.seq + 1 }) h2 5 (.int .i64 (q.seq + 1)) rfl rfl rfl
        have Hby := Lib.hid (Hv.out _ (((Keep.refl _ _).drewN nq).trans t2 (fun x hx => Or.inl hx)))
        go_wp2_with fail
        have T2 := Lib.hid (((Keep.refl (rFoot p (.slice aw q.open_.length cw) vk (q.open_ ++ q.kept)) w).drewN nq).trans t2 (fun x hx => Or.inl hx))
        have hB2 : B ≤ ((w.drewN nq).setCell ⟨p, 5, none⟩ (.int .i64 (q.seq + 1))).heap.size := by simpa using hB
        generalize (w.drewN nq).setCell ⟨p, 5, none⟩ (.int .i64 (q.seq + 1)) = w2 at *
        have c7 : w2.cell? ⟨p, 7, none⟩ = some (.slice aw q.open_.length cw) := t1.head.cell 7
        have c5' : w2.cell? ⟨p, 5, none⟩ = some (.int .i64 (q.seq + 1)) := t1.head.cell 5
        have hn2 := t1.keep (Keep.refl [] _).drew (by simp)
        clear t1 t2 h2
        refine wp_region_split 16 (fun w' => w'.cell? ⟨p, 7, none⟩ = some (.slice aw q.open_.length cw) ∧ w'.cell? ⟨p, 5, none⟩ = some (.int .i64 (q.seq + 1))) (by kernel_rfl) rfl (by kernel_rfl) ⟨c7, c5'⟩ ?_
        intro hHeld
        simp only [List.take_succ_cons, List.take_zero]
        refine wpAnyH_take (i := 0) (v := ?_) rfl (by kernel_rfl) (by kernel_rfl) (by kernel_rfl) (fun _ _ _ h => h) (Or.inl ⟨by rfl, by (intro w hSw; (try dsimp only at hSw); go_simp) <;> with_reducible rfl⟩) (by assumption) ?_
        (try simp only [Act.put, List.setIfInBounds_toArray])
        refine wpAnyH_take (i := 1) (v := ?_) rfl (by kernel_rfl) (by kernel_rfl) (by kernel_rfl) (fun _ _ _ h => h) (Or.inl ⟨by rfl, by (intro w hSw; (try dsimp only at hSw); go_simp) <;> with_reducible rfl⟩) (by assumption) ?_
        (try simp only [Act.put])
        refine wpAnyH_take (i := 2) (v := ?_) rfl (by kernel_rfl) (by kernel_rfl) (by kernel_rfl) (fun _ _ _ h => h) (Or.inl ⟨by rfl, by (intro w hSw; (try dsimp only at hSw); go_simp) <;> with_reducible rfl⟩) (by assumption) ?_
        (try simp only [Act.put])
        refine wpAnyH_take (i := 3) (v := ?_) rfl (by kernel_rfl) (by kernel_rfl) (by kernel_rfl) (fun _ _ _ h => h) (Or.inl ⟨by rfl, by (intro w hSw; (try dsimp only at hSw); go_simp) <;> with_reducible rfl⟩) (by assumption) ?_
        (try simp only [Act.put])
        refine wpAnyH_take (i := 4) (v := ?_) rfl (by kernel_rfl) (by kernel_rfl) (by kernel_rfl) (fun _ _ _ h => h) (Or.inl ⟨by rfl, by (intro w hSw; (try dsimp only at hSw); go_simp) <;> with_reducible rfl⟩) (by assumption) ?_
        (try simp only [Act.put])
        refine wpAnyH_take (i := 5) (v := ?_) rfl (by kernel_rfl) (by kernel_rfl) (by kernel_rfl) (fun _ _ _ h => h) (Or.inl ⟨by rfl, by (intro w hSw; (try dsimp only at hSw); go_simp) <;> with_reducible rfl⟩) (by assumption) ?_
        (try simp only [Act.put])
        refine wpAnyH_take (i := 6) (v := ?_) rfl (by kernel_rfl) (by kernel_rfl) (by kernel_rfl) (fun _ _ _ h => h) (Or.inl ⟨by rfl, by (intro w hSw; (try dsimp only at hSw); go_simp) <;> with_reducible rfl⟩) (by assumption) ?_
        (try simp only [Act.put])
        refine wpAnyH_take (i := 7) (v := ?_) rfl (by kernel_rfl) (by kernel_rfl) (by kernel_rfl) (fun _ _ _ h => h) (Or.inl ⟨by rfl, by (intro w hSw; (try dsimp only at hSw); go_simp) <;> with_reducible rfl⟩) (by assumption) ?_
        (try simp only [Act.put])
        refine wpAnyH_take (i := 8) (v := ?_) rfl (by kernel_rfl) (by kernel_rfl) (by kernel_rfl) (fun _ _ _ h => h) (Or.inl ⟨by rfl, by (intro w hSw; (try dsimp only at hSw); go_simp) <;> with_reducible rfl⟩) (by assumption) ?_
        (try simp only [Act.put])
        refine wpAnyH_take (i := 9) (v := ?_) rfl (by kernel_rfl) (by kernel_rfl) (by kernel_rfl) (fun _ _ _ h => h) (Or.inl ⟨by rfl, by (intro w hSw; (try dsimp only at hSw); go_simp) <;> with_reducible rfl⟩) (by assumption) ?_
        (try simp only [Act.put])
        refine wpAnyH_ready (rs := [10]) (by kernel_rfl) (by simp) ?_
        refine AllReadyH.cons (o := { dst := some 43, op := .call { callee := .builtin .append, args := #[.const (.slice none 0 0), .tmp 42], argTypes := #[35, 35] }, type := 35, pos := "net.go:322", after := #[{ on := 9, ground := .data }], guard := none }) rfl (fun K hK => ?_) AllReadyH.nil
        refine step_append_off rfl (.const (.slice none 0 0)) (.tmp 42) rfl Try.bytes35 w2.heap.size (.slice none 0 0) 0 [] (by simp [Act.eval]) (OwnsAt.nil _ _ _ _) (.slice ab bs.length cb) bs.length (bs.map u8) (by simp [Act.eval]) (SrcOf.of_bytes (Hby.out.keep0 (Keep.refl [] _).drew)) (by simp [u8, Value.oneCell']) (by unfold maxLen; omega) (by omega) (by simp) ?_
        intro v3 w3 ho3 hk3 hat3
        have hk3 : Keep [] w2.drew w3 := hk3
        have ho : OwnB w3 w2.heap.size v3 bs := by unfold OwnB; simpa using ho3
        have hn3 := hn2.keep hk3 (by simp)
        have hsz3 := hk3.size
        have hsh := OwnsAt.shape ho
        clear ho3 hat3
        refine hK.out _ _ ?_ (fun hHeld => ?_)
        · exact ⟨hn3.head.cell 7, hn3.head.cell 5⟩
        clear hK K
        obtain ⟨a9, c9, rfl⟩ := hsh
        (try simp only [Act.put])
        refine wpAnyH_take (i := 11) (v := ?_) rfl (by kernel_rfl) (by kernel_rfl) (by kernel_rfl) (fun _ _ _ h => h) (Or.inl ⟨by rfl, by (intro w hSw; (try dsimp only at hSw); go_simp) <;> with_reducible rfl⟩) (by assumption) ?_
        (try simp only [Act.put])
        refine wpAnyH_ready (rs := [12]) (by kernel_rfl) (by simp) ?_
        refine AllReadyH.cons rfl (fun K hK => ?_) AllReadyH.nil
        go_simp
        refine hK.out _ _ ?_ (fun hHeld => ?_)
        · exact ⟨(hn3.head.alloc _).cell 7, (hn3.head.alloc _).cell 5⟩
        clear hK K
        (try simp only [Act.put, List.setIfInBounds_toArray, List.set_cons_zero, List.set_cons_succ])
        refine wpAnyH_ready (rs := [13]) (by kernel_rfl) (by simp) ?_
        refine AllReadyH.cons rfl (fun K hK => ?_) AllReadyH.nil
        refine step_append_off rfl (.tmp 37) (.tmp 45) rfl Try.ros62 B (.slice aw q.open_.length cw) q.open_.length (q.open_.flatMap LD.o) (by simp [Act.eval]) (hn3.rows.keep ((Keep.refl [] _).alloc _) (by simp)) (.slice (some ⟨w3.heap.size, 0, none⟩) 1 1) 1 [.int .i64 (q.seq + 1), .int .i64 0, .int .i64 0, .slice a9 bs.length c9] (by simp [Act.eval]) (src_row 4 rfl _ rfl) (by simp [Value.oneCell']) (by unfold maxLen; omega) (by omega) (by simp at hsz3; simp; omega) ?_
        intro v' w4 hown4 hk4 hat4
        have hp4 : p ∉ ownBlocks (.slice aw q.open_.length cw) := (fun hx => hn3.apart.1 (mem_own.1 hx))
        have hd4 := (hn3.head.alloc (.cells #[.int .i64 (q.seq + 1), .int .i64 0, .int .i64 0, .slice a9 bs.length c9] 83)).keep hk4 hp4
        have x7 : w4.cell? ⟨p, 7, none⟩ = some (.slice aw q.open_.length cw) := hd4.cell 7
        have x5 : w4.cell? ⟨p, 5, none⟩ = some (.int .i64 (q.seq + 1)) := hd4.cell 5
        have f7 : w4.frozen? ⟨p, 7, none⟩ = false := hd4.frozen 7
        have hsh := hown4.shape
        refine hK.out _ _ ?_ (fun hHeld => ?_)
        · exact ⟨x7, x5⟩
        clear hK K
        obtain ⟨a7, c7', rfl⟩ := hsh
        (try simp only [Act.put, List.setIfInBounds_toArray])
        refine wpAnyH_take (i := 14) (v := ?_) rfl (by kernel_rfl) (by kernel_rfl) (by kernel_rfl) (fun _ _ _ h => h) (Or.inl ⟨by rfl, by (intro w hSw; (try dsimp only at hSw); go_simp) <;> with_reducible rfl⟩) (by assumption) ?_
        (try simp only [Act.put])
        refine wpAnyH_take (i := 15) (v := ?_) rfl (by kernel_rfl) (by kernel_rfl) (by kernel_rfl) (fun _ _ _ h => h) (Or.inl ⟨by rfl, by (intro w hSw; (try dsimp only at hSw); go_simp) <;> with_reducible rfl⟩) (by assumption) ?_
        (try simp only [Act.put])
        refine wpAnyH_done (by kernel_rfl) ?_ _
        have ho4 : OwnB w4 w2.heap.size (.slice a9 bs.length c9) bs := OwnsAt.keep (OwnsAt.keep ho ((Keep.refl [] _).alloc _) (by simp)) hk4 (fun g hg hx => by
          have h1 := (OwnsAt.lt ho g hg).1
          have h2 := (hn2.rows.lt g (mem_own.1 hx)).2
          simp at h2
          omega)
        have k34 : Keep (ownBlocks (.slice aw q.open_.length cw)) w2.drew w4 := ((hk3.mono (T := ownBlocks (.slice aw q.open_.length cw)) (by simp)).alloc (.cells #[.int .i64 (q.seq + 1), .int .i64 0, .int .i64 0, .slice a9 bs.length c9] 83)).trans hk4 (fun x hx => Or.inl hx)
        obtain ⟨g1, g2, g3⟩ := RIn.setRows (l := q.open_ ++ [⟨q.seq + 1, 0, 0, bs, .slice a9 bs.length c9⟩]) hn2 k34 (by simpa [LD.o] using hown4) (fun s hs => by
            rcases List.mem_append.1 hs with hs | hs
            · exact OwnsAt.keep (hn2.bytes s (List.mem_append_left _ hs)) k34 (fun g hg hx => ((hn2.apart.2.2.2 s (List.mem_append_left _ hs)).2.1 g (mem_own.1 hx)) hg)
            · rw [show s = _ by simpa using hs]
              exact OwnsAt.mono ho4 hB2) (fun x hx => by
            rcases hat4 with h' | h'
            · exact Or.inl (by rw [← h']; exact hx)
            · rw [h'] at hx
              cases hx
              exact Or.inr (by simp at hsz3; simp; omega)) (fun s hs x hx => by
            rcases List.mem_append.1 hs with hs | hs
            · exact Or.inl ⟨s, hs, hx⟩
            · rw [show s = _ by simpa using hs] at hx
              exact Or.inr (OwnsAt.lt ho4 x hx).1)
        have Hfin := Lib.hid (And.intro g1 (And.intro ((T2.out.trans (Keep.refl (rFoot p (.slice aw q.open_.length cw) vk (q.open_ ++ q.kept)) _).drew (fun x hx => Or.inl hx)).trans g2 (fun x hx => Or.inl hx)) g3))
        have hszw := T2.out.size
        clear g1 g2 g3 hn3 hn2 hk3 hk4 hown4 hat4 ho ho4 k34 hd4
        show Oper.wp _ _ _ _ _ _
        go_simp
        go_wp2
        go_ret
        refine ⟨_, _, rfl, ⟨_, vk, Hfin.out.1, rfl⟩, Hfin.out.2.1, fun x hx => ?_, ?_⟩
        · rcases Hfin.out.2.2 x hx with h' | h'
          · exact Or.inl h'
          · exact Or.inr (by simp at h'; omega)
        · unfold SentTo
          rw [if_pos rfl]
          exact ⟨_, rfl⟩
end Go.Proofs.Ytacifjjhadjhfaa
