/- The reference term: Deliver. -/
import Derived.Test.YtiicmlhpcfhfeaaRows
import Derived.WalkKit
import Derived.WalkSpells
import Derived.WalkLawsBesides
import Derived.RegionTactic
import Derived.ChangeAlike
import Derived.BigQuiet
import Derived.Deep.QuietTactic
import Derived.StillTailTactics
import Derived.IntWalk
import Derived.Handy
import Derived.Lib.Hide
import Derived.Deep.AppendLies
import Derived.Deep.RegionWith
import Derived.Test.YtiicmlhpcfhfeaaBase
import Derived.Test.YtiicmlhpcfhfeaaTail
import Derived.Test.YtiicmlhpcfhfeaaArgs
import Derived.Test.YtiicmlhpcfhfeaaAppend
import Derived.Deep.RegionLaw
import Derived.Test.YtiicmlhpcfhfeaaOffs
import Derived.Test.YtiicmlhpcfhfeaaStructs
import Derived.Test.YtiicmlhpcfhfeaaSplit
import Derived.Test.YtiicmlhpcfhfeaaTermObj
import Derived.Test.YtiicmlhpcfhfeaaTermRead
import Derived.Test.YtiicmlhpcfhfeaaTermSettle
import Derived.Test.YtiicmlhpcfhfeaaTermSettle2
import Derived.Test.YtiicmlhpcfhfeaaTermDel
import Derived.Test.YtiicmlhpcfhfeaaTermSend
import Derived.Test.YtiicmlhpcfhfeaaTermDeliver
import Derived.Test.YtiicmlhpcfhfeaaTermNew2
import Derived.Test.YtiicmlhpcfhfeaaTermAlive
import Derived.Test.YtiicmlhpcfhfeaaTermInv2
import Derived.Test.YtiicmlhpcfhfeaaRefTerm
import Derived.Test.YtiicmlhpcfhfeaaRefSettle
import Derived.Test.YtiicmlhpcfhfeaaRefSend
import Derived.Deep.CutRange
import Derived.Deep.DeepCutAuto
namespace Go.Proofs.Ytiicmlhpcfhfeaa
open Go.RowKit
/-- the way turned -/
theorem RefIn.setWay {w w2 : World} {B p ga go gu : Nat} {vw vw' : Value} {q : TM} {l : List Sg} (h : RefIn w B p ga go gu vw q) (k : Keep [] w w2) (hr : OwnsAt w2 B 44 3 vw' l.length (l.flatMap sgC)) (hat : ∀ g, vw'.ownBlock = some g → w.heap.size ≤ g) :
    RefIn (w2.setCell ⟨p, 3, none⟩ vw') B p ga go gu vw' ⟨q.nodes, l⟩ ∧ Keep (refFoot p ga go gu vw) w (w2.setCell ⟨p, 3, none⟩ vw') ∧ ∀ x ∈ refFoot p ga go gu vw', x ∈ refFoot p ga go gu vw ∨ w.heap.size ≤ x := by
  obtain ⟨a1, a2, a3, a4, a5, a6, a7, a8, a9, a10⟩ := h.apart
  have hd2 : Blk w2 p 42 _ := h.head.keep k (by simp)
  have k3 : Keep [p] w2 (w2.setCell ⟨p, 3, none⟩ vw') := (Keep.refl _ _).setCell (by simp) _
  have hp' : vw'.ownBlock ≠ some p := hr.ne_blk hd2 (by decide)
  refine ⟨⟨hd2.set_ 3 _, (h.act.keep k (by simp)).keep k3 (by simpa using a1), (h.owe.keep k (by simp)).keep k3 (by simpa using a2), (h.up.keep k (by simp)).keep k3 (by simpa using a3), ?_, h.ne, h.base⟩, ?_, ?_⟩
  · exact hr.keep k3 (fun g hg hx => hp' ((show g = p by simpa using hx) ▸ hg))
  · exact (k.mono (T := refFoot p ga go gu vw) (by simp)).trans k3 (fun x hx => Or.inl (by simp at hx; subst hx; simp [refFoot]))
  · intro x hx
    simp only [refFoot, List.mem_cons] at hx ⊢
    rcases hx with hx | hx | hx | hx | hx
    · exact Or.inl (Or.inl hx)
    · exact Or.inl (Or.inr (Or.inl hx))
    · exact Or.inl (Or.inr (Or.inr (Or.inl hx)))
    · exact Or.inl (Or.inr (Or.inr (Or.inr (Or.inl hx))))
    · exact Or.inr (hat x (mem_own.1 hx))
set_option maxHeartbeats 16000000 in
set_option maxRecDepth 100000 in
theorem deliverR_spec {w : World} {B p : Nat} {F : List Nat} {q : TM} (k : Int) (h : RefAt w B p F q) (hB : B ≤ w.heap.size) (ok : OkR q) :
    Calls Try.prog 21 #[.pointer (some ⟨p, 0, none⟩), .int .i64 k] w (RPost B p F w (.bool (deliverN q k).2) (deliverN q k).1) := by
  obtain ⟨ga, go, gu, vw, h, rfl⟩ := h
  obtain ⟨aw, cw, rfl⟩ := h.way.shape
  have c3 : w.cell? ⟨p, 3, none⟩ = some (.slice aw q.way.length cw) := h.head.cell 3
  have hwl := ok.w_
  have hwl2 : (q.way.length : Int) ≤ 10000000 := by omega
  by_cases hin : 0 ≤ k ∧ k < q.way.length
  · obtain ⟨kn, rfl⟩ := Int.eq_ofNat_of_zero_le hin.1
    have hk : kn < q.way.length := by omega
    obtain ⟨n, hlen⟩ : ∃ n, q.way.length = n + 1 := ⟨q.way.length - 1, by omega⟩
    obtain ⟨s, hs⟩ : ∃ s, q.way[kn]? = some s := ⟨_, List.getElem?_eq_getElem hk⟩
    have hds : deliverN q kn = (settle (broughtN q s kn), true) := by
      unfold deliverN
      rw [if_pos hin, wayAt hs, Int.toNat_natCast]
    rw [hds]
    obtain ⟨f, t, ack⟩ := s
    have ht := ok.f_ _ (List.mem_of_getElem? hs)
    have hff := ok.g_ _ (List.mem_of_getElem? hs)
    simp only at ht hff
    obtain ⟨tn, rfl⟩ := Int.eq_ofNat_of_zero_le ht.1
    have htn : tn < q.nodes.length := by omega
    obtain ⟨x, hx⟩ : ∃ x, q.nodes[tn]? = some x := ⟨_, List.getElem?_eq_getElem htn⟩
    have hnx := ok.n_ x (List.mem_of_getElem? hx)
    have hbr : broughtN q (f, (tn : Int), ack) kn = if ack then ⟨q.nodes.set tn (x.1 - 1, x.2.1, x.2.2), q.way.eraseIdx kn⟩ else if (tn : Int) ≠ 0 ∧ x.2.2 = -1 then ⟨q.nodes.set tn (x.1, true, f), q.way.eraseIdx kn⟩ else ⟨q.nodes.set tn (x.1, true, x.2.2), q.way.eraseIdx kn ++ [((tn : Int), f, true)]⟩ := by
      unfold broughtN
      simp only [nd_of hx, Int.toNat_natCast]
    have hrows := h.way
    rw [hlen] at hrows c3
    obtain ⟨g, off, rfl, _, hg2, hcells, hcap, hfr⟩ := hrows.rowAt sgC_len hs (by omega)
    have e0 : w.cell? ⟨g, off + kn * 3, none⟩ = some (.int .i64 f) := hcells 0 _ (by omega) rfl
    have e1 : w.cell? ⟨g, off + kn * 3 + 1, none⟩ = some (.int .i64 tn) := hcells 1 _ (by omega) rfl
    have e2 : w.cell? ⟨g, off + kn * 3 + 2, none⟩ = some (.bool ack) := hcells 2 _ (by omega) rfl
    have hkA : Keep [] w (w.alloc (.cells #[.int .i64 f, .int .i64 tn, .bool ack] 44)) := (Keep.refl _ _).alloc _
    have b1 : Blk (w.alloc (.cells #[.int .i64 f, .int .i64 tn, .bool ack] 44)) w.heap.size 44 [.int .i64 f, .int .i64 tn, .bool ack] := Blk.new' w _ _ _ rfl
    have H := Lib.hid h
    have Hs := Lib.hid hs
    have Hx := Lib.hid hx
    have Hbr := Lib.hid hbr
    have Hlen := Lib.hid hlen
    have Hrows := Lib.hid hrows
    have Ok := Lib.hid ok
    have Hnx := Lib.hid hnx
    have hkn2 : (kn : Int) < (n : Int) + 1 := by omega
    have hn2 : (n : Int) ≤ 10000000 := by omega
    have hplt := h.head.lt
    have hwr : IntKind.i64.wrap ((kn : Int) + 1) = ((kn + 1 : Nat) : Int) := by rw [IntWalk.i64_in _ (by omega)]; rfl
    have hknc : kn + 1 ≤ cw := by omega
    clear hcells hfr hin ht hs hx hds hbr hlen h hrows ok hnx hwl hwl2
    go_enter Try.func21, Try.ntmps21
    have hf0 : 0 ≤ f := hff
    clear hff
    generalize hwA : w.alloc (.cells #[.int .i64 f, .int .i64 tn, .bool ack] 44) = wA at *
    have hszA : wA.heap.size = w.heap.size + 1 := by rw [← hwA]; simp
    have HszA := Lib.hid hszA
    go_upto_region 4 with fail
    have c3A : wA.cell? ⟨p, 3, none⟩ = some (.slice (some ⟨g, off, none⟩) (n + 1) cw) := (hkA.cell hplt (by simp)).trans c3
    clear hwA hszA c3 e0 e1 e2
    go_cut [6] from 25 (fun v6 wx => OwnsAt wx B 44 3 v6 (n - kn) ((q.way.drop (kn + 1)).flatMap sgC) ∧ Keep [] wA wx ∧ ∀ g, v6.ownBlock = some g → w.heap.size ≤ g)
    case first =>
      by_cases hc : cw = kn + 1
      · have hnk : n = kn := by omega
        have hdrop : q.way.drop (kn + 1) = [] := List.drop_of_length_le (by have := Hlen.out; omega)
        have Hdrop := Lib.hid hdrop
        have hsrc : ∀ a c, SrcOf wA (.slice a 0 c) 3 0 ([] : List Value) := fun a c => ⟨a, c, rfl, rfl, fun h => absurd rfl h⟩
        subst hc
        subst hnk
        clear hdrop
        go_wp2_with (at_builtin; refine wpList_append_off rfl _ _ rfl Try.sgs31 B (.slice none 0 0) 0 [] rfl (OwnsAt.nil _ _ _ _) _ 0 _ rfl (hsrc _ _) (by simp) (by unfold maxLen; omega) (by omega) (by have := HszA.out; omega) ?_)
        intro v6 w6 h6 k6 hb6
        go_wp2
        go_meet
        case rel => exact ⟨by rw [Hdrop.out, Nat.sub_self]; simpa using h6, k6, fun y hy => by
          rcases hb6 with h | h
          · rw [h] at hy; cases hy
          · rw [h] at hy; cases hy; have := HszA.out; omega⟩
      · have hsrc := SrcOf.of_own (Hrows.out.keep hkA (by simp)) (show kn + 1 ≤ n + 1 by omega) (cw - (kn + 1))
        rw [flat_drop sgC_len, show n + 1 - (kn + 1) = n - kn by omega] at hsrc
        have Hsrc := Lib.hid hsrc
        clear hsrc
        go_wp2_with (at_builtin; refine wpList_append_off rfl _ _ rfl Try.sgs31 B (.slice none 0 0) 0 [] rfl (OwnsAt.nil _ _ _ _) _ (n - kn) _ rfl Hsrc.out (sg_one _) (by unfold maxLen; omega) (by omega) (by have := HszA.out; omega) ?_)
        intro v6 w6 h6 k6 hb6
        go_wp2
        go_meet
        case rel => exact ⟨by simpa using h6, k6, fun y hy => by
          rcases hb6 with h | h
          · rw [h] at hy; cases hy
          · rw [h] at hy; cases hy; have := HszA.out; omega⟩
    case rest =>
      obtain ⟨h6, k6, hb6⟩ := hcut
      have hkW := hkA.trans k6 (by simp)
      have hpre := (Hrows.out.keep hkW (by simp)).cutAt (show kn ≤ n + 1 by omega)
      rw [flat_take sgC_len] at hpre
      have hszc : w.heap.size + 1 ≤ wc.heap.size := by have := k6.size; have := HszA.out; omega
      have Hpre := Lib.hid hpre
      have H6 := Lib.hid h6
      have K6 := Lib.hid k6
      have HkW := Lib.hid hkW
      have c3c : wc.cell? ⟨p, 3, none⟩ = some (.slice (some ⟨g, off, none⟩) (n + 1) cw) := (k6.cell (show p < wA.heap.size by have := HszA.out; omega) (by simp)).trans c3A
      obtain ⟨a6, c6, rfl⟩ := h6.shape
      clear h6 k6 hkW hpre c3A
      go_wp2_with (at_builtin; refine wpList_append_off rfl _ _ rfl Try.sgs31 B (.slice none 0 0) 0 [] rfl (OwnsAt.nil _ _ _ _) _ kn _ rfl (src_own Hpre.out) (sg_one _) (by unfold maxLen; omega) (by omega) (by omega) ?_)
      intro v5 w5 h5 k5 hb5
      have h5 : OwnsAt w5 B 44 3 v5 kn ((q.way.take kn).flatMap sgC) := by simpa using h5
      have k5' : Keep [] wc w5 := k5
      have H6' := Lib.hid (H6.out.keep k5' (by simp))
      have hb5' : ∀ y, v5.ownBlock = some y → wc.heap.size ≤ y := fun y hy => by
        rcases hb5 with h | h
        · rw [h] at hy; cases hy
        · rw [h] at hy; cases hy; exact Nat.le_refl _
      have hsz5 : w.heap.size + 1 ≤ w5.heap.size := by have := k5'.size; omega
      have H5 := Lib.hid h5
      have K5 := Lib.hid k5'
      have Hb5 := Lib.hid hb5'
      obtain ⟨a5, c5, rfl⟩ := h5.shape
      clear h5 k5 k5' hb5 hb5' H6 Hpre
      go_wp2_with (at_builtin; refine wpList_append_off rfl _ _ rfl Try.sgs31 B (.slice a5 kn c5) kn _ rfl H5.out _ (n - kn) _ rfl (src_own H6'.out) (sg_one _) (by unfold maxLen; omega) (by omega) (by omega) ?_)
      intro v7 w7 h7 k7 hb7
      have hb7' : ∀ y, v7.ownBlock = some y → w.heap.size ≤ y := fun y hy => by
        rcases hb7 with h | h
        · rw [h] at hy; have := Hb5.out y hy; omega
        · rw [h] at hy; cases hy; omega
      have hflat : (q.way.take kn).flatMap sgC ++ (q.way.drop (kn + 1)).flatMap sgC = (q.way.eraseIdx kn).flatMap sgC := by
        rw [← List.flatMap_append, List.eraseIdx_eq_take_drop_succ]
      have hel : (q.way.eraseIdx kn).length = n := by rw [List.length_eraseIdx_of_lt hk]; have := Hlen.out; omega
      rw [hflat, show kn + (n - kn) = n by omega] at h7
      -- since the beginning: what lies below is as it was
      have k7A : Keep [] wA w7 := (K6.out.trans K5.out (by simp)).trans k7 (fun y hy => Or.inr (by have := Hb5.out y (mem_own.1 hy); have := K6.out.size; omega))
      have k7' : Keep [] w w7 := hkA.trans k7A (by simp)
      have hd7 := H.out.head.keep k7' (by simp)
      have c37 : w7.cell? ⟨p, 3, none⟩ = some (.slice (some ⟨g, off, none⟩) q.way.length cw) := hd7.cell 3
      have f37 := hd7.frozen 3
      obtain ⟨t1, t2, t3⟩ := RefIn.setWay (l := q.way.eraseIdx kn) H.out k7' (by rw [hel]; exact h7) hb7'
      have b3 : Blk (w7.setCell ⟨p, 3, none⟩ v7) w.heap.size 44 [.int .i64 f, .int .i64 tn, .bool ack] := (b1.keep k7A (by simp)).far (by simp; omega) _
      obtain ⟨a7, c7, rfl⟩ := h7.shape
      have x0 := t1.at_ (q := ⟨q.nodes, q.way.eraseIdx kn⟩) Hx.out
      have z0 : (w7.setCell ⟨p, 3, none⟩ (.slice a7 n c7)).cell? ⟨p, 0, none⟩ = some (.slice (some ⟨ga, 0, none⟩) q.nodes.length q.nodes.length) := t1.head.cell 0
      have z1 : (w7.setCell ⟨p, 3, none⟩ (.slice a7 n c7)).cell? ⟨p, 1, none⟩ = some (.slice (some ⟨go, 0, none⟩) q.nodes.length q.nodes.length) := t1.head.cell 1
      have z2 : (w7.setCell ⟨p, 3, none⟩ (.slice a7 n c7)).cell? ⟨p, 2, none⟩ = some (.slice (some ⟨gu, 0, none⟩) q.nodes.length q.nodes.length) := t1.head.cell 2
      have z3 : (w7.setCell ⟨p, 3, none⟩ (.slice a7 n c7)).cell? ⟨p, 3, none⟩ = some (.slice a7 n c7) := by
        have h := t1.head.cell 3
        exact h
      have y0 : (w7.setCell ⟨p, 3, none⟩ (.slice a7 n c7)).cell? ⟨w.heap.size, 0, none⟩ = some (.int .i64 f) := b3.cell 0
      have y1 : (w7.setCell ⟨p, 3, none⟩ (.slice a7 n c7)).cell? ⟨w.heap.size, 1, none⟩ = some (.int .i64 tn) := b3.cell 1
      have y2 : (w7.setCell ⟨p, 3, none⟩ (.slice a7 n c7)).cell? ⟨w.heap.size, 2, none⟩ = some (.bool ack) := b3.cell 2
      have htn2 : (tn : Int) < (q.nodes.length : Int) := by omega
      have hsz7 : w.heap.size < (w7.setCell ⟨p, 3, none⟩ (.slice a7 n c7)).heap.size := by
        have := k7A.size
        have := HszA.out
        simp
        omega
      have hq := Hbr.out
      have Hel := Lib.hid hel
      have T1 := Lib.hid t1
      have B3 := Lib.hid b3
      have T2 := Lib.hid t2
      have T3 := Lib.hid t3
      have hBc : B ≤ (w7.setCell ⟨p, 3, none⟩ (.slice a7 n c7)).heap.size := by omega
      obtain ⟨xn, xa, xu⟩ := x
      simp only at x0
      obtain ⟨xa0, xo0, xu0⟩ := x0
      clear h7 k7 hb7 hb7' hflat hel t1 t2 t3 hd7 b3 K5 K6 HkW H5 H6' Hb5 hb6 k7A k7' b1 hkA c3c
      go_upto_region 10 with fail
      clear c37 f37
      generalize (w7.setCell ⟨p, 3, none⟩ (.slice a7 n c7)) = w8 at *
      have Hf0 := Lib.hid hf0
      clear hf0
      cases ack with
      | true =>
        rw [if_pos rfl] at hq
        have Hq := Lib.hid hq
        obtain ⟨s1, s2⟩ := RefIn.setOwe (q := ⟨q.nodes, q.way.eraseIdx kn⟩) T1.out Hx.out (xn - 1)
        have hset := settleR_spec (q := ⟨q.nodes.set tn (xn - 1, xa, xu), q.way.eraseIdx kn⟩) ⟨_, _, _, _, s1.keep (Keep.refl [] _).drew (by simp), rfl⟩ (by simp; omega) (UpsOk.set (x' := (xn - 1, xa, xu)) Ok.out.ups Hx.out rfl _) (by simp; have := Ok.out.l0; omega) (by simp; exact Ok.out.l1) (by simp only; have := Hel.out; omega)
        have hwr2 : IntKind.i64.wrap (xn - 1) = xn - 1 := IntWalk.i64_in _ (by have := Hnx.out; simp at this; omega)
        have fo := T1.out.owe.frozen tn
        have R1 := Lib.hid (reach_trans T2.out T3.out s2.drew (fun x hx => Or.inl hx))
        have Hset := Lib.hid hset
        clear s1 s2 hset hq xa0 xu0 z0 z2 z3 y0
        go_wp2_with fail
        go_region
        all_goals
          go_wp2_with fail
          refine Hset.out.mono ?_
          rintro e w6 ⟨rfl, F', h6, k6, f6⟩
          have Hfin := Lib.hid (reach_trans R1.out.1 R1.out.2 k6 f6)
          have H6 := Lib.hid h6
          clear h6 k6 f6
          go_wp2
          go_ret
          exact ⟨rfl, F', by rw [Hq.out]; exact H6.out, Hfin.out.1, Hfin.out.2⟩
      | false =>
        rw [if_neg (by simp)] at hq
        have hx9 : (q.nodes.set tn (xn, true, xu))[tn]? = some (xn, true, xu) := List.getElem?_set_self htn
        have hne : ga ≠ w.heap.size := fun e => by
          have h1 := H.out.act.lt
          omega
        clear xa0 xu0 xo0 z1 z2 z3
        go_upto_region 6 with fail
        refine wp_region_quiet_tail 7 (by kernel_rfl) (by kernel_rfl) ?_
        simp only [List.take_succ_cons, List.take_zero, List.drop_succ_cons, List.drop_zero]
        repeat (go_big_quiet_step (fail))
        refine quiet_tail_end ?_
        rintro _ ⟨nq, rfl⟩
        clear z0 y0 y1 y2
        have hkq : Keep [] w8 (w8.drewN nq) := (Keep.refl _ _).drewN nq
        generalize w8.drewN nq = w9 at *
        have t9 := T1.out.keep hkq (by simp)
        have xa0 := (t9.at_ (q := ⟨q.nodes, q.way.eraseIdx kn⟩) Hx.out).1
        simp only at xa0
        have fa := t9.act.frozen tn
        obtain ⟨s1, s2⟩ := RefIn.setAct (q := ⟨q.nodes, q.way.eraseIdx kn⟩) t9 Hx.out true
        have B1 := Lib.hid (show Blk (w9.setCell ⟨ga, tn, none⟩ (.bool true)) w.heap.size 44 [.int .i64 f, .int .i64 tn, .bool false] from (B3.out.keep hkq (by simp)).far hne.symm _)
        have S1 := Lib.hid s1
        have R1 := Lib.hid (reach_trans T2.out T3.out ((hkq.mono (by simp)).trans s2 (fun x hx => Or.inl hx)) (fun x hx => Or.inl hx))
        have hB9 : B ≤ (w9.setCell ⟨ga, tn, none⟩ (.bool true)).heap.size := by have := hkq.size; simp; omega
        have hp9 : p < (w9.setCell ⟨ga, tn, none⟩ (.bool true)).heap.size := by have := hkq.size; simp; omega
        clear s1 s2 t9 hkq
        go_upto_region 7 with fail
        all_goals
          clear fa xa0
          generalize w9.setCell ⟨ga, tn, none⟩ (.bool true) = wd at *
          have FX : ∀ wx, Keep [] wd wx → RefIn wx B p ga go gu (.slice a7 n c7) ⟨q.nodes.set tn (xn, true, xu), q.way.eraseIdx kn⟩ ∧ Blk wx w.heap.size 44 [.int .i64 f, .int .i64 tn, .bool false] ∧ Keep (refFoot p ga go gu (.slice (some ⟨g, off, none⟩) q.way.length cw)) w wx ∧ (∀ x ∈ refFoot p ga go gu (.slice a7 n c7), x ∈ refFoot p ga go gu (.slice (some ⟨g, off, none⟩) q.way.length cw) ∨ w.heap.size ≤ x) := fun wx hk => ⟨S1.out.keep hk (by simp), B1.out.keep hk (by simp), R1.out.1.trans hk (by simp), R1.out.2⟩
          obtain ⟨g1, b1, _, _⟩ := FX _ (Keep.refl _ _)
          have z2 : wd.cell? ⟨p, 2, none⟩ = some (.slice (some ⟨gu, 0, none⟩) q.nodes.length q.nodes.length) := by
            have h := g1.head.cell 2
            simpa using h
          have y1 : wd.cell? ⟨w.heap.size, 1, none⟩ = some (.int .i64 tn) := b1.cell 1
          have u0 : wd.cell? ⟨gu, tn, none⟩ = some (.int .i64 xu) := (g1.at_ hx9).2.2
          have FX := Lib.hid FX
          have HB9 := Lib.hid hB9
          have HP9 := Lib.hid hp9
          clear S1 R1 B1 T1 T2 T3 B3 g1 b1 hB9 hp9 hBc hsz7
          by_cases hc : (tn : Int) ≠ 0 ∧ xu = -1
          · rw [if_pos hc] at hq
            have Hq := Lib.hid hq
            obtain ⟨hc0, rfl⟩ := hc
            have h0i : ((tn : Int) != 0) = true := by simpa using hc0
            clear hq
            go_wp2_with fail
            go_quiet (fail)
            clear z2 y1 u0
            generalize hw10 : wd.drewN nq = w10
            have hk10 : Keep [] wd w10 := by rw [← hw10]; exact (Keep.refl _ _).drewN nq
            clear hw10
            obtain ⟨g1, b1, k10, f10⟩ := FX.out _ hk10
            have z2 : w10.cell? ⟨p, 2, none⟩ = some (.slice (some ⟨gu, 0, none⟩) q.nodes.length q.nodes.length) := by
              have h := g1.head.cell 2
              simpa using h
            have y0 : w10.cell? ⟨w.heap.size, 0, none⟩ = some (.int .i64 f) := b1.cell 0
            have y1 : w10.cell? ⟨w.heap.size, 1, none⟩ = some (.int .i64 tn) := b1.cell 1
            go_upto_region 8 with fail
            refine wp_region_quiet_tail 9 (by kernel_rfl) (by kernel_rfl) ?_
            simp only [List.take_succ_cons, List.take_zero, List.drop_succ_cons, List.drop_zero]
            repeat (go_big_quiet_step (fail))
            refine quiet_tail_end ?_
            rintro _ ⟨nq, rfl⟩
            have hkq : Keep [] w10 (w10.drewN nq) := (Keep.refl _ _).drewN nq
            clear z2 y0 y1
            generalize w10.drewN nq = w11 at *
            have g2 := g1.keep hkq (by simp)
            have u0 : w11.cell? ⟨gu, tn, none⟩ = some (.int .i64 (-1)) := (g2.at_ hx9).2.2
            have fu : w11.frozen? ⟨gu, tn, none⟩ = false := g2.up.frozen tn
            obtain ⟨s1, s2⟩ := RefIn.setUp (q := ⟨q.nodes.set tn (xn, true, -1), q.way.eraseIdx kn⟩) g2 hx9 f
            simp only [List.set_set] at s1
            have hups : UpsOk ⟨q.nodes.set tn (xn, true, f), q.way.eraseIdx kn⟩ := by
              refine ⟨fun y hy => ?_, fun j y hy => ?_⟩
              · rcases getset hy with ⟨e, _⟩ | ⟨_, h1⟩
                · exact absurd e.symm (by omega)
                · exact Ok.out.ups.root y h1
              · rcases getset hy with ⟨e, rfl, _⟩ | ⟨_, h1⟩
                · exact Or.inr Hf0.out
                · exact Ok.out.ups.ups j y h1
            have hset := settleR_spec (q := ⟨q.nodes.set tn (xn, true, f), q.way.eraseIdx kn⟩) ⟨_, _, _, _, s1, rfl⟩ (by have := HB9.out; have := hk10.size; have := hkq.size; simp; omega) hups (by simp; have := Ok.out.l0; omega) (by simp; exact Ok.out.l1) (by simp only; have := Hel.out; omega)
            have R2 := Lib.hid (reach_trans (k10.trans hkq (by simp)) f10 s2 (fun x hx => Or.inl hx))
            have Hset := Lib.hid hset
            clear s1 s2 hset hups g1 g2 b1 k10 f10 hk10 hkq
            go_wp2_with fail
            all_goals
              refine Hset.out.mono ?_
              rintro e w6 ⟨rfl, F', h6, k6, f6⟩
              have Hfin := Lib.hid (reach_trans R2.out.1 R2.out.2 k6 f6)
              have H6 := Lib.hid h6
              clear h6 k6 f6
              go_wp2
              go_ret
              exact ⟨rfl, F', by rw [Hq.out]; exact H6.out, Hfin.out.1, Hfin.out.2⟩
          · rw [if_neg hc] at hq
            have Hq := Lib.hid hq
            have hcases : (tn = 0) ∨ (tn ≠ 0 ∧ 0 ≤ xu) := by
              by_cases h0 : tn = 0
              · exact Or.inl h0
              · refine Or.inr ⟨h0, ?_⟩
                rcases Ok.out.ups.ups tn _ Hx.out with h1 | h1
                · exact absurd ⟨by omega, h1⟩ hc
                · exact h1
            clear hq hc
            rcases hcases with h0 | ⟨h0, hcu⟩
            · have h0i : ((tn : Int) != 0) = false := by simp; omega
              clear h0
              go_wp2_with fail
              go_quiet (fail)
              clear h0i
              clear z2 y1 u0
              generalize hw10 : wd.drewN nq = w10
              have hk10 : Keep [] wd w10 := by rw [← hw10]; exact (Keep.refl _ _).drewN nq
              clear hw10
              obtain ⟨g1, b1, k10, f10⟩ := FX.out _ hk10
              have z3 : w10.cell? ⟨p, 3, none⟩ = some (.slice a7 n c7) := by
                have h := g1.head.cell 3
                exact h
              have y0 : w10.cell? ⟨w.heap.size, 0, none⟩ = some (.int .i64 f) := b1.cell 0
              have y1 : w10.cell? ⟨w.heap.size, 1, none⟩ = some (.int .i64 tn) := b1.cell 1
              have hB10 : B ≤ w10.heap.size := by have := HB9.out; have := hk10.size; omega
              have hp10 : p < w10.heap.size := by have := HP9.out; have := hk10.size; omega
              have hway : OwnsAt w10 B 44 3 (.slice a7 n c7) n ((q.way.eraseIdx kn).flatMap sgC) := by
                have h := g1.way
                simp only [Hel.out] at h
                exact h
              have Hway := Lib.hid hway
              have G1 := Lib.hid g1
              have K10 := Lib.hid k10
              have F10 := Lib.hid f10
              clear hway g1 b1 k10 f10 hk10
              go_wp2_with fail
              go_region_law (refine step_append_off rfl (.tmp 79) (.tmp 85) rfl Try.sgs31 B (.slice a7 n c7) n ((q.way.eraseIdx kn).flatMap sgC) (by simp [Act.eval]) ((Hway.out.keep (Keep.refl [] _).drew (by simp)).keep ((Keep.refl [] _).alloc _) (by simp)) (.slice (some ⟨w10.heap.size, 0, none⟩) 1 1) 1 [.int .i64 tn, .int .i64 f, .bool true] (by simp [Act.eval]) (src_row 3 rfl _ rfl) (by simp [Value.oneCell']) (by unfold maxLen; omega) (by omega) (by simp; omega) ?_; intro v' w12 hown4 hk4 hat4; obtain ⟨g4, g5, g6⟩ := RefIn.post (q := ⟨q.nodes.set tn (xn, true, xu), q.way.eraseIdx kn⟩) (s := ((tn : Int), f, true)) (G1.out.keep (Keep.refl [] _).drew (by simp)) ((Keep.refl [] _).alloc (.cells #[.int .i64 tn, .int .i64 f, .bool true] 44)) hk4 (by simpa [sgC, Hel.out] using hown4) (by simpa using hat4); have hp4 : p ∉ ownBlocks (.slice a7 n c7) := (fun hx => G1.out.way.ne_blk G1.out.head (by decide) (mem_own.1 hx)); have c5 : w12.cell? ⟨p, 3, none⟩ = some (.slice a7 n c7) := by { have h := (((G1.out.head.drew).alloc _).keep hk4 hp4).cell 3; exact h }; have f5 : w12.frozen? ⟨p, 3, none⟩ = false := (((G1.out.head.drew).alloc _).keep hk4 hp4).frozen 3; obtain ⟨a8, c8, rfl⟩ := hown4.shape)
              all_goals
                have hset := settleR_spec ⟨_, _, _, _, g4, rfl⟩ (by have := g5.size; simp only [World.drew] at this; simp at this ⊢; omega) ((UpsOk.set (x' := (xn, true, xu)) Ok.out.ups Hx.out rfl (q.way.eraseIdx kn)).way _) (by simp; have := Ok.out.l0; omega) (by simp; exact Ok.out.l1) (by have := Hel.out; simp; omega)
                have Hset := Lib.hid hset
                have r1 := reach_trans K10.out F10.out g5.of_drew g6
                have R2 := Lib.hid r1
                clear hset g4 g5 g6 hown4 hk4 hat4 r1
                go_wp2_with fail
                refine Hset.out.mono ?_
                rintro e w7 ⟨rfl, F', h6, k6, f6⟩
                have Hfin := Lib.hid (reach_trans R2.out.1 R2.out.2 k6 f6)
                have H6 := Lib.hid h6
                clear h6 k6 f6
                go_wp2
                go_ret
                exact ⟨rfl, F', by rw [Hq.out]; exact H6.out, Hfin.out.1, Hfin.out.2⟩
            · have h0i : ((tn : Int) != 0) = true := by simp; omega
              clear h0
              have hcd : decide (xu < 0) = false := by simp; omega
              go_wp2_with fail
              go_quiet (fail)
              clear h0i hcd
              clear z2 y1 u0
              generalize hw10 : wd.drewN nq = w10
              have hk10 : Keep [] wd w10 := by rw [← hw10]; exact (Keep.refl _ _).drewN nq
              clear hw10
              obtain ⟨g1, b1, k10, f10⟩ := FX.out _ hk10
              have z3 : w10.cell? ⟨p, 3, none⟩ = some (.slice a7 n c7) := by
                have h := g1.head.cell 3
                exact h
              have y0 : w10.cell? ⟨w.heap.size, 0, none⟩ = some (.int .i64 f) := b1.cell 0
              have y1 : w10.cell? ⟨w.heap.size, 1, none⟩ = some (.int .i64 tn) := b1.cell 1
              have hB10 : B ≤ w10.heap.size := by have := HB9.out; have := hk10.size; omega
              have hp10 : p < w10.heap.size := by have := HP9.out; have := hk10.size; omega
              have hway : OwnsAt w10 B 44 3 (.slice a7 n c7) n ((q.way.eraseIdx kn).flatMap sgC) := by
                have h := g1.way
                simp only [Hel.out] at h
                exact h
              have Hway := Lib.hid hway
              have G1 := Lib.hid g1
              have K10 := Lib.hid k10
              have F10 := Lib.hid f10
              clear hway g1 b1 k10 f10 hk10
              go_wp2_with fail
              go_region_law (refine step_append_off rfl (.tmp 79) (.tmp 85) rfl Try.sgs31 B (.slice a7 n c7) n ((q.way.eraseIdx kn).flatMap sgC) (by simp [Act.eval]) ((Hway.out.keep (Keep.refl [] _).drew (by simp)).keep ((Keep.refl [] _).alloc _) (by simp)) (.slice (some ⟨w10.heap.size, 0, none⟩) 1 1) 1 [.int .i64 tn, .int .i64 f, .bool true] (by simp [Act.eval]) (src_row 3 rfl _ rfl) (by simp [Value.oneCell']) (by unfold maxLen; omega) (by omega) (by simp; omega) ?_; intro v' w12 hown4 hk4 hat4; obtain ⟨g4, g5, g6⟩ := RefIn.post (q := ⟨q.nodes.set tn (xn, true, xu), q.way.eraseIdx kn⟩) (s := ((tn : Int), f, true)) (G1.out.keep (Keep.refl [] _).drew (by simp)) ((Keep.refl [] _).alloc (.cells #[.int .i64 tn, .int .i64 f, .bool true] 44)) hk4 (by simpa [sgC, Hel.out] using hown4) (by simpa using hat4); have hp4 : p ∉ ownBlocks (.slice a7 n c7) := (fun hx => G1.out.way.ne_blk G1.out.head (by decide) (mem_own.1 hx)); have c5 : w12.cell? ⟨p, 3, none⟩ = some (.slice a7 n c7) := by { have h := (((G1.out.head.drew).alloc _).keep hk4 hp4).cell 3; exact h }; have f5 : w12.frozen? ⟨p, 3, none⟩ = false := (((G1.out.head.drew).alloc _).keep hk4 hp4).frozen 3; obtain ⟨a8, c8, rfl⟩ := hown4.shape)
              all_goals
                have hset := settleR_spec ⟨_, _, _, _, g4, rfl⟩ (by have := g5.size; simp only [World.drew] at this; simp at this ⊢; omega) ((UpsOk.set (x' := (xn, true, xu)) Ok.out.ups Hx.out rfl (q.way.eraseIdx kn)).way _) (by simp; have := Ok.out.l0; omega) (by simp; exact Ok.out.l1) (by have := Hel.out; simp; omega)
                have Hset := Lib.hid hset
                have r1 := reach_trans K10.out F10.out g5.of_drew g6
                have R2 := Lib.hid r1
                clear hset g4 g5 g6 hown4 hk4 hat4 r1
                go_wp2_with fail
                refine Hset.out.mono ?_
                rintro e w7 ⟨rfl, F', h6, k6, f6⟩
                have Hfin := Lib.hid (reach_trans R2.out.1 R2.out.2 k6 f6)
                have H6 := Lib.hid h6
                clear h6 k6 f6
                go_wp2
                go_ret
                exact ⟨rfl, F', by rw [Hq.out]; exact H6.out, Hfin.out.1, Hfin.out.2⟩
  · rw [show deliverN q k = (q, false) by unfold deliverN; rw [if_neg hin]]
    have H := Lib.hid h
    clear h ok
    by_cases h0 : k < 0
    · go_enter Try.func21, Try.ntmps21
      go_wp2
      go_ret
      exact ⟨rfl, _, ⟨ga, go, gu, _, H.out, rfl⟩, Keep.refl _ _, fun x hx => Or.inl hx⟩
    · have h1 : (q.way.length : Int) ≤ k := by omega
      clear hin
      go_enter Try.func21, Try.ntmps21
      go_wp2
      go_ret
      exact ⟨rfl, _, ⟨ga, go, gu, _, H.out, rfl⟩, Keep.refl _ _, fun x hx => Or.inl hx⟩
end Go.Proofs.Ytiicmlhpcfhfeaa
