/- Terms: Deliver. -/
import Derived.Test.YtiicmlhpcfhfeaaRows
import Derived.WalkKit
import Derived.WalkSpells
import Derived.WalkLawsBesides
import Derived.RegionTactic
import Derived.ChangeAlike
import Derived.BigQuiet
import Derived.Deep.QuietTactic
import Derived.StillTailTactics
import Derived.IntWalk
import Derived.Handy
import Derived.Lib.Hide
import Derived.Deep.AppendLies
import Derived.Deep.RegionWith
import Derived.Test.YtiicmlhpcfhfeaaBase
import Derived.Test.YtiicmlhpcfhfeaaTail
import Derived.Test.YtiicmlhpcfhfeaaArgs
import Derived.Test.YtiicmlhpcfhfeaaAppend
import Derived.Deep.RegionLaw
import Derived.Test.YtiicmlhpcfhfeaaOffs
import Derived.Test.YtiicmlhpcfhfeaaStructs
import Derived.Test.YtiicmlhpcfhfeaaSplit
import Derived.Test.YtiicmlhpcfhfeaaTermObj
import Derived.Test.YtiicmlhpcfhfeaaTermRead
import Derived.Test.YtiicmlhpcfhfeaaTermSettle
import Derived.Test.YtiicmlhpcfhfeaaTermSettle2
import Derived.Test.YtiicmlhpcfhfeaaTermDel
import Derived.Test.YtiicmlhpcfhfeaaTermSend
namespace Go.Proofs.Ytiicmlhpcfhfeaa
open Go.RowKit
theorem TermIn.cut {w w2 : World} {B p g off off' c n cap' : Nat} {vn : Value} {q : TM} {kn : Nat} (h : TermIn w B p vn (.slice (some ⟨g, off, none⟩) q.way.length c) q) (hk : kn < q.way.length) (hn : q.way.length = n + 1) (k : Keep [g] w w2)
    (hr : OwnsAt w2 B 44 3 (.slice (some ⟨g, off', none⟩) n cap') n ((q.way.eraseIdx kn).flatMap sgC)) :
    TermIn (w2.setCell ⟨p, 1, none⟩ (.slice (some ⟨g, off', none⟩) n cap')) B p vn (.slice (some ⟨g, off', none⟩) n cap') ⟨q.nodes, q.way.eraseIdx kn⟩ ∧ Keep (termFoot p vn (.slice (some ⟨g, off, none⟩) q.way.length c)) w (w2.setCell ⟨p, 1, none⟩ (.slice (some ⟨g, off', none⟩) n cap')) := by
  have n1 : g ≠ p := fun e => by subst e; exact OwnsAt.ne_blk h.way h.head (by decide) rfl
  have n2 : vn.ownBlock ≠ some g := fun hg => OwnsAt.ne_own h.nodes h.way (by decide) g hg rfl
  have n3 : vn.ownBlock ≠ some p := h.nodes.ne_blk h.head (by decide)
  have k2 : Keep [p] w2 (w2.setCell ⟨p, 1, none⟩ (.slice (some ⟨g, off', none⟩) n cap')) := (Keep.refl _ _).setCell (by simp) _
  have hd : Blk w2 p 47 [vn, .slice (some ⟨g, off, none⟩) q.way.length c] := h.head.keep k (by simpa using n1.symm)
  refine ⟨⟨hd.set_ 1 _, ?_, ?_, h.base⟩, ?_⟩
  · exact (h.nodes.keep k (fun x hx hm => n2 ((show x = g by simpa using hm) ▸ hx))).keep k2 (fun x hx hm => n3 ((show x = p by simpa using hm) ▸ hx))
  · have h1 := hr.keep k2 (fun x hx hm => n1 (by
      have e1 : x = g := by simpa [Value.ownBlock] using hx.symm
      have e2 : x = p := by simpa using hm
      rw [← e1, e2]))
    rw [show (q.way.eraseIdx kn).length = n by rw [List.length_eraseIdx_of_lt hk]; omega]
    exact h1
  · exact (k.mono (T := termFoot p vn (.slice (some ⟨g, off, none⟩) q.way.length c)) (fun x hx => Or.inl (by rw [show x = g by simpa using hx]; simp [termFoot, ownBlocks, Value.ownBlock]))).trans k2 (fun x hx => Or.inl (by rw [show x = p by simpa using hx]; simp [termFoot]))
theorem wayAt {q : TM} {kn : Nat} {s : Sg} (h : q.way[kn]? = some s) : q.way.getD (kn : Int).toNat (0, 0, false) = s := by
  rw [Int.toNat_natCast, List.getD_eq_getElem?_getD, h]
  rfl
set_option maxHeartbeats 16000000 in
set_option maxRecDepth 100000 in
theorem deliver_spec {w : World} {B p : Nat} {F : List Nat} {q : TM} (k : Int) (h : TermAt w B p F q) (hB : B ≤ w.heap.size) (hl : q.nodes.length ≤ 1000) (hwl : q.way.length ≤ 10000000) (hn : ∀ x ∈ q.nodes, -1000000000 ≤ x.1 ∧ x.1 ≤ 1000000000) (hwf : ∀ s ∈ q.way, 0 ≤ s.2.1 ∧ s.2.1 < (q.nodes.length : Int)) :
    Calls Try.prog 12 #[.pointer (some ⟨p, 0, none⟩), .int .i64 k] w (TPost B p F w (.bool (deliverN q k).2) (deliverN q k).1) := by
  obtain ⟨vn, vw, h, rfl⟩ := h
  obtain ⟨aw, cw, rfl⟩ := h.way.shape
  have c1 : w.cell? ⟨p, 1, none⟩ = some (.slice aw q.way.length cw) := h.head.cell 1
  have hwl2 : (q.way.length : Int) ≤ 10000000 := by omega
  by_cases hin : 0 ≤ k ∧ k < q.way.length
  · obtain ⟨kn, rfl⟩ := Int.eq_ofNat_of_zero_le hin.1
    have hk : kn < q.way.length := by omega
    obtain ⟨n, hlen⟩ : ∃ n, q.way.length = n + 1 := ⟨q.way.length - 1, by omega⟩
    obtain ⟨s, hs⟩ : ∃ s, q.way[kn]? = some s := ⟨_, List.getElem?_eq_getElem hk⟩
    have hds : deliverN q kn = (settle (broughtN q s kn), true) := by
      unfold deliverN
      rw [if_pos hin, wayAt hs, Int.toNat_natCast]
    rw [hds]
    obtain ⟨f, t, ack⟩ := s
    have ht := hwf _ (List.mem_of_getElem? hs)
    simp only at ht
    obtain ⟨tn, rfl⟩ := Int.eq_ofNat_of_zero_le ht.1
    have htn : tn < q.nodes.length := by omega
    obtain ⟨x, hx⟩ : ∃ x, q.nodes[tn]? = some x := ⟨_, List.getElem?_eq_getElem htn⟩
    have hnx := hn x (List.mem_of_getElem? hx)
    have hbr : broughtN q (f, (tn : Int), ack) kn = if ack then ⟨q.nodes.set tn (x.1 - 1, x.2.1, x.2.2), q.way.eraseIdx kn⟩ else if (tn : Int) ≠ 0 ∧ x.2.2 = -1 then ⟨q.nodes.set tn (x.1, true, f), q.way.eraseIdx kn⟩ else ⟨q.nodes.set tn (x.1, true, x.2.2), q.way.eraseIdx kn ++ [((tn : Int), f, true)]⟩ := by
      unfold broughtN
      simp only [nd_of hx, Int.toNat_natCast]
    have hrows := h.way
    rw [hlen] at hrows c1
    obtain ⟨g, off, rfl, _, hg2, hcells, hcap, hfr⟩ := hrows.rowAt sgC_len hs (by omega)
    have e0 : w.cell? ⟨g, off + kn * 3, none⟩ = some (.int .i64 f) := hcells 0 _ (by omega) rfl
    have e1 : w.cell? ⟨g, off + kn * 3 + 1, none⟩ = some (.int .i64 tn) := hcells 1 _ (by omega) rfl
    have e2 : w.cell? ⟨g, off + kn * 3 + 2, none⟩ = some (.bool ack) := hcells 2 _ (by omega) rfl
    have hkA : Keep [] w (w.alloc (.cells #[.int .i64 f, .int .i64 tn, .bool ack] 44)) := (Keep.refl _ _).alloc _
    have b1 : Blk (w.alloc (.cells #[.int .i64 f, .int .i64 tn, .bool ack] 44)) w.heap.size 44 [.int .i64 f, .int .i64 tn, .bool ack] := Blk.new' w _ _ _ rfl
    have hdel := delete_spec (k := kn) (hrows.keep hkA (by simp)) hlen (by omega) (by omega)
    have Hdel := Lib.hid hdel
    have H := Lib.hid h
    have Hs := Lib.hid hs
    have Hx := Lib.hid hx
    have Hbr := Lib.hid hbr
    have Hlen := Lib.hid hlen
    have hkn2 : (kn : Int) < (n : Int) + 1 := by omega
    have hplt := h.head.lt
    have hp1 := h.head.frozen 1
    clear hcells hfr hdel hin hn hwf ht hs hx hds hbr hlen h
    go_enter Try.func12, Try.ntmps12
    go_wp2_with fail
    refine Hdel.out.mono ?_
    rintro e w2 ⟨rfl, hown2, hk2⟩
    obtain ⟨t1, t2⟩ := TermIn.cut (kn := kn) (n := n) (H.out.keep hkA (by simp)) (by omega) Hlen.out hk2 hown2
    have n0 : g ≠ w.heap.size := by omega
    have b2 : Blk w2 w.heap.size 44 [.int .i64 f, .int .i64 tn, .bool ack] := b1.keep hk2 (by simpa using n0.symm)
    have b3 : Blk (w2.setCell ⟨p, 1, none⟩ (.slice (some ⟨g, off, none⟩) n cw)) w.heap.size 44 [.int .i64 f, .int .i64 tn, .bool ack] := b2.far (by simp; omega) _
    have n1 : p ≠ g := fun e => by subst e; exact OwnsAt.ne_blk H.out.way H.out.head (by decide) rfl
    have hd2 : Blk w2 p 47 [vn, .slice (some ⟨g, off, none⟩) q.way.length cw] := (H.out.head.alloc _).keep hk2 (by simpa using n1)
    have c2 : w2.cell? ⟨p, 1, none⟩ = some (.slice (some ⟨g, off, none⟩) q.way.length cw) := hd2.cell 1
    have f2 := hd2.frozen 1
    have k3 := (hkA.mono (T := termFoot p vn (.slice (some ⟨g, off, none⟩) q.way.length cw)) (by simp)).trans t2 (fun x hx => Or.inl hx)
    have T1 := Lib.hid t1
    obtain ⟨an, cn, rfl⟩ := t1.nodes.shape
    obtain ⟨gn, offn, hh, _, hgn, hcells, hcap2, hfr⟩ := t1.nodes.rowAt ndC_len (a := x) Hx.out htn
    subst hh
    have x0 : (w2.setCell ⟨p, 1, none⟩ (.slice (some ⟨g, off, none⟩) n cw)).cell? ⟨gn, offn + tn * 3, none⟩ = some (.int .i64 x.1) := hcells 0 _ (by omega) rfl
    have x1 : (w2.setCell ⟨p, 1, none⟩ (.slice (some ⟨g, off, none⟩) n cw)).cell? ⟨gn, offn + tn * 3 + 1, none⟩ = some (.bool x.2.1) := hcells 1 _ (by omega) rfl
    have x2 : (w2.setCell ⟨p, 1, none⟩ (.slice (some ⟨g, off, none⟩) n cw)).cell? ⟨gn, offn + tn * 3 + 2, none⟩ = some (.int .i64 x.2.2) := hcells 2 _ (by omega) rfl
    have y0 : (w2.setCell ⟨p, 1, none⟩ (.slice (some ⟨g, off, none⟩) n cw)).cell? ⟨w.heap.size, 0, none⟩ = some (.int .i64 f) := b3.cell 0
    have y1 : (w2.setCell ⟨p, 1, none⟩ (.slice (some ⟨g, off, none⟩) n cw)).cell? ⟨w.heap.size, 1, none⟩ = some (.int .i64 tn) := b3.cell 1
    have y2 : (w2.setCell ⟨p, 1, none⟩ (.slice (some ⟨g, off, none⟩) n cw)).cell? ⟨w.heap.size, 2, none⟩ = some (.bool ack) := b3.cell 2
    have z0 : (w2.setCell ⟨p, 1, none⟩ (.slice (some ⟨g, off, none⟩) n cw)).cell? ⟨p, 0, none⟩ = some (.slice (some ⟨gn, offn, none⟩) q.nodes.length cn) := t1.head.cell 0
    have htn2 : (tn : Int) < (q.nodes.length : Int) := by omega
    have hgs : gn ≠ w.heap.size := fun e => by
      have h1 := (H.out.nodes.lt gn rfl).2
      omega
    have hps : p ≠ w.heap.size := by omega
    rw [Hlen.out] at c2
    clear hcells hfr hcap2 hown2 hk2 t1 t2 b1 b2 hd2
    go_wp2_with fail
    clear c2 f2
    generalize (w2.setCell ⟨p, 1, none⟩ (.slice (some ⟨g, off, none⟩) n cw)) = w3 at *
    go_quiet (fail)
    have T2 := Lib.hid (T1.out.keep ((Keep.refl [] _).drewN nq) (by simp))
    have k4 := k3.drewN nq
    have b4 := b3.drewN nq
    have X0 : (w3.drewN nq).cell? _ = _ := x0
    have X1 : (w3.drewN nq).cell? _ = _ := x1
    have X2 : (w3.drewN nq).cell? _ = _ := x2
    have Y0 : (w3.drewN nq).cell? _ = _ := y0
    have Y1 : (w3.drewN nq).cell? _ = _ := y1
    have Y2 : (w3.drewN nq).cell? _ = _ := y2
    have Z0 : (w3.drewN nq).cell? _ = _ := z0
    clear T1 k3 b3 x0 x1 x2 y0 y1 y2 z0
    generalize w3.drewN nq = w4 at *
    have hB4 : B ≤ w4.heap.size := by have := k4.size; omega
    have hq := Hbr.out
    have htl := T2.out.nodes
    have hfr4 : ∀ j, w4.frozen? ⟨gn, j, none⟩ = false := htl.free
    have hel : (q.way.eraseIdx kn).length = n := by rw [List.length_eraseIdx_of_lt hk]; have := Hlen.out; omega
    have Hel := Lib.hid hel
    have hll : q.nodes.length ≤ 1000 := hl
    have Hll := Lib.hid hll
    have Hnx := Lib.hid hnx
    have Hwl := Lib.hid hwl
    clear htl hel hll hnx hl hwl Hdel H Hs b4 hkA
    cases ack with
    | true =>
      rw [if_pos rfl, Int.sub_eq_add_neg] at hq
      have Hq := Lib.hid hq
      obtain ⟨t1, t2⟩ := TermIn.turn0 (q := ⟨q.nodes, q.way.eraseIdx kn⟩) T2.out Hx.out 0 (by omega) (.int .i64 (x.1 + -1)) (x.1 + -1, x.2.1, x.2.2) rfl
      have hdebt := debt_spec (d := -1) X0 (hfr4 _) (by have := Hnx.out; omega) (by omega)
      have hset := settle_spec (q := ⟨q.nodes.set tn (x.1 + -1, x.2.1, x.2.2), q.way.eraseIdx kn⟩) ⟨_, _, t1, rfl⟩ (by simp; omega) (by simpa using Hll.out) (by have := Hel.out; have := Hwl.out; have := Hlen.out; simp only; omega)
      have K5 := Lib.hid (k4.trans t2 (fun x hx => Or.inl hx))
      have Hdebt := Lib.hid hdebt
      clear t1 t2 hdebt hq k4 hfr4
      go_wp2_with fail
      refine Hdebt.out.mono ?_
      rintro e w5 ⟨rfl, rfl⟩
      have Hset := Lib.hid hset
      clear hset
      go_wp2_with fail
      refine Hset.out.mono ?_
      rintro e w6 ⟨rfl, F', h6, k6, f6⟩
      have Hfin := Lib.hid (reach_trans K5.out (fun x hx => Or.inl hx) k6 f6)
      have H6 := Lib.hid h6
      clear h6 k6 f6
      go_wp2
      go_ret
      exact ⟨rfl, F', by rw [Hq.out]; exact H6.out, Hfin.out.1, Hfin.out.2⟩
    | false =>
      rw [if_neg (by simp)] at hq
      obtain ⟨t1, t2⟩ := TermIn.turn0 (q := ⟨q.nodes, q.way.eraseIdx kn⟩) T2.out Hx.out 1 (by omega) (.bool true) (x.1, true, x.2.2) rfl
      have hx5 : (q.nodes.set tn (x.1, true, x.2.2))[tn]? = some (x.1, true, x.2.2) := List.getElem?_set_self htn
      have k5 := k4.trans t2 (fun x hx => Or.inl hx)
      have fr1 := hfr4 (offn + tn * 3 + 1)
      have hX2 : (w4.setCell ⟨gn, offn + tn * 3 + 1, none⟩ (.bool true)).cell? ⟨gn, offn + tn * 3 + 2, none⟩ = some (.int .i64 x.2.2) := by
        rw [World.cell?_setCell_other _ _ _ _ (by simp)]
        exact X2
      have hno : OwnsAt (w4.setCell ⟨gn, offn + tn * 3 + 1, none⟩ (.bool true)) B 51 3 (.slice (some ⟨gn, offn, none⟩) q.nodes.length cn) q.nodes.length ((q.nodes.set tn (x.1, true, x.2.2)).flatMap ndC) := by
        have h5 := t1.nodes
        simp only [List.length_set] at h5
        exact h5
      have fr2 : (w4.setCell ⟨gn, offn + tn * 3 + 1, none⟩ (.bool true)).frozen? ⟨gn, offn + tn * 3 + 2, none⟩ = false := hno.free _
      have hY0 : (w4.setCell ⟨gn, offn + tn * 3 + 1, none⟩ (.bool true)).cell? ⟨w.heap.size, 0, none⟩ = some (.int .i64 f) := by
        rw [World.cell?_setCell_far _ _ _ _ hgs]
        exact Y0
      have hY1 : (w4.setCell ⟨gn, offn + tn * 3 + 1, none⟩ (.bool true)).cell? ⟨w.heap.size, 1, none⟩ = some (.int .i64 tn) := by
        rw [World.cell?_setCell_far _ _ _ _ hgs]
        exact Y1
      by_cases hc : (tn : Int) ≠ 0 ∧ x.2.2 = -1
      · rw [if_pos hc] at hq
        have Hq := Lib.hid hq
        have hc0 : tn ≠ 0 := by omega
        have hcu := hc.2
        obtain ⟨t3, t4⟩ := TermIn.turn0 (q := ⟨q.nodes.set tn (x.1, true, x.2.2), q.way.eraseIdx kn⟩) (by simpa using t1) hx5 2 (by omega) (.int .i64 f) (x.1, true, f) rfl
        have hset := settle_spec (q := ⟨q.nodes.set tn (x.1, true, f), q.way.eraseIdx kn⟩) ⟨_, _, by simpa using t3, rfl⟩ (by simp; omega) (by simpa using Hll.out) (by have := Hel.out; have := Hwl.out; have := Hlen.out; simp only; omega)
        have K5 := Lib.hid (k5.trans t4 (fun x hx => Or.inl (show x ∈ _ from hx)))
        clear t1 t2 t3 t4 hq k4 k5 hfr4 hx5 hc
        rw [hcu] at X2 hX2
        have Hset := Lib.hid hset
        clear hset
        go_wp2_with fail
        refine Hset.out.mono ?_
        rintro e w6 ⟨rfl, F', h6, k6, f6⟩
        have Hfin := Lib.hid (reach_trans K5.out (fun x hx => Or.inl hx) k6 f6)
        have H6 := Lib.hid h6
        clear h6 k6 f6
        go_wp2
        go_ret
        exact ⟨rfl, F', by rw [Hq.out]; exact H6.out, Hfin.out.1, Hfin.out.2⟩
      · rw [if_neg hc] at hq
        have Hq := Lib.hid hq
        have t1' : TermIn (w4.setCell ⟨gn, offn + tn * 3 + 1, none⟩ (.bool true)) B p (.slice (some ⟨gn, offn, none⟩) q.nodes.length cn) (.slice (some ⟨g, off, none⟩) n cw) ⟨q.nodes.set tn (x.1, true, x.2.2), q.way.eraseIdx kn⟩ := t1
        have hway5 : OwnsAt (w4.setCell ⟨gn, offn + tn * 3 + 1, none⟩ (.bool true)) B 44 3 (.slice (some ⟨g, off, none⟩) n cw) n ((q.way.eraseIdx kn).flatMap sgC) := by
          have h5 := t1'.way
          simp only [Hel.out] at h5
          exact h5
        have hB5 : B ≤ (w4.setCell ⟨gn, offn + tn * 3 + 1, none⟩ (.bool true)).heap.size := by simp; omega
        have hZ1 := t1'.head.cell 1
        have K5' := Lib.hid k5
        have T5 := Lib.hid t1'
        have hnb : n ≤ 20000000 := by have := Hwl.out; have := Hlen.out; omega
        have Hnb := Lib.hid hnb
        have hcases : (tn = 0) ∨ (tn ≠ 0 ∧ x.2.2 ≠ -1) := by
          by_cases h0 : tn = 0
          · exact Or.inl h0
          · exact Or.inr ⟨h0, fun hu => hc ⟨by omega, hu⟩⟩
        have Hno := Lib.hid hno
        have Hno := Lib.hid hno
        have Hway5 := Lib.hid hway5
        have hpw4 : p < w4.heap.size := by have := k4.size; omega
        have hZ2 : (w4.setCell ⟨gn, offn + tn * 3 + 1, none⟩ (.bool true)).cell? ⟨p, 1, none⟩ = some (.slice (some ⟨g, off, none⟩) n cw) := hZ1
        clear t1 t2 t1' hq k4 k5 hfr4 hx5 hc X0 hnb hno hZ1 hway5
        rcases hcases with h0 | ⟨h0, hcu⟩
        · have h0i : ((tn : Int) != 0) = false := by simp; omega
          clear h0
          go_wp2_with fail
          go_region_law (refine step_append_off rfl (.tmp 65) (.tmp 71) rfl Try.sgs31 B (.slice (some ⟨g, off, none⟩) n cw) n ((q.way.eraseIdx kn).flatMap sgC) (by simp [Act.eval]) ((Hway5.out.keep (Keep.refl [] _).drew (by simp)).keep ((Keep.refl [] _).alloc _) (by simp)) (.slice (some ⟨(w4.setCell ⟨gn, offn + tn * 3 + 1, none⟩ (.bool true)).heap.size, 0, none⟩) 1 1) 1 [.int .i64 tn, .int .i64 f, .bool true] (by simp [Act.eval]) (src_row 3 rfl _ rfl) (by simp [Value.oneCell']) (by unfold maxLen; have := Hnb.out; omega) (by have := Hnb.out; omega) (by simp at hB5 ⊢; omega) ?_; intro v' w6 hown6 hk6 hat6; obtain ⟨g1, g2, g3⟩ := TermIn.post (q := ⟨q.nodes.set tn (x.1, true, x.2.2), q.way.eraseIdx kn⟩) (s := ((tn : Int), f, true)) (T5.out.keep (Keep.refl [] _).drew (by simp)) ((Keep.refl [] _).alloc (.cells #[.int .i64 tn, .int .i64 f, .bool true] 44)) hk6 (by simpa [sgC, Hel.out] using hown6) (by simpa using hat6); have hp4 : p ∉ ownBlocks (.slice (some ⟨g, off, none⟩) n cw) := (fun hx => T5.out.way.ne_blk T5.out.head (by decide) (mem_own.1 hx)); have c5 : w6.cell? ⟨p, 1, none⟩ = some (.slice (some ⟨g, off, none⟩) n cw) := (((T5.out.head.drew).alloc _).keep hk6 hp4).cell 1; have f5 : w6.frozen? ⟨p, 1, none⟩ = false := (((T5.out.head.drew).alloc _).keep hk6 hp4).frozen 1; obtain ⟨a7, c7', rfl⟩ := hown6.shape)
          all_goals
            have hset := settle_spec ⟨_, _, g1, rfl⟩ (by have := K5'.out.size; have := g2.size; simp only [World.drew] at this; simp at this ⊢; omega) (by simpa using Hll.out) (by have := Hel.out; have := Hnb.out; simp; omega)
            have Hset := Lib.hid hset
            have r1 := reach_trans (K5'.out) (fun x hx => Or.inl hx) g2.of_drew g3
            have R1 := Lib.hid r1
            clear hset g1 g2 g3 hown6 hk6 hat6 r1
            go_wp2_with fail
            refine Hset.out.mono ?_
            rintro e w7 ⟨rfl, F', h6, k6, f6⟩
            have Hfin := Lib.hid (reach_trans R1.out.1 R1.out.2 k6 f6)
            have H6 := Lib.hid h6
            clear h6 k6 f6
            go_wp2
            go_ret
            exact ⟨rfl, F', by rw [Hq.out]; exact H6.out, Hfin.out.1, Hfin.out.2⟩
        · have hcu2 : (x.2.2 == -1) = false := by simpa using hcu
          have h0i : ((tn : Int) != 0) = true := by simp; omega
          clear h0 hcu
          go_wp2_with fail
          go_region_law (refine step_append_off rfl (.tmp 65) (.tmp 71) rfl Try.sgs31 B (.slice (some ⟨g, off, none⟩) n cw) n ((q.way.eraseIdx kn).flatMap sgC) (by simp [Act.eval]) ((Hway5.out.keep (Keep.refl [] _).drew (by simp)).keep ((Keep.refl [] _).alloc _) (by simp)) (.slice (some ⟨(w4.setCell ⟨gn, offn + tn * 3 + 1, none⟩ (.bool true)).heap.size, 0, none⟩) 1 1) 1 [.int .i64 tn, .int .i64 f, .bool true] (by simp [Act.eval]) (src_row 3 rfl _ rfl) (by simp [Value.oneCell']) (by unfold maxLen; have := Hnb.out; omega) (by have := Hnb.out; omega) (by simp at hB5 ⊢; omega) ?_; intro v' w6 hown6 hk6 hat6; obtain ⟨g1, g2, g3⟩ := TermIn.post (q := ⟨q.nodes.set tn (x.1, true, x.2.2), q.way.eraseIdx kn⟩) (s := ((tn : Int), f, true)) (T5.out.keep (Keep.refl [] _).drew (by simp)) ((Keep.refl [] _).alloc (.cells #[.int .i64 tn, .int .i64 f, .bool true] 44)) hk6 (by simpa [sgC, Hel.out] using hown6) (by simpa using hat6); have hp4 : p ∉ ownBlocks (.slice (some ⟨g, off, none⟩) n cw) := (fun hx => T5.out.way.ne_blk T5.out.head (by decide) (mem_own.1 hx)); have c5 : w6.cell? ⟨p, 1, none⟩ = some (.slice (some ⟨g, off, none⟩) n cw) := (((T5.out.head.drew).alloc _).keep hk6 hp4).cell 1; have f5 : w6.frozen? ⟨p, 1, none⟩ = false := (((T5.out.head.drew).alloc _).keep hk6 hp4).frozen 1; obtain ⟨a7, c7', rfl⟩ := hown6.shape)
          all_goals
            have hset := settle_spec ⟨_, _, g1, rfl⟩ (by have := K5'.out.size; have := g2.size; simp only [World.drew] at this; simp at this ⊢; omega) (by simpa using Hll.out) (by have := Hel.out; have := Hnb.out; simp; omega)
            have Hset := Lib.hid hset
            have r1 := reach_trans (K5'.out) (fun x hx => Or.inl hx) g2.of_drew g3
            have R1 := Lib.hid r1
            clear hset g1 g2 g3 hown6 hk6 hat6 r1
            go_wp2_with fail
            refine Hset.out.mono ?_
            rintro e w7 ⟨rfl, F', h6, k6, f6⟩
            have Hfin := Lib.hid (reach_trans R1.out.1 R1.out.2 k6 f6)
            have H6 := Lib.hid h6
            clear h6 k6 f6
            go_wp2
            go_ret
            exact ⟨rfl, F', by rw [Hq.out]; exact H6.out, Hfin.out.1, Hfin.out.2⟩
  · have hds : deliverN q k = (q, false) := by unfold deliverN; rw [if_neg hin]
    rw [hds]
    have Hfin : Hid (TPost B p (termFoot p vn (.slice aw q.way.length cw)) w (.bool false) q (.returned (.bool false)) w) := Lib.hid ⟨rfl, _, ⟨vn, _, h, rfl⟩, Keep.refl _ _, fun x hx => Or.inl hx⟩
    have hc : k < 0 ∨ (0 ≤ k ∧ (q.way.length : Int) ≤ k) := by omega
    clear h hin hn hwf hds
    rcases hc with hc | ⟨hc, hc2⟩
    all_goals
      go_enter Try.func12, Try.ntmps12
      go_wp2
      go_ret
      exact Hfin.out
end Go.Proofs.Ytiicmlhpcfhfeaa
