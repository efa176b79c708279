/- The law DequePlays. -/
import Derived.Test.YtkeaekckblpfjaaRows
import Derived.WalkKit
import Derived.WalkSpells
import Derived.WalkLawsBesides
import Derived.RegionTactic
import Derived.ChangeAlike
import Derived.BigQuiet
import Derived.Deep.QuietTactic
import Derived.StillTailTactics
import Derived.IntWalk
import Derived.Handy
import Derived.Lib.Hide
import Derived.Deep.AppendLies
import Derived.Deep.RegionWith
import Derived.Deep.RegionHeld3
import Derived.Test.YtkeaekckblpfjaaBase
import Derived.Test.YtkeaekckblpfjaaTail
import Derived.Test.YtkeaekckblpfjaaRing
import Derived.Test.YtkeaekckblpfjaaGrown
import Derived.Test.YtkeaekckblpfjaaArgs
import Derived.Test.YtkeaekckblpfjaaAppend
import Derived.Test.YtkeaekckblpfjaaRingMore
import Derived.Test.YtkeaekckblpfjaaDeque
import Derived.Test.YtkeaekckblpfjaaDequePop
import Derived.Test.YtkeaekckblpfjaaDequeObj
import Derived.Test.YtkeaekckblpfjaaDequeStep
import Derived.Test.YtkeaekckblpfjaaDequeStep2
import Derived.Test.YtkeaekckblpfjaaDequeItems
import Derived.Test.YtkeaekckblpfjaaDequeThrough
import Derived.Test.YtkeaekckblpfjaaCallsLaw
import Derived.Test.YtkeaekckblpfjaaDequeRow
import Derived.Test.YtkeaekckblpfjaaSame
import Derived.Test.YtkeaekckblpfjaaRefDeque
import Derived.Test.YtkeaekckblpfjaaRefDeque2
import Derived.Test.YtkeaekckblpfjaaRefDeque3
import Derived.Test.YtkeaekckblpfjaaRefDeque4
import Derived.Test.YtkeaekckblpfjaaRefStep
import Derived.Test.YtkeaekckblpfjaaDPlays
namespace Go.Proofs.Ytkeaekckblpfjaa
open Go.RowKit

/-- three deques, and no block G -/
def ThreeNo (W : World) (pd po rd : Nat) (w : World) (q qo qr : DQ) : Prop := ∃ F Fo pr br, DequeAt w pd F q ∧ DequeAt w po Fo qo ∧ RDequeIn w rd pr br qr ∧ (∀ x ∈ F, x ∉ Fo ∧ x ≠ rd ∧ x ≠ pr ∧ x ≠ br ∧ W.heap.size ≤ x) ∧
  (∀ x ∈ Fo, x ≠ rd ∧ x ≠ pr ∧ x ≠ br ∧ W.heap.size ≤ x) ∧ (W.heap.size ≤ rd ∧ W.heap.size ≤ pr ∧ W.heap.size ≤ br) ∧ Keep [] W w
theorem Three.no {W : World} {pd po rd G : Nat} {cs : List Value} {w : World} {q qo qr : DQ} (h : Three W pd po rd G cs w q qo qr) : ThreeNo W pd po rd w q qo qr := by
  obtain ⟨F, Fo, pr, br, h⟩ := h
  exact ⟨F, Fo, pr, br, h.d, h.o, h.r, fun x hx => by have a := h.sd x hx; exact ⟨a.1, a.2.1, a.2.2.1, a.2.2.2.1, a.2.2.2.2.2⟩, fun x hx => by have a := h.so x hx; exact ⟨a.1, a.2.1, a.2.2.1, a.2.2.2.2⟩, h.sr.2, h.k⟩
theorem ThreeNo.kept {W : World} {pd po rd : Nat} {w : World} {q qo qr : DQ} (h : ThreeNo W pd po rd w q qo qr) : Keep [] W w := by
  obtain ⟨F, Fo, pr, br, h⟩ := h
  exact h.2.2.2.2.2.2
theorem ThreeNo.with_ {W : World} {pd po rd G : Nat} {cs : List Value} {w w' : World} {q qo qr : DQ} (h : ThreeNo W pd po rd w q qo qr) (hb : Blk w' G 53 cs) (hk : Keep [] w w') (hG : w.heap.size ≤ G) : Three W pd po rd G cs w' q qo qr := by
  obtain ⟨F, Fo, pr, br, h1, h2, h3, h4, h5, h6, h7⟩ := h
  have l1 := h1.lt
  have l2 := h2.lt
  have l3 := h3.head.lt
  have l4 := h3.ring.head.lt
  have l5 := h3.ring.body.lt
  exact ⟨F, Fo, pr, br, h1.keep hk (by simp), h2.keep hk (by simp), h3.keep hk (by simp) (by simp) (by simp), hb,
    fun x hx => by have a := h4 x hx; have b := l1 x hx; exact ⟨a.1, a.2.1, a.2.2.1, a.2.2.2.1, by omega, a.2.2.2.2⟩,
    fun x hx => by have a := h5 x hx; have b := l2 x hx; exact ⟨a.1, a.2.1, a.2.2.1, by omega, a.2.2.2⟩, ⟨⟨by omega, by omega, by omega⟩, h6⟩, h7.trans hk (by simp)⟩
set_option maxHeartbeats 16000000 in
set_option maxRecDepth 100000 in
theorem dequePlays_any (w : World) (v : Value) (xss : List (List Int)) (hv : IntRows w v 3 xss) : Calls Try.prog 7 #[v] w fun e w' => e = .returned (.bool true) ∧ Keep [] w w' := by
  have hsh : ∃ a c, v = .slice a xss.length c := by obtain ⟨a, c, h, _⟩ := hv; exact ⟨a, c, by simpa using h⟩
  obtain ⟨a, c, rfl⟩ := hsh
  by_cases hin : xss.length ≤ 500
  · have Hv := Lib.hid hv
    clear hv
    go_enter Try.func7, Try.ntmps7
    go_wp2_with fail
    refine (alive_spec _).mono ?_
    rintro e w1 ⟨rfl, k1⟩
    go_wp2_with fail
    refine (dqNew_spec _).mono ?_
    rintro e w2 ⟨pd, F, rfl, a2, f2, k2⟩
    go_wp2_with fail
    refine (dqNew_spec _).mono ?_
    rintro e w3 ⟨po, Fo, rfl, a3, f3, k3⟩
    go_wp2_with fail
    refine (rnewDeque_spec _).mono ?_
    rintro e w4 ⟨rd, pr, br, rfl, a4, f4, f5, f6, k4⟩
    have s1 := k1.size
    have s2 := k2.size
    have s3 := k3.size
    have s4 := k4.size
    have l2 := a2.lt
    have l3 := a3.lt
    have l4 := a4.head.lt
    have l5 := a4.ring.head.lt
    have l6 := a4.ring.body.lt
    have h0 : ThreeNo w pd po rd w4 dqNew dqNew dqNew := ⟨F, Fo, pr, br, (a2.keep k3 (by simp)).keep k4 (by simp), a3.keep k4 (by simp), a4,
      fun x hx => by
        have b1 := l2 x hx
        have b2 := f2 x hx
        exact ⟨fun h => by have := f3 x h; omega, by omega, by omega, by omega, by omega⟩,
      fun x hx => by
        have b1 := l3 x hx
        have b2 := f3 x hx
        exact ⟨by omega, by omega, by omega, by omega⟩, ⟨by omega, by omega, by omega⟩, ((k1.trans k2 (by simp)).trans k3 (by simp)).trans k4 (by simp)⟩
    clear k1 k2 k3 k4 s1 s2 s3 s4 l2 l3 l4 l5 l6 a2 a3 a4 f2 f3 f4 f5 f6
    go_wp2_with fail
    go_loopw [7, 8, 9, 10, 11, 12] (fun v7 v8 v9 v10 v11 v12 wr => ∃ (k : Nat) (q qo : DQ), k ≤ xss.length ∧ v7 = .int .i64 k ∧ ThreeNo w pd po rd wr q qo q ∧ WonOk q ∧ Bd k q ∧ Bd k qo) (fun v _ _ _ _ _ _ => xss.length - (intOf v).toNat)
    case atStart => exact ⟨0, dqNew, dqNew, by omega, rfl, h0, WonOk.new, Bd.new, Bd.new⟩
    case round =>
      clear h0
      obtain ⟨k, q, qo, hk, rfl, h1, hw, hb, hbo⟩ := hrel
      by_cases hlt : k < xss.length
      · obtain ⟨b, off, c', x0, x1, x2, hveq, hx, e0, e1, e2⟩ := (Hv.out.keep h1.kept).at3 hlt
        cases hveq
        have hblt : b < wr.heap.size := World.block_lt_of_cell? _ _ e0
        have h2 : Three w pd po rd wr.heap.size [.int .i64 x0, .int .i64 x1, .int .i64 x2] (wr.alloc (.cells #[.int .i64 x0, .int .i64 x1, .int .i64 x2] 53)) q qo q := h1.with_ (Blk.new' _ _ _ _ rfl) ((Keep.refl _ _).alloc _) (Nat.le_refl _)
        obtain ⟨qo1, eo1, ho1⟩ : ∃ q1 e1, dqBegin qo 0 1 k = (q1, e1) := ⟨_, _, rfl⟩
        obtain ⟨qo2, ao2, vo2, ho2⟩ : ∃ q2 a2 v2, dqStep qo1 0 = (q2, a2, v2) := ⟨_, _, _, rfl⟩
        have hbo1 := hbo.begin (by omega) 0 1 k
        rw [ho1] at hbo1
        have hbo2 := hbo1.step 0
        rw [ho2] at hbo2
        have HO1 := Lib.hid ho1
        have HO2 := Lib.hid ho2
        clear ho1 ho2
        go_wp2_with fail
        refine (j_begin_o HO1.out h2).mono ?_
        rintro e w5 ⟨rfl, h3⟩
        go_wp2_with fail
        refine (j_step_o HO2.out (hbo1.all (by omega)) h3).mono ?_
        rintro e w6 ⟨rfl, h4⟩
        have y0 : w6.cell? ⟨wr.heap.size, 0, none⟩ = some (.int .i64 x0) := h4.blk.cell 0
        have y1 : w6.cell? ⟨wr.heap.size, 1, none⟩ = some (.int .i64 x1) := h4.blk.cell 1
        have y2 : w6.cell? ⟨wr.heap.size, 2, none⟩ = some (.int .i64 x2) := h4.blk.cell 2
        clear h2 h3 h1
        by_cases hx1 : x1 = 0
        · subst hx1
          obtain ⟨q', a', v', hq1⟩ : ∃ q' a' v', dqStep q x0 = (q', a', v') := ⟨_, _, _, rfl⟩
          have hw' := hw.step x0
          have hb' := hb.step x0
          rw [hq1] at hw' hb'
          have E1 := Lib.hid hq1
          have haa : (a' != a') = false := by simp
          have hvv : (v' != v') = false := by simp
          clear hq1
          go_wp2_with fail
          refine (j_step_d E1.out (hb.all (by omega)) h4).mono ?_
          rintro e w7 ⟨rfl, h5⟩
          have z0 : w7.cell? ⟨wr.heap.size, 0, none⟩ = some (.int .i64 x0) := h5.blk.cell 0
          go_wp2_with fail
          refine (j_step_r E1.out (hb.all (by omega)) hw h5).mono ?_
          rintro e w8 ⟨rfl, h8⟩
          have t0 : w8.cell? ⟨wr.heap.size, 0, none⟩ = some (.int .i64 x0) := h8.blk.cell 0
          have t1 : w8.cell? ⟨wr.heap.size, 1, none⟩ = some (.int .i64 0) := h8.blk.cell 1
          have t2 : w8.cell? ⟨wr.heap.size, 2, none⟩ = some (.int .i64 x2) := h8.blk.cell 2
          clear h4 h5 y0 y1 y2 z0
          obtain ⟨B, hB⟩ : ∃ B, busyB q' x0 = B := ⟨_, rfl⟩
          obtain ⟨l, hl⟩ : ∃ l, itemsOf q' = l := ⟨_, rfl⟩
          have hll : l.length ≤ 1000000000 := by
            have := hb'.bot2
            have := hb'.top1
            rw [← hl]
            unfold itemsOf
            rw [itemsN_length]
            omega
          have Hll := Lib.hid hll
          have HB := Lib.hid hB
          have Hl := Lib.hid hl
          have Htb := Lib.hid (hb'.tb (by omega))
          have hbb : (B != B) = false := by simp
          clear hB hl hll
          go_wp2_with fail
          go_region_held3 (fun w' => w'.cell? ⟨wr.heap.size, 0, none⟩ = some (.int .i64 x0) ∧ w'.cell? ⟨wr.heap.size, 1, none⟩ = some (.int .i64 0) ∧ w'.cell? ⟨wr.heap.size, 2, none⟩ = some (.int .i64 x2)) (first | exact ⟨by assumption, by assumption, by assumption⟩ | go_keep)
            (first
              | (go_at_call 27; refine (j_busy_d HB.out h8.drew).mono ?_; rintro e y1 ⟨rfl, n1, rfl⟩)
              | (go_at_call 32; go_must (refine (j_busy_r HB.out (h8.drewN _)).mono ?_; rintro e y2 ⟨rfl, n2, rfl⟩))
              | (go_at_call 34; go_must (refine (j_items_d Hl.out Htb.out (h8.drewN _)).mono ?_; rintro e y3 ⟨v3, rfl, ho3, hk3⟩; have h13 := (h8.drewN _).keep hk3; have c0 : y3.cell? ⟨wr.heap.size, 0, none⟩ = some (.int .i64 x0) := h13.blk.cell 0; have c1 : y3.cell? ⟨wr.heap.size, 1, none⟩ = some (.int .i64 0) := h13.blk.cell 1; have c2 : y3.cell? ⟨wr.heap.size, 2, none⟩ = some (.int .i64 x2) := h13.blk.cell 2))
              | (go_at_call 35; go_must (refine (j_items_r Hl.out Htb.out h13).mono ?_; rintro e y4 ⟨v4, rfl, ho4, hk4⟩; have h14 := h13.keep hk4; have d0 : y4.cell? ⟨wr.heap.size, 0, none⟩ = some (.int .i64 x0) := h14.blk.cell 0; have d1 : y4.cell? ⟨wr.heap.size, 1, none⟩ = some (.int .i64 0) := h14.blk.cell 1; have d2 : y4.cell? ⟨wr.heap.size, 2, none⟩ = some (.int .i64 x2) := h14.blk.cell 2))
              | (go_at_call 33; refine (same_true _ _ _ _ ((ints_of_own ho3).keep0 hk4) (ints_of_own ho4) Hll.out).mono ?_; rintro e y5 ⟨rfl, n5, rfl⟩))
          go_wp2
          go_roundw
          case rel => exact ⟨k + 1, q', qo2, by omega, by go_num, (h14.drewN n5).no, hw', hb'.mono (by omega), hbo2.mono (by omega)⟩
          case measure => simp [intOf]; omega
        · have d1 : (x1 != 0) = true := by simpa using hx1
          clear hx1
          obtain ⟨q', e', hq1⟩ : ∃ q' e', dqBegin q x0 x1 x2 = (q', e') := ⟨_, _, rfl⟩
          have hw' := hw.begin x0 x1 x2
          have hb' := (hb.begin (by omega) x0 x1 x2).mono (show (k : Int) ≤ k + 1 by omega)
          rw [hq1] at hw' hb'
          have E1 := Lib.hid hq1
          have hee : (e' != e') = false := by simp
          clear hq1
          go_wp2_with fail
          go_region_held3 (fun w' => w'.cell? ⟨wr.heap.size, 0, none⟩ = some (.int .i64 x0) ∧ w'.cell? ⟨wr.heap.size, 1, none⟩ = some (.int .i64 x1) ∧ w'.cell? ⟨wr.heap.size, 2, none⟩ = some (.int .i64 x2)) (first | exact ⟨by assumption, by assumption, by assumption⟩ | go_keep)
            (first
              | (go_at_call 25; refine (j_begin_d E1.out h4.drew).mono ?_; rintro e w7 ⟨rfl, h5⟩; have z0 : w7.cell? ⟨wr.heap.size, 0, none⟩ = some (.int .i64 x0) := h5.blk.cell 0; have z1 : w7.cell? ⟨wr.heap.size, 1, none⟩ = some (.int .i64 x1) := h5.blk.cell 1; have z2 : w7.cell? ⟨wr.heap.size, 2, none⟩ = some (.int .i64 x2) := h5.blk.cell 2)
              | (go_at_call 26; refine (num_spec _ _).mono ?_; rintro e w9 ⟨rfl, rfl⟩)
              | (go_at_call 30; refine (j_begin_r E1.out h5).mono ?_; rintro e w8 ⟨rfl, h8⟩; have t0 : w8.cell? ⟨wr.heap.size, 0, none⟩ = some (.int .i64 x0) := h8.blk.cell 0; have t1 : w8.cell? ⟨wr.heap.size, 1, none⟩ = some (.int .i64 x1) := h8.blk.cell 1; have t2 : w8.cell? ⟨wr.heap.size, 2, none⟩ = some (.int .i64 x2) := h8.blk.cell 2))
          obtain ⟨B, hB⟩ : ∃ B, busyB q' x0 = B := ⟨_, rfl⟩
          obtain ⟨l, hl⟩ : ∃ l, itemsOf q' = l := ⟨_, rfl⟩
          have hll : l.length ≤ 1000000000 := by
            have := hb'.bot2
            have := hb'.top1
            rw [← hl]
            unfold itemsOf
            rw [itemsN_length]
            omega
          have Hll := Lib.hid hll
          have HB := Lib.hid hB
          have Hl := Lib.hid hl
          have Htb := Lib.hid (hb'.tb (by omega))
          have hbb : (B != B) = false := by simp
          clear hB hl hll
          go_wp2_with fail
          go_region_held3 (fun w' => w'.cell? ⟨wr.heap.size, 0, none⟩ = some (.int .i64 x0) ∧ w'.cell? ⟨wr.heap.size, 1, none⟩ = some (.int .i64 x1) ∧ w'.cell? ⟨wr.heap.size, 2, none⟩ = some (.int .i64 x2)) (first | exact ⟨by assumption, by assumption, by assumption⟩ | go_keep)
            (first
              | (go_at_call 27; refine (j_busy_d HB.out h8.drew).mono ?_; rintro e y1 ⟨rfl, n1, rfl⟩)
              | (go_at_call 32; go_must (refine (j_busy_r HB.out (h8.drewN _)).mono ?_; rintro e y2 ⟨rfl, n2, rfl⟩))
              | (go_at_call 34; go_must (refine (j_items_d Hl.out Htb.out (h8.drewN _)).mono ?_; rintro e y3 ⟨v3, rfl, ho3, hk3⟩; have h13 := (h8.drewN _).keep hk3; have c0 : y3.cell? ⟨wr.heap.size, 0, none⟩ = some (.int .i64 x0) := h13.blk.cell 0; have c1 : y3.cell? ⟨wr.heap.size, 1, none⟩ = some (.int .i64 x1) := h13.blk.cell 1; have c2 : y3.cell? ⟨wr.heap.size, 2, none⟩ = some (.int .i64 x2) := h13.blk.cell 2))
              | (go_at_call 35; go_must (refine (j_items_r Hl.out Htb.out h13).mono ?_; rintro e y4 ⟨v4, rfl, ho4, hk4⟩; have h14 := h13.keep hk4; have d0 : y4.cell? ⟨wr.heap.size, 0, none⟩ = some (.int .i64 x0) := h14.blk.cell 0; have d1 : y4.cell? ⟨wr.heap.size, 1, none⟩ = some (.int .i64 x1) := h14.blk.cell 1; have d2 : y4.cell? ⟨wr.heap.size, 2, none⟩ = some (.int .i64 x2) := h14.blk.cell 2))
              | (go_at_call 33; refine (same_true _ _ _ _ ((ints_of_own ho3).keep0 hk4) (ints_of_own ho4) Hll.out).mono ?_; rintro e y5 ⟨rfl, n5, rfl⟩))
          go_wp2
          go_roundw
          case rel => exact ⟨k + 1, q', qo2, by omega, by go_num, (h14.drewN n5).no, hw', hb'.mono (by omega), hbo2.mono (by omega)⟩
          case measure => simp [intOf]; omega
      · have : k = xss.length := by omega
        subst this
        have hfin := Lib.hid h1.kept
        clear h1 hb hbo hw
        go_wp2
        go_ret
        exact ⟨rfl, hfin.out⟩
  · go_enter Try.func7, Try.ntmps7
    go_wp2_with fail
    refine (alive_spec _).mono ?_
    rintro e w1 ⟨rfl, k1⟩
    go_wp2
    go_ret
    exact ⟨rfl, k1⟩
theorem walk_dequePlays {H : Type} {enc : TypeId × Value → H} (W : World) {v0 : Value} {d0 : DataW H} {p0 : List MemPlace} {base : Nat}
    (o0 : Value.okWide Try.prog W .any base 49 v0) (h0 : DataW.Trod enc Try.prog W 0 (fun _ => true) true 49 v0 d0 p0) :
    Calls Try.prog 7 #[v0] W fun e w' => e = .returned (.bool true) ∧ Below W.heap.size W w' := by
  obtain ⟨xss, hxs, hx⟩ := intRows_open Try.underlying49 Try.underlying53 (by kernel_rfl) (by kernel_rfl) (by decide) o0 h0
  exact (dequePlays_any W v0 xss hxs).mono fun _ _ ⟨he, hk⟩ => ⟨he, hk.to_below⟩
end Go.Proofs.Ytkeaekckblpfjaa
