/- The law NetFlips. -/
import Derived.Test.YtolhcikgodaecaaRows
import Derived.WalkKit
import Derived.WalkSpells
import Derived.WalkLawsBesides
import Derived.RegionTactic
import Derived.ChangeAlike
import Derived.BigQuiet
import Derived.Deep.QuietTactic
import Derived.StillTailTactics
import Derived.IntWalk
import Derived.Handy
import Derived.Lib.Hide
import Derived.Deep.AppendLies
import Derived.Deep.RegionWith
import Derived.Test.YtolhcikgodaecaaBase
import Derived.Test.YtolhcikgodaecaaTail
import Derived.Test.YtolhcikgodaecaaArgs
import Derived.Test.YtolhcikgodaecaaAppend
import Derived.Test.YtolhcikgodaecaaOffs
import Derived.Test.YtolhcikgodaecaaStructs
import Derived.Test.YtolhcikgodaecaaNetObj
import Derived.Test.YtolhcikgodaecaaNetObj2
import Derived.Test.YtolhcikgodaecaaNetSend
import Derived.Test.YtolhcikgodaecaaNetWay
import Derived.Test.YtolhcikgodaecaaNetDel
import Derived.Test.YtolhcikgodaecaaNetSmall
import Derived.Test.YtolhcikgodaecaaNetDup
import Derived.Test.YtolhcikgodaecaaNetFlip
import Derived.Test.YtolhcikgodaecaaBytes
namespace Go.Proofs.Ytolhcikgodaecaa
open Go.RowKit

theorem flipB_len (bs : List UInt8) (b : Nat) : (flipB bs b).length = bs.length := by unfold flipB; rw [List.length_set]
theorem flip_ne : ∀ m : Fin 8, ∀ x : Fin 256, (UInt8.ofNat x.val ^^^ (1 <<< UInt8.ofNat m.val)) ≠ UInt8.ofNat x.val := by decide +kernel
theorem flip_back : ∀ m : Fin 8, ∀ x : Fin 256, ((UInt8.ofNat x.val ^^^ (1 <<< UInt8.ofNat m.val)) ^^^ (1 <<< UInt8.ofNat m.val)) = UInt8.ofNat x.val := by decide +kernel
theorem flipB_ne {bs : List UInt8} {b : Nat} (h : b / 8 < bs.length) : flipB bs b ≠ bs := by
  intro e
  have h1 := congrArg (fun l => l[b / 8]?) e
  simp only [flipB] at h1
  rw [List.getElem?_set_self h, List.getElem?_eq_getElem h, List.getD_eq_getElem?_getD, List.getElem?_eq_getElem h] at h1
  simp only [Option.getD_some, Option.some.injEq] at h1
  have := flip_ne ⟨b % 8, Nat.mod_lt _ (by omega)⟩ ⟨bs[b / 8].toNat, bs[b / 8].toNat_lt⟩
  simp only [UInt8.ofNat_toNat] at this
  exact this h1
theorem flipB_back {bs : List UInt8} {b : Nat} (h : b / 8 < bs.length) : flipB (flipB bs b) b = bs := by
  apply List.ext_getElem?
  intro i
  unfold flipB
  by_cases hi : b / 8 = i
  · subst hi
    rw [List.getElem?_set_self (by simpa using h), List.getD_eq_getElem?_getD, List.getElem?_set_self h, List.getD_eq_getElem?_getD, List.getElem?_eq_getElem h]
    simp only [Option.getD_some]
    have := flip_back ⟨b % 8, Nat.mod_lt _ (by omega)⟩ ⟨bs[b / 8].toNat, bs[b / 8].toNat_lt⟩
    simp only [UInt8.ofNat_toNat] at this
    rw [this]
  · rw [List.getElem?_set_ne hi, List.getElem?_set_ne hi]
/-- what the first one's bytes are behind a Flip -/
def flipped (bs : List UInt8) (bit : Int) : List UInt8 := if bit / 8 < (bs.length : Int) then flipB bs bit.toNat else bs
theorem flip_at {w : World} {B p : Nat} {F : List Nat} {s1 s2 : PS} {f t : Int} {bs : List UInt8} {bit : Int} {b : Bool} (h : NetAt w B p F [s1, s2]) (hd : dat3 s1 = (f, t, bs)) (hl1 : bs.length ≤ 1000) (hl2 : s2.bs.length ≤ 1000) (hb0 : 0 ≤ bit) (hbit : bit ≤ 9223372036854775807) (hb : decide (bit / 8 < (bs.length : Int)) = b) :
    Calls Try.prog 13 #[.pointer (some ⟨p, 0, none⟩), .int .i64 0, .int .i64 bit] w fun e w' => e = .returned (.bool b) ∧ ∃ F' s1', NetAt w' B p F' [s1', s2] ∧ dat3 s1' = (f, t, flipped bs bit) ∧ Keep F w w' ∧ ∀ x ∈ F', x ∈ F ∨ w.heap.size ≤ x := by
  obtain ⟨rfl, rfl, rfl⟩ : s1.f = f ∧ s1.t = t ∧ s1.bs = bs := by simpa [dat3] using hd
  refine (flip_spec 0 bit h (by simp) (by intro s hs; simp only [List.mem_cons, List.not_mem_nil, or_false] at hs; rcases hs with rfl | rfl <;> omega) hbit).mono ?_
  intro e w' hp
  unfold FlipPost at hp
  by_cases hc : bit / 8 < (s1.bs.length : Int)
  · rw [if_pos ⟨by simp [isK], hb0, by simpa using hc⟩] at hp
    obtain ⟨s, hs, he, F', h1, h2, h3⟩ := hp
    obtain rfl : s1 = s := by simpa using hs
    obtain rfl : b = true := by rw [← hb]; simpa using hc
    refine ⟨he, F', _, h1, ?_, h2, h3⟩
    simp [dat3, flipped, hc]
  · rw [if_neg (fun hh => hc (by simpa using hh.2.2))] at hp
    obtain ⟨he, rfl⟩ := hp
    obtain rfl : b = false := by rw [← hb]; simpa using hc
    exact ⟨he, F, s1, h, by simp [dat3, flipped, hc], Keep.refl _ _, fun x hx => Or.inl hx⟩
theorem way2_at {w : World} {B p : Nat} {F : List Nat} {s1 s2 : PS} {f t f' t' : Int} {bs bs' : List UInt8} (h : NetAt w B p F [s1, s2]) (hd : dat3 s1 = (f, t, bs)) (hd2 : dat3 s2 = (f', t', bs')) (hl1 : bs.length ≤ 1000) (hl2 : bs'.length ≤ 1000) :
    Calls Try.prog 11 #[.pointer (some ⟨p, 0, none⟩)] w fun e w' => ∃ g off c v1 v2, e = .returned (.slice (some ⟨g, off, none⟩) 2 c) ∧ w'.cell? ⟨g, off + 2, none⟩ = some v1 ∧ w'.cell? ⟨g, off + 3 + 2, none⟩ = some v2 ∧ BytesOf w' v1 bs ∧ BytesOf w' v2 bs' ∧ Keep [] w w' := by
  obtain ⟨rfl, rfl, rfl⟩ : s1.f = f ∧ s1.t = t ∧ s1.bs = bs := by simpa [dat3] using hd
  obtain ⟨rfl, rfl, rfl⟩ : s2.f = f' ∧ s2.t = t' ∧ s2.bs = bs' := by simpa [dat3] using hd2
  refine (way_at h (by simp) (by intro s hs; simp only [List.mem_cons, List.not_mem_nil, or_false] at hs; rcases hs with rfl | rfl <;> omega)).mono ?_
  rintro e w' ⟨v, ws, rfl, hdat, hws, hk⟩
  have hlen : ws.length = 2 := by have := congrArg List.length hdat; simpa using this
  obtain ⟨x1, x2, rfl⟩ : ∃ x1 x2, ws = [x1, x2] := by
    match ws, hlen with
    | [x1, x2], _ => exact ⟨x1, x2, rfl⟩
  obtain ⟨a, c, rfl⟩ := hws.rows.shape
  obtain ⟨g, off, rfl, h1, h2, hc1, h4, h5⟩ := hws.rows.rowAt PS.c3_len (i := 0) (a := x1) rfl (by simp)
  obtain ⟨g', off', hh, _, _, hc2, _, _⟩ := hws.rows.rowAt PS.c3_len (i := 1) (a := x2) rfl (by simp)
  injection hh with hh
  injection hh with e1 e2
  subst e1 e2
  simp [dat3] at hdat
  refine ⟨g, off, c, x1.bv, x2.bv, rfl, by simpa using hc1 2 _ (by omega) rfl, by simpa using hc2 2 _ (by omega) rfl, ?_, ?_, hk⟩
  · rw [← hdat.1.2.2]
    exact bytes_of_off (hws.bytes x1 (by simp))
  · rw [← hdat.2.2.2]
    exact bytes_of_off (hws.bytes x2 (by simp))
set_option maxHeartbeats 16000000 in
set_option maxRecDepth 100000 in
theorem netFlips_any (w : World) (v : Value) (bs : List UInt8) (hv : BytesOf w v bs) (bit : Int) (hbit : bit ≤ 9223372036854775807) : Calls Try.prog 5 #[v, .int .i64 bit] w fun e w' => e = .returned (.bool true) ∧ Keep [] w w' := by
  obtain ⟨a, c, rfl⟩ := hv.shape
  by_cases hl : bs.length ≤ 200
  · by_cases hb0 : 0 ≤ bit
    · obtain ⟨b, hb⟩ : ∃ b, decide (bit / 8 < (bs.length : Int)) = b := ⟨_, rfl⟩
      have Hv := Lib.hid hv
      have Hb := Lib.hid hb
      have hq : bit.tdiv 8 = bit / 8 := Int.tdiv_eq_ediv_of_nonneg hb0
      clear hv hb
      go_enter Try.func5, Try.ntmps5
      go_wp2_with fail
      refine (alive_spec _).mono ?_
      rintro e w1 ⟨rfl, k1⟩
      go_wp2_with fail
      refine (netNew_spec _).mono ?_
      rintro e w2 ⟨p, F, rfl, h2, k2⟩
      have l2 := h2.lt
      have hs1 := k1.size
      have hs2 := k2.size
      have hkA : Keep [] w2 (w2.alloc (.cells #[.int .i64 0, .int .i64 0, .slice a bs.length c] 29)) := (Keep.refl _ _).alloc _
      have k3 : Keep [] w (w2.alloc (.cells #[.int .i64 0, .int .i64 0, .slice a bs.length c] 29)) := (k1.trans k2 (by simp)).trans hkA (by simp)
      have f2 : ∀ x ∈ F, x ∈ ([] : List Nat) ∨ w.heap.size ≤ x := fun x hx => Or.inr (by have := (l2 x hx).1; omega)
      have hpar : ParcelsOf (w2.alloc (.cells #[.int .i64 0, .int .i64 0, .slice a bs.length c] 29)) (.slice (some ⟨w2.heap.size, 0, none⟩) 1 1) [⟨0, 0, bs, false, .slice a bs.length c⟩] := parcels_lit _ rfl rfl (by simpa using Hv.out.keep0 (k1.trans k2 (by simp)))
      have hsep : ∀ w', Keep F (w2.alloc (.cells #[.int .i64 0, .int .i64 0, .slice a bs.length c] 29)) w' → ParcelsOf w' (.slice (some ⟨w2.heap.size, 0, none⟩) 1 1) [⟨0, 0, bs, false, .slice a bs.length c⟩] := by
        intro w' hk
        have hby := Hv.out.keep0 (k3.trans hk f2)
        obtain ⟨a', c', hva, hcells⟩ := hpar
        refine ⟨a', c', hva, fun i s hs => ?_⟩
        obtain ⟨b', off, rfl, hlt, h0, h1, h2', h3⟩ := hcells i s hs
        have hbF : b' ∉ F := fun hf => by
          injection hva with e1
          injection e1 with e1
          injection e1 with e1 _
          have := (l2 _ hf).2
          omega
        have hs' : s.bv = .slice a bs.length c ∧ s.bs = bs := by
          match i, hs with
          | 0, hs => cases hs; exact ⟨rfl, rfl⟩
          | i + 1, hs => simp at hs
        exact ⟨b', off, rfl, Nat.lt_of_lt_of_le hlt hk.size, (hk.cell hlt hbF).trans h0, (hk.cell hlt hbF).trans h1, (hk.cell hlt hbF).trans h2', by rw [hs'.1, hs'.2]; exact hby⟩
      have hsend := send_gen (h2.keep hkA (by simp)) (by simp; omega) hsep (by simp) (by simp) (by simp; omega)
      have Hsend := Lib.hid hsend
      clear hsend hsep hpar
      go_wp2_with fail
      refine Hsend.out.mono ?_
      rintro e w3 ⟨k, ss, hk, hdat, rfl, F3, h3, k3', f3⟩
      have hkk : k = 1 := by simpa [room] using hk
      subst hkk
      simp at hdat
      obtain ⟨s1, rfl⟩ : ∃ s1, ss = [s1] := by
        match ss, hdat with
        | [s1], _ => exact ⟨s1, rfl⟩
      obtain ⟨k4, f4⟩ := reach_trans k3 f2 k3' (by simpa using f3)
      have hsz := k3'.size
      simp at hsz
      have hd1 : dat3 s1 = (0, 0, bs) := by simpa [dat, dat3] using (by simpa using hdat : dat s1 = (0, 0, bs, false)) |> fun h => by simp [dat] at h; exact ⟨h.1, h.2.1, h.2.2.1⟩
      have hbl1 : ∀ s ∈ [s1], s.bs.length ≤ 1000000 := by
        intro s hs
        have hss : s = s1 := by simpa using hs
        rw [hss]
        simp [dat3] at hd1
        rw [hd1.2.2]
        omega
      have hdup := dup_spec 0 (by simpa using h3 : NetAt w3 _ p F3 [s1]) (show w1.heap.size ≤ w3.heap.size by omega) (by simp) hbl1
      have Hdup := Lib.hid hdup
      clear hdup hdat hk k3 f2 k3' f3 h3 h2 l2
      go_wp2_with fail
      refine Hdup.out.mono ?_
      intro e w4 hpost
      unfold DupPost at hpost
      rw [if_pos ⟨by simp [isK], by simp⟩] at hpost
      obtain ⟨s, s2, hs, hds, rfl, F5, h5, k5, f5⟩ := hpost
      obtain rfl : s1 = s := by simpa using hs
      have hd2 : dat3 s2 = (0, 0, bs) := by
        simp [dat] at hds
        simp [dat3] at hd1 ⊢
        exact ⟨hds.1.trans hd1.1, hds.2.1.trans hd1.2.1, hds.2.2.1.trans hd1.2.2⟩
      obtain ⟨k6, f6⟩ := reach_trans k4 f4 k5 f5
      have hl2' : s2.bs.length ≤ 1000 := by simp [dat3] at hd2; rw [hd2.2.2]; omega
      have hf1 := flip_at (by simpa using h5 : NetAt w4 _ p F5 [s1, s2]) hd1 (by omega) hl2' hb0 hbit Hb.out
      have Hf1 := Lib.hid hf1
      have Hb2 := Lib.hid hb0
      clear hf1 hs hds k4 f4 k5 f5 h5
      have hlf : (flipped bs bit).length = bs.length := by unfold flipped; split <;> simp [flipB_len]
      have hback : flipped (flipped bs bit) bit = bs := by
        by_cases hc : bit / 8 < (bs.length : Int)
        · have e1 : flipped bs bit = flipB bs bit.toNat := by unfold flipped; rw [if_pos hc]
          rw [e1]
          unfold flipped
          rw [if_pos (by rw [flipB_len]; exact hc)]
          exact flipB_back (by omega)
        · have e1 : flipped bs bit = bs := by unfold flipped; rw [if_neg hc]
          rw [e1, e1]
      have hfe : (flipped bs bit == bs) = !b := by
        by_cases hc : bit / 8 < (bs.length : Int)
        · obtain rfl : b = true := by rw [← Hb.out]; simpa using hc
          have e1 : flipped bs bit = flipB bs bit.toNat := by unfold flipped; rw [if_pos hc]
          rw [e1]
          simpa using flipB_ne (bs := bs) (b := bit.toNat) (by omega)
        · obtain rfl : b = false := by rw [← Hb.out]; simpa using hc
          have e1 : flipped bs bit = bs := by unfold flipped; rw [if_neg hc]
          rw [e1]
          simp
      have Hlf := Lib.hid hlf
      have Hback := Lib.hid hback
      have Hfe := Lib.hid hfe
      clear hlf hback hfe
      go_wp2_with fail
      refine Hf1.out.mono ?_
      rintro e w5 ⟨rfl, F6, s1', h6, hd3, k7, f7⟩
      obtain ⟨k8, f8⟩ := reach_trans k6 f6 k7 f7
      have Hway := Lib.hid (way2_at h6 hd3 hd2 (by rw [Hlf.out]; omega) (by omega))
      clear k6 f6 k7 f7
      go_wp2_with fail
      refine Hway.out.mono ?_
      rintro e w6 ⟨g, off, c', v1, v2, rfl, c1, c2, hb1, hb2, k9⟩
      have k10 := k8.trans k9 (by simp)
      have q1 : ∀ n, (convert 27 9 v1).run Try.prog (w6.drewN n) = .ok (.string (strB (flipped bs bit))) (w6.drewN n) := fun n => conv_bytes (hb1.keep0 ((Keep.refl [] _).drewN n)) (by kernel_rfl) (by kernel_rfl)
      have q2 : ∀ n, (convert 27 9 v2).run Try.prog (w6.drewN n) = .ok (.string (strB bs)) (w6.drewN n) := fun n => conv_bytes (hb2.keep0 ((Keep.refl [] _).drewN n)) (by kernel_rfl) (by kernel_rfl)
      have q3 : ∀ n, (convert 27 9 (.slice a bs.length c)).run Try.prog (w6.drewN n) = .ok (.string (strB bs)) (w6.drewN n) := fun n => conv_bytes ((Hv.out.keep0 k10).keep0 ((Keep.refl [] _).drewN n)) (by kernel_rfl) (by kernel_rfl)
      have e1 := strB_beq _ _ Hfe.out
      have e2 := strB_beq bs bs (r := true) (by simp)
      clear Hway hb1 hb2
      have hfin : ∀ (w7 : World), Keep F6 w6 w7 → Keep [] w w7 := fun w7 k => k10.trans k f8
      have Hfin := Lib.hid hfin
      have hf2 := fun n => flip_at (b := b) (h6.keep (k9.drewN n) (by simp)) hd3 (by rw [Hlf.out]; omega) hl2' hb0 hbit (by rw [Hlf.out]; exact Hb.out)
      rw [Hback.out] at hf2
      have Hf2 := Lib.hid hf2
      clear hf2 h6 hd3 hd1
      go_wp2_with fail
      have hcb : (b = false ∧ (bs.length : Int) ≤ bit / 8) ∨ (b = true ∧ bit / 8 < (bs.length : Int)) := by
        have h := Hb.out
        by_cases hc : bit / 8 < (bs.length : Int)
        · exact Or.inr ⟨by rw [← h]; simpa using hc, hc⟩
        · exact Or.inl ⟨by rw [← h]; simpa using hc, by omega⟩
      rcases hcb with ⟨rfl, hc⟩ | ⟨rfl, hc⟩
      all_goals
        go_quiet (fail)
        go_wp2_with fail
        refine (Hf2.out _).mono ?_
        rintro e w7 ⟨rfl, F8, s1'', h8, hd8, k11, f11⟩
        have k12 := Hfin.out _ ((Keep.refl [] w6).drewN _ |>.mono (T := F6) (by simp) |>.trans k11 (fun x hx => Or.inl hx))
        have Hway2 := Lib.hid (way2_at h8 hd8 hd2 (by omega) (by omega))
        clear h8 hd8 k11 f11 q1 q2 q3
        go_wp2_with fail
        refine Hway2.out.mono ?_
        rintro e w8 ⟨g', off', c'', v1', v2', rfl, c1', c2', hb1', hb2', k13⟩
        have k14 := k12.trans k13 (by simp)
        have q1 : ∀ n, (convert 27 9 v1').run Try.prog (w8.drewN n) = .ok (.string (strB bs)) (w8.drewN n) := fun n => conv_bytes (hb1'.keep0 ((Keep.refl [] _).drewN n)) (by kernel_rfl) (by kernel_rfl)
        have q3 : ∀ n, (convert 27 9 (.slice a bs.length c)).run Try.prog (w8.drewN n) = .ok (.string (strB bs)) (w8.drewN n) := fun n => conv_bytes ((Hv.out.keep0 k14).keep0 ((Keep.refl [] _).drewN n)) (by kernel_rfl) (by kernel_rfl)
        clear Hway2 hb1' hb2' c1 c2
        go_wp2_with fail
        go_quiet (fail)
        go_wp2
        go_ret
        exact ⟨by simp [hc], k14.drewN _⟩
    · go_enter Try.func5, Try.ntmps5
      go_wp2_with fail
      refine (alive_spec _).mono ?_
      rintro e w1 ⟨rfl, k1⟩
      go_wp2
      go_ret
      exact ⟨rfl, k1⟩
  · go_enter Try.func5, Try.ntmps5
    go_wp2_with fail
    refine (alive_spec _).mono ?_
    rintro e w1 ⟨rfl, k1⟩
    go_wp2
    go_ret
    exact ⟨rfl, k1⟩
theorem walk_netFlips {H : Type} {enc : TypeId × Value → H} (W : World) {v : Value} {bit : Int} {d1 : DataW H} {p1 : List MemPlace} {base : Nat}
    (o1 : Value.okWide Try.prog W .any base 27 v) (h1 : DataW.Trod enc Try.prog W 0 (fun _ => true) true 27 v d1 p1) (wb : (Lit.int .i64 bit).wf = true) :
    Calls Try.prog 5 #[v, .int .i64 bit] W fun e w' => e = .returned (.bool true) ∧ Below W.heap.size W w' := by
  obtain ⟨bs, hbs⟩ := bytes_open Try.underlying27 Try.underlying5 (by kernel_rfl) o1 h1
  have hb : bit ≤ 9223372036854775807 := by
    simp [Lit.wf] at wb
    exact wb.2
  exact (netFlips_any W v bs hbs bit hb).mono fun _ _ ⟨he, hk⟩ => ⟨he, hk.to_below⟩
end Go.Proofs.Ytolhcikgodaecaa
