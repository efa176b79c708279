/- Nets: the laws' small parts. -/
import Derived.Test.YtolhcikgodaecaaRows
import Derived.WalkKit
import Derived.WalkSpells
import Derived.WalkLawsBesides
import Derived.RegionTactic
import Derived.ChangeAlike
import Derived.BigQuiet
import Derived.Deep.QuietTactic
import Derived.StillTailTactics
import Derived.IntWalk
import Derived.Handy
import Derived.Lib.Hide
import Derived.Deep.AppendLies
import Derived.Deep.RegionWith
import Derived.Test.YtolhcikgodaecaaBase
import Derived.Test.YtolhcikgodaecaaTail
import Derived.Test.YtolhcikgodaecaaArgs
import Derived.Test.YtolhcikgodaecaaAppend
import Derived.Test.YtolhcikgodaecaaOffs
import Derived.Test.YtolhcikgodaecaaStructs
import Derived.Test.YtolhcikgodaecaaNetObj
import Derived.Test.YtolhcikgodaecaaNetObj2
import Derived.Test.YtolhcikgodaecaaNetSend
import Derived.Test.YtolhcikgodaecaaNetWay
import Derived.Test.YtolhcikgodaecaaNetDel
namespace Go.Proofs.Ytolhcikgodaecaa
open Go.RowKit

theorem reach_trans {F F1 F2 : List Nat} {w w1 w2 : World} (h1 : Keep F w w1) (f1 : ∀ x ∈ F1, x ∈ F ∨ w.heap.size ≤ x) (h2 : Keep F1 w1 w2) (f2 : ∀ x ∈ F2, x ∈ F1 ∨ w1.heap.size ≤ x) :
    Keep F w w2 ∧ ∀ x ∈ F2, x ∈ F ∨ w.heap.size ≤ x := by
  refine ⟨h1.trans h2 f1, fun x hx => ?_⟩
  rcases f2 x hx with h | h
  · exact f1 x h
  · have := h1.size
    exact Or.inr (by omega)
theorem way_at {w : World} {B p : Nat} {F : List Nat} {ss : List PS} (h : NetAt w B p F ss) (hl : ss.length ≤ 100000) (hbl : ∀ s ∈ ss, s.bs.length ≤ 1000000) : Calls Try.prog 11 #[.pointer (some ⟨p, 0, none⟩)] w (WayPost w ss) := by
  obtain ⟨vw, h, rfl⟩ := h
  exact way_spec h hl hbl
theorem parcels_lit {w : World} {arr : Array Value} {n : Nat} (ps : List PS) (ha : arr = (ps.flatMap PS.c3).toArray) (hn : n = ps.length) (hb : ∀ s ∈ ps, BytesOf w s.bv s.bs) : ParcelsOf (w.alloc (.cells arr 29)) (.slice (some ⟨w.heap.size, 0, none⟩) n n) ps := by
  subst hn
  have hblk : Blk (w.alloc (.cells arr 29)) w.heap.size 29 (ps.flatMap PS.c3) := Blk.new' w 29 arr _ ha
  refine ⟨_, _, rfl, fun i s hs => ⟨w.heap.size, 0, rfl, by simp, ?_, ?_, ?_, (hb s (List.mem_of_getElem? hs)).keep0 ((Keep.refl _ _).alloc _)⟩⟩
  · rw [hblk.cell, Nat.zero_add]
    exact flat_at PS.c3_len ps i s 0 hs (by omega)
  · rw [hblk.cell, Nat.zero_add]
    exact flat_at PS.c3_len ps i s 1 hs (by omega)
  · rw [hblk.cell, Nat.zero_add]
    exact flat_at PS.c3_len ps i s 2 hs (by omega)
theorem dat_at {ss : List PS} {l : List (Int × Int × List UInt8 × Bool)} (h : ss.map dat = l) {i : Nat} {s : PS} (hs : ss[i]? = some s) : l[i]? = some (dat s) := by
  rw [← h, List.getElem?_map, hs]
  rfl
set_option maxHeartbeats 4000000 in
theorem alive_spec (w : World) : Calls Try.prog 7 #[] w fun e w' => e = .returned (.bool true) ∧ Keep [] w w' := by
  go_enter Try.func7, Try.ntmps7
  go_wp2_with fail
  refine (netNew_spec _).mono ?_
  rintro e w1 ⟨p, F, rfl, h1, k1⟩
  have l1 := h1.lt
  have hpar : ParcelsOf (w1.alloc (.cells #[.int .i64 0, .int .i64 1, .slice none 0 0, .int .i64 0, .int .i64 2, .slice none 0 0] 29)) (.slice (some ⟨w1.heap.size, 0, none⟩) 2 2) [⟨0, 1, [], false, .slice none 0 0⟩, ⟨0, 2, [], false, .slice none 0 0⟩] :=
    parcels_lit _ rfl rfl (by simp [BytesOf.nil])
  have hkA : Keep [] w1 (w1.alloc (.cells #[.int .i64 0, .int .i64 1, .slice none 0 0, .int .i64 0, .int .i64 2, .slice none 0 0] 29)) := (Keep.refl _ _).alloc _
  have hk1 := k1.size
  have hsend := send_spec (h1.keep hkA (by simp)) (by simp; omega) hpar (by
    intro x hx
    have hx' : x = w1.heap.size := by simpa [parcelBlocks, byteBlocks, ownBlocks, Value.ownBlock] using hx
    subst hx'
    exact ⟨fun hf => by have := (l1 _ hf).2; omega, by simp⟩) (by simp) (by simp) (by simp)
  have Hsend := Lib.hid hsend
  clear hsend hpar
  go_wp2_with fail
  refine Hsend.out.mono ?_
  rintro e w2 ⟨k, ss, rfl, hdat, rfl, F2, h2, k2, f2⟩
  have hdat2 : ss.map dat = [(0, 1, [], false), (0, 2, [], false)] := hdat
  have hlen : ss.length = 2 := by have := congrArg List.length hdat2; simpa using this
  have k3 : Keep [] w w2 := (k1.trans hkA (by simp)).trans k2 (fun x hx => Or.inr (by have := (l1 x hx).1; omega))
  have hdel := deliver_spec 1 h2 (by simp [hlen])
  have Hdel := Lib.hid hdel
  have Hdat := Lib.hid hdat2
  have Hlen := Lib.hid hlen
  clear hdat hdat2 hlen hdel
  go_wp2_with fail
  refine Hdel.out.mono ?_
  intro e w4 hpost
  unfold DeliverPost at hpost
  rw [if_pos (by unfold isK; simp [Hlen.out])] at hpost
  obtain ⟨s, F4, hs, rfl, h4, k4, f4, ob, _⟩ := hpost
  have hds := dat_at Hdat.out (by simpa using hs)
  obtain ⟨f, t, bs, fl, bv⟩ := s
  have hdd : f = 0 ∧ t = 2 := by
    simp [dat] at hds
    omega
  obtain ⟨rfl, rfl⟩ := hdd
  obtain ⟨ab, cb, hbv⟩ := OwnsAt.shape ob
  simp only at hbv
  subst hbv
  have hbl : ∀ s ∈ ([] ++ ss).eraseIdx (1 : Int).toNat, s.bs.length ≤ 1000000 := fun s hs => by
    have hm : s ∈ ss := by simpa using List.mem_of_mem_eraseIdx hs
    obtain ⟨i, hi, he⟩ := List.mem_iff_getElem.1 hm
    have := dat_at Hdat.out (List.getElem?_eq_getElem hi)
    rw [he] at this
    have hl := Hlen.out
    have hi' : i = 0 ∨ i = 1 := by omega
    rcases hi' with rfl | rfl <;> (simp [dat] at this; simp [this.2.2.1])
  have hel : (([] ++ ss).eraseIdx (1 : Int).toNat).length = 1 := by
    have := Hlen.out
    rw [show (1 : Int).toNat = 1 from rfl, List.nil_append, List.length_eraseIdx_of_lt (by omega)]
    omega
  have hkB : Keep [] w4 (w4.alloc (.cells #[.int .i64 0, .int .i64 2, .slice ab bs.length cb] 29)) := (Keep.refl _ _).alloc _
  have hway := way_at (h4.keep hkB (by simp)) (by omega) hbl
  have Hway := Lib.hid hway
  have Hel := Lib.hid hel
  have k5 : Keep [] w (w4.alloc (.cells #[.int .i64 0, .int .i64 2, .slice ab bs.length cb] 29)) := (k3.trans k4 (fun x hx => Or.inr (by
    rcases f2 x hx with h | h
    · have := (l1 x h).1; omega
    · have := hkA.size; simp at h; omega))).alloc _
  clear hway hel hds hbl h2 h4 h1
  go_wp2_with fail
  refine Hway.out.mono ?_
  rintro e w6 ⟨v, ws, rfl, hwd, hws, k6⟩
  have hwl : ws.length = 1 := by
    have := congrArg List.length hwd
    have h1 := Hel.out
    simp only [List.length_map] at this
    omega
  obtain ⟨av, cv, rfl⟩ := hws.rows.shape
  have k7 := k5.trans k6 (by simp)
  rw [hwl]
  clear hwl hwd hws k6
  go_wp2
  go_ret
  exact ⟨rfl, k7⟩
end Go.Proofs.Ytolhcikgodaecaa
