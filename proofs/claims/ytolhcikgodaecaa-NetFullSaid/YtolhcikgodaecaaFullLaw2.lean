/- The law NetFull. -/
import Derived.Test.YtolhcikgodaecaaRows
import Derived.WalkKit
import Derived.WalkSpells
import Derived.WalkLawsBesides
import Derived.RegionTactic
import Derived.ChangeAlike
import Derived.BigQuiet
import Derived.Deep.QuietTactic
import Derived.StillTailTactics
import Derived.IntWalk
import Derived.Handy
import Derived.Lib.Hide
import Derived.Deep.AppendLies
import Derived.Deep.RegionWith
import Derived.Test.YtolhcikgodaecaaBase
import Derived.Test.YtolhcikgodaecaaTail
import Derived.Test.YtolhcikgodaecaaArgs
import Derived.Test.YtolhcikgodaecaaAppend
import Derived.Test.YtolhcikgodaecaaOffs
import Derived.Test.YtolhcikgodaecaaStructs
import Derived.Test.YtolhcikgodaecaaNetObj
import Derived.Test.YtolhcikgodaecaaNetObj2
import Derived.Test.YtolhcikgodaecaaNetSend
import Derived.Test.YtolhcikgodaecaaNetWay
import Derived.Test.YtolhcikgodaecaaNetDel
import Derived.Test.YtolhcikgodaecaaNetSmall
import Derived.Test.YtolhcikgodaecaaNetDup
namespace Go.Proofs.Ytolhcikgodaecaa
open Go.RowKit

def zp : PS := ⟨0, 0, [], false, .slice none 0 0⟩
/-- so many zero parcels, as cells (behind a name that the walk does not open) -/
def bigCells : Array Value := madeCells #[.int .i64 0, .int .i64 0, .slice none 0 0] 29970
theorem big_at (k : Nat) (hk : k < 29970) : bigCells.toList[k]? = some ((#[.int .i64 0, .int .i64 0, .slice none 0 0] : Array Value)[k % 3]!) := by
  unfold bigCells madeCells
  simp [hk]
/-- a row of so many zero parcels, as cells -/
def ZeroCells (bc : Array Value) : Prop := ∀ k, k < 29970 → bc.toList[k]? = some ((#[.int .i64 0, .int .i64 0, .slice none 0 0] : Array Value)[k % 3]!)
theorem parcels_big {w : World} {g : Nat} {bc : Array Value} (hz : ZeroCells bc) (h : Blk w g 29 bc.toList) {m : Nat} (hm : m ≤ 9990) (c : Nat) : ParcelsOf w (.slice (some ⟨g, 0, none⟩) m c) (List.replicate m zp) := by
  refine ⟨_, _, by rw [List.length_replicate], fun i s hs => ?_⟩
  rw [List.getElem?_replicate] at hs
  split at hs
  · rename_i hi
    cases hs
    have hc : ∀ j, j < 3 → w.cell? ⟨g, 0 + i * 3 + j, none⟩ = some ((#[.int .i64 0, .int .i64 0, .slice none 0 0] : Array Value)[j]!) := fun j hj => by
      rw [h.cell, Nat.zero_add, hz _ (by omega), show (i * 3 + j) % 3 = j by omega]
    exact ⟨g, 0, rfl, h.lt, hc 0 (by omega), hc 1 (by omega), hc 2 (by omega), BytesOf.nil _⟩
  · cases hs
theorem send_z {bc : Array Value} (hbc : ZeroCells bc) {w : World} {B p : Nat} {F : List Nat} {ss : List PS} {g m c k : Nat} (h : NetAt w B p F ss) (hz : ∀ s ∈ ss, s.bs = []) (hB : B ≤ w.heap.size) (hb : Blk w g 29 bc.toList) (hm : m ≤ 9990) (hg : g ∉ F) (hl : ss.length ≤ 10000) (hk : room ss.length m = k) :
    Calls Try.prog 9 #[.pointer (some ⟨p, 0, none⟩), .slice (some ⟨g, 0, none⟩) m c] w fun e w' => e = .returned (.int .i64 k) ∧ ∃ F' ss', NetAt w' B p F' ss' ∧ ss'.length = ss.length + k ∧ (∀ s ∈ ss', s.bs = []) ∧ Keep F w w' ∧ ∀ x ∈ F', x ∈ F ∨ w.heap.size ≤ x := by
  refine (send_spec h hB (parcels_big hbc hb hm c) (fun x hx => ?_) hl (by simp; omega) (by intro s hs; rw [List.mem_replicate] at hs; rw [hs.2]; decide)).mono ?_
  · have hx' : x = g := by
      simp only [parcelBlocks, List.mem_append] at hx
      rcases hx with hx | hx
      · simpa [ownBlocks, Value.ownBlock] using hx
      · obtain ⟨s, hs, hb'⟩ := mem_byteBlocks.1 hx
        rw [List.mem_replicate] at hs
        rw [hs.2] at hb'
        cases hb'
    subst hx'
    exact ⟨hg, hb.lt⟩
  · rintro e w' ⟨k', ss', hk', hdat, he, F', h1, h2, h3⟩
    rw [List.length_replicate, hk] at hk'
    subst hk'
    have hkm : k' ≤ m := by unfold room at hk; omega
    have hlen : ss'.length = k' := by
      have := congrArg List.length hdat
      simp at this
      omega
    refine ⟨he, F', ss ++ ss', h1, by simp [hlen], fun s hs => ?_, h2, h3⟩
    rcases List.mem_append.1 hs with hs | hs
    · exact hz s hs
    · have hm' : dat s ∈ ss'.map dat := List.mem_map_of_mem hs
      rw [hdat] at hm'
      obtain ⟨t, ht, he'⟩ := List.mem_map.1 hm'
      have ht' := List.mem_of_mem_take ht
      rw [List.mem_replicate] at ht'
      rw [ht'.2] at he'
      simp only [dat, Prod.mk.injEq] at he'
      exact he'.2.2.1.symm
theorem dup_z {w : World} {B p : Nat} {F : List Nat} {ss : List PS} {b : Bool} (h : NetAt w B p F ss) (hz : ∀ s ∈ ss, s.bs = []) (hB : B ≤ w.heap.size) (h0 : 0 < ss.length) (hl : ss.length ≤ 10000) (hb : decide (ss.length < 10000) = b) :
    Calls Try.prog 12 #[.pointer (some ⟨p, 0, none⟩), .int .i64 0] w fun e w' => e = .returned (.bool b) ∧ ∃ F' ss', NetAt w' B p F' ss' ∧ ss'.length = ss.length + (if b then 1 else 0) ∧ (∀ s ∈ ss', s.bs = []) ∧ Keep F w w' ∧ ∀ x ∈ F', x ∈ F ∨ w.heap.size ≤ x := by
  refine (dup_spec 0 h hB hl (fun s hs => by rw [hz s hs]; simp)).mono ?_
  intro e w' hp
  unfold DupPost at hp
  have hk0 : isK 0 ss.length = true := by unfold isK; simp; omega
  by_cases hlt : ss.length < 10000
  · rw [if_pos ⟨hk0, hlt⟩] at hp
    obtain ⟨s, s', hs, hd, he, F', h1, h2, h3⟩ := hp
    obtain rfl : b = true := by rw [← hb]; simpa using hlt
    refine ⟨he, F', ss ++ [s'], h1, by simp, fun t ht => ?_, h2, h3⟩
    rcases List.mem_append.1 ht with ht | ht
    · exact hz t ht
    · obtain rfl : t = s' := by simpa using ht
      simp only [dat, Prod.mk.injEq] at hd
      rw [hd.2.2.1]
      exact hz s (List.mem_of_getElem? hs)
  · rw [if_neg (fun hh => hlt hh.2)] at hp
    obtain ⟨he, rfl⟩ := hp
    obtain rfl : b = false := by rw [← hb]; simpa using hlt
    exact ⟨he, F, ss, h, by simp, hz, Keep.refl _ _, fun x hx => Or.inl hx⟩
theorem make_big : ∃ bc, ZeroCells bc ∧ ∀ w, (Instr.makeSlice 32 (.int .i64 9990) (.int .i64 9990)).run Try.prog w = .ok (.slice (some ⟨w.heap.size, 0, none⟩) 9990 9990) (w.alloc (.cells bc 29)) := by
  refine ⟨bigCells, big_at, fun w => ?_⟩
  obtain ⟨i0, hi, hz0, hz1, hz2⟩ := info_parts Try.info29
  have := run_make (P := Try.prog) w 32 29 i0 _ Try.underlying32 hi hz0 .i64 .i64 9990 9990 (by omega) (by omega) (by rw [hz2]; omega) (by omega)
  rw [this, hz1]
  rfl
set_option maxHeartbeats 16000000 in
set_option maxRecDepth 100000 in
theorem netFull_any (w : World) (n more : Int) : Calls Try.prog 4 #[.int .i64 n, .int .i64 more] w fun e w' => e = .returned (.bool true) ∧ Keep [] w w' := by
  by_cases hin : (0 ≤ n ∧ n ≤ 30) ∧ 0 ≤ more ∧ more ≤ 30
  · obtain ⟨⟨g1, g2⟩, g3, g4⟩ := hin
    obtain ⟨N, rfl⟩ := Int.eq_ofNat_of_zero_le g1
    obtain ⟨M, rfl⟩ := Int.eq_ofNat_of_zero_le g3
    obtain ⟨bc, hbc, hmk⟩ := make_big
    -- the four ways
    have hcase : (N < 10 ∧ M < 9 - N) ∨ (N < 10 ∧ 9 - N ≤ M) ∨ N = 10 ∨ 10 < N := by omega
    rcases hcase with ⟨h1, h2⟩ | ⟨h1, h2⟩ | h | h
    · have hn1 : (N : Int) < 10 := by omega
      have hn2 : (M : Int) < 10 - (N : Int) - 1 := by omega
      go_enter Try.func4, Try.ntmps4
      go_wp2_with fail
      refine (alive_spec _).mono ?_
      rintro e w1 ⟨rfl, k1⟩
      go_wp2_with fail
      refine (netNew_spec _).mono ?_
      rintro e w2 ⟨p, F, rfl, h2, k2⟩
      have f2 := h2.lt
      have k3 := k1.trans k2 (by simp)
      have s1 := k1.size
      have s2 := k2.size
      have hkA : Keep [] w2 (w2.alloc (.cells bc 29)) := (Keep.refl _ _).alloc _
      have b3 : Blk (w2.alloc (.cells bc 29)) w2.heap.size 29 bc.toList := Blk.new' _ _ _ _ (by simp)
      have h3 := h2.keep hkA (by simp)
      have hgF : w2.heap.size ∉ F := fun hf => by have := (f2 _ hf).2; omega
      have k3' := k3.trans hkA (by simp)
      have f3 : ∀ x ∈ F, x ∈ ([] : List Nat) ∨ w.heap.size ≤ x := fun x hx => Or.inr (by have := (f2 x hx).1; omega)
      have s3 : w1.heap.size ≤ (w2.alloc (.cells bc 29)).heap.size := by simp; omega
      clear k1 k2 h2 f2 hkA k3
      go_wp2_with fail
      clear hmk
      generalize w2.heap.size = g at *
      refine (send_z hbc (k := 9990) h3 (by simp) s3 b3 (by omega) hgF (by simp) (by decide)).mono ?_
      rintro e w4 ⟨rfl, F4, s4, h4, l4, z4, k4, f4⟩
      have b4 := b3.keep k4 hgF
      have hg4 : g ∉ F4 := fun hf => by
        rcases f4 g hf with h | h
        · exact hgF h
        · have := b3.lt; omega
      obtain ⟨k5, f5⟩ := reach_trans k3' f3 k4 f4
      have s4' : w1.heap.size ≤ w4.heap.size := Nat.le_trans s3 k4.size
      have L4 := Lib.hid (show s4.length = 9990 by simpa using l4)
      clear h3 b3 hgF k3' f3 k4 f4 l4 s3
      go_wp2_with fail
      refine (send_z hbc (k := N) h4 z4 s4' b4 (by omega) hg4 (by rw [L4.out]; simp) (by rw [L4.out]; unfold room; omega)).mono ?_
      rintro e w6 ⟨rfl, F6, s6, h6, l6, z6, k6, f6⟩
      have b6 := b4.keep k6 hg4
      have hg6 : g ∉ F6 := fun hf => by
        rcases f6 g hf with h | h
        · exact hg4 h
        · have := b4.lt; omega
      obtain ⟨k7, f7⟩ := reach_trans k5 f5 k6 f6
      have s6' : w1.heap.size ≤ w6.heap.size := Nat.le_trans s4' k6.size
      have L6 := Lib.hid (show s6.length = 9990 + N by rw [l6, L4.out])
      clear h4 b4 hg4 k5 f5 k6 f6 l6 s4' z4
      go_wp2_with fail
      refine (dup_z (b := true) h6 z6 s6' (by rw [L6.out]; omega) (by rw [L6.out]; omega) (by rw [L6.out]; simp; try omega)).mono ?_
      rintro e w8 ⟨rfl, F8, s8, h8, l8, z8, k8, f8⟩
      have b8 := b6.keep k8 hg6
      have hg8 : g ∉ F8 := fun hf => by
        rcases f8 g hf with h | h
        · exact hg6 h
        · have := b6.lt; omega
      obtain ⟨k9, f9⟩ := reach_trans k7 f7 k8 f8
      have s8' : w1.heap.size ≤ w8.heap.size := Nat.le_trans s6' k8.size
      have L8 := Lib.hid (show s8.length = 9990 + N + 1 by rw [l8, L6.out]; try rfl)
      clear h6 b6 hg6 k7 f7 k8 f8 l8 s6' z6
      go_wp2_with fail
      refine (send_z hbc (k := M) h8 z8 s8' b8 (by omega) hg8 (by rw [L8.out]; omega) (by rw [L8.out]; unfold room; omega)).mono ?_
      rintro e w10 ⟨rfl, F10, s10, h10, l10, z10, k10, f10⟩
      obtain ⟨k11, f11⟩ := reach_trans k9 f9 k10 f10
      clear h8 b8 hg8 k9 f9 k10 f10 l10 h10 z10 z8 s8'
      go_wp2
      go_ret
      exact ⟨rfl, k11⟩
    · obtain ⟨C, hC⟩ : ∃ C : Nat, C + N = 9 := ⟨9 - N, by omega⟩
      have hn1 : (N : Int) < 10 := by omega
      have hn2 : ¬ (M : Int) < 10 - (N : Int) - 1 := by omega
      have hn3 : ((C : Int) == 10 - (N : Int) - 1) = true := by simp; omega
      have HC := Lib.hid hC
      clear hC
      go_enter Try.func4, Try.ntmps4
      go_wp2_with fail
      refine (alive_spec _).mono ?_
      rintro e w1 ⟨rfl, k1⟩
      go_wp2_with fail
      refine (netNew_spec _).mono ?_
      rintro e w2 ⟨p, F, rfl, h2, k2⟩
      have f2 := h2.lt
      have k3 := k1.trans k2 (by simp)
      have s1 := k1.size
      have s2 := k2.size
      have hkA : Keep [] w2 (w2.alloc (.cells bc 29)) := (Keep.refl _ _).alloc _
      have b3 : Blk (w2.alloc (.cells bc 29)) w2.heap.size 29 bc.toList := Blk.new' _ _ _ _ (by simp)
      have h3 := h2.keep hkA (by simp)
      have hgF : w2.heap.size ∉ F := fun hf => by have := (f2 _ hf).2; omega
      have k3' := k3.trans hkA (by simp)
      have f3 : ∀ x ∈ F, x ∈ ([] : List Nat) ∨ w.heap.size ≤ x := fun x hx => Or.inr (by have := (f2 x hx).1; omega)
      have s3 : w1.heap.size ≤ (w2.alloc (.cells bc 29)).heap.size := by simp; omega
      clear k1 k2 h2 f2 hkA k3
      go_wp2_with fail
      clear hmk
      generalize w2.heap.size = g at *
      refine (send_z hbc (k := 9990) h3 (by simp) s3 b3 (by omega) hgF (by simp) (by decide)).mono ?_
      rintro e w4 ⟨rfl, F4, s4, h4, l4, z4, k4, f4⟩
      have b4 := b3.keep k4 hgF
      have hg4 : g ∉ F4 := fun hf => by
        rcases f4 g hf with h | h
        · exact hgF h
        · have := b3.lt; omega
      obtain ⟨k5, f5⟩ := reach_trans k3' f3 k4 f4
      have s4' : w1.heap.size ≤ w4.heap.size := Nat.le_trans s3 k4.size
      have L4 := Lib.hid (show s4.length = 9990 by simpa using l4)
      clear h3 b3 hgF k3' f3 k4 f4 l4 s3
      go_wp2_with fail
      refine (send_z hbc (k := N) h4 z4 s4' b4 (by omega) hg4 (by rw [L4.out]; simp) (by rw [L4.out]; unfold room; omega)).mono ?_
      rintro e w6 ⟨rfl, F6, s6, h6, l6, z6, k6, f6⟩
      have b6 := b4.keep k6 hg4
      have hg6 : g ∉ F6 := fun hf => by
        rcases f6 g hf with h | h
        · exact hg4 h
        · have := b4.lt; omega
      obtain ⟨k7, f7⟩ := reach_trans k5 f5 k6 f6
      have s6' : w1.heap.size ≤ w6.heap.size := Nat.le_trans s4' k6.size
      have L6 := Lib.hid (show s6.length = 9990 + N by rw [l6, L4.out])
      clear h4 b4 hg4 k5 f5 k6 f6 l6 s4' z4
      go_wp2_with fail
      refine (dup_z (b := true) h6 z6 s6' (by rw [L6.out]; omega) (by rw [L6.out]; omega) (by rw [L6.out]; simp; try omega)).mono ?_
      rintro e w8 ⟨rfl, F8, s8, h8, l8, z8, k8, f8⟩
      have b8 := b6.keep k8 hg6
      have hg8 : g ∉ F8 := fun hf => by
        rcases f8 g hf with h | h
        · exact hg6 h
        · have := b6.lt; omega
      obtain ⟨k9, f9⟩ := reach_trans k7 f7 k8 f8
      have s8' : w1.heap.size ≤ w8.heap.size := Nat.le_trans s6' k8.size
      have L8 := Lib.hid (show s8.length = 9990 + N + 1 by rw [l8, L6.out]; try rfl)
      clear h6 b6 hg6 k7 f7 k8 f8 l8 s6' z6
      go_wp2_with fail
      refine (send_z hbc (k := C) h8 z8 s8' b8 (by omega) hg8 (by rw [L8.out]; omega) (by rw [L8.out]; have := HC.out; unfold room; omega)).mono ?_
      rintro e w10 ⟨rfl, F10, s10, h10, l10, z10, k10, f10⟩
      obtain ⟨k11, f11⟩ := reach_trans k9 f9 k10 f10
      clear h8 b8 hg8 k9 f9 k10 f10 l10 h10 z10 z8 s8'
      go_wp2
      go_ret
      exact ⟨rfl, k11⟩
    · subst h
      go_enter Try.func4, Try.ntmps4
      go_wp2_with fail
      refine (alive_spec _).mono ?_
      rintro e w1 ⟨rfl, k1⟩
      go_wp2_with fail
      refine (netNew_spec _).mono ?_
      rintro e w2 ⟨p, F, rfl, h2, k2⟩
      have f2 := h2.lt
      have k3 := k1.trans k2 (by simp)
      have s1 := k1.size
      have s2 := k2.size
      have hkA : Keep [] w2 (w2.alloc (.cells bc 29)) := (Keep.refl _ _).alloc _
      have b3 : Blk (w2.alloc (.cells bc 29)) w2.heap.size 29 bc.toList := Blk.new' _ _ _ _ (by simp)
      have h3 := h2.keep hkA (by simp)
      have hgF : w2.heap.size ∉ F := fun hf => by have := (f2 _ hf).2; omega
      have k3' := k3.trans hkA (by simp)
      have f3 : ∀ x ∈ F, x ∈ ([] : List Nat) ∨ w.heap.size ≤ x := fun x hx => Or.inr (by have := (f2 x hx).1; omega)
      have s3 : w1.heap.size ≤ (w2.alloc (.cells bc 29)).heap.size := by simp; omega
      clear k1 k2 h2 f2 hkA k3
      go_wp2_with fail
      clear hmk
      generalize w2.heap.size = g at *
      refine (send_z hbc (k := 9990) h3 (by simp) s3 b3 (by omega) hgF (by simp) (by decide)).mono ?_
      rintro e w4 ⟨rfl, F4, s4, h4, l4, z4, k4, f4⟩
      have b4 := b3.keep k4 hgF
      have hg4 : g ∉ F4 := fun hf => by
        rcases f4 g hf with h | h
        · exact hgF h
        · have := b3.lt; omega
      obtain ⟨k5, f5⟩ := reach_trans k3' f3 k4 f4
      have s4' : w1.heap.size ≤ w4.heap.size := Nat.le_trans s3 k4.size
      have L4 := Lib.hid (show s4.length = 9990 by simpa using l4)
      clear h3 b3 hgF k3' f3 k4 f4 l4 s3
      go_wp2_with fail
      refine (send_z hbc (k := 10) h4 z4 s4' b4 (by omega) hg4 (by rw [L4.out]; simp) (by rw [L4.out]; decide)).mono ?_
      rintro e w6 ⟨rfl, F6, s6, h6, l6, z6, k6, f6⟩
      have b6 := b4.keep k6 hg4
      have hg6 : g ∉ F6 := fun hf => by
        rcases f6 g hf with h | h
        · exact hg4 h
        · have := b4.lt; omega
      obtain ⟨k7, f7⟩ := reach_trans k5 f5 k6 f6
      have s6' : w1.heap.size ≤ w6.heap.size := Nat.le_trans s4' k6.size
      have L6 := Lib.hid (show s6.length = 9990 + 10 by rw [l6, L4.out])
      clear h4 b4 hg4 k5 f5 k6 f6 l6 s4' z4
      go_wp2_with fail
      refine (dup_z (b := false) h6 z6 s6' (by rw [L6.out]; omega) (by rw [L6.out]; omega) (by rw [L6.out]; simp; try omega)).mono ?_
      rintro e w8 ⟨rfl, F8, s8, h8, l8, z8, k8, f8⟩
      have b8 := b6.keep k8 hg6
      have hg8 : g ∉ F8 := fun hf => by
        rcases f8 g hf with h | h
        · exact hg6 h
        · have := b6.lt; omega
      obtain ⟨k9, f9⟩ := reach_trans k7 f7 k8 f8
      have s8' : w1.heap.size ≤ w8.heap.size := Nat.le_trans s6' k8.size
      have L8 := Lib.hid (show s8.length = 9990 + 10 + 0 by rw [l8, L6.out]; try rfl)
      clear h6 b6 hg6 k7 f7 k8 f8 l8 s6' z6
      go_wp2_with fail
      refine (send_z hbc (k := 0) h8 z8 s8' b8 (by omega) hg8 (by rw [L8.out]; omega) (by rw [L8.out]; unfold room; omega)).mono ?_
      rintro e w10 ⟨rfl, F10, s10, h10, l10, z10, k10, f10⟩
      obtain ⟨k11, f11⟩ := reach_trans k9 f9 k10 f10
      clear h8 b8 hg8 k9 f9 k10 f10 l10 h10 z10 z8 s8'
      go_wp2
      go_ret
      exact ⟨rfl, k11⟩
    · have hn1 : decide ((N : Int) < 10) = false := by simp; omega
      have hn2 : (10 : Int) < (N : Int) := by omega
      go_enter Try.func4, Try.ntmps4
      go_wp2_with fail
      refine (alive_spec _).mono ?_
      rintro e w1 ⟨rfl, k1⟩
      go_wp2_with fail
      refine (netNew_spec _).mono ?_
      rintro e w2 ⟨p, F, rfl, h2, k2⟩
      have f2 := h2.lt
      have k3 := k1.trans k2 (by simp)
      have s1 := k1.size
      have s2 := k2.size
      have hkA : Keep [] w2 (w2.alloc (.cells bc 29)) := (Keep.refl _ _).alloc _
      have b3 : Blk (w2.alloc (.cells bc 29)) w2.heap.size 29 bc.toList := Blk.new' _ _ _ _ (by simp)
      have h3 := h2.keep hkA (by simp)
      have hgF : w2.heap.size ∉ F := fun hf => by have := (f2 _ hf).2; omega
      have k3' := k3.trans hkA (by simp)
      have f3 : ∀ x ∈ F, x ∈ ([] : List Nat) ∨ w.heap.size ≤ x := fun x hx => Or.inr (by have := (f2 x hx).1; omega)
      have s3 : w1.heap.size ≤ (w2.alloc (.cells bc 29)).heap.size := by simp; omega
      clear k1 k2 h2 f2 hkA k3
      go_wp2_with fail
      clear hmk
      generalize w2.heap.size = g at *
      refine (send_z hbc (k := 9990) h3 (by simp) s3 b3 (by omega) hgF (by simp) (by decide)).mono ?_
      rintro e w4 ⟨rfl, F4, s4, h4, l4, z4, k4, f4⟩
      have b4 := b3.keep k4 hgF
      have hg4 : g ∉ F4 := fun hf => by
        rcases f4 g hf with h | h
        · exact hgF h
        · have := b3.lt; omega
      obtain ⟨k5, f5⟩ := reach_trans k3' f3 k4 f4
      have s4' : w1.heap.size ≤ w4.heap.size := Nat.le_trans s3 k4.size
      have L4 := Lib.hid (show s4.length = 9990 by simpa using l4)
      clear h3 b3 hgF k3' f3 k4 f4 l4 s3
      go_wp2_with fail
      refine (send_z hbc (k := 10) h4 z4 s4' b4 (by omega) hg4 (by rw [L4.out]; simp) (by rw [L4.out]; unfold room; omega)).mono ?_
      rintro e w6 ⟨rfl, F6, s6, h6, l6, z6, k6, f6⟩
      have b6 := b4.keep k6 hg4
      have hg6 : g ∉ F6 := fun hf => by
        rcases f6 g hf with h | h
        · exact hg4 h
        · have := b4.lt; omega
      obtain ⟨k7, f7⟩ := reach_trans k5 f5 k6 f6
      have s6' : w1.heap.size ≤ w6.heap.size := Nat.le_trans s4' k6.size
      have L6 := Lib.hid (show s6.length = 9990 + 10 by rw [l6, L4.out])
      clear h4 b4 hg4 k5 f5 k6 f6 l6 s4' z4
      go_wp2_with fail
      refine (dup_z (b := false) h6 z6 s6' (by rw [L6.out]; omega) (by rw [L6.out]; omega) (by rw [L6.out]; simp; try omega)).mono ?_
      rintro e w8 ⟨rfl, F8, s8, h8, l8, z8, k8, f8⟩
      have b8 := b6.keep k8 hg6
      have hg8 : g ∉ F8 := fun hf => by
        rcases f8 g hf with h | h
        · exact hg6 h
        · have := b6.lt; omega
      obtain ⟨k9, f9⟩ := reach_trans k7 f7 k8 f8
      have s8' : w1.heap.size ≤ w8.heap.size := Nat.le_trans s6' k8.size
      have L8 := Lib.hid (show s8.length = 9990 + 10 + 0 by rw [l8, L6.out]; try rfl)
      clear h6 b6 hg6 k7 f7 k8 f8 l8 s6' z6
      go_wp2_with fail
      refine (send_z hbc (k := 0) h8 z8 s8' b8 (by omega) hg8 (by rw [L8.out]; omega) (by rw [L8.out]; unfold room; omega)).mono ?_
      rintro e w10 ⟨rfl, F10, s10, h10, l10, z10, k10, f10⟩
      obtain ⟨k11, f11⟩ := reach_trans k9 f9 k10 f10
      clear h8 b8 hg8 k9 f9 k10 f10 l10 h10 z10 z8 s8'
      go_wp2
      go_ret
      exact ⟨rfl, k11⟩
  · have hc : n < 0 ∨ (0 ≤ n ∧ 30 < n) ∨ ((0 ≤ n ∧ n ≤ 30) ∧ more < 0) ∨ ((0 ≤ n ∧ n ≤ 30) ∧ 0 ≤ more ∧ 30 < more) := by omega
    clear hin
    go_enter Try.func4, Try.ntmps4
    go_wp2_with fail
    refine (alive_spec _).mono ?_
    rintro e w1 ⟨rfl, hk1⟩
    rcases hc with h | ⟨h, h'⟩ | ⟨⟨h, h'⟩, h2⟩ | ⟨⟨h, h'⟩, h2, h3⟩
    all_goals (go_wp2; go_ret; exact ⟨rfl, hk1⟩)
theorem walk_netFull (W : World) {n more : Int} (_ : (Lit.int .i64 n).wf = true) (_ : (Lit.int .i64 more).wf = true) :
    Calls Try.prog 4 #[.int .i64 n, .int .i64 more] W fun e w' => e = .returned (.bool true) ∧ Below W.heap.size W w' :=
  (netFull_any W n more).mono fun _ _ ⟨he, hk⟩ => ⟨he, hk.to_below⟩
end Go.Proofs.Ytolhcikgodaecaa
