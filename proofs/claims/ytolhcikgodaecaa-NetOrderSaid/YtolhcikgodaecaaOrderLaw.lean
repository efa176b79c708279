/- The law NetOrder. -/
import Derived.Test.YtolhcikgodaecaaRows
import Derived.WalkKit
import Derived.WalkSpells
import Derived.WalkLawsBesides
import Derived.RegionTactic
import Derived.ChangeAlike
import Derived.BigQuiet
import Derived.Deep.QuietTactic
import Derived.StillTailTactics
import Derived.IntWalk
import Derived.Handy
import Derived.Lib.Hide
import Derived.Deep.AppendLies
import Derived.Deep.RegionWith
import Derived.Test.YtolhcikgodaecaaBase
import Derived.Test.YtolhcikgodaecaaTail
import Derived.Test.YtolhcikgodaecaaArgs
import Derived.Test.YtolhcikgodaecaaAppend
import Derived.Test.YtolhcikgodaecaaOffs
import Derived.Test.YtolhcikgodaecaaStructs
import Derived.Test.YtolhcikgodaecaaNetObj
import Derived.Test.YtolhcikgodaecaaNetObj2
import Derived.Test.YtolhcikgodaecaaNetSend
import Derived.Test.YtolhcikgodaecaaNetWay
import Derived.Test.YtolhcikgodaecaaNetDel
import Derived.Test.YtolhcikgodaecaaNetSmall
namespace Go.Proofs.Ytolhcikgodaecaa
open Go.RowKit

theorem Try.ints22 : SliceTy Try.prog 22 3 (.int .i64 0) 1 8 := ⟨Try.underlying22, by kernel_rfl, rfl, by decide⟩
/-- the parcel that carries the number i -/
def od (i : Nat) : Int × Int × List UInt8 × Bool := ((i : Int), (i : Int) + 1, [UInt8.ofNat i], false)
def nat_ (i : Nat) : Value := .int .i64 (i : Int)
theorem send_at {w : World} {B p : Nat} {F : List Nat} {ss ps : List PS} {v : Value} {l : List (Int × Int × List UInt8 × Bool)} (h : NetAt w B p F ss) (hB : B ≤ w.heap.size) (hv : ParcelsOf w v ps) (hsep : ∀ x ∈ parcelBlocks v ps, x ∉ F ∧ x < w.heap.size)
    (hl : ss.length + ps.length ≤ 10000) (hbl : ∀ s ∈ ps, s.bs.length ≤ 1000000) (hd : ps.map (fun s => (s.f, s.t, s.bs, false)) = l) :
    Calls Try.prog 9 #[.pointer (some ⟨p, 0, none⟩), v] w fun e w' => e = .returned (.int .i64 ps.length) ∧ ∃ F' ss', NetAt w' B p F' (ss ++ ss') ∧ ss'.map dat = l ∧ Keep F w w' ∧ ∀ x ∈ F', x ∈ F ∨ w.heap.size ≤ x := by
  refine (send_spec h hB hv hsep (by omega) (by omega) hbl).mono ?_
  rintro e w' ⟨k, ss', hk, hdat, he, F', h1, h2, h3⟩
  have hk' : k = ps.length := by unfold room at hk; omega
  subst hk'
  rw [List.take_length, hd] at hdat
  exact ⟨he, F', ss', h1, hdat, h2, h3⟩
theorem nat_one (l : List Nat) : ∀ u ∈ l.map nat_, u.oneCell' = true := by
  intro u hu
  obtain ⟨i, _, rfl⟩ := List.mem_map.1 hu
  rfl
theorem ints_at {w : World} {v : Option Addr} {c : Nat} {ys : List Int} (h : IntsOf w (.slice v ys.length c) ys) {k : Nat} (hk : k < ys.length) : ∃ b off, v = some ⟨b, off, none⟩ ∧ b < w.heap.size ∧ w.cell? ⟨b, off + k, none⟩ = some (.int .i64 ys[k]) := by
  obtain ⟨a, c', hv, h⟩ := h
  cases hv
  obtain ⟨b, off, rfl, hb, hc⟩ := h (by intro h; subst h; simp at hk)
  exact ⟨b, off, rfl, hb, hc k _ (List.getElem?_eq_getElem hk)⟩
theorem src_own {w : World} {B : Nat} {e : TypeId} {size n : Nat} {v : Value} {xs : List Value} (h : OwnsAt w B e size v n xs) : SrcOf w v size n xs := by
  obtain ⟨a, c, rfl⟩ := h.shape
  refine ⟨a, c, rfl, h.1, fun hne => ?_⟩
  have hn : 0 < n := by
    rcases Nat.eq_zero_or_pos n with h0 | h0
    · subst h0
      have := h.1
      simp at this
      exact absurd this hne
    · exact h0
  obtain ⟨g, off, cap, hv, _, _, _, _, h5⟩ := h.form hn
  injection hv with e1 _ _
  subst e1
  exact ⟨_, rfl, fun j u hu => by rw [add_none]; exact h5 j u hu⟩
set_option maxHeartbeats 16000000 in
set_option maxRecDepth 100000 in
theorem netOrder_any (w : World) (n : Int) (v : Value) (ys : List Int) (hv : IntsOf w v ys) : Calls Try.prog 3 #[.int .i64 n, v] w fun e w' => e = .returned (.bool true) ∧ Keep [] w w' := by
  obtain ⟨a, c, hva⟩ : ∃ a c, v = .slice a ys.length c := by obtain ⟨a, c, h, _⟩ := hv; exact ⟨a, c, h⟩
  subst hva
  by_cases hin : (0 ≤ n ∧ n ≤ 100) ∧ ys.length ≤ 100
  · obtain ⟨⟨g1, g2⟩, g3⟩ := hin
    obtain ⟨N, rfl⟩ := Int.eq_ofNat_of_zero_le g1
    have Hv := Lib.hid hv
    clear hv
    go_enter Try.func3, Try.ntmps3
    go_wp2_with fail
    refine (alive_spec _).mono ?_
    rintro e w1 ⟨rfl, k1⟩
    go_wp2_with fail
    refine (netNew_spec _).mono ?_
    rintro e w2 ⟨p, F, rfl, h2, k2⟩
    have l2 := h2.lt
    have k3 := k1.trans k2 (by simp)
    have hw1 := k1.size
    have hw2 := k2.size
    have f2 : ∀ x ∈ F, x ∈ ([] : List Nat) ∨ w.heap.size ≤ x := fun x hx => Or.inr (by have := (l2 x hx).1; omega)
    clear k1 k2 l2
    go_wp2_with fail
    go_loopw [7, 8] (fun v7 v8 wr => ∃ (k : Nat) (F' : List Nat) (ss : List PS), k ≤ N ∧ v8 = .int .i64 k ∧ NetAt wr w1.heap.size p F' ss ∧ ss.map dat = (List.range k).map od ∧ Keep [] w wr ∧ (∀ x ∈ F', x ∈ ([] : List Nat) ∨ w.heap.size ≤ x) ∧
      OwnsAt wr w.heap.size 3 1 v7 k ((List.range k).map nat_) ∧ (∀ x ∈ ownBlocks v7, x ∉ F') ∧ w1.heap.size ≤ wr.heap.size) (fun _ v _ => N - (intOf v).toNat)
    case atStart => exact ⟨0, F, [], by omega, rfl, h2, rfl, k3, f2, OwnsAt.nil _ _ _ _, by simp [ownBlocks, Value.ownBlock], hw2⟩
    case round =>
      clear h2 k3 f2
      obtain ⟨k, F', ss, hk, rfl, h4, hdat, k4, f4, hown, hsep, hw4⟩ := hrel
      obtain ⟨av, cv, rfl⟩ := hown.shape
      by_cases hlt : k < N
      · have hsl : ss.length = k := by have := congrArg List.length hdat; simpa using this
        have l4 := h4.lt
        have hk8 : (k : Int) < 256 := by omega
        have hkA : Keep [] wr ((wr.alloc (.cells #[.int .u8 k] 5)).alloc (.cells #[.int .i64 k, .int .i64 ((k : Int) + 1), .slice (some ⟨wr.heap.size, 0, none⟩) 1 1] 29)) := ((Keep.refl _ _).alloc _).alloc _
        have hbk : BytesOf (wr.alloc (.cells #[.int .u8 k] 5)) (.slice (some ⟨wr.heap.size, 0, none⟩) 1 1) [UInt8.ofNat k] := by
          refine ⟨_, _, rfl, fun _ => ⟨wr.heap.size, 0, rfl, by simp, fun j x hx => ?_⟩⟩
          match j, hx with
          | 0, hx =>
            cases hx
            have h1 := (Blk.new' wr 5 #[.int .u8 k] [.int .u8 k] rfl).cell 0
            have h2 : u8 (UInt8.ofNat k) = .int .u8 k := by
              unfold u8
              rw [UInt8.toNat_ofNat_of_lt' (by simp [UInt8.size]; omega)]
            rw [h2]
            exact h1
          | j + 1, hx => simp at hx
        have hpar := parcels_lit (w := wr.alloc (.cells #[.int .u8 k] 5)) (arr := #[.int .i64 k, .int .i64 ((k : Int) + 1), .slice (some ⟨wr.heap.size, 0, none⟩) 1 1]) (n := 1) [⟨k, k + 1, [UInt8.ofNat k], false, .slice (some ⟨wr.heap.size, 0, none⟩) 1 1⟩] rfl rfl (by simpa using hbk)
        rw [show (wr.alloc (.cells #[.int .u8 (k : Int)] 5)).heap.size = wr.heap.size + 1 by simp] at hpar
        have hsend := send_at (l := [od k]) (h4.keep hkA (by simp)) (by simp; omega) hpar (by
          intro x hx
          have hx' : x = wr.heap.size + 1 ∨ x = wr.heap.size := by simpa [parcelBlocks, byteBlocks, ownBlocks, Value.ownBlock] using hx
          exact ⟨fun hf => by have := (l4 _ hf).2; omega, by simp; omega⟩) (by simp [hsl]; omega) (by simp) rfl
        have Hsend := Lib.hid hsend
        have Hdat := Lib.hid hdat
        have Hsl := Lib.hid hsl
        clear hsend hpar hbk hdat hsl
        go_wp2_with fail
        refine Hsend.out.mono ?_
        rintro e w5 ⟨rfl, F5, ss5, h5, hd5, k5, f5⟩
        obtain ⟨k6, f6⟩ := reach_trans (k4.trans hkA (by simp)) (F := []) (F1 := F') (fun x hx => by
          rcases f4 x hx with h | h
          · exact absurd h (by simp)
          · exact Or.inr h) k5 f5
        have hown5 := hown.keep (hkA.mono (T := F') (by simp)) (fun g hg => hsep g (mem_own.2 hg))
        have hown6 := hown5.keep k5 (fun g hg => hsep g (mem_own.2 hg))
        have hsep6 : ∀ x ∈ ownBlocks (.slice av k cv), x ∉ F5 := fun x hx hf => by
          have h1 := (hown.lt x (mem_own.1 hx)).2
          rcases f5 x hf with h | h
          · exact hsep x hx h
          · simp at h; omega
        have hdat5 : (ss ++ ss5).map dat = (List.range (k + 1)).map od := by
          rw [List.map_append, Hdat.out, hd5, List.range_succ, List.map_append]
          rfl
        have hkB : Keep [] w5 (w5.alloc (.cells #[.int .i64 (k : Int)] 3)) := (Keep.refl _ _).alloc _
        have hown7 := hown6.keep hkB (by simp)
        have h7 := h5.keep hkB (by simp)
        have hlt7 : ∀ x ∈ F5, x < w5.heap.size + 1 := fun x hx => by have := (h5.lt x hx).2; omega
        have hk7 := k6.trans hkB (by simp)
        have hw7 := k5.size
        clear hown hown5 hown6 h4 h5 k4 k5 hkA l4 f4 f5 hd5 hkB hsep k6
        go_wp2_with (at_builtin; refine wpList_append_off rfl _ _ rfl Try.ints22 w.heap.size _ k _ rfl hown7 _ 1 [.int .i64 (k : Int)] rfl (src_row 1 rfl _ rfl) (by simp [Value.oneCell']) (by unfold maxLen; omega) (by omega) (by have := hk7.size; omega) ?_)
        intro v' w8 hown8 hk8' hblk
        have hsep8 : ∀ x ∈ ownBlocks v', x ∉ F5 := fun x hx hf => by
          rw [mem_own] at hx
          rcases hblk with h | h
          · exact hsep6 x (mem_own.2 (h ▸ hx)) hf
          · have := hlt7 x hf
            rw [h] at hx
            injection hx with hx
            omega
        have h8 := h7.keep hk8' (fun x hx hf => hsep6 x hf hx)
        have hk9 := hk7.trans hk8' (fun x hx => Or.inr (hown7.lt x (mem_own.1 hx)).1)
        have hw8 := hk8'.size
        have hown9 : OwnsAt w8 w.heap.size 3 1 v' (k + 1) ((List.range (k + 1)).map nat_) := by
          rw [List.range_succ, List.map_append]
          exact hown8
        simp only [World.size_alloc] at hw8 hw7
        have hw9 : w1.heap.size ≤ w8.heap.size := by omega
        obtain ⟨a8, c8, rfl⟩ := hown9.shape
        clear hown7 hown8 hk8' hblk h7 hk7 hsep6 hlt7 hw8 hw7 hw4
        go_wp2
        go_roundw
        case rel => exact ⟨k + 1, F5, ss ++ ss5, by omega, by go_num, h8, hdat5, hk9, f6, hown9, hsep8, hw9⟩
        case measure => simp [intOf]; omega
      · have : k = N := by omega
        subst this
        generalize wr = wo at *
        go_wp2_with fail
        go_loopw [7, 9, 10, 11, 12, 13] (fun v7 v9 v10 v11 v12 v13 wr => ∃ (j : Nat) (L : List Nat) (F' : List Nat) (ss : List PS), j ≤ k ∧ v9 = .int .i64 j ∧ (j + L.length ≤ k ∧ k ≤ j + L.length) ∧ (∀ y ∈ L, y < k) ∧ NetAt wr w1.heap.size p F' ss ∧ ss.map dat = L.map od ∧ Keep [] w wr ∧ (∀ x ∈ F', x ∈ ([] : List Nat) ∨ w.heap.size ≤ x) ∧
          OwnsAt wr w.heap.size 3 1 v7 L.length (L.map nat_) ∧ (∀ x ∈ ownBlocks v7, x ∉ F') ∧ w1.heap.size ≤ wr.heap.size) (fun _ v _ _ _ _ _ => k - (intOf v).toNat)
        case atStart => exact ⟨0, List.range k, F', ss, by omega, rfl, ⟨by simp, by simp⟩, by simp, h4, hdat, k4, f4, by simpa using hown, hsep, hw4⟩
        case round =>
          clear h4 k4 f4 hown hsep hw4 hdat
          obtain ⟨j, L, F', ss, hj, rfl, ⟨hLa, hLb⟩, hL, h4, hdat, k4, f4, hown, hsep, hw4⟩ := hrel
          have HL := Lib.hid hL
          have hssl : ss.length = L.length := by have := congrArg List.length hdat; simpa using this
          clear hL
          obtain ⟨av, cv, rfl⟩ := hown.shape
          by_cases hjk : j < k
          · obtain ⟨g, off, cap, hv', hc1, hc2, hc3, hc4, hc5⟩ := hown.form (by omega)
            cases hv'
            clear hc5
            by_cases hlt2 : j < ys.length
            · obtain ⟨ba, offa, rfl, hba, hca⟩ := ints_at (Hv.out.keep0 k4) hlt2
              have hcell := hca
              clear hca
              have hbits := bits_and_mask ys[j] 7 (by decide)
              have hb2 : bits BinOp.and IntKind.i64 ys[j] 127 = ys[j] % 128 := hbits
              obtain ⟨kk, hkk, hkl⟩ : ∃ kk : Nat, (bits BinOp.and IntKind.i64 ys[j] 127).tmod ((L.length : Nat) : Int) = (kk : Int) ∧ kk < L.length := by
                refine ⟨(ys[j] % 128).toNat % L.length, ?_, Nat.mod_lt _ (by omega)⟩
                rw [hb2, Int.tmod_eq_emod_of_nonneg (by omega), Int.natCast_emod, Int.toNat_of_nonneg (by omega)]
              have Hx := Lib.hid hkk
              clear hbits hb2 hkk
              have hdel := deliver_spec (kk : Int) h4 (by omega)
              have Hdel := Lib.hid hdel
              have Hdat := Lib.hid hdat
              have Hssl := Lib.hid hssl
              clear hdel hdat hssl
              go_wp2_with fail
              rw [Hx.out]
              refine Hdel.out.mono ?_
              intro e w5 hpost
              unfold DeliverPost at hpost
              rw [if_pos (by unfold isK; have := Hssl.out; simp; omega)] at hpost
              obtain ⟨s, F5, hs, rfl, h5, k5, f5, ob, sb⟩ := hpost
              rw [show ((kk : Int) : Int).toNat = kk by simp] at hs h5
              have hds : dat s = od L[kk] := by
                have h1 := dat_at Hdat.out hs
                rw [List.getElem?_map, List.getElem?_eq_getElem hkl] at h1
                exact (Option.some.inj h1).symm
              have hxN : L[kk] < k := HL.out _ (List.getElem_mem hkl)
              have hcell5 : w5.cell? ⟨g, off + kk, none⟩ = some (.int .i64 (L[kk] : Nat)) := by
                have h1 := hown.keep k5 (fun y hy => hsep y (mem_own.2 hy))
                obtain ⟨g', off', cap', hv', _, _, _, _, hc'⟩ := h1.form (by omega)
                cases hv'
                have h2 := hc' kk (nat_ L[kk]) (by rw [List.getElem?_map, List.getElem?_eq_getElem hkl]; rfl)
                simpa [nat_] using h2
              generalize L[kk] = x at *
              obtain ⟨f, t, bs, fl, bv⟩ := s
              simp only [dat, od, Prod.mk.injEq] at hds
              obtain ⟨rfl, rfl, rfl, rfl⟩ := hds
              obtain ⟨gb, ob', cb, hbv, _, _, _, hgb, hbc⟩ := OwnsAt.form ob (by simp)
              simp only at hbv
              subst hbv
              have hby : w5.cell? ⟨gb, ob', none⟩ = some (.int .u8 (x : Int)) := by
                have h1 := hbc 0 (u8 (UInt8.ofNat x)) (by simp)
                have h2 : u8 (UInt8.ofNat x) = .int .u8 x := by
                  unfold u8
                  rw [UInt8.toNat_ofNat_of_lt' (by simp [UInt8.size]; omega)]
                rw [h2] at h1
                simpa using h1
              obtain ⟨k6, f6⟩ := reach_trans k4 f4 k5 (fun y hy => Or.inl (f5 y hy))
              have hown5 := hown.keep k5 (fun y hy => hsep y (mem_own.2 hy))
              have hg5 := (hown5.lt g rfl).2
              have hkC : Keep [] w5 (w5.alloc (.cells #[.int .i64 (x : Int), .int .i64 ((x : Int) + 1), .slice (some ⟨gb, ob', none⟩) 1 cb] 29)) := (Keep.refl _ _).alloc _
              have hxx : ((x : Int) != (x : Int)) = false := by simp
              have hx256 : (x : Int) < 256 := by omega
              have h6 := h5.keep hkC (by simp)
              have hown6 := hown5.keep hkC (by simp)
              have hk6 := k6.trans hkC (by simp)
              have hw5 := k5.size
              clear ob sb k5 f5 hbc hown hown5 hkC hsep h4 k4 f4 k6
              go_wp2_with fail
              go_quiet (fail)
              have h6 := h6.keep ((Keep.refl [] _).drewN nq) (by simp)
              have hown6 := hown6.keep ((Keep.refl [] _).drewN nq) (by simp)
              have hk6 := hk6.drewN nq
              by_cases hcap : cv = kk + 1
              · subst hcap
                have hdrop : L.drop (kk + 1) = [] := List.drop_of_length_le (by omega)
                have Hdrop := Lib.hid hdrop
                clear hdrop
                go_wp2_with (at_builtin; refine wpList_append_off rfl _ _ rfl Try.ints22 w.heap.size (.slice none 0 0) 0 [] rfl (OwnsAt.nil _ _ _ _) (.slice (some ⟨g, off, none⟩) 0 0) 0 [] rfl ⟨_, _, rfl, rfl, fun h => absurd rfl h⟩ (by simp) (by unfold maxLen; omega) (by omega) (by have := hk6.size; omega) ?_)
                intro v6 w6 hr6 kr6 _
                obtain ⟨n6, hn6⟩ : ∃ n6, n6 = L.length - (kk + 1) := ⟨_, rfl⟩
                have hn6a : n6 + (kk + 1) ≤ L.length := by omega
                have hn6b : L.length ≤ n6 + (kk + 1) := by omega
                have hr6' : OwnsAt w6 w.heap.size 3 1 v6 n6 ((L.drop (kk + 1)).map nat_) := by
                  rw [hn6]
                  have e : L.length - (kk + 1) = 0 := by omega
                  rw [Hdrop.out, e]
                  simpa using hr6
                have kr6' : Keep [] _ w6 := kr6.mono (by simp [ownBlocks, Value.ownBlock])
                have hown7 := hown6.keep kr6' (by simp)
                have h7 := h6.keep kr6' (by simp)
                have hk7 := hk6.trans kr6' (by simp)
                have hlt7 := kr6'.size
                simp only [World.heap_drewN, World.size_alloc] at hlt7
                obtain ⟨a6, c6, rfl⟩ := hr6'.shape
                have hsrc2 : SrcOf w6 (.slice (some ⟨g, off, none⟩) kk (kk + 1)) 1 kk ((L.take kk).map nat_) := by
                  have h1 := hown7.cutAt (show kk ≤ L.length by omega)
                  have h2 := SrcOf.of_own h1 (Nat.zero_le kk) (kk + 1)
                  simpa [List.map_take] using h2
                have Hsrc2 := Lib.hid hsrc2
                clear hr6 kr6 kr6' hown6 h6 hk6 hsrc2 hn6
                go_wp2_with (at_builtin; refine wpList_append_off rfl _ _ rfl Try.ints22 w.heap.size (.slice none 0 0) 0 [] rfl (OwnsAt.nil _ _ _ _) (.slice (some ⟨g, off, none⟩) kk (kk + 1)) kk ((L.take kk).map nat_) rfl Hsrc2.out (nat_one _) (by unfold maxLen; omega) (by omega) (by have := hk7.size; omega) ?_)
                intro v8 w8 hr8 kr8 hat8
                have kr8' : Keep [] w6 w8 := kr8.mono (by simp [ownBlocks, Value.ownBlock])
                have hr6b := hr6'.keep kr8' (by simp)
                have h8 := h7.keep kr8' (by simp)
                have hk8 := hk7.trans kr8' (by simp)
                have hlt8 := kr8'.size
                have hat8' : v8.ownBlock = none ∨ v8.ownBlock = some w6.heap.size := by simpa [Value.ownBlock] using hat8
                have hr8' : OwnsAt w8 w.heap.size 3 1 v8 kk ((L.take kk).map nat_) := by simpa using hr8
                obtain ⟨a8, c8, rfl⟩ := hr8'.shape
                have hsrc3 : SrcOf w8 (.slice a6 n6 c6) 1 n6 ((L.drop (kk + 1)).map nat_) := src_own hr6b
                have Hsrc3 := Lib.hid hsrc3
                clear hr8 kr8 kr8' hown7 h7 hk7 hr6' hr6b hat8 hsrc3 Hsrc2
                go_wp2_with (at_builtin; refine wpList_append_off rfl _ _ rfl Try.ints22 w.heap.size (.slice a8 kk c8) kk ((L.take kk).map nat_) rfl hr8' (.slice a6 n6 c6) n6 ((L.drop (kk + 1)).map nat_) rfl Hsrc3.out (nat_one _) (by unfold maxLen; omega) (by omega) (by have := hk8.size; omega) ?_)
                intro v9 w9 hr9 kr9 hat9
                have hF5 : ∀ x ∈ F5, x < w5.heap.size := fun x hx => (h5.lt x hx).2
                have hno : ∀ x ∈ F5, x ∉ ownBlocks (.slice a8 kk c8) := fun x hx hm => by
                  rw [mem_own] at hm
                  rcases hat8' with h | h
                  · rw [h] at hm; cases hm
                  · rw [h] at hm
                    injection hm with hm
                    have := hF5 x hx
                    omega
                have h9 := h8.keep kr9 hno
                have hk9 := hk8.trans kr9 (fun x hx => Or.inr (hr8'.lt x (mem_own.1 hx)).1)
                have hsep9 : ∀ x ∈ ownBlocks v9, x ∉ F5 := fun x hx hf => by
                  rw [mem_own] at hx
                  rcases hat9 with h | h
                  · exact hno x hf (mem_own.2 (h ▸ hx))
                  · rw [h] at hx
                    injection hx with hx
                    have := hF5 x hf
                    omega
                have hlen9 : (L.eraseIdx kk).length = kk + n6 := by rw [List.length_eraseIdx_of_lt (by omega)]; omega
                have hr9' : OwnsAt w9 w.heap.size 3 1 v9 (L.eraseIdx kk).length ((L.eraseIdx kk).map nat_) := by
                  rw [hlen9, List.eraseIdx_eq_take_drop_succ, List.map_append]
                  simpa [List.map_take, List.map_drop] using hr9
                have hsize9 := kr9.size
                have hw9 : w1.heap.size ≤ w9.heap.size := by omega
                obtain ⟨a9, c9, rfl⟩ := hr9'.shape
                have hdat9 : (ss.eraseIdx kk).map dat = (L.eraseIdx kk).map od := by
                  rw [List.eraseIdx_eq_take_drop_succ, List.eraseIdx_eq_take_drop_succ, List.map_append, List.map_append, List.map_take, List.map_drop, List.map_take, List.map_drop, Hdat.out]
                have hL9 : ∀ y ∈ L.eraseIdx kk, y < k := fun y hy => HL.out y (List.mem_of_mem_eraseIdx hy)
                have HL9 := Lib.hid hL9
                clear hr9 kr9 hat9 hno hF5 hr8' h8 hk8 hat8' Hsrc3 h5 hL9
                go_wp2
                go_roundw
                case rel => exact ⟨j + 1, L.eraseIdx kk, F5, ss.eraseIdx kk, by omega, by go_num, ⟨by omega, by omega⟩, HL9.out, h9, hdat9, hk9, f6, hr9', hsep9, hw9⟩
                case measure => simp [intOf]; omega
              · have hsrc1 : SrcOf ((w5.alloc (.cells #[.int .i64 (x : Int), .int .i64 ((x : Int) + 1), .slice (some ⟨gb, ob', none⟩) 1 cb] 29)).drewN nq) (.slice (some ⟨g, off + (kk + 1), none⟩) (L.length - (kk + 1)) (cv - (kk + 1))) 1 (L.length - (kk + 1)) ((L.drop (kk + 1)).map nat_) := by
                  have := SrcOf.of_own hown6 (show kk + 1 ≤ L.length by omega) (cv - (kk + 1))
                  simpa [List.map_drop] using this
                have Hsrc1 := Lib.hid hsrc1
                clear hsrc1
                go_wp2_with (at_builtin; refine wpList_append_off rfl _ _ rfl Try.ints22 w.heap.size (.slice none 0 0) 0 [] rfl (OwnsAt.nil _ _ _ _) (.slice (some ⟨g, off + (kk + 1), none⟩) (L.length - (kk + 1)) (cv - (kk + 1))) (L.length - (kk + 1)) ((L.drop (kk + 1)).map nat_) rfl Hsrc1.out (nat_one _) (by unfold maxLen; omega) (by omega) (by have := hk6.size; omega) ?_)
                intro v6 w6 hr6 kr6 _
                obtain ⟨n6, hn6⟩ : ∃ n6, n6 = L.length - (kk + 1) := ⟨_, rfl⟩
                have hn6a : n6 + (kk + 1) ≤ L.length := by omega
                have hn6b : L.length ≤ n6 + (kk + 1) := by omega
                have hr6' : OwnsAt w6 w.heap.size 3 1 v6 n6 ((L.drop (kk + 1)).map nat_) := by
                  rw [hn6]
                  simpa using hr6
                have kr6' : Keep [] _ w6 := kr6.mono (by simp [ownBlocks, Value.ownBlock])
                have hown7 := hown6.keep kr6' (by simp)
                have h7 := h6.keep kr6' (by simp)
                have hk7 := hk6.trans kr6' (by simp)
                have hlt7 := kr6'.size
                simp only [World.heap_drewN, World.size_alloc] at hlt7
                obtain ⟨a6, c6, rfl⟩ := hr6'.shape
                have hsrc2 : SrcOf w6 (.slice (some ⟨g, off, none⟩) kk cv) 1 kk ((L.take kk).map nat_) := by
                  have h1 := hown7.cutAt (show kk ≤ L.length by omega)
                  have h2 := SrcOf.of_own h1 (Nat.zero_le kk) cv
                  simpa [List.map_take] using h2
                have Hsrc2 := Lib.hid hsrc2
                clear hr6 kr6 kr6' hown6 h6 hk6 hsrc2 hn6
                go_wp2_with (at_builtin; refine wpList_append_off rfl _ _ rfl Try.ints22 w.heap.size (.slice none 0 0) 0 [] rfl (OwnsAt.nil _ _ _ _) (.slice (some ⟨g, off, none⟩) kk cv) kk ((L.take kk).map nat_) rfl Hsrc2.out (nat_one _) (by unfold maxLen; omega) (by omega) (by have := hk7.size; omega) ?_)
                intro v8 w8 hr8 kr8 hat8
                have kr8' : Keep [] w6 w8 := kr8.mono (by simp [ownBlocks, Value.ownBlock])
                have hr6b := hr6'.keep kr8' (by simp)
                have h8 := h7.keep kr8' (by simp)
                have hk8 := hk7.trans kr8' (by simp)
                have hlt8 := kr8'.size
                have hat8' : v8.ownBlock = none ∨ v8.ownBlock = some w6.heap.size := by simpa [Value.ownBlock] using hat8
                have hr8' : OwnsAt w8 w.heap.size 3 1 v8 kk ((L.take kk).map nat_) := by simpa using hr8
                obtain ⟨a8, c8, rfl⟩ := hr8'.shape
                have hsrc3 : SrcOf w8 (.slice a6 n6 c6) 1 n6 ((L.drop (kk + 1)).map nat_) := src_own hr6b
                have Hsrc3 := Lib.hid hsrc3
                clear hr8 kr8 kr8' hown7 h7 hk7 hr6' hr6b hat8 hsrc3 Hsrc2
                go_wp2_with (at_builtin; refine wpList_append_off rfl _ _ rfl Try.ints22 w.heap.size (.slice a8 kk c8) kk ((L.take kk).map nat_) rfl hr8' (.slice a6 n6 c6) n6 ((L.drop (kk + 1)).map nat_) rfl Hsrc3.out (nat_one _) (by unfold maxLen; omega) (by omega) (by have := hk8.size; omega) ?_)
                intro v9 w9 hr9 kr9 hat9
                have hF5 : ∀ x ∈ F5, x < w5.heap.size := fun x hx => (h5.lt x hx).2
                have hno : ∀ x ∈ F5, x ∉ ownBlocks (.slice a8 kk c8) := fun x hx hm => by
                  rw [mem_own] at hm
                  rcases hat8' with h | h
                  · rw [h] at hm; cases hm
                  · rw [h] at hm
                    injection hm with hm
                    have := hF5 x hx
                    omega
                have h9 := h8.keep kr9 hno
                have hk9 := hk8.trans kr9 (fun x hx => Or.inr (hr8'.lt x (mem_own.1 hx)).1)
                have hsep9 : ∀ x ∈ ownBlocks v9, x ∉ F5 := fun x hx hf => by
                  rw [mem_own] at hx
                  rcases hat9 with h | h
                  · exact hno x hf (mem_own.2 (h ▸ hx))
                  · rw [h] at hx
                    injection hx with hx
                    have := hF5 x hf
                    omega
                have hlen9 : (L.eraseIdx kk).length = kk + n6 := by rw [List.length_eraseIdx_of_lt (by omega)]; omega
                have hr9' : OwnsAt w9 w.heap.size 3 1 v9 (L.eraseIdx kk).length ((L.eraseIdx kk).map nat_) := by
                  rw [hlen9, List.eraseIdx_eq_take_drop_succ, List.map_append]
                  simpa [List.map_take, List.map_drop] using hr9
                have hsize9 := kr9.size
                have hw9 : w1.heap.size ≤ w9.heap.size := by omega
                obtain ⟨a9, c9, rfl⟩ := hr9'.shape
                have hdat9 : (ss.eraseIdx kk).map dat = (L.eraseIdx kk).map od := by
                  rw [List.eraseIdx_eq_take_drop_succ, List.eraseIdx_eq_take_drop_succ, List.map_append, List.map_append, List.map_take, List.map_drop, List.map_take, List.map_drop, Hdat.out]
                have hL9 : ∀ y ∈ L.eraseIdx kk, y < k := fun y hy => HL.out y (List.mem_of_mem_eraseIdx hy)
                have HL9 := Lib.hid hL9
                clear hr9 kr9 hat9 hno hF5 hr8' h8 hk8 hat8' Hsrc3 h5 hL9
                go_wp2
                go_roundw
                case rel => exact ⟨j + 1, L.eraseIdx kk, F5, ss.eraseIdx kk, by omega, by go_num, ⟨by omega, by omega⟩, HL9.out, h9, hdat9, hk9, f6, hr9', hsep9, hw9⟩
                case measure => simp [intOf]; omega
            · have hkl : 0 < L.length := by omega
              have hdel := deliver_spec 0 h4 (by omega)
              have Hdel := Lib.hid hdel
              have Hdat := Lib.hid hdat
              have Hssl := Lib.hid hssl
              clear hdel hdat hssl
              go_wp2_with fail
              refine Hdel.out.mono ?_
              intro e w5 hpost
              unfold DeliverPost at hpost
              rw [if_pos (by unfold isK; have := Hssl.out; simp; omega)] at hpost
              obtain ⟨s, F5, hs, rfl, h5, k5, f5, ob, sb⟩ := hpost
              rw [show (0 : Int).toNat = 0 by simp] at hs h5
              have hds : dat s = od L[0] := by
                have h1 := dat_at Hdat.out hs
                rw [List.getElem?_map, List.getElem?_eq_getElem hkl] at h1
                exact (Option.some.inj h1).symm
              have hxN : L[0] < k := HL.out _ (List.getElem_mem hkl)
              have hcell5 : w5.cell? ⟨g, off, none⟩ = some (.int .i64 (L[0] : Nat)) := by
                have h1 := hown.keep k5 (fun y hy => hsep y (mem_own.2 hy))
                obtain ⟨g', off', cap', hv', _, _, _, _, hc'⟩ := h1.form (by omega)
                cases hv'
                have h2 := hc' 0 (nat_ L[0]) (by rw [List.getElem?_map, List.getElem?_eq_getElem hkl]; rfl)
                simpa [nat_] using h2
              generalize L[0] = x at *
              obtain ⟨f, t, bs, fl, bv⟩ := s
              simp only [dat, od, Prod.mk.injEq] at hds
              obtain ⟨rfl, rfl, rfl, rfl⟩ := hds
              obtain ⟨gb, ob', cb, hbv, _, _, _, hgb, hbc⟩ := OwnsAt.form ob (by simp)
              simp only at hbv
              subst hbv
              have hby : w5.cell? ⟨gb, ob', none⟩ = some (.int .u8 (x : Int)) := by
                have h1 := hbc 0 (u8 (UInt8.ofNat x)) (by simp)
                have h2 : u8 (UInt8.ofNat x) = .int .u8 x := by
                  unfold u8
                  rw [UInt8.toNat_ofNat_of_lt' (by simp [UInt8.size]; omega)]
                rw [h2] at h1
                simpa using h1
              obtain ⟨k6, f6⟩ := reach_trans k4 f4 k5 (fun y hy => Or.inl (f5 y hy))
              have hown5 := hown.keep k5 (fun y hy => hsep y (mem_own.2 hy))
              have hg5 := (hown5.lt g rfl).2
              have hkC : Keep [] w5 (w5.alloc (.cells #[.int .i64 (x : Int), .int .i64 ((x : Int) + 1), .slice (some ⟨gb, ob', none⟩) 1 cb] 29)) := (Keep.refl _ _).alloc _
              have hxx : ((x : Int) != (x : Int)) = false := by simp
              have hx256 : (x : Int) < 256 := by omega
              have h6 := h5.keep hkC (by simp)
              have hown6 := hown5.keep hkC (by simp)
              have hk6 := k6.trans hkC (by simp)
              have hw5 := k5.size
              clear ob sb k5 f5 hbc hown hown5 hkC hsep h4 k4 f4 k6
              go_wp2_with fail
              go_quiet (fail)
              have h6 := h6.keep ((Keep.refl [] _).drewN nq) (by simp)
              have hown6 := hown6.keep ((Keep.refl [] _).drewN nq) (by simp)
              have hk6 := hk6.drewN nq
              by_cases hcap : cv = 0 + 1
              · subst hcap
                have hdrop : L.drop (0 + 1) = [] := List.drop_of_length_le (by omega)
                have Hdrop := Lib.hid hdrop
                clear hdrop
                go_wp2_with (at_builtin; refine wpList_append_off rfl _ _ rfl Try.ints22 w.heap.size (.slice none 0 0) 0 [] rfl (OwnsAt.nil _ _ _ _) (.slice (some ⟨g, off, none⟩) 0 0) 0 [] rfl ⟨_, _, rfl, rfl, fun h => absurd rfl h⟩ (by simp) (by unfold maxLen; omega) (by omega) (by have := hk6.size; omega) ?_)
                intro v6 w6 hr6 kr6 _
                obtain ⟨n6, hn6⟩ : ∃ n6, n6 = L.length - 1 := ⟨_, rfl⟩
                have hn6a : n6 + 1 ≤ L.length := by omega
                have hn6b : L.length ≤ n6 + 1 := by omega
                have hr6' : OwnsAt w6 w.heap.size 3 1 v6 n6 ((L.drop 1).map nat_) := by
                  rw [hn6]
                  have e : L.length - 1 = 0 := by omega
                  rw [Hdrop.out, e]
                  simpa using hr6
                have kr6' : Keep [] _ w6 := kr6.mono (by simp [ownBlocks, Value.ownBlock])
                have hown7 := hown6.keep kr6' (by simp)
                have h7 := h6.keep kr6' (by simp)
                have hk7 := hk6.trans kr6' (by simp)
                have hlt7 := kr6'.size
                simp only [World.heap_drewN, World.size_alloc] at hlt7
                obtain ⟨a6, c6, rfl⟩ := hr6'.shape
                have hsrc2 : SrcOf w6 (.slice (some ⟨g, off, none⟩) 0 1) 1 0 ((L.take 0).map nat_) := by
                  have h1 := hown7.cutAt (show 0 ≤ L.length by omega)
                  have h2 := SrcOf.of_own h1 (Nat.zero_le 0) 1
                  simpa [List.map_take] using h2
                have Hsrc2 := Lib.hid hsrc2
                clear hr6 kr6 kr6' hown6 h6 hk6 hsrc2 hn6
                go_wp2_with (at_builtin; refine wpList_append_off rfl _ _ rfl Try.ints22 w.heap.size (.slice none 0 0) 0 [] rfl (OwnsAt.nil _ _ _ _) (.slice (some ⟨g, off, none⟩) 0 1) 0 ((L.take 0).map nat_) rfl Hsrc2.out (nat_one _) (by unfold maxLen; omega) (by omega) (by have := hk7.size; omega) ?_)
                intro v8 w8 hr8 kr8 hat8
                have kr8' : Keep [] w6 w8 := kr8.mono (by simp [ownBlocks, Value.ownBlock])
                have hr6b := hr6'.keep kr8' (by simp)
                have h8 := h7.keep kr8' (by simp)
                have hk8 := hk7.trans kr8' (by simp)
                have hlt8 := kr8'.size
                have hat8' : v8.ownBlock = none ∨ v8.ownBlock = some w6.heap.size := by simpa [Value.ownBlock] using hat8
                have hr8' : OwnsAt w8 w.heap.size 3 1 v8 0 ((L.take 0).map nat_) := by simpa using hr8
                obtain ⟨a8, c8, rfl⟩ := hr8'.shape
                have hsrc3 : SrcOf w8 (.slice a6 n6 c6) 1 n6 ((L.drop 1).map nat_) := src_own hr6b
                have Hsrc3 := Lib.hid hsrc3
                clear hr8 kr8 kr8' hown7 h7 hk7 hr6' hr6b hat8 hsrc3 Hsrc2
                go_wp2_with (at_builtin; refine wpList_append_off rfl _ _ rfl Try.ints22 w.heap.size (.slice a8 0 c8) 0 ((L.take 0).map nat_) rfl hr8' (.slice a6 n6 c6) n6 ((L.drop 1).map nat_) rfl Hsrc3.out (nat_one _) (by unfold maxLen; omega) (by omega) (by have := hk8.size; omega) ?_)
                intro v9 w9 hr9 kr9 hat9
                have hF5 : ∀ x ∈ F5, x < w5.heap.size := fun x hx => (h5.lt x hx).2
                have hno : ∀ x ∈ F5, x ∉ ownBlocks (.slice a8 0 c8) := fun x hx hm => by
                  rw [mem_own] at hm
                  rcases hat8' with h | h
                  · rw [h] at hm; cases hm
                  · rw [h] at hm
                    injection hm with hm
                    have := hF5 x hx
                    omega
                have h9 := h8.keep kr9 hno
                have hk9 := hk8.trans kr9 (fun x hx => Or.inr (hr8'.lt x (mem_own.1 hx)).1)
                have hsep9 : ∀ x ∈ ownBlocks v9, x ∉ F5 := fun x hx hf => by
                  rw [mem_own] at hx
                  rcases hat9 with h | h
                  · exact hno x hf (mem_own.2 (h ▸ hx))
                  · rw [h] at hx
                    injection hx with hx
                    have := hF5 x hf
                    omega
                have hlen9 : (L.eraseIdx 0).length = 0 + n6 := by rw [List.length_eraseIdx_of_lt (by omega)]; omega
                have hr9' : OwnsAt w9 w.heap.size 3 1 v9 (L.eraseIdx 0).length ((L.eraseIdx 0).map nat_) := by
                  rw [hlen9, List.eraseIdx_eq_take_drop_succ, List.map_append]
                  simpa [List.map_take, List.map_drop] using hr9
                have hsize9 := kr9.size
                have hw9 : w1.heap.size ≤ w9.heap.size := by omega
                obtain ⟨a9, c9, rfl⟩ := hr9'.shape
                have hdat9 : (ss.eraseIdx 0).map dat = (L.eraseIdx 0).map od := by
                  rw [List.eraseIdx_eq_take_drop_succ, List.eraseIdx_eq_take_drop_succ, List.map_append, List.map_append, List.map_take, List.map_drop, List.map_take, List.map_drop, Hdat.out]
                have hL9 : ∀ y ∈ L.eraseIdx 0, y < k := fun y hy => HL.out y (List.mem_of_mem_eraseIdx hy)
                have HL9 := Lib.hid hL9
                clear hr9 kr9 hat9 hno hF5 hr8' h8 hk8 hat8' Hsrc3 h5 hL9
                go_wp2
                go_roundw
                case rel => exact ⟨j + 1, L.eraseIdx 0, F5, ss.eraseIdx 0, by omega, by go_num, ⟨by omega, by omega⟩, HL9.out, h9, hdat9, hk9, f6, hr9', hsep9, hw9⟩
                case measure => simp [intOf]; omega
              · have hsrc1 : SrcOf ((w5.alloc (.cells #[.int .i64 (x : Int), .int .i64 ((x : Int) + 1), .slice (some ⟨gb, ob', none⟩) 1 cb] 29)).drewN nq) (.slice (some ⟨g, off + 1, none⟩) (L.length - 1) (cv - 1)) 1 (L.length - 1) ((L.drop 1).map nat_) := by
                  have := SrcOf.of_own hown6 (show 0 + 1 ≤ L.length by omega) (cv - (0 + 1))
                  simpa [List.map_drop] using this
                have Hsrc1 := Lib.hid hsrc1
                clear hsrc1
                go_wp2_with (at_builtin; refine wpList_append_off rfl _ _ rfl Try.ints22 w.heap.size (.slice none 0 0) 0 [] rfl (OwnsAt.nil _ _ _ _) (.slice (some ⟨g, off + 1, none⟩) (L.length - 1) (cv - 1)) (L.length - 1) ((L.drop 1).map nat_) rfl Hsrc1.out (nat_one _) (by unfold maxLen; omega) (by omega) (by have := hk6.size; omega) ?_)
                intro v6 w6 hr6 kr6 _
                obtain ⟨n6, hn6⟩ : ∃ n6, n6 = L.length - 1 := ⟨_, rfl⟩
                have hn6a : n6 + 1 ≤ L.length := by omega
                have hn6b : L.length ≤ n6 + 1 := by omega
                have hr6' : OwnsAt w6 w.heap.size 3 1 v6 n6 ((L.drop 1).map nat_) := by
                  rw [hn6]
                  simpa using hr6
                have kr6' : Keep [] _ w6 := kr6.mono (by simp [ownBlocks, Value.ownBlock])
                have hown7 := hown6.keep kr6' (by simp)
                have h7 := h6.keep kr6' (by simp)
                have hk7 := hk6.trans kr6' (by simp)
                have hlt7 := kr6'.size
                simp only [World.heap_drewN, World.size_alloc] at hlt7
                obtain ⟨a6, c6, rfl⟩ := hr6'.shape
                have hsrc2 : SrcOf w6 (.slice (some ⟨g, off, none⟩) 0 cv) 1 0 ((L.take 0).map nat_) := by
                  have h1 := hown7.cutAt (show 0 ≤ L.length by omega)
                  have h2 := SrcOf.of_own h1 (Nat.zero_le 0) cv
                  simpa [List.map_take] using h2
                have Hsrc2 := Lib.hid hsrc2
                clear hr6 kr6 kr6' hown6 h6 hk6 hsrc2 hn6
                go_wp2_with (at_builtin; refine wpList_append_off rfl _ _ rfl Try.ints22 w.heap.size (.slice none 0 0) 0 [] rfl (OwnsAt.nil _ _ _ _) (.slice (some ⟨g, off, none⟩) 0 cv) 0 ((L.take 0).map nat_) rfl Hsrc2.out (nat_one _) (by unfold maxLen; omega) (by omega) (by have := hk7.size; omega) ?_)
                intro v8 w8 hr8 kr8 hat8
                have kr8' : Keep [] w6 w8 := kr8.mono (by simp [ownBlocks, Value.ownBlock])
                have hr6b := hr6'.keep kr8' (by simp)
                have h8 := h7.keep kr8' (by simp)
                have hk8 := hk7.trans kr8' (by simp)
                have hlt8 := kr8'.size
                have hat8' : v8.ownBlock = none ∨ v8.ownBlock = some w6.heap.size := by simpa [Value.ownBlock] using hat8
                have hr8' : OwnsAt w8 w.heap.size 3 1 v8 0 ((L.take 0).map nat_) := by simpa using hr8
                obtain ⟨a8, c8, rfl⟩ := hr8'.shape
                have hsrc3 : SrcOf w8 (.slice a6 n6 c6) 1 n6 ((L.drop 1).map nat_) := src_own hr6b
                have Hsrc3 := Lib.hid hsrc3
                clear hr8 kr8 kr8' hown7 h7 hk7 hr6' hr6b hat8 hsrc3 Hsrc2
                go_wp2_with (at_builtin; refine wpList_append_off rfl _ _ rfl Try.ints22 w.heap.size (.slice a8 0 c8) 0 ((L.take 0).map nat_) rfl hr8' (.slice a6 n6 c6) n6 ((L.drop 1).map nat_) rfl Hsrc3.out (nat_one _) (by unfold maxLen; omega) (by omega) (by have := hk8.size; omega) ?_)
                intro v9 w9 hr9 kr9 hat9
                have hF5 : ∀ x ∈ F5, x < w5.heap.size := fun x hx => (h5.lt x hx).2
                have hno : ∀ x ∈ F5, x ∉ ownBlocks (.slice a8 0 c8) := fun x hx hm => by
                  rw [mem_own] at hm
                  rcases hat8' with h | h
                  · rw [h] at hm; cases hm
                  · rw [h] at hm
                    injection hm with hm
                    have := hF5 x hx
                    omega
                have h9 := h8.keep kr9 hno
                have hk9 := hk8.trans kr9 (fun x hx => Or.inr (hr8'.lt x (mem_own.1 hx)).1)
                have hsep9 : ∀ x ∈ ownBlocks v9, x ∉ F5 := fun x hx hf => by
                  rw [mem_own] at hx
                  rcases hat9 with h | h
                  · exact hno x hf (mem_own.2 (h ▸ hx))
                  · rw [h] at hx
                    injection hx with hx
                    have := hF5 x hf
                    omega
                have hlen9 : (L.eraseIdx 0).length = 0 + n6 := by rw [List.length_eraseIdx_of_lt (by omega)]; omega
                have hr9' : OwnsAt w9 w.heap.size 3 1 v9 (L.eraseIdx 0).length ((L.eraseIdx 0).map nat_) := by
                  rw [hlen9, List.eraseIdx_eq_take_drop_succ, List.map_append]
                  simpa [List.map_take, List.map_drop] using hr9
                have hsize9 := kr9.size
                have hw9 : w1.heap.size ≤ w9.heap.size := by omega
                obtain ⟨a9, c9, rfl⟩ := hr9'.shape
                have hdat9 : (ss.eraseIdx 0).map dat = (L.eraseIdx 0).map od := by
                  rw [List.eraseIdx_eq_take_drop_succ, List.eraseIdx_eq_take_drop_succ, List.map_append, List.map_append, List.map_take, List.map_drop, List.map_take, List.map_drop, Hdat.out]
                have hL9 : ∀ y ∈ L.eraseIdx 0, y < k := fun y hy => HL.out y (List.mem_of_mem_eraseIdx hy)
                have HL9 := Lib.hid hL9
                clear hr9 kr9 hat9 hno hF5 hr8' h8 hk8 hat8' Hsrc3 h5 hL9
                go_wp2
                go_roundw
                case rel => exact ⟨j + 1, L.eraseIdx 0, F5, ss.eraseIdx 0, by omega, by go_num, ⟨by omega, by omega⟩, HL9.out, h9, hdat9, hk9, f6, hr9', hsep9, hw9⟩
                case measure => simp [intOf]; omega
          · have hL0 : L = [] := List.eq_nil_of_length_eq_zero (by omega)
            subst hL0
            have hss0 : ss = [] := List.eq_nil_of_length_eq_zero (by simpa using hssl)
            subst hss0
            have hdel := deliver_spec 0 h4 (by simp)
            have Hdel := Lib.hid hdel
            clear hdel hdat hssl
            go_wp2_with fail
            refine Hdel.out.mono ?_
            intro e w5 hpost
            unfold DeliverPost at hpost
            rw [if_neg (by decide)] at hpost
            obtain ⟨rfl, k5⟩ := hpost
            have hkD : Keep [] w5 (w5.alloc (.cells #[.int .i64 0, .int .i64 0, .slice none 0 0] 29)) := (Keep.refl _ _).alloc _
            have hway := way_at ((h4.keep k5 (by simp)).keep hkD (by simp)) (by simp) (by simp)
            have Hway := Lib.hid hway
            have k6 : Keep [] w (w5.alloc (.cells #[.int .i64 0, .int .i64 0, .slice none 0 0] 29)) := (k4.trans k5 (by simp)).trans hkD (by simp)
            clear hway hkD k5 k4 h4 hown hsep
            go_wp2_with fail
            refine Hway.out.mono ?_
            rintro e w7 ⟨v, ws, rfl, hwd, hws, k7⟩
            have hw0 : ws = [] := by simpa using hwd
            subst hw0
            have k8 := k6.trans k7 (by simp)
            obtain ⟨aw, cw, rfl⟩ := hws.rows.shape
            clear hws hwd k7 k6
            go_wp2
            go_ret
            exact ⟨rfl, k8⟩
  · have hc : n < 0 ∨ (0 ≤ n ∧ 100 < n) ∨ ((0 ≤ n ∧ n ≤ 100) ∧ 100 < ys.length) := by omega
    clear hin
    go_enter Try.func3, Try.ntmps3
    go_wp2_with fail
    refine (alive_spec _).mono ?_
    rintro e w1 ⟨rfl, hk1⟩
    rcases hc with h | ⟨h, h'⟩ | ⟨⟨h, h'⟩, h2⟩
    all_goals (go_wp2; go_ret; exact ⟨rfl, hk1⟩)

theorem walk_netOrder {H : Type} {enc : TypeId × Value → H} (W : World) {n : Int} {v1 : Value} {d1 : DataW H} {p1 : List MemPlace} {base : Nat} (_ : (Lit.int .i64 n).wf = true)
    (o1 : Value.okWide Try.prog W .any base 22 v1) (h1 : DataW.Trod enc Try.prog W 0 (fun _ => true) true 22 v1 d1 p1) :
    Calls Try.prog 3 #[.int .i64 n, v1] W fun e w' => e = .returned (.bool true) ∧ Below W.heap.size W w' := by
  obtain ⟨ys, hys, _⟩ := ints_open Try.underlying22 Try.underlying3 (by kernel_rfl) o1 h1
  exact (netOrder_any W n v1 ys hys).mono fun _ _ ⟨he, hk⟩ => ⟨he, hk.to_below⟩
end Go.Proofs.Ytolhcikgodaecaa
