/- The law NetPlays. -/
import Derived.Test.YtolhcikgodaecaaRows
import Derived.WalkKit
import Derived.WalkSpells
import Derived.WalkLawsBesides
import Derived.RegionTactic
import Derived.ChangeAlike
import Derived.BigQuiet
import Derived.Deep.QuietTactic
import Derived.StillTailTactics
import Derived.IntWalk
import Derived.Handy
import Derived.Lib.Hide
import Derived.Deep.AppendLies
import Derived.Deep.RegionWith
import Derived.Deep.RegionLaw
import Derived.Test.YtolhcikgodaecaaBase
import Derived.Test.YtolhcikgodaecaaTail
import Derived.Test.YtolhcikgodaecaaArgs
import Derived.Test.YtolhcikgodaecaaAppend
import Derived.Test.YtolhcikgodaecaaOffs
import Derived.Test.YtolhcikgodaecaaStructs
import Derived.Test.YtolhcikgodaecaaNetObj
import Derived.Test.YtolhcikgodaecaaNetObj2
import Derived.Test.YtolhcikgodaecaaNetSend
import Derived.Test.YtolhcikgodaecaaNetWay
import Derived.Test.YtolhcikgodaecaaNetDel
import Derived.Test.YtolhcikgodaecaaNetSmall
import Derived.Test.YtolhcikgodaecaaSplit
import Derived.Test.YtolhcikgodaecaaNetSmall
import Derived.Test.YtolhcikgodaecaaNetFlip
import Derived.Test.YtolhcikgodaecaaNetDup
import Derived.Deep.CutRange
import Derived.Deep.DeepCutAuto
import Derived.BigRegion
import Derived.Test.YtolhcikgodaecaaRNet
import Derived.Test.YtolhcikgodaecaaRNet2
import Derived.Test.YtolhcikgodaecaaRNet3
import Derived.Test.YtolhcikgodaecaaRNet4
import Derived.Test.YtolhcikgodaecaaRNet5
import Derived.Test.YtolhcikgodaecaaNetGone
import Derived.Test.YtolhcikgodaecaaBytes
import Derived.Test.YtolhcikgodaecaaOpens
import Derived.Test.YtolhcikgodaecaaRNet6
import Derived.Test.YtolhcikgodaecaaRNetJ
import Derived.Deep.RegionHeld3
import Derived.Deep.CutBlock
namespace Go.Proofs.Ytolhcikgodaecaa
open Go.RowKit
/-- parcels in rows that stay, whose bytes were written over -/
structure PB (w : World) (v : Value) (ws : List PS) : Prop where
  rows : OwnsAt w 0 29 3 v ws.length (ws.flatMap PS.c3)
  bytes : ∀ s ∈ ws, ∃ bs : List UInt8, bs.length = s.bs.length ∧ OwnsAt w 0 5 1 s.bv s.bs.length (bs.map u8)
  nodup : (byteBlocks ws).Nodup
theorem pb_of {w : World} {B : Nat} {v : Value} {ws : List PS} (h : ParcelsIn w B v ws) : PB w v ws := ⟨h.rows.mono (Nat.zero_le _), fun s hs => ⟨s.bs, rfl, OwnsAt.mono (h.bytes s hs) (Nat.zero_le _)⟩, h.nodup⟩
theorem PB.keep0 {w w' : World} {v : Value} {ws : List PS} (h : PB w v ws) (k : Keep [] w w') : PB w' v ws :=
  ⟨h.rows.keep k (by simp), fun s hs => by obtain ⟨bs, hb, ho⟩ := h.bytes s hs; exact ⟨bs, hb, ho.keep k (by simp)⟩, h.nodup⟩
theorem pb_len {w : World} {v : Value} {n : Nat} {xs : List Value} (h : OwnsAt w 0 5 1 v n xs) : n ≤ 9223372036854775807 := by
  rcases h.2 with ⟨_, h0⟩ | ⟨g, off, cap, cur, _, _, _, h1, h2, _⟩
  · omega
  · unfold maxLen at h2
    omega
theorem ps_same {fs : List PS} {s t : PS} {x : Nat} : (byteBlocks fs).Nodup → s ∈ fs → t ∈ fs → s.bv.ownBlock = some x → t.bv.ownBlock = some x → s = t := by
  induction fs with
  | nil => intro _ hs; cases hs
  | cons a l ih =>
    intro hn hs ht hx hy
    have hn' : (ownBlocks a.bv ++ byteBlocks l).Nodup := hn
    obtain ⟨_, n2, n3⟩ := List.nodup_append.1 hn'
    rcases List.mem_cons.1 hs with h1 | h1
    · rcases List.mem_cons.1 ht with h2 | h2
      · rw [h1, h2]
      · exact absurd rfl (n3 x (mem_own.2 (h1 ▸ hx)) x (mem_byteBlocks.2 ⟨t, h2, hy⟩))
    · rcases List.mem_cons.1 ht with h2 | h2
      · exact absurd rfl (n3 x (mem_own.2 (h2 ▸ hy)) x (mem_byteBlocks.2 ⟨s, h1, hx⟩))
      · exact ih n2 h1 h2 hx hy
theorem PB.write {w : World} {v : Value} {fs : List PS} {s : PS} {g off c : Nat} {z : UInt8} (h : PB w v fs) (hs : s ∈ fs) (hv : s.bv = .slice (some ⟨g, off, none⟩) s.bs.length c) (j : Nat) : PB (w.setCell ⟨g, off + j, none⟩ (.int .u8 (z.toNat : Int))) v fs := by
  have kw : Keep [g] w (w.setCell ⟨g, off + j, none⟩ (.int .u8 (z.toNat : Int))) := (Keep.refl _ _).setCell (by simp) _
  obtain ⟨bs0, hl0, ho0⟩ := h.bytes s hs
  refine ⟨h.rows.keep kw (fun x hx hm => ?_), fun t ht => ?_, h.nodup⟩
  · have : x = g := by simpa using hm
    subst this
    exact OwnsAt.ne_own h.rows ho0 (by decide) x hx (by rw [hv]; rfl)
  · by_cases hg : t.bv.ownBlock = some g
    · have : t = s := ps_same h.nodup ht hs hg (by rw [hv]; rfl)
      subst this
      rw [hv] at ho0 ⊢
      have h1 := ho0.set_ j (.int .u8 (z.toNat : Int))
      refine ⟨bs0.set j z, by simpa using hl0, ?_⟩
      rw [show (bs0.set j z).map u8 = (bs0.map u8).set j (.int .u8 (z.toNat : Int)) by rw [List.map_set]; rfl]
      exact h1
    · obtain ⟨bs', h1, h2⟩ := h.bytes t ht
      exact ⟨bs', h1, h2.keep kw (fun x hx hm => hg (by rw [show g = x from (by simpa using hm : x = g).symm]; exact hx))⟩
theorem xor_key2 : ∀ x : Fin 256, 0 ≤ bits BinOp.xor IntKind.u8 (x.val : Int) 255 ∧ bits BinOp.xor IntKind.u8 (x.val : Int) 255 < 256 := by decide +kernel
theorem xor_255 (y : UInt8) : ∃ z : UInt8, bits BinOp.xor IntKind.u8 (y.toNat : Int) 255 = (z.toNat : Int) := by
  have h := xor_key2 ⟨y.toNat, y.toNat_lt⟩
  simp only at h
  refine ⟨UInt8.ofNat (bits BinOp.xor IntKind.u8 (y.toNat : Int) 255).toNat, ?_⟩
  rw [UInt8.toNat_ofNat_of_lt' (by have : UInt8.size = 256 := rfl; omega)]
  omega
set_option maxHeartbeats 40000000 in
set_option maxRecDepth 100000 in
theorem netPlays_any (w : World) (v : Value) (l : List NA) (hv : NActsOf w v l) : Calls Try.prog 6 #[v] w fun e w' => e = .returned (.bool true) ∧ Keep [] w w' := by
  obtain ⟨a, c, rfl⟩ : ∃ a c, v = .slice a l.length c := by obtain ⟨a, c, h, _⟩ := hv; exact ⟨a, c, h⟩
  have Hv := Lib.hid hv
  clear hv
  go_enter Try.func6, Try.ntmps6
  go_wp2_with fail
  refine (alive_spec _).mono ?_
  rintro e w1 ⟨rfl, k1⟩
  go_wp2_with fail
  refine (big_spec (Hv.out.keep0 k1)).mono ?_
  rintro e w2 ⟨b, rfl, rfl, hfits⟩
  cases b with
  | true =>
    clear hfits
    go_wp2
    go_ret
    exact ⟨rfl, k1⟩
  | false =>
    have Hfits := Lib.hid (hfits rfl)
    clear hfits
    go_wp2_with fail
    refine (netNew_spec _).mono ?_
    rintro e w3 ⟨p, F1, rfl, hp, k3⟩
    go_wp2_with fail
    refine (netNew_spec _).mono ?_
    rintro e w4 ⟨o, F2, rfl, ho, k4⟩
    have H3 := Lib.hid (nj_start k1 hp k3 ho k4)
    clear hp ho k1 k3 k4
    go_wp2_with fail
    generalize hwR : w4.alloc (.cells #[.slice none 0 0] 42) = wR at *
    generalize w4.heap.size = r at *
    clear hwR
    go_loopw [8, 9, 10, 11, 12, 13, 14, 15, 16, 17, 18, 19, 20, 21, 22, 23, 24] (fun v8 _ _ _ _ _ _ _ _ _ _ _ _ _ _ _ _ wr => ∃ (i : Nat) (d : List D3), i ≤ l.length ∧ v8 = .int .i64 i ∧ NJ [] p o r w wr d d) (fun v _ _ _ _ _ _ _ _ _ _ _ _ _ _ _ _ _ => l.length - (intOf v).toNat)
    case atStart => exact ⟨0, _, by omega, rfl, H3.out⟩
    case round =>
      clear H3
      obtain ⟨i, d, hi, rfl, hj⟩ := hrel
      have h200 : (l.length : Int) ≤ 200 := by have := Hfits.out.1; omega
      by_cases hlt : i < l.length
      · obtain ⟨x, hx⟩ : ∃ x, l[i]? = some x := ⟨_, List.getElem?_eq_getElem hlt⟩
        have hfit := Hfits.out.2 x (List.mem_of_getElem? hx)
        have hvo := Hv.out
        have hvk := hvo.keep0 hj.out
        have hin := hvo.in_ hx
        obtain ⟨a', c', hva, hcells⟩ := hvk
        cases hva
        obtain ⟨b, off, rfl, hb, e0, e1, e2, e3, e4, _⟩ := hcells i x hx
        obtain ⟨way, k, bit, ps, pv, ns, nv⟩ := x
        obtain ⟨va, vc, hpv, _⟩ := hin.pcs
        obtain ⟨fa, fc, hnv⟩ := hin.ints.shape
        simp only at e0 e1 e2 e3 e4 hpv hnv
        subst hpv
        subst hnv
        have hkA0 : Keep [] wr (wr.alloc (.cells #[.int .i64 way, .int .i64 k, .int .i64 bit, .slice va ps.length vc, .slice fa ns.length fc] 44)) := (Keep.refl _ _).alloc _
        have hblk : Blk (wr.alloc (.cells #[.int .i64 way, .int .i64 k, .int .i64 bit, .slice va ps.length vc, .slice fa ns.length fc] 44)) wr.heap.size 44 [.int .i64 way, .int .i64 k, .int .i64 bit, .slice va ps.length vc, .slice fa ns.length fc] := Blk.new' _ _ _ _ rfl
        have h4 : NJ [wr.heap.size] p o r w (wr.alloc (.cells #[.int .i64 way, .int .i64 k, .int .i64 bit, .slice va ps.length vc, .slice fa ns.length fc] 44)) d d := by
          have := hj.fresh (Y := [wr.heap.size]) hkA0 (by simp)
          simpa using this
        have Hin := Lib.hid hin
        have Hfit := Lib.hid hfit
        have hltI : (i : Int) < (l.length : Int) := by omega
        have hi200 : i ≤ 200 := by omega
        have hI200 : (i : Int) ≤ 200 := by omega
        clear hcells hvo hin hfit hj hkA0 hx
        generalize hwA : wr.alloc (.cells #[.int .i64 way, .int .i64 k, .int .i64 bit, .slice va ps.length vc, .slice fa ns.length fc] 44) = wA at *
        generalize hg9 : wr.heap.size = g9 at *
        have hs := Lib.hid (nj_send_o h4 Hin.out.pcs Hfit.out.p1 Hfit.out.b1)
        have z3 : wA.cell? ⟨g9, 3, none⟩ = some (.slice va ps.length vc) := hblk.cell 3
        have Hblk := Lib.hid hblk
        clear h4 hblk
        go_wp2_with fail
        refine hs.out.mono ?_
        rintro e w5 ⟨c5, rfl, h5, hkx⟩
        have H5 := Lib.hid h5
        have Hb5 := Lib.hid (hkx.blk Hblk.out (by simp))
        have z0 : w5.cell? ⟨g9, 0, none⟩ = some (.int .i64 way) := Hb5.out.cell 0
        clear hs z3 e0 e1 e2 e3 e4 h5 hkx Hblk hwA
        go_upto_block 2 with fail
        go_cut [10, 11, 12, 13, 14, 15, 16, 17, 18, 19, 20, 21] from 38 to 247 (fun v10 _ _ _ _ _ _ _ _ _ _ _ wx => v10 = .bool true ∧ ∃ d2, NJ [] p o r w wx d2 d2)
        case first =>
          clear hg9 hb
          rcases (show way = 0 ∨ way = 1 ∨ way = 2 ∨ way = 3 ∨ way = 4 ∨ (way ≠ 0 ∧ way ≠ 1 ∧ way ≠ 2 ∧ way ≠ 3 ∧ way ≠ 4) by omega) with hw | hw | hw | hw | hw | ⟨hw0, hw1, hw2, hw3, hw4⟩
          · subst hw
            clear z0
            go_wp2_with fail
            go_loopw [11, 12] (fun v11 v12 wr2 => ∃ (j : Nat) (ws : List PS), j ≤ ps.length ∧ v12 = .int .i64 j ∧ ParcelsIn wr2 w5.heap.size v11 ws ∧ ws.map dat3 = (ps.take j).map dat3 ∧ Keep [] w5 wr2) (fun _ v _ => ps.length - (intOf v).toNat)
            case atStart => exact ⟨0, [], by omega, rfl, ParcelsIn.nil _ _, by simp, Keep.refl _ _⟩
            case round =>
              obtain ⟨j, ws, hj, rfl, hws, hdat, hk⟩ := hrel
              generalize wr = wo at *
              have hwl : ws.length = j := by
                have := congrArg List.length hdat
                simp only [List.length_map, List.length_take] at this
                omega
              obtain ⟨ao, co, rfl⟩ := hws.rows.shape
              have s3 : wo.cell? ⟨g9, 3, none⟩ = some (.slice va ps.length vc) := (Hb5.out.keep hk (by simp)).cell 3
              have hp20I : (ps.length : Int) ≤ 20 := by have h1 : ps.length ≤ 20 := Hfit.out.p1; omega
              by_cases hlt2 : j < ps.length
              · obtain ⟨s, hs⟩ : ∃ s, ps[j]? = some s := ⟨_, List.getElem?_eq_getElem hlt2⟩
                have hpo := Hin.out.pcs.keep0 (H5.out.out.trans hk (by simp))
                obtain ⟨a9, c9, hv9, hpc⟩ := hpo
                injection hv9 with e1 _ e3
                subst e1 e3
                obtain ⟨b9, off9, rfl, hb9, q0, q1, q2, hby⟩ := hpc j s hs
                have hb9' : b9 < w.heap.size := by
                  obtain ⟨_, _, hv9, hpc9⟩ := Hin.out.pcs
                  injection hv9 with e1 _ e3
                  subst e1
                  obtain ⟨_, _, e4, h4, _⟩ := hpc9 j s hs
                  injection e4 with e4
                  injection e4 with e4
                  rw [e4]
                  exact h4
                have hbl := Hfit.out.b1 s (List.mem_of_getElem? hs)
                have htk : ps.take (j + 1) = ps.take j ++ [s] := by rw [List.take_add_one, hs]; rfl
                obtain ⟨f, t, bs, fl, bv⟩ := s
                simp only at q0 q1 q2 hby hbl
                obtain ⟨ab, cb, rfl⟩ := hby.shape
                have hg9lt := Hb5.out.lt
                have hsz := H5.out.out.size
                have hown : ∀ x ∈ ownBlocks (.slice ao ws.length co), w5.heap.size ≤ x := fun x hx => (hws.rows.lt x (mem_own.1 hx)).1
                have hSk : ∀ wx, Keep (ownBlocks (.slice ao ws.length co)) wo wx → wx.cell? ⟨g9, 3, none⟩ = some (.slice (some ⟨b9, off9, none⟩) ps.length vc) ∧ wx.cell? ⟨b9, off9 + j * 3, none⟩ = some (.int .i64 f) ∧ wx.cell? ⟨b9, off9 + j * 3 + 1, none⟩ = some (.int .i64 t) ∧ wx.cell? ⟨b9, off9 + j * 3 + 2, none⟩ = some (.slice ab bs.length cb) := fun wx kx =>
                  ⟨(kx.cell (p := ⟨g9, 3, none⟩) (World.block_lt_of_cell? _ _ s3) (fun hx => by have := hown _ hx; simp at this; omega)).trans s3,
                   (kx.cell (p := ⟨b9, off9 + j * 3, none⟩) hb9 (fun hx => by have := hown _ hx; simp at this; omega)).trans q0,
                   (kx.cell (p := ⟨b9, off9 + j * 3 + 1, none⟩) hb9 (fun hx => by have := hown _ hx; simp at this; omega)).trans q1,
                   (kx.cell (p := ⟨b9, off9 + j * 3 + 2, none⟩) hb9 (fun hx => by have := hown _ hx; simp at this; omega)).trans q2⟩
                have HSk := Lib.hid hSk
                have Hby := Lib.hid hby
                have Htk := Lib.hid htk
                have Hws := Lib.hid hws
                have Hwl := Lib.hid hwl
                have Hk := Lib.hid hk
                have Hdat := Lib.hid hdat
                have hltI2 : (j : Int) < (ps.length : Int) := by omega
                have hp20 : ps.length ≤ 20 := Hfit.out.p1
                clear hs hpc hby htk hws hwl hk hdat hSk hown hb9'
                go_wp2_with fail
                refine wp_region_split 23 (fun w' => w'.cell? ⟨g9, 3, none⟩ = some (.slice (some ⟨b9, off9, none⟩) ps.length vc) ∧ w'.cell? ⟨b9, off9 + j * 3, none⟩ = some (.int .i64 f) ∧ w'.cell? ⟨b9, off9 + j * 3 + 1, none⟩ = some (.int .i64 t) ∧ w'.cell? ⟨b9, off9 + j * 3 + 2, none⟩ = some (.slice ab bs.length cb)) (by kernel_rfl) rfl (by kernel_rfl) ⟨s3, q0, q1, q2⟩ ?_
                clear s3 q0 q1 q2
                intro hHeld
                simp only [List.take_succ_cons, List.take_zero]
                refine wpAnyH_take (i := 0) (v := ?_) rfl (by kernel_rfl) (by kernel_rfl) (by kernel_rfl) (fun _ _ _ h => h) (Or.inl ⟨by rfl, by (intro w hSw; (try dsimp only at hSw); go_simp) <;> with_reducible rfl⟩) (by assumption) ?_
                (try simp only [Act.put, List.setIfInBounds_toArray])
                refine wpAnyH_take (i := 1) (v := ?_) rfl (by kernel_rfl) (by kernel_rfl) (by kernel_rfl) (fun _ _ _ h => h) (Or.inl ⟨by rfl, by (intro w hSw; (try dsimp only at hSw); go_simp) <;> with_reducible rfl⟩) (by assumption) ?_
                (try simp only [Act.put])
                refine wpAnyH_take (i := 2) (v := ?_) rfl (by kernel_rfl) (by kernel_rfl) (by kernel_rfl) (fun _ _ _ h => h) (Or.inl ⟨by rfl, by (intro w hSw; (try dsimp only at hSw); go_simp) <;> with_reducible rfl⟩) (by assumption) ?_
                (try simp only [Act.put])
                refine wpAnyH_take (i := 3) (v := ?_) rfl (by kernel_rfl) (by kernel_rfl) (by kernel_rfl) (fun _ _ _ h => h) (Or.inl ⟨by rfl, by (intro w hSw; (try dsimp only at hSw); go_simp) <;> with_reducible rfl⟩) (by assumption) ?_
                (try simp only [Act.put])
                refine wpAnyH_take (i := 4) (v := ?_) rfl (by kernel_rfl) (by kernel_rfl) (by kernel_rfl) (fun _ _ _ h => h) (Or.inl ⟨by rfl, by (intro w hSw; (try dsimp only at hSw); go_simp) <;> with_reducible rfl⟩) (by assumption) ?_
                (try simp only [Act.put])
                refine wpAnyH_take (i := 5) (v := ?_) rfl (by kernel_rfl) (by kernel_rfl) (by kernel_rfl) (fun _ _ _ h => h) (Or.inl ⟨by rfl, by (intro w hSw; (try dsimp only at hSw); go_simp) <;> with_reducible rfl⟩) (by assumption) ?_
                (try simp only [Act.put])
                refine wpAnyH_take (i := 6) (v := ?_) rfl (by kernel_rfl) (by kernel_rfl) (by kernel_rfl) (fun _ _ _ h => h) (Or.inl ⟨by rfl, by (intro w hSw; (try dsimp only at hSw); go_simp) <;> with_reducible rfl⟩) (by assumption) ?_
                (try simp only [Act.put])
                refine wpAnyH_take (i := 7) (v := ?_) rfl (by kernel_rfl) (by kernel_rfl) (by kernel_rfl) (fun _ _ _ h => h) (Or.inl ⟨by rfl, by (intro w hSw; (try dsimp only at hSw); go_simp) <;> with_reducible rfl⟩) (by assumption) ?_
                (try simp only [Act.put])
                refine wpAnyH_take (i := 8) (v := ?_) rfl (by kernel_rfl) (by kernel_rfl) (by kernel_rfl) (fun _ _ _ h => h) (Or.inl ⟨by rfl, by (intro w hSw; (try dsimp only at hSw); go_simp) <;> with_reducible rfl⟩) (by assumption) ?_
                (try simp only [Act.put])
                refine wpAnyH_take (i := 9) (v := ?_) rfl (by kernel_rfl) (by kernel_rfl) (by kernel_rfl) (fun _ _ _ h => h) (Or.inl ⟨by rfl, by (intro w hSw; (try dsimp only at hSw); go_simp) <;> with_reducible rfl⟩) (by assumption) ?_
                (try simp only [Act.put])
                refine wpAnyH_take (i := 10) (v := ?_) rfl (by kernel_rfl) (by kernel_rfl) (by kernel_rfl) (fun _ _ _ h => h) (Or.inl ⟨by rfl, by (intro w hSw; (try dsimp only at hSw); go_simp) <;> with_reducible rfl⟩) (by assumption) ?_
                (try simp only [Act.put])
                refine wpAnyH_take (i := 11) (v := ?_) rfl (by kernel_rfl) (by kernel_rfl) (by kernel_rfl) (fun _ _ _ h => h) (Or.inl ⟨by rfl, by (intro w hSw; (try dsimp only at hSw); go_simp) <;> with_reducible rfl⟩) (by assumption) ?_
                (try simp only [Act.put])
                refine wpAnyH_take (i := 12) (v := ?_) rfl (by kernel_rfl) (by kernel_rfl) (by kernel_rfl) (fun _ _ _ h => h) (Or.inl ⟨by rfl, by (intro w hSw; (try dsimp only at hSw); go_simp) <;> with_reducible rfl⟩) (by assumption) ?_
                (try simp only [Act.put])
                refine wpAnyH_take (i := 13) (v := ?_) rfl (by kernel_rfl) (by kernel_rfl) (by kernel_rfl) (fun _ _ _ h => h) (Or.inl ⟨by rfl, by (intro w hSw; (try dsimp only at hSw); go_simp) <;> with_reducible rfl⟩) (by assumption) ?_
                (try simp only [Act.put])
                refine wpAnyH_take (i := 14) (v := ?_) rfl (by kernel_rfl) (by kernel_rfl) (by kernel_rfl) (fun _ _ _ h => h) (Or.inl ⟨by rfl, by (intro w hSw; (try dsimp only at hSw); go_simp) <;> with_reducible rfl⟩) (by assumption) ?_
                (try simp only [Act.put])
                refine wpAnyH_take (i := 15) (v := ?_) rfl (by kernel_rfl) (by kernel_rfl) (by kernel_rfl) (fun _ _ _ h => h) (Or.inl ⟨by rfl, by (intro w hSw; (try dsimp only at hSw); go_simp) <;> with_reducible rfl⟩) (by assumption) ?_
                (try simp only [Act.put])
                refine wpAnyH_take (i := 16) (v := ?_) rfl (by kernel_rfl) (by kernel_rfl) (by kernel_rfl) (fun _ _ _ h => h) (Or.inl ⟨by rfl, by (intro w hSw; (try dsimp only at hSw); go_simp) <;> with_reducible rfl⟩) (by assumption) ?_
                (try simp only [Act.put])
                refine wpAnyH_take (i := 17) (v := ?_) rfl (by kernel_rfl) (by kernel_rfl) (by kernel_rfl) (fun _ _ _ h => h) (Or.inl ⟨by rfl, by (intro w hSw; (try dsimp only at hSw); go_simp) <;> with_reducible rfl⟩) (by assumption) ?_
                (try simp only [Act.put])
                refine wpAnyH_take (i := 18) (v := ?_) rfl (by kernel_rfl) (by kernel_rfl) (by kernel_rfl) (fun _ _ _ h => h) (Or.inl ⟨by rfl, by (intro w hSw; (try dsimp only at hSw); go_simp) <;> with_reducible rfl⟩) (by assumption) ?_
                (try simp only [Act.put])
                refine wpAnyH_ready (rs := [19]) (by kernel_rfl) (by simp) ?_
                refine AllReadyH.cons (o := { dst := some 91, op := .call { callee := .builtin .append, args := #[.const (.slice none 0 0), .tmp 90], argTypes := #[27, 27] }, type := 27, pos := "law.go:77", after := #[{ on := 18, ground := .data }], guard := none }) rfl (fun K hK => ?_) AllReadyH.nil
                refine step_append_off rfl (.const (.slice none 0 0)) (.tmp 90) rfl Try.bytes27 wo.heap.size (.slice none 0 0) 0 [] (by simp [Act.eval]) (OwnsAt.nil _ _ _ _) (.slice ab bs.length cb) bs.length (bs.map u8) (by simp [Act.eval]) (SrcOf.of_bytes (Hby.out.keep0 (Keep.refl [] wo).drew)) (by simp [u8, Value.oneCell']) (by unfold maxLen; omega) (by omega) (Nat.le_refl _) ?_
                intro v' w3 ho k3 _
                have k3 : Keep [] wo w3 := (show Keep [] wo.drew w3 from k3).of_drew
                have ho : OwnB w3 wo.heap.size v' bs := by unfold OwnB; simpa using ho
                have hsh := OwnsAt.shape ho
                refine hK.out _ _ (HSk.out _ ((Keep.refl _ _).trans k3 (by simp))) (fun hHeld => ?_)
                clear hK K
                (try simp only [Act.put])
                obtain ⟨a8, c8, rfl⟩ := hsh
                refine wpAnyH_take (i := 20) (v := ?_) rfl (by kernel_rfl) (by kernel_rfl) (by kernel_rfl) (fun _ _ _ h => h) (Or.inl ⟨by rfl, by (intro w hSw; (try dsimp only at hSw); go_simp) <;> with_reducible rfl⟩) (by assumption) ?_
                (try simp only [Act.put])
                refine wpAnyH_ready (rs := [21]) (by kernel_rfl) (by simp) ?_
                refine AllReadyH.cons rfl (fun K hK => ?_) AllReadyH.nil
                go_simp
                refine hK.out _ _ (HSk.out _ (((Keep.refl _ _).trans k3 (by simp)).trans ((Keep.refl [] w3).alloc (.cells #[.int .i64 f, .int .i64 t, .slice a8 bs.length c8] 29)) (by simp))) (fun hHeld => ?_)
                clear hK K
                (try simp only [Act.put, List.setIfInBounds_toArray, List.set_cons_zero, List.set_cons_succ])
                refine wpAnyH_ready (rs := [22]) (by kernel_rfl) (by simp) ?_
                refine AllReadyH.cons rfl (fun K hK => ?_) AllReadyH.nil
                refine step_append_off rfl (.tmp 72) (.tmp 93) rfl Try.pcs32 w5.heap.size (.slice ao ws.length co) ws.length (ws.flatMap PS.c3) (by simp [Act.eval]) ((Hws.out.rows.keep k3 (by simp)).keep ((Keep.refl [] _).alloc _) (by simp)) (.slice (some ⟨w3.heap.size, 0, none⟩) 1 1) 1 [.int .i64 f, .int .i64 t, .slice a8 bs.length c8] (by simp [Act.eval]) (src_row 3 rfl _ rfl) (by simp [Value.oneCell']) (by unfold maxLen; have := Hwl.out; omega) (by have := Hwl.out; omega) (by have := Hk.out.size; have := k3.size; simp; omega) ?_
                intro v' w4 hown4 hk4 hat4
                have hpush := Hws.out.push (s := ⟨f, t, bs, fl, .slice a8 bs.length c8⟩) (by have := Hk.out.size; omega) (k3.alloc (.cells #[.int .i64 f, .int .i64 t, .slice a8 bs.length c8] 29)) (OwnsAt.keep ho ((Keep.refl [] _).alloc _) (by simp)) hk4 (by simpa [PS.c3] using hown4)
                have hk5 : Keep [] w5 w4 := (Hk.out.trans (k3.alloc _) (by simp)).trans hk4 (fun x hx => Or.inr (Hws.out.rows.lt x (mem_own.1 hx)).1)
                have hdat2 : (ws ++ [(⟨f, t, bs, fl, .slice a8 bs.length c8⟩ : PS)]).map dat3 = (ps.take (j + 1)).map dat3 := by
                  rw [Htk.out, List.map_append, List.map_append, Hdat.out]
                  rfl
                have hsh4 := hown4.shape
                have Hrel := Lib.hid (And.intro hpush (And.intro hdat2 hk5))
                refine hK.out _ _ (HSk.out _ ((((Keep.refl _ _).trans k3 (by simp)).trans ((Keep.refl [] w3).alloc (.cells #[.int .i64 f, .int .i64 t, .slice a8 bs.length c8] 29)) (by simp)).trans hk4 (fun x hx => Or.inl hx))) (fun hHeld => ?_)
                clear hK K hown4 hk4 hat4 hpush hk5 hdat2 ho k3
                (try simp only [Act.put, List.setIfInBounds_toArray])
                obtain ⟨a7, c7, rfl⟩ := hsh4
                refine wpAnyH_done (by kernel_rfl) ?_ _
                show Oper.wp _ _ _ _ _ _
                go_simp
                clear hHeld HSk Hby Htk Hws Hwl Hk Hdat
                go_wp2_with fail
                go_roundw
                case rel => exact ⟨j + 1, _, by omega, by go_num, Hrel.out.1, Hrel.out.2.1, Hrel.out.2.2⟩
                case measure => simp [intOf]; omega
              · as_aux_lemma =>
                  obtain rfl : j = ps.length := by omega
                  rw [List.take_length] at hdat
                  obtain ⟨X7, hX7⟩ : ∃ X7, X7 = parcelBlocks (.slice ao ws.length co) ws ++ [g9] := ⟨_, rfl⟩
                  have H6 : Hid (NJ X7 p o r w wo d d) := Lib.hid (by rw [hX7]; exact H5.out.fresh hk (fun x hx => hws.lt x hx))
                  have HXp : Hid (∀ x ∈ parcelBlocks (.slice ao ws.length co) ws, x ∈ X7) := Lib.hid (fun x hx => by rw [hX7]; exact List.mem_append_left _ hx)
                  have hg7 : g9 ∈ X7 := by rw [hX7]; simp
                  have Hb6 := Lib.hid (Hb5.out.keep hk (by simp))
                  have Hws := Lib.hid hws
                  have Hwl := Lib.hid hwl
                  have Hsd : Hid (sendD d ws = sendD d ps) := Lib.hid (by
                    unfold sendD
                    rw [hwl, List.map_take, List.map_take, hdat])
                  have Hwb : Hid (∀ s ∈ ws, s.bs.length ≤ 200) := Lib.hid (fun s hs => by
                    have h1 : dat3 s ∈ ps.map dat3 := by rw [← hdat]; exact List.mem_map_of_mem hs
                    obtain ⟨t, ht, he⟩ := List.mem_map.1 h1
                    rw [← (dat3_eq he).2.2]
                    exact Hfit.out.b1 t ht)
                  have hw20 : ws.length ≤ 20 := by have h1 : ps.length ≤ 20 := Hfit.out.p1; omega
                  clear hk hX7 hws hwl hdat s3 hj hlt2
                  obtain ⟨d1, hd1⟩ : ∃ d1, d1 = sendD d ps := ⟨_, rfl⟩
                  obtain ⟨R1, hR1⟩ : ∃ R1, R1 = ((room d.length ps.length : Nat) : Int) := ⟨_, rfl⟩
                  have go1 : Hid (Calls Try.prog 9 #[.pointer (some ⟨p, 0, none⟩), .slice ao ws.length co] wo.drew fun e w' => e = .returned (.int .i64 R1) ∧ NJ X7 p o r w w' d1 d ∧ KX X7 w wo.drew w') := Lib.hid (by rw [hd1, hR1]; exact (by have h9 := nj_send H6.out.drew (Hws.out.of.keep0 (Keep.refl [] wo).drew) HXp.out hw20 Hwb.out; rw [Hwl.out, Hsd.out] at h9; rw [Hwl.out]; exact h9))
                  have gr1 : Hid (∀ wx, NJ X7 p o r w wx d1 d → Calls Try.prog 15 #[.pointer (some ⟨r, 0, none⟩), .slice va ps.length vc] wx fun e w' => e = .returned (.int .i64 R1) ∧ NJ X7 p o r w w' d1 d1 ∧ KX X7 w wx w') := Lib.hid (fun wx h => by subst hR1; subst hd1; exact nj_sendR h Hin.out.pcs Hfit.out.p1 Hfit.out.b1)
                  have z3 : wo.cell? ⟨g9, 3, none⟩ = some (.slice va ps.length vc) := Hb6.out.cell 3
                  have hRR : (R1 == R1) = true := by simp
                  clear hd1 hR1
                  go_wp2_with fail
                  go_region_held3 (fun w' => w'.cell? ⟨g9, 3, none⟩ = some (.slice va ps.length vc)) (first | exact by assumption | go_keep)
                    (first
                      | (go_at_call 9; refine go1.out.mono ?_; rintro e w6 ⟨rfl, h6, kx6⟩; have b6 := kx6.blk Hb6.out.drew hg7; have y3 : w6.cell? ⟨g9, 3, none⟩ = some (.slice va ps.length vc) := b6.cell 3; skip)
                      | (go_at_call 15; go_must (refine (gr1.out _ h6).mono ?_; rintro e w7 ⟨rfl, h7, kx7⟩; have b7 := kx7.blk b6 hg7; have t3 : w7.cell? ⟨g9, 3, none⟩ = some (.slice va ps.length vc) := b7.cell 3; skip)))
                  have HX5 := Lib.hid (show ∀ x ∈ byteBlocks ws, x ∈ X7 from fun x hx => HXp.out x (List.mem_append_right _ hx))
                  have H7 := Lib.hid h7
                  have Hpb7 := Lib.hid (pb_of (kx7.pin (kx6.pin (Hws.out.keep (Keep.refl [] wo).drew (by simp)) HXp.out) HXp.out))
                  have hw20I : (ws.length : Int) ≤ 20 := by omega
                  clear h7 kx6 kx7 b6 b7 h6 go1 gr1 hRR z3 y3 t3 H6 HXp hg7 Hb6 Hws Hwl Hsd Hwb
                  go_wp2_with fail
                  go_loopw [13, 14] (fun v23 _ wr2 => ∃ k2 : Nat, k2 ≤ ws.length ∧ v23 = .int .i64 k2 ∧ NJ X7 p o r w wr2 d1 d1 ∧ PB wr2 (.slice ao ws.length co) ws) (fun v _ _ => ws.length - (intOf v).toNat)
                  case atStart => exact ⟨0, by omega, rfl, H7.out, Hpb7.out⟩
                  case round =>
                    clear H7 Hpb7
                    obtain ⟨k2, hk, rfl, hj, hb⟩ := hrel
                    generalize wr = wo at *
                    by_cases hlt : k2 < ws.length
                    · obtain ⟨s, hs⟩ : ∃ s, ws[k2]? = some s := ⟨_, List.getElem?_eq_getElem hlt⟩
                      obtain ⟨bs0, hbl0, hob0⟩ := hb.bytes s (List.mem_of_getElem? hs)
                      obtain ⟨sa, sc, hsv⟩ := hob0.shape
                      have Hs := Lib.hid (List.mem_of_getElem? hs)
                      have Hj := Lib.hid hj
                      have Hb := Lib.hid hb
                      have Hsk := Lib.hid hs
                      have Hsv := Lib.hid hsv
                      have hltI : (k2 : Int) < (ws.length : Int) := by omega
                      clear hs hbl0 hob0 hsv hj hb
                      go_wp2_with fail
                      go_loopw [14] (fun v24 wr2 => ∃ j : Nat, j ≤ s.bs.length ∧ v24 = .int .i64 j ∧ NJ X7 p o r w wr2 d1 d1 ∧ PB wr2 (.slice ao ws.length co) ws) (fun v _ => s.bs.length - (intOf v).toNat)
                      case atStart => exact ⟨0, by omega, rfl, Hj.out, Hb.out⟩
                      case round =>
                        clear Hj Hb
                        obtain ⟨j, hjl, rfl, hj, hb⟩ := hrel
                        generalize wr = wo2 at *
                        obtain ⟨gr, offr, hav, _, _, hcr, _, _⟩ := hb.rows.rowAt PS.c3_len Hsk.out hlt
                        have r5 : wo2.cell? ⟨gr, offr + k2 * 3 + 2, none⟩ = some s.bv := hcr 2 _ (by omega) rfl
                        rw [Hsv.out] at r5
                        subst hav
                        have hsl : s.bs.length ≤ 9223372036854775807 := by
                          obtain ⟨bs0, hbl0, hob0⟩ := hb.bytes s Hs.out
                          exact pb_len hob0
                        by_cases hlt2 : j < s.bs.length
                        · obtain ⟨bs0, hbl0, hob0⟩ := hb.bytes s Hs.out
                          obtain ⟨y, hy⟩ : ∃ y, bs0[j]? = some y := ⟨_, List.getElem?_eq_getElem (by omega)⟩
                          obtain ⟨g, off, cap, hv9, _, _, _, _, hcell⟩ := hob0.form (by omega)
                          rw [Hsv.out] at hv9
                          injection hv9 with e1 _ e3
                          subst e1 e3
                          have y0 := hcell j (u8 y) (by rw [List.getElem?_map, hy]; rfl)
                          unfold u8 at y0
                          have fy : wo2.frozen? ⟨g, off + j, none⟩ = false := by
                            rw [Hsv.out] at hob0
                            exact hob0.free (off + j)
                          have hltI2 : (j : Int) < (s.bs.length : Int) := by omega
                          obtain ⟨z, hz⟩ := xor_255 y
                          have Hj := Lib.hid hj
                          have Hb := Lib.hid hb
                          clear hj hb hob0 hcell hy hcr hbl0
                          go_wp2_with fail
                          refine wp_region_quiet_tail 16 (by kernel_rfl) (by kernel_rfl) ?_
                          simp only [List.take_succ_cons, List.take_zero, List.drop_succ_cons, List.drop_zero]
                          repeat (go_big_quiet_step (fail))
                          refine quiet_tail_end ?_
                          rintro _ ⟨nq, rfl⟩
                          have hj8 := Hj.out.drewN nq
                          have hb8 := Hb.out.keep0 ((Keep.refl [] wo2).drewN nq)
                          have Y0 : (wo2.drewN nq).cell? ⟨g, off + j, none⟩ = some (.int .u8 (y.toNat : Int)) := y0
                          have FY : (wo2.drewN nq).frozen? ⟨g, off + j, none⟩ = false := fy
                          clear r5 y0 fy Hj Hb
                          generalize wo2.drewN nq = wo3 at *
                          have kw : Keep [g] wo3 (wo3.setCell ⟨g, off + j, none⟩ (.int .u8 (z.toNat : Int))) := (Keep.refl _ _).setCell (by simp) _
                          have hj9 := hj8.write kw (fun x hx => by
                            rw [show x = g by simpa using hx]
                            exact HX5.out g (mem_byteBlocks.2 ⟨s, Hs.out, by rw [Hsv.out]; rfl⟩))
                          have hb9 := hb8.write (z := z) Hs.out Hsv.out j
                          have Hrel := Lib.hid (And.intro hj9 hb9)
                          clear hj8 hb8 hj9 hb9 kw
                          go_wp2_with fail
                          go_roundw
                          case rel => exact ⟨j + 1, by omega, by go_num, Hrel.out.1, Hrel.out.2⟩
                          case measure => simp [intOf]; omega
                        · have hjn : j = s.bs.length := by omega
                          have Hrel := Lib.hid (And.intro hj hb)
                          subst hjn
                          clear hj hb hcr
                          go_wp2_with fail
                          go_roundw
                          case rel => exact ⟨k2 + 1, by omega, by go_num, Hrel.out.1, Hrel.out.2⟩
                          case measure => simp [intOf]; omega
                    · have hkn : k2 = ws.length := by omega
                      have HF := Lib.hid (hj.sub (Y := []) (by simp))
                      subst hkn
                      clear hj hb
                      generalize wo = wq at *
                      go_wp2_with fail
                      go_meet
                      case rel => exact ⟨by first | rfl | simp, _, HF.out⟩
          · as_aux_lemma =>
              subst hw
              clear z0
              have hs := nj_del k H5.out
              have hrf : ∀ X wx d1, NJ X p o r w wx d1 d → Calls Try.prog 16 #[.pointer (some ⟨r, 0, none⟩), .int .i64 k] wx (DelJ X k d (fun X w' d2 => NJ X p o r w w' d1 d2) w wx) := fun X wx d1 h => nj_delR k h
              have z1 : w5.cell? ⟨g9, 1, none⟩ = some (.int .i64 k) := Hb5.out.cell 1
              unfold DelJ at hs hrf
              generalize delR d k = D at *
              generalize delD d k = d1 at *
              generalize isK k d.length = b0 at *
              obtain ⟨f0, t0, bs⟩ := D
              simp only at hs hrf
              have Hs := Lib.hid hs
              have Hrf := Lib.hid hrf
              clear hs hrf
              go_wp2_with fail
              refine Hs.out.mono ?_
              rintro e w6 ⟨bv, rfl, hby, h6, hkx⟩
              obtain ⟨ab, cb, rfl⟩ := hby.shape
              have kA : Keep [] w6 (w6.alloc (.cells #[.int .i64 f0, .int .i64 t0, .slice ab bs.length cb] 29)) := (Keep.refl _ _).alloc _
              have bA : Blk (w6.alloc (.cells #[.int .i64 f0, .int .i64 t0, .slice ab bs.length cb] 29)) w6.heap.size 29 [.int .i64 f0, .int .i64 t0, .slice ab bs.length cb] := Blk.new' _ _ _ _ rfl
              have HA := Lib.hid (And.intro bA (And.intro (h6.fresh (Y := [w6.heap.size]) kA (by simp)) (And.intro (hby.keep0 kA) ((hkx.blk Hb5.out (by simp)).keep kA (by simp)))))
              clear Hs z1 h6 hkx hby bA kA H5 Hb5
              go_upto_region 32 with fail
              generalize hw7 : w6.alloc (.cells #[.int .i64 f0, .int .i64 t0, .slice ab bs.length cb] 29) = w7 at *
              generalize w6.heap.size = gA at *
              clear hw7
              have hs2 := Lib.hid (Hrf.out _ _ _ HA.out.2.1)
              have y1 : w7.cell? ⟨g9, 1, none⟩ = some (.int .i64 k) := HA.out.2.2.2.cell 1
              clear Hrf
              go_wp2_with fail
              refine hs2.out.mono ?_
              rintro e w8 ⟨bv', rfl, hby', h8, hkx8⟩
              obtain ⟨ab', cb', rfl⟩ := hby'.shape
              have kC : Keep [] w8 (w8.alloc (.cells #[.int .i64 f0, .int .i64 t0, .slice ab' bs.length cb'] 29)) := (Keep.refl _ _).alloc _
              have bC : Blk (w8.alloc (.cells #[.int .i64 f0, .int .i64 t0, .slice ab' bs.length cb'] 29)) w8.heap.size 29 [.int .i64 f0, .int .i64 t0, .slice ab' bs.length cb'] := Blk.new' _ _ _ _ rfl
              have bA8 := (hkx8.blk HA.out.1 (by simp)).keep kC (by simp)
              have hbA8 := (hkx8.bytes HA.out.2.2.1 (fun x hx => by simp [hx])).keep0 kC
              have HC := Lib.hid (And.intro bC (And.intro bA8 (And.intro hbA8 (And.intro (hby'.keep0 kC) ((h8.sub (Y := []) (by simp)).keep0 kC)))))
              clear hs2 HA y1 hby' h8 hkx8 kC bC bA8 hbA8
              go_upto_region 33 with fail
              generalize hw9 : w8.alloc (.cells #[.int .i64 f0, .int .i64 t0, .slice ab' bs.length cb'] 29) = w9 at *
              generalize w8.heap.size = gC at *
              clear hw9
              have kD : Keep [] w9 (w9.alloc (.cells #[.int .i64 f0, .int .i64 t0, .slice ab bs.length cb] 29)) := (Keep.refl _ _).alloc _
              have kE : Keep [] (w9.alloc (.cells #[.int .i64 f0, .int .i64 t0, .slice ab bs.length cb] 29)) ((w9.alloc (.cells #[.int .i64 f0, .int .i64 t0, .slice ab bs.length cb] 29)).alloc (.cells #[.int .i64 f0, .int .i64 t0, .slice ab' bs.length cb'] 29)) := (Keep.refl _ _).alloc _
              have hA1 : ParcelsOf (w9.alloc (.cells #[.int .i64 f0, .int .i64 t0, .slice ab bs.length cb] 29)) (.slice (some ⟨w9.heap.size, 0, none⟩) 1 1) [⟨f0, t0, bs, false, .slice ab bs.length cb⟩] := parcels_lit _ rfl rfl (fun s hs => by
                obtain rfl : s = ⟨f0, t0, bs, false, .slice ab bs.length cb⟩ := by simpa using hs
                exact HC.out.2.2.1)
              have hC1 : ParcelsOf ((w9.alloc (.cells #[.int .i64 f0, .int .i64 t0, .slice ab bs.length cb] 29)).alloc (.cells #[.int .i64 f0, .int .i64 t0, .slice ab' bs.length cb'] 29)) (.slice (some ⟨(w9.alloc (.cells #[.int .i64 f0, .int .i64 t0, .slice ab bs.length cb] 29)).heap.size, 0, none⟩) 1 1) [⟨f0, t0, bs, false, .slice ab' bs.length cb'⟩] := parcels_lit _ rfl rfl (fun s hs => by
                obtain rfl : s = ⟨f0, t0, bs, false, .slice ab' bs.length cb'⟩ := by simpa using hs
                exact HC.out.2.2.2.1.keep0 kD)
              rw [show (w9.alloc (.cells #[.int .i64 f0, .int .i64 t0, .slice ab bs.length cb] 29)).heap.size = w9.heap.size + 1 by simp] at hC1
              have hc := Lib.hid (same_spec (hA1.keep0 kE) hC1 rfl (by simp))
              have HK := Lib.hid (kD.trans kE (by simp))
              have p0 : w9.cell? ⟨gA, 0, none⟩ = some (.int .i64 f0) := HC.out.2.1.cell 0
              have p1 : w9.cell? ⟨gA, 1, none⟩ = some (.int .i64 t0) := HC.out.2.1.cell 1
              have p2 : w9.cell? ⟨gA, 2, none⟩ = some (.slice ab bs.length cb) := HC.out.2.1.cell 2
              have bC2 := HC.out.1.keep kD (by simp)
              have q0 : (w9.alloc (.cells #[.int .i64 f0, .int .i64 t0, .slice ab bs.length cb] 29)).cell? ⟨gC, 0, none⟩ = some (.int .i64 f0) := bC2.cell 0
              have q1 : (w9.alloc (.cells #[.int .i64 f0, .int .i64 t0, .slice ab bs.length cb] 29)).cell? ⟨gC, 1, none⟩ = some (.int .i64 t0) := bC2.cell 1
              have q2 : (w9.alloc (.cells #[.int .i64 f0, .int .i64 t0, .slice ab bs.length cb] 29)).cell? ⟨gC, 2, none⟩ = some (.slice ab' bs.length cb') := bC2.cell 2
              clear kD kE hA1 hC1 bC2
              cases b0 with
              | true =>
                go_wp2_with fail
                refine hc.out.mono ?_
                rintro e w10 ⟨rfl, hk10⟩
                have HF := Lib.hid (HC.out.2.2.2.2.keep0 (HK.out.trans hk10 (by simp)))
                clear hc HK p0 p1 p2 q0 q1 q2 hk10 HC
                go_wp2_with fail
                go_meet
                case rel => exact ⟨by first | rfl | simp, _, HF.out⟩
              | false =>
                go_wp2_with fail
                refine hc.out.mono ?_
                rintro e w10 ⟨rfl, hk10⟩
                have HF := Lib.hid (HC.out.2.2.2.2.keep0 (HK.out.trans hk10 (by simp)))
                clear hc HK p0 p1 p2 q0 q1 q2 hk10 HC
                go_wp2_with fail
                go_meet
                case rel => exact ⟨by first | rfl | simp, _, HF.out⟩
          · as_aux_lemma =>
              subst hw
              clear z0
              have hs := Lib.hid (nj_drop k H5.out)
              have z1 : w5.cell? ⟨g9, 1, none⟩ = some (.int .i64 k) := Hb5.out.cell 1
              go_wp2_with fail
              refine hs.out.mono ?_
              rintro e w6 ⟨rfl, h6, hkx⟩
              have b6 := hkx.blk Hb5.out (by simp)
              have y1 : w6.cell? ⟨g9, 1, none⟩ = some (.int .i64 k) := b6.cell 1
              have hs2 := Lib.hid (nj_delR k h6)
              clear hs z1 h6 hkx b6
              go_wp2_with fail
              refine hs2.out.mono ?_
              rintro e w7 ⟨bv, rfl, hby, h7, hkx7⟩
              obtain ⟨ab, cb, rfl⟩ := hby.shape
              have HF := Lib.hid ((h7.sub (Y := []) (by simp)).keep0 ((Keep.refl [] _).alloc (.cells #[.int .i64 (delR d k).1, .int .i64 (delR d k).2.1, .slice ab (delR d k).2.2.length cb] 29)))
              clear hs2 y1 hby h7 hkx7
              generalize delR d k = D at *
              generalize isK k d.length = b0 at *
              go_wp2_with fail
              go_meet
              case rel => exact ⟨by first | rfl | simp, _, HF.out⟩
          · as_aux_lemma =>
              subst hw
              clear z0
              obtain ⟨d1, hd1⟩ : ∃ d1, d1 = dupD d k := ⟨_, rfl⟩
              obtain ⟨R1, hR1⟩ : ∃ R1, R1 = dupB d k := ⟨_, rfl⟩
              have go1 : Hid (Calls Try.prog 12 #[.pointer (some ⟨p, 0, none⟩), .int .i64 k] w5.drew fun e w' => e = .returned (.bool R1) ∧ NJ [g9] p o r w w' d1 d ∧ KX [g9] w w5.drew w') := Lib.hid (by rw [hd1, hR1]; exact nj_dup k H5.out.drew)
              have gr1 : Hid (∀ wx, NJ [g9] p o r w wx d1 d → Calls Try.prog 19 #[.pointer (some ⟨r, 0, none⟩), .int .i64 k] wx fun e w' => e = .returned (.bool R1) ∧ NJ [g9] p o r w w' d1 d1 ∧ KX [g9] w wx w') := Lib.hid (fun wx h => by subst hR1; subst hd1; exact nj_dupR k h)
              have z1 : w5.cell? ⟨g9, 1, none⟩ = some (.int .i64 k) := Hb5.out.cell 1
              have hRR : (R1 == R1) = true := by simp
              clear hd1 hR1
              go_wp2_with fail
              go_region_held3 (fun w' => w'.cell? ⟨g9, 1, none⟩ = some (.int .i64 k)) (first | exact by assumption | go_keep)
                (first
                  | (go_at_call 12; refine go1.out.mono ?_; rintro e w6 ⟨rfl, h6, kx6⟩; have b6 := kx6.blk Hb5.out.drew (by simp); have y1 : w6.cell? ⟨g9, 1, none⟩ = some (.int .i64 k) := b6.cell 1; skip)
                  | (go_at_call 19; go_must (refine (gr1.out _ h6).mono ?_; rintro e w7 ⟨rfl, h7, kx7⟩; have b7 := kx7.blk b6 (by simp); have t1 : w7.cell? ⟨g9, 1, none⟩ = some (.int .i64 k) := b7.cell 1; skip)))
              have HF := Lib.hid (h7.sub (Y := []) (by simp))
              clear z1 y1 t1 b6 b7 h6 h7 kx6 kx7 go1 gr1 hRR
              go_wp2_with fail
              go_meet
              case rel => exact ⟨by first | rfl | simp, _, HF.out⟩
          · as_aux_lemma =>
              subst hw
              clear z0
              obtain ⟨d1, hd1⟩ : ∃ d1, d1 = flpD d k bit := ⟨_, rfl⟩
              obtain ⟨R1, hR1⟩ : ∃ R1, R1 = flpB d k bit := ⟨_, rfl⟩
              have go1 : Hid (Calls Try.prog 13 #[.pointer (some ⟨p, 0, none⟩), .int .i64 k, .int .i64 bit] w5.drew fun e w' => e = .returned (.bool R1) ∧ NJ [g9] p o r w w' d1 d ∧ KX [g9] w w5.drew w') := Lib.hid (by rw [hd1, hR1]; exact nj_flip k bit H5.out.drew Hin.out.bit)
              have gr1 : Hid (∀ wx, NJ [g9] p o r w wx d1 d → Calls Try.prog 20 #[.pointer (some ⟨r, 0, none⟩), .int .i64 k, .int .i64 bit] wx fun e w' => e = .returned (.bool R1) ∧ NJ [g9] p o r w w' d1 d1 ∧ KX [g9] w wx w') := Lib.hid (fun wx h => by subst hR1; subst hd1; exact nj_flipR k bit h Hin.out.bit)
              have z1 : w5.cell? ⟨g9, 1, none⟩ = some (.int .i64 k) := Hb5.out.cell 1
              have z2 : w5.cell? ⟨g9, 2, none⟩ = some (.int .i64 bit) := Hb5.out.cell 2
              have hRR : (R1 == R1) = true := by simp
              clear hd1 hR1
              go_wp2_with fail
              go_region_held3 (fun w' => w'.cell? ⟨g9, 1, none⟩ = some (.int .i64 k) ∧ w'.cell? ⟨g9, 2, none⟩ = some (.int .i64 bit)) (first | exact ⟨by assumption, by assumption⟩ | go_keep)
                (first
                  | (go_at_call 13; refine go1.out.mono ?_; rintro e w6 ⟨rfl, h6, kx6⟩; have b6 := kx6.blk Hb5.out.drew (by simp); have y1 : w6.cell? ⟨g9, 1, none⟩ = some (.int .i64 k) := b6.cell 1; have y2 : w6.cell? ⟨g9, 2, none⟩ = some (.int .i64 bit) := b6.cell 2; skip)
                  | (go_at_call 20; go_must (refine (gr1.out _ h6).mono ?_; rintro e w7 ⟨rfl, h7, kx7⟩; have b7 := kx7.blk b6 (by simp); have t1 : w7.cell? ⟨g9, 1, none⟩ = some (.int .i64 k) := b7.cell 1; have t2 : w7.cell? ⟨g9, 2, none⟩ = some (.int .i64 bit) := b7.cell 2; skip)))
              have HF := Lib.hid (h7.sub (Y := []) (by simp))
              clear z1 z2 y1 y2 t1 t2 b6 b7 h6 h7 kx6 kx7 go1 gr1 hRR
              go_wp2_with fail
              go_meet
              case rel => exact ⟨by first | rfl | simp, _, HF.out⟩
          · as_aux_lemma =>
              clear z0
              obtain ⟨d1, hd1⟩ : ∃ d1, d1 = gonD d ns := ⟨_, rfl⟩
              obtain ⟨R1, hR1⟩ : ∃ R1, R1 = (d.length : Int) - (gonD d ns).length := ⟨_, rfl⟩
              have go1 : Hid (Calls Try.prog 21 #[.pointer (some ⟨p, 0, none⟩), .slice fa ns.length fc] w5.drew fun e w' => e = .returned (.int .i64 R1) ∧ NJ [g9] p o r w w' d1 d ∧ KX [g9] w w5.drew w') := Lib.hid (by rw [hd1, hR1]; exact nj_gone H5.out.drew Hin.out.ints Hfit.out.n1)
              have gr1 : Hid (∀ wx, NJ [g9] p o r w wx d1 d → Calls Try.prog 22 #[.pointer (some ⟨r, 0, none⟩), .slice fa ns.length fc] wx fun e w' => e = .returned (.int .i64 R1) ∧ NJ [g9] p o r w w' d1 d1 ∧ KX [g9] w wx w') := Lib.hid (fun wx h => by subst hR1; subst hd1; exact nj_goneR h Hin.out.ints Hfit.out.n1)
              have z4 : w5.cell? ⟨g9, 4, none⟩ = some (.slice fa ns.length fc) := Hb5.out.cell 4
              have hRR : (R1 == R1) = true := by simp
              clear hd1 hR1
              go_wp2_with fail
              go_region_held3 (fun w' => w'.cell? ⟨g9, 4, none⟩ = some (.slice fa ns.length fc)) (first | exact by assumption | go_keep)
                (first
                  | (go_at_call 21; refine go1.out.mono ?_; rintro e w6 ⟨rfl, h6, kx6⟩; have b6 := kx6.blk Hb5.out.drew (by simp); have y4 : w6.cell? ⟨g9, 4, none⟩ = some (.slice fa ns.length fc) := b6.cell 4; skip)
                  | (go_at_call 22; go_must (refine (gr1.out _ h6).mono ?_; rintro e w7 ⟨rfl, h7, kx7⟩; have b7 := kx7.blk b6 (by simp); have t4 : w7.cell? ⟨g9, 4, none⟩ = some (.slice fa ns.length fc) := b7.cell 4; skip)))
              have HF := Lib.hid (h7.sub (Y := []) (by simp))
              clear z4 y4 t4 b6 b7 h6 h7 kx6 kx7 go1 gr1 hRR
              go_wp2_with fail
              go_meet
              case rel => exact ⟨by first | rfl | simp, _, HF.out⟩
        case rest =>
          as_aux_lemma =>
            obtain ⟨rfl, d2, h6⟩ := hcut
            generalize wc = w6 at *
            have hs := Lib.hid (nj_way h6)
            have H6 := Lib.hid h6
            clear h6
            go_wp2_with fail
            refine hs.out.mono ?_
            rintro e w7 ⟨v7, ws, rfl, hd7, hpi, h7, hk7⟩
            obtain ⟨vr, rs, zr, hrl, hrd⟩ := h7.refL
            obtain ⟨a7, c7, rfl⟩ := hpi.rows.shape
            obtain ⟨ar, cr, rfl⟩ : ∃ ar cr, vr = .slice ar rs.length cr := by obtain ⟨a, c, h, _⟩ := hrl; exact ⟨a, c, h⟩
            have hc := Lib.hid (same_spec (ParcelsIn.of hpi) hrl (by rw [hd7, hrd]) (by have := h7.small.1; rw [← hd7, List.length_map] at this; omega))
            have hlenI : (ws.length : Int) ≤ 10000 := by have := h7.small.1; rw [← hd7, List.length_map] at this; omega
            have H7' := Lib.hid h7
            have Hpi := Lib.hid hpi
            clear hs h7 hpi hrl hrd hd7 hk7 H6
            go_wp2_with fail
            refine hc.out.mono ?_
            rintro e w8 ⟨rfl, hk8⟩
            obtain ⟨X7, hX7⟩ : ∃ X7, X7 = parcelBlocks (.slice a7 ws.length c7) ws ++ [] := ⟨_, rfl⟩
            have HX5 := Lib.hid (show ∀ x ∈ byteBlocks ws, x ∈ X7 from fun x hx => by rw [hX7]; exact List.mem_append_left _ (List.mem_append_right _ hx))
            have H7 := Lib.hid (H7'.out.keep0 hk8)
            rw [← hX7] at H7
            have Hpb7 := Lib.hid ((pb_of Hpi.out).keep0 hk8)
            clear hc H7' Hpi hk8 hX7 zr
            go_wp2_with fail
            go_loopw [23, 24] (fun v23 _ wr2 => ∃ k2 : Nat, k2 ≤ ws.length ∧ v23 = .int .i64 k2 ∧ NJ X7 p o r w wr2 d2 d2 ∧ PB wr2 (.slice a7 ws.length c7) ws) (fun v _ _ => ws.length - (intOf v).toNat)
            case atStart => exact ⟨0, by omega, rfl, H7.out, Hpb7.out⟩
            case round =>
              clear H7 Hpb7
              obtain ⟨k2, hk, rfl, hj, hb⟩ := hrel
              generalize wr = wo at *
              by_cases hlt : k2 < ws.length
              · obtain ⟨s, hs⟩ : ∃ s, ws[k2]? = some s := ⟨_, List.getElem?_eq_getElem hlt⟩
                obtain ⟨bs0, hbl0, hob0⟩ := hb.bytes s (List.mem_of_getElem? hs)
                obtain ⟨sa, sc, hsv⟩ := hob0.shape
                have Hs := Lib.hid (List.mem_of_getElem? hs)
                have Hj := Lib.hid hj
                have Hb := Lib.hid hb
                have Hsk := Lib.hid hs
                have Hsv := Lib.hid hsv
                have hltI : (k2 : Int) < (ws.length : Int) := by omega
                clear hs hbl0 hob0 hsv hj hb
                go_wp2_with fail
                go_loopw [24] (fun v24 wr2 => ∃ j : Nat, j ≤ s.bs.length ∧ v24 = .int .i64 j ∧ NJ X7 p o r w wr2 d2 d2 ∧ PB wr2 (.slice a7 ws.length c7) ws) (fun v _ => s.bs.length - (intOf v).toNat)
                case atStart => exact ⟨0, by omega, rfl, Hj.out, Hb.out⟩
                case round =>
                  clear Hj Hb
                  obtain ⟨j, hjl, rfl, hj, hb⟩ := hrel
                  generalize wr = wo2 at *
                  obtain ⟨gr, offr, hav, _, _, hcr, _, _⟩ := hb.rows.rowAt PS.c3_len Hsk.out hlt
                  have r5 : wo2.cell? ⟨gr, offr + k2 * 3 + 2, none⟩ = some s.bv := hcr 2 _ (by omega) rfl
                  rw [Hsv.out] at r5
                  subst hav
                  have hsl : s.bs.length ≤ 9223372036854775807 := by
                    obtain ⟨bs0, hbl0, hob0⟩ := hb.bytes s Hs.out
                    exact pb_len hob0
                  by_cases hlt2 : j < s.bs.length
                  · obtain ⟨bs0, hbl0, hob0⟩ := hb.bytes s Hs.out
                    obtain ⟨y, hy⟩ : ∃ y, bs0[j]? = some y := ⟨_, List.getElem?_eq_getElem (by omega)⟩
                    obtain ⟨g, off, cap, hv9, _, _, _, _, hcell⟩ := hob0.form (by omega)
                    rw [Hsv.out] at hv9
                    injection hv9 with e1 _ e3
                    subst e1 e3
                    have y0 := hcell j (u8 y) (by rw [List.getElem?_map, hy]; rfl)
                    unfold u8 at y0
                    have fy : wo2.frozen? ⟨g, off + j, none⟩ = false := by
                      rw [Hsv.out] at hob0
                      exact hob0.free (off + j)
                    have hltI2 : (j : Int) < (s.bs.length : Int) := by omega
                    obtain ⟨z, hz⟩ := xor_255 y
                    have Hj := Lib.hid hj
                    have Hb := Lib.hid hb
                    clear hj hb hob0 hcell hy hcr hbl0
                    go_wp2_with fail
                    refine wp_region_quiet_tail 16 (by kernel_rfl) (by kernel_rfl) ?_
                    simp only [List.take_succ_cons, List.take_zero, List.drop_succ_cons, List.drop_zero]
                    repeat (go_big_quiet_step (fail))
                    refine quiet_tail_end ?_
                    rintro _ ⟨nq, rfl⟩
                    have hj8 := Hj.out.drewN nq
                    have hb8 := Hb.out.keep0 ((Keep.refl [] wo2).drewN nq)
                    have Y0 : (wo2.drewN nq).cell? ⟨g, off + j, none⟩ = some (.int .u8 (y.toNat : Int)) := y0
                    have FY : (wo2.drewN nq).frozen? ⟨g, off + j, none⟩ = false := fy
                    clear r5 y0 fy Hj Hb
                    generalize wo2.drewN nq = wo3 at *
                    have kw : Keep [g] wo3 (wo3.setCell ⟨g, off + j, none⟩ (.int .u8 (z.toNat : Int))) := (Keep.refl _ _).setCell (by simp) _
                    have hj9 := hj8.write kw (fun x hx => by
                      rw [show x = g by simpa using hx]
                      exact HX5.out g (mem_byteBlocks.2 ⟨s, Hs.out, by rw [Hsv.out]; rfl⟩))
                    have hb9 := hb8.write (z := z) Hs.out Hsv.out j
                    have Hrel := Lib.hid (And.intro hj9 hb9)
                    clear hj8 hb8 hj9 hb9 kw
                    go_wp2_with fail
                    go_roundw
                    case rel => exact ⟨j + 1, by omega, by go_num, Hrel.out.1, Hrel.out.2⟩
                    case measure => simp [intOf]; omega
                  · have hjn : j = s.bs.length := by omega
                    have Hrel := Lib.hid (And.intro hj hb)
                    subst hjn
                    clear hj hb hcr
                    go_wp2_with fail
                    go_roundw
                    case rel => exact ⟨k2 + 1, by omega, by go_num, Hrel.out.1, Hrel.out.2⟩
                    case measure => simp [intOf]; omega
              · have hkn : k2 = ws.length := by omega
                have HF := Lib.hid (hj.sub (Y := []) (by simp))
                subst hkn
                clear hj hb
                generalize wo = wq at *
                go_wp2_with fail
                go_roundw
                case rel => exact ⟨i + 1, _, by omega, by go_num, HF.out⟩
                case measure => simp [intOf]; omega
      · have hin : i = l.length := by omega
        subst hin
        as_aux_lemma =>
          have hs := Lib.hid (nj_way hj.drew)
          have hrb := hj.refL
          obtain ⟨vr0, rs0, zr0, hrl0, hrd0⟩ := hrb
          obtain ⟨ar, cr, rfl⟩ : ∃ ar cr, vr0 = .slice ar rs0.length cr := by obtain ⟨a, c, h, _⟩ := hrl0; exact ⟨a, c, h⟩
          have hlt0 := World.block_lt_of_cell? _ _ zr0
          have Hrl := Lib.hid hrl0
          have Hrd := Lib.hid hrd0
          have Hj := Lib.hid hj
          clear hj hrl0 hrd0
          go_wp2_with fail
          go_region_held3 (fun w' => w'.cell? ⟨r, 0, none⟩ = some (.slice ar rs0.length cr)) (first | assumption | go_keep)
            (first
              | (go_at_call 11; refine hs.out.mono ?_; rintro e w7 ⟨v7, ws, rfl, hd7, hpi, h7, hk7⟩; obtain ⟨a7, c7, rfl⟩ := hpi.rows.shape; have y1 : w7.cell? ⟨r, 0, none⟩ = some (.slice ar rs0.length cr) := (((Keep.refl [] wr).drew.trans hk7 (by simp)).cell (p := ⟨r, 0, none⟩) hlt0 (by simp)).trans zr0; have hc := Lib.hid (same_spec (ParcelsIn.of hpi) (Hrl.out.keep0 ((Keep.refl [] wr).drew.trans hk7 (by simp))) (by rw [hd7, Hrd.out]) (by have := h7.small.1; rw [← hd7, List.length_map] at this; omega)))
              | (go_at_call 17; go_must (refine hc.out.mono ?_; rintro e w8 ⟨rfl, hk8⟩; have y2 : w8.cell? ⟨r, 0, none⟩ = some (.slice ar rs0.length cr) := ((((Keep.refl [] wr).drew.trans hk7 (by simp)).trans hk8 (by simp)).cell (p := ⟨r, 0, none⟩) hlt0 (by simp)).trans zr0)))
          have HF : Hid (Keep [] w w8) := Lib.hid (h7.out.trans hk8 (by simp))
          clear hs zr0 hlt0 Hrl Hrd Hj y1 y2 hc hpi h7 hk7 hk8 hd7
          go_wp2_with fail
          go_ret
          exact ⟨rfl, HF.out⟩
theorem walk_netPlays {H : Type} {enc : TypeId × Value → H} (W : World) {v1 : Value} {d1 : DataW H} {p1 : List MemPlace} {base : Nat} (o1 : Value.okWide Try.prog W .any base 38 v1) (h1 : DataW.Trod enc Try.prog W 0 (fun _ => true) true 38 v1 d1 p1) :
    Calls Try.prog 6 #[v1] W fun e w' => e = .returned (.bool true) ∧ Below W.heap.size W w' := by
  obtain ⟨l, hl⟩ := nacts_open o1 h1
  exact (netPlays_any W v1 l hl).mono fun _ _ ⟨he, hk⟩ => ⟨he, hk.to_below⟩
end Go.Proofs.Ytolhcikgodaecaa
