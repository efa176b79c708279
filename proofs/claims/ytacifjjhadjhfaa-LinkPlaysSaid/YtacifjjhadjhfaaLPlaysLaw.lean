/- The law LinkPlays. -/
import Derived.Test.YtacifjjhadjhfaaRows
import Derived.WalkKit
import Derived.WalkSpells
import Derived.WalkLawsBesides
import Derived.RegionTactic
import Derived.ChangeAlike
import Derived.BigQuiet
import Derived.Deep.QuietTactic
import Derived.StillTailTactics
import Derived.IntWalk
import Derived.Handy
import Derived.Lib.Hide
import Derived.Deep.AppendLies
import Derived.Deep.RegionWith
import Derived.Test.YtacifjjhadjhfaaBase
import Derived.Test.YtacifjjhadjhfaaTail
import Derived.Test.YtacifjjhadjhfaaArgs
import Derived.Test.YtacifjjhadjhfaaAppend
import Derived.Deep.RegionLaw
import Derived.Test.YtacifjjhadjhfaaOffs
import Derived.Test.YtacifjjhadjhfaaStructs
import Derived.Test.YtacifjjhadjhfaaSplit
import Derived.Maps.OwnSet
import Derived.Maps.Views
import Derived.Test.YtacifjjhadjhfaaLinkBytes
import Derived.Test.YtacifjjhadjhfaaLinkObj
import Derived.Test.YtacifjjhadjhfaaLinkSend
import Derived.Test.YtacifjjhadjhfaaLinkDue
import Derived.Test.YtacifjjhadjhfaaLinkFrame
import Derived.Test.YtacifjjhadjhfaaLinkOut
import Derived.Test.YtacifjjhadjhfaaLinkOut2
import Derived.Test.YtacifjjhadjhfaaLinkOne
import Derived.Test.YtacifjjhadjhfaaLinkLive
import Derived.Test.YtacifjjhadjhfaaLinkAck
import Derived.Test.YtacifjjhadjhfaaLinkAck2
import Derived.Test.YtacifjjhadjhfaaLinkGot
import Derived.Test.YtacifjjhadjhfaaLinkGot2
import Derived.Test.YtacifjjhadjhfaaLinkGot3
import Derived.Test.YtacifjjhadjhfaaLinkInn
import Derived.Test.YtacifjjhadjhfaaLinkX2
import Derived.Deep.CutRange
import Derived.Deep.DeepCutAuto
import Derived.BigRegion
import Derived.Test.YtacifjjhadjhfaaRLink
import Derived.Test.YtacifjjhadjhfaaRLink2
import Derived.Test.YtacifjjhadjhfaaRLink3
import Derived.Laws.BytesArg
import Derived.Test.YtacifjjhadjhfaaRLink5
import Derived.Test.YtacifjjhadjhfaaRLink6
import Derived.Test.YtacifjjhadjhfaaRLink4
import Derived.Test.YtacifjjhadjhfaaLSim
import Derived.Test.YtacifjjhadjhfaaLinkIn2
import Derived.Test.YtacifjjhadjhfaaRLinkJ
import Derived.Deep.RegionHeld3
namespace Go.Proofs.Ytacifjjhadjhfaa
open Go.RowKit
theorem LActsOf.in_ {w : World} {v : Value} {l : List LA} {i : Nat} {x : LA} (h : LActsOf w v l) (hx : l[i]? = some x) : x.In w := by
  obtain ⟨a, c, _, h⟩ := h
  obtain ⟨b, off, _, _, _, _, _, _, _, _, _, _, _, h⟩ := h i x hx
  exact h
structure FB (w : World) (v : Value) (fs : List FR) : Prop where
  rows : OwnsAt w 0 46 6 v fs.length (fs.flatMap FR.c)
  bytes : ∀ s ∈ fs, ∃ bs' : List UInt8, bs'.length = s.bs.length ∧ OwnsAt w 0 5 1 s.bv s.bs.length (bs'.map u8)
  nodup : (frBlocks fs).Nodup
theorem fb_of {w : World} {B : Nat} {v : Value} {fs : List FR} (h : FramesIn w B v fs) : FB w v fs :=
  ⟨h.rows.mono (Nat.zero_le _), fun s hs => ⟨s.bs, rfl, OwnsAt.mono (h.bytes s hs) (Nat.zero_le _)⟩, h.nodup⟩
theorem FB.keep0 {w w' : World} {v : Value} {fs : List FR} (h : FB w v fs) (k : Keep [] w w') : FB w' v fs :=
  ⟨h.rows.keep k (by simp), fun s hs => by
    obtain ⟨bs', h1, h2⟩ := h.bytes s hs
    exact ⟨bs', h1, h2.keep k (by simp)⟩, h.nodup⟩
theorem fb_len {w : World} {v : Value} {n : Nat} {xs : List Value} (h : OwnsAt w 0 5 1 v n xs) : n ≤ 9223372036854775807 := by
  rcases h.2 with ⟨_, h0⟩ | ⟨g, off, cap, cur, _, _, _, h1, h2, _⟩
  · omega
  · unfold maxLen at h2
    omega
theorem fr_same {fs : List FR} {s t : FR} {x : Nat} : (frBlocks fs).Nodup → s ∈ fs → t ∈ fs → s.bv.ownBlock = some x → t.bv.ownBlock = some x → s = t := by
  induction fs with
  | nil => intro _ hs; cases hs
  | cons a l ih =>
    intro hn hs ht hx hy
    have hn' : (ownBlocks a.bv ++ frBlocks l).Nodup := hn
    obtain ⟨_, n2, n3⟩ := List.nodup_append.1 hn'
    rcases List.mem_cons.1 hs with h1 | h1
    · rcases List.mem_cons.1 ht with h2 | h2
      · rw [h1, h2]
      · exact absurd rfl (n3 x (mem_own.2 (h1 ▸ hx)) x (mem_frBlocks.2 ⟨t, h2, hy⟩))
    · rcases List.mem_cons.1 ht with h2 | h2
      · exact absurd rfl (n3 x (mem_own.2 (h2 ▸ hy)) x (mem_frBlocks.2 ⟨s, h1, hx⟩))
      · exact ih n2 h1 h2 hx hy
theorem FB.write {w : World} {v : Value} {fs : List FR} {s : FR} {g off c : Nat} {z : UInt8} (h : FB w v fs) (hs : s ∈ fs) (hv : s.bv = .slice (some ⟨g, off, none⟩) s.bs.length c) (j : Nat) : FB (w.setCell ⟨g, off + j, none⟩ (.int .u8 (z.toNat : Int))) v fs := by
  have kw : Keep [g] w (w.setCell ⟨g, off + j, none⟩ (.int .u8 (z.toNat : Int))) := (Keep.refl _ _).setCell (by simp) _
  obtain ⟨bs0, hl0, ho0⟩ := h.bytes s hs
  refine ⟨h.rows.keep kw (fun x hx hm => ?_), fun t ht => ?_, h.nodup⟩
  · have : x = g := by simpa using hm
    subst this
    exact OwnsAt.ne_own h.rows ho0 (by decide) x hx (by rw [hv]; rfl)
  · by_cases hg : t.bv.ownBlock = some g
    · have : t = s := fr_same h.nodup ht hs hg (by rw [hv]; rfl)
      subst this
      rw [hv] at ho0 ⊢
      have h1 := ho0.set_ j (.int .u8 (z.toNat : Int))
      refine ⟨bs0.set j z, by simpa using hl0, ?_⟩
      rw [show (bs0.set j z).map u8 = (bs0.map u8).set j (.int .u8 (z.toNat : Int)) by rw [List.map_set]; rfl]
      exact h1
    · obtain ⟨bs', h1, h2⟩ := h.bytes t ht
      exact ⟨bs', h1, h2.keep kw (fun x hx hm => hg (by rw [show g = x from (by simpa using hm : x = g).symm]; exact hx))⟩
theorem runK_outs : ∀ (f : Nat) (u : Int) (l : List LD), (runK f u l).2.2.length ≤ l.length
  | 0, _, _ => by simp [runK]
  | f + 1, u, l => by
    unfold runK
    cases hf : l.find? (fun s => s.seq == u + 1) with
    | none => simp
    | some s =>
      have i1 := runK_outs f (u + 1) (l.filter fun s => s.seq != u + 1)
      have hlt : (l.filter fun s => s.seq != u + 1).length < l.length := by
        rcases Nat.lt_or_ge (l.filter fun s => s.seq != u + 1).length l.length with h | h
        · exact h
        · have h1 := List.filter_sublist.eq_of_length_le h
          have h2 := List.filter_eq_self.1 h1 s (List.mem_of_find?_eq_some hf)
          have h3 := List.find?_some hf
          simp at h2 h3
          exact absurd h3 h2
      simp only [List.length_cons]
      omega
theorem outs_len (q : LK) (sq ack : Int) (bs : List UInt8) (bv : Value) : (inR (ackd q ack) sq bs bv).2.2.length ≤ q.kept.length + 1 := by
  unfold inR
  split
  · have := runK_outs ((ackd q ack).kept.length + 2) (ackd q ack).upto ((ackd q ack).kept ++ [⟨sq, 0, 0, bs, bv⟩])
    rw [List.length_append, List.length_singleton] at this
    exact this
  · simp
theorem xor_key : ∀ x : Fin 256, 0 ≤ bits BinOp.xor IntKind.u8 (x.val : Int) 255 ∧ bits BinOp.xor IntKind.u8 (x.val : Int) 255 < 256 := by decide +kernel
theorem xor_u8 (y : UInt8) : ∃ z : UInt8, bits BinOp.xor IntKind.u8 (y.toNat : Int) 255 = (z.toNat : Int) := by
  have h := xor_key ⟨y.toNat, y.toNat_lt⟩
  simp only at h
  refine ⟨UInt8.ofNat (bits BinOp.xor IntKind.u8 (y.toNat : Int) 255).toNat, ?_⟩
  rw [UInt8.toNat_ofNat_of_lt' (by have : UInt8.size = 256 := rfl; omega)]
  omega
set_option maxHeartbeats 40000000 in
set_option maxRecDepth 100000 in
theorem linkPlays_any (w : World) (self peer life theirs last : Int) (v : Value) (l : List LA) (hv : LActsOf w v l) (hlast : last ≤ 9223372036854775807) : Calls Try.prog 7 #[.int .i64 self, .int .i64 peer, .int .i64 life, .int .i64 theirs, .int .i64 last, v] w fun e w' => e = .returned (.bool true) ∧ Keep [] w w' := by
  obtain ⟨a, c, rfl⟩ : ∃ a c, v = .slice a l.length c := by obtain ⟨a, c, h, _⟩ := hv; exact ⟨a, c, h⟩
  have Hv := Lib.hid hv
  have Hlast := Lib.hid hlast
  clear hv hlast
  go_enter Try.func7, Try.ntmps7
  go_wp2_with fail
  refine (alive_spec _).mono ?_
  rintro e w1 ⟨rfl, k1⟩
  go_wp2_with fail
  refine (big_spec (Hv.out.keep0 k1)).mono ?_
  rintro e w2 ⟨b, rfl, k2, hfits⟩
  have k2' := Lib.hid (k1.trans k2 (by simp))
  clear k1 k2
  cases b with
  | true =>
    clear hfits
    go_wp2
    go_ret
    exact ⟨rfl, k2'.out⟩
  | false =>
    have Hfits := Lib.hid (hfits rfl)
    clear hfits
    go_wp2_with fail
    refine (lj_new self peer life theirs last k2'.out).mono ?_
    rintro e w3 ⟨p, rfl, h3⟩
    have H3 := Lib.hid h3
    clear h3 k2'
    go_wp2_with fail
    go_loopw [17, 18, 19, 20, 21, 22, 23, 24, 25, 26, 27, 28] (fun v17 _ _ _ _ _ _ _ _ _ _ _ wr => ∃ (i : Nat) (q q' : LK), i ≤ l.length ∧ v17 = .int .i64 i ∧ LJ [] p w3.heap.size w wr q q' ∧ Sim q q' ∧ LGood q i) (fun v _ _ _ _ _ _ _ _ _ _ _ _ => l.length - (intOf v).toNat)
    case atStart => exact ⟨0, _, _, by omega, rfl, H3.out _ rfl, Sim.refl _, good_newL Hlast.out⟩
    case round =>
      clear H3
      obtain ⟨i, q, q', hi, rfl, hj, hsim, hgood⟩ := hrel
      have h200 : (l.length : Int) ≤ 200 := by have := Hfits.out.1; omega
      by_cases hlt : i < l.length
      · obtain ⟨x, hx⟩ : ∃ x, l[i]? = some x := ⟨_, List.getElem?_eq_getElem hlt⟩
        have hfit := Hfits.out.2 x (List.mem_of_getElem? hx)
        have hvo := Hv.out
        have hvk := hvo.keep0 hj.out
        have hin := hvo.in_ hx
        obtain ⟨a', c', hva, hcells⟩ := hvk
        cases hva
        obtain ⟨b, off, rfl, hb, e0, e1, e2, e3, e4, e5, e6, e7, e8, _⟩ := hcells i x hx
        obtain ⟨way, now, bs, xv, f⟩ := x
        obtain ⟨va, vc, hxv⟩ := hin.bytes.shape
        obtain ⟨fa, fc, hfv⟩ := hin.fr.bytes.shape
        simp only at e0 e1 e2 e3 e4 e5 e6 e7 e8 hxv hfv
        subst hxv
        rw [hfv] at e8
        have hby := hin.bytes
        have hfb := hin.fr.bytes
        rw [hfv] at hfb
        have hfs := hin.fr.sq
        have hkA0 : Keep [] wr (wr.alloc (.cells #[.int .i64 way, .int .i64 now, .slice va bs.length vc, .int .i64 f.fr, .int .i64 f.to, .int .i64 f.life, .int .i64 f.sq, .int .i64 f.ack, .slice fa f.bs.length fc] 67)) := (Keep.refl _ _).alloc _
        have hblk : Blk (wr.alloc (.cells #[.int .i64 way, .int .i64 now, .slice va bs.length vc, .int .i64 f.fr, .int .i64 f.to, .int .i64 f.life, .int .i64 f.sq, .int .i64 f.ack, .slice fa f.bs.length fc] 67)) wr.heap.size 67 [.int .i64 way, .int .i64 now, .slice va bs.length vc, .int .i64 f.fr, .int .i64 f.to, .int .i64 f.life, .int .i64 f.sq, .int .i64 f.ack, .slice fa f.bs.length fc] := Blk.new' _ _ _ _ rfl
        have h4 : LJ [wr.heap.size] p w3.heap.size w (wr.alloc (.cells #[.int .i64 way, .int .i64 now, .slice va bs.length vc, .int .i64 f.fr, .int .i64 f.to, .int .i64 f.life, .int .i64 f.sq, .int .i64 f.ack, .slice fa f.bs.length fc] 67)) q q' := by
          have := hj.fresh (Y := [wr.heap.size]) hkA0 (by simp)
          simpa using this
        have hkA : Keep [] w (wr.alloc (.cells #[.int .i64 way, .int .i64 now, .slice va bs.length vc, .int .i64 f.fr, .int .i64 f.to, .int .i64 f.life, .int .i64 f.sq, .int .i64 f.ack, .slice fa f.bs.length fc] 67)) := hj.out.trans hkA0 (by simp)
        have hbl := hfit.b1
        have hfl := hfit.b2
        have hn1 := hfit.n1
        have hn2 := hfit.n2
        simp only at hbl hfl hn1 hn2 hby hfb hfs
        have Hby := Lib.hid hby
        have Hfb := Lib.hid hfb
        have Hfs := Lib.hid hfs
        have Sq := Lib.hid hsim
        have Gq := Lib.hid hgood
        have hltI : (i : Int) < (l.length : Int) := by omega
        have hi200 : i ≤ 200 := by omega
        have hI200 : (i : Int) ≤ 200 := by omega
        clear hcells hvo hin hfit hby hfb hfs hsim hgood hj hkA0 hx hfv
        generalize hwA : wr.alloc (.cells #[.int .i64 way, .int .i64 now, .slice va bs.length vc, .int .i64 f.fr, .int .i64 f.to, .int .i64 f.life, .int .i64 f.sq, .int .i64 f.ack, .slice fa f.bs.length fc] 67) = wA at *
        generalize hg9 : wr.heap.size = g9 at *
        have z0 : wA.cell? ⟨g9, 0, none⟩ = some (.int .i64 way) := hblk.cell 0
        have z1 : wA.cell? ⟨g9, 1, none⟩ = some (.int .i64 now) := hblk.cell 1
        have z2 : wA.cell? ⟨g9, 2, none⟩ = some (.slice va bs.length vc) := hblk.cell 2
        have z3 : wA.cell? ⟨g9, 3, none⟩ = some (.int .i64 f.fr) := hblk.cell 3
        have z4 : wA.cell? ⟨g9, 4, none⟩ = some (.int .i64 f.to) := hblk.cell 4
        have z5 : wA.cell? ⟨g9, 5, none⟩ = some (.int .i64 f.life) := hblk.cell 5
        have z6 : wA.cell? ⟨g9, 6, none⟩ = some (.int .i64 f.sq) := hblk.cell 6
        have z7 : wA.cell? ⟨g9, 7, none⟩ = some (.int .i64 f.ack) := hblk.cell 7
        have z8 : wA.cell? ⟨g9, 8, none⟩ = some (.slice fa f.bs.length fc) := hblk.cell 8
        rcases (show way = 0 ∨ way = 1 ∨ (way ≠ 0 ∧ way ≠ 1) by omega) with hw | hw | ⟨hw, hw'⟩
        · subst hw
          go_wp2_with (at_builtin; refine wpList_append_off rfl _ _ rfl Try.bytes35 wA.heap.size (.slice none 0 0) 0 [] rfl (OwnsAt.nil _ _ _ _) _ bs.length _ rfl (SrcOf.of_bytes (Hby.out.keep0 hkA)) (by simp [u8, Value.oneCell']) (by unfold maxLen; omega) (by omega) (by omega) ?_)
          intro v19 w5 ho5 k5 _
          have k5 : Keep [] wA w5 := k5
          have ho5 : OwnB w5 wA.heap.size v19 bs := by unfold OwnB; simpa using ho5
          have h5 : LJ (ownBlocks v19 ++ [g9]) p w3.heap.size w w5 q q' := h4.fresh k5 (fun x hx => OwnsAt.lt ho5 x (mem_own.1 hx))
          obtain ⟨a9, c9, rfl⟩ := OwnsAt.shape ho5
          have hb5 := hblk.keep k5 (by simp)
          have hs := Lib.hid (lj_send h5 (bytes_of_off ho5) (fun x hx => List.mem_append_left _ hx) Gq.out hbl)
          have Ho5 := Lib.hid ho5
          have Hb5 := Lib.hid hb5
          clear z0 z1 z2 z3 z4 z5 z6 z7 z8 ho5 k5 hb5 h5 h4 hblk
          go_wp2_with fail
          refine hs.out.mono ?_
          rintro e w6 ⟨q2, rfl, hst, h6, hkx⟩
          have Ho6 := Lib.hid (hkx.own Ho5.out (fun x hx => List.mem_append_left _ hx))
          have Hb6 := Lib.hid (hkx.blk Hb5.out (List.mem_append_right _ (by simp)))
          have Hst := Lib.hid hst
          have H6 := Lib.hid h6
          have HG : Hid (LGood q2 (i + 1)) := Lib.hid (Gq.out.sent hbl hst)
          clear hs hst h6 hkx Ho5 Hb5
          generalize hC : sendCode q bs = C at *
          have hC' : sendCode q' bs = C := by rw [← sendCode_sim Sq.out]; exact hC
          have hCb : 0 ≤ C ∧ C ≤ 1000 := by rw [← hC]; unfold sendCode; repeat' split
                                            all_goals omega
          have HC' := Lib.hid hC'
          clear hC hC'
          go_wp2_with fail
          go_loopw [21] (fun v21 wr2 => ∃ (k : Nat) (bs2 : List UInt8), k ≤ bs.length ∧ v21 = .int .i64 k ∧ bs2.length = bs.length ∧ OwnsAt wr2 0 5 1 (.slice a9 bs.length c9) bs.length (bs2.map u8) ∧ LJ (ownBlocks (.slice a9 bs.length c9) ++ [g9]) p w3.heap.size w wr2 q2 q' ∧ Blk wr2 g9 67 [.int .i64 0, .int .i64 now, .slice va bs.length vc, .int .i64 f.fr, .int .i64 f.to, .int .i64 f.life, .int .i64 f.sq, .int .i64 f.ack, .slice fa f.bs.length fc]) (fun v _ => bs.length - (intOf v).toNat)
          case atStart => exact ⟨0, bs, by omega, rfl, rfl, OwnsAt.mono Ho6.out (Nat.zero_le _), H6.out, Hb6.out⟩
          case round =>
            clear Ho6 H6 Hb6
            obtain ⟨k, bs2, hk, rfl, hl2, hob, hj, hb⟩ := hrel
            generalize wr = wo at *
            by_cases hlt : k < bs.length
            · obtain ⟨y, hy⟩ : ∃ y, bs2[k]? = some y := ⟨_, List.getElem?_eq_getElem (by omega)⟩
              obtain ⟨g, off, cap, hv9, _, _, _, _, hcell⟩ := hob.form (by omega)
              injection hv9 with e1 _ e3
              subst e1 e3
              have y0 := hcell k (u8 y) (by rw [List.getElem?_map, hy]; rfl)
              unfold u8 at y0
              have fy := hob.free (off + k)
              have hltI : (k : Int) < (bs.length : Int) := by omega
              obtain ⟨z, hz⟩ := xor_u8 y
              have H8 := Lib.hid hj
              have Hb8 := Lib.hid hb
              have Hob8 := Lib.hid hob
              clear hj hb hob hcell hy
              have hgg : g ≠ g9 := fun e => OwnsAt.ne_blk Hob8.out Hb8.out (by decide) (by rw [← e]; rfl)
              have kw : Keep [g] wo (wo.setCell ⟨g, off + k, none⟩ (.int .u8 (z.toNat : Int))) := (Keep.refl _ _).setCell (by simp) _
              have hj9 := H8.out.write kw (fun x hx => by rw [show x = g by simpa using hx]; simp [ownBlocks, Value.ownBlock])
              have hb9 := Hb8.out.far (p := ⟨g, off + k, none⟩) hgg.symm (.int .u8 (z.toNat : Int))
              have hob9 := Hob8.out.set_ k (.int .u8 (z.toNat : Int))
              rw [show (bs2.map u8).set k (.int .u8 (z.toNat : Int)) = (bs2.set k z).map u8 by rw [List.map_set]; rfl] at hob9
              have Hrel := Lib.hid (And.intro hob9 (And.intro hj9 hb9))
              have hl3 : (bs2.set k z).length = bs.length := by simpa using hl2
              clear H8 Hb8 Hob8 hob9 hj9 hb9 kw
              go_wp2_with fail
              go_roundw
              case rel => exact ⟨k + 1, bs2.set k z, by omega, by go_num, hl3, Hrel.out.1, Hrel.out.2.1, Hrel.out.2.2⟩
              case measure => simp [intOf]; omega
            · have hkn : k = bs.length := by omega
              have H8 := Lib.hid hj
              have Hb8 := Lib.hid hb
              have s1 : wo.cell? ⟨g9, 2, none⟩ = some (.slice va bs.length vc) := hb.cell 2
              have gr : Hid (∀ wx, LJ (ownBlocks (.slice a9 bs.length c9) ++ [g9]) p w3.heap.size w wx q2 q' → Calls Try.prog 20 #[.pointer (some ⟨w3.heap.size, 0, none⟩), .slice va bs.length vc] wx fun e w' => ∃ q2', e = .returned (.int .i64 C) ∧ SentTo q' bs C q2' ∧ LJ (ownBlocks (.slice a9 bs.length c9) ++ [g9]) p w3.heap.size w w' q2 q2' ∧ KX (ownBlocks (.slice a9 bs.length c9) ++ [g9]) w wx w') := Lib.hid (fun wx h => by
                have := lj_sendR h Hby.out (Gq.out.sim Sq.out) hbl
                rw [HC'.out] at this
                exact this)
              have hCC : (C != C) = false := by simp
              have hCI : 0 ≤ C ∧ C ≤ 1000 := hCb
              subst hkn
              clear hj hb hob hCb
              go_wp2_with fail
              go_region_held3 (fun w' => w'.cell? ⟨g9, 2, none⟩ = some (.slice va bs.length vc)) (first | assumption | go_keep)
                (first
                  | (go_at_call 19; refine (num_spec _ C hCI).mono ?_; rintro e y1 ⟨rfl, rfl⟩)
                  | (go_at_call 20; go_must (refine (gr.out _ H8.out.drew).mono ?_; rintro e y2 ⟨q2', rfl, hst2, hj2, hkx2⟩; have t1 : y2.cell? ⟨g9, 2, none⟩ = some (.slice va bs.length vc) := (hkx2.blk Hb8.out.drew (List.mem_append_right _ (by simp))).cell 2)))
              have HJ := Lib.hid hj2
              have HSim : Hid (Sim q2 q2') := Lib.hid (sent_sim Sq.out Hst.out hst2)
              clear hst2 hj2 hkx2 t1 s1 gr hCC hCI H8 Hb8
              generalize y2 = wq at *

              have hgl := HG.out.ol
              have Ho : Hid (∀ m, Calls Try.prog 13 #[.pointer (some ⟨p, 0, none⟩)] (wq.drewN m) (Same' (.int .i64 q2.open_.length) (wq.drewN m))) := Lib.hid (fun m => lj_open (HJ.out.drewN m))
              have HoR : Hid (∀ m, Calls Try.prog 24 #[.pointer (some ⟨w3.heap.size, 0, none⟩)] (wq.drewN m) (Same' (.int .i64 q2.open_.length) (wq.drewN m))) := Lib.hid (fun m => by rw [HSim.out.olen]; exact lj_openR (HJ.out.drewN m))
              have Hse : Hid (∀ m, Calls Try.prog 25 #[.pointer (some ⟨p, 0, none⟩)] (wq.drewN m) (Same' (.int .i64 q2.seq) (wq.drewN m))) := Lib.hid (fun m => lj_seq (HJ.out.drewN m))
              have z5 : wq.cell? ⟨w3.heap.size, 5, none⟩ = some (.int .i64 q2.seq) := by rw [HSim.out.seq]; exact HJ.out.seqR
              have n1 : ((q2.open_.length : Int) != (q2.open_.length : Int)) = false := by simp
              have n2 : (q2.seq != q2.seq) = false := by simp
              have n3 : decide ((8 : Int) < (q2.open_.length : Int)) = false := by simp; omega
              clear hgl
              go_wp2_with fail
              go_quiet (first | (go_at_call 13; exact same_quiet (Ho.out _)) | (go_at_call 24; exact same_quiet (HoR.out _)) | (go_at_call 25; exact same_quiet (Hse.out _)))
              have Hrel := Lib.hid ((HJ.out.drewN nq).sub (Y := []) (by simp))
              clear HJ Ho HoR Hse z5 n1 n2 n3
              go_wp2
              go_roundw
              case rel => exact ⟨i + 1, q2, q2', by omega, by go_num, Hrel.out, HSim.out, HG.out⟩
              case measure => simp [intOf]; omega
        · subst hw
          have hs := Lib.hid (lj_out now h4 Gq.out (by omega) ⟨hn2, hn1⟩)
          clear z2 z3 z4 z5 z6 z7 z8 h4
          go_wp2_with fail
          refine hs.out.mono ?_
          rintro e w5 ⟨v22, fs, rfl, hfd, hfs, hj5, hkx⟩
          have hb5 := hkx.blk hblk (by simp)
          have s1 : w5.cell? ⟨g9, 1, none⟩ = some (.int .i64 now) := hb5.cell 1
          have hlen8 : fs.length ≤ 9 := by
            have h1 := congrArg List.length hfd
            rw [List.length_map] at h1
            rw [h1]
            have := Gq.out.ol
            have h2 : (outD q now q.open_).length ≤ q.open_.length := by
              unfold outD
              rw [List.length_map]
              exact List.length_filter_le _ _
            unfold outF
            split
            · simp
            · omega
          obtain ⟨a22, c22, rfl⟩ := hfs.rows.shape
          have hs2 := Lib.hid (lj_outR now hj5 (Gq.out.sim Sq.out) (by omega) ⟨hn2, hn1⟩)
          have Hfs5 := Lib.hid hfs
          have Hfd := Lib.hid hfd
          clear hs z0 z1 hfd hfs hj5 hkx hblk hb5
          go_wp2_with fail
          refine hs2.out.mono ?_
          rintro e w6 ⟨v', fs', rfl, hfd', hfs', hj6, hkx6⟩
          have hfs6 := Hfs5.out.kx hkx6 (fun x hx => List.mem_append_left _ hx) (fun x hx => List.mem_append_right _ (List.mem_append_left _ hx))
          have hc := Lib.hid (frames_spec hfs6 hfs' (by rw [Hfd.out, hfd']; exact outF_sim Sq.out now) (by omega))
          obtain ⟨av', cv', rfl⟩ := hfs'.rows.shape
          have H6 := Lib.hid hj6
          have Hfs6 := Lib.hid hfs6
          clear hs2 hfd' hfs' hj6 hkx6 hfs6 s1 Hfs5
          go_wp2_with fail
          refine hc.out.mono ?_
          rintro e w7 ⟨rfl, hk7⟩
          have h7 := H6.out.keep0 hk7
          have hfb7 := fb_of (Hfs6.out.keep hk7 (by simp))
          have H7 := Lib.hid h7
          have Hfb7 := Lib.hid hfb7
          have HSim : Hid (Sim (outL q now) (outL q' now)) := Lib.hid (outL_sim Sq.out now)
          have HG : Hid (LGood (outL q now) (i + 1)) := Lib.hid (Gq.out.out ⟨hn2, hn1⟩)
          generalize outL q now = q2 at *
          generalize outL q' now = q2' at *
          obtain ⟨X5, hX5⟩ : ∃ X5, X5 = ownBlocks (.slice a22 fs.length c22) ++ (frBlocks fs ++ [g9]) := ⟨_, rfl⟩
          have HX5 := Lib.hid (show ∀ x ∈ frBlocks fs, x ∈ X5 from fun x hx => by rw [hX5]; exact List.mem_append_right _ (List.mem_append_left _ hx))
          rw [← hX5] at H7
          have hlenI : (fs.length : Int) ≤ 9 := by omega
          clear hc h7 hfb7 hk7 H6 Hfs6 hX5
          go_wp2_with fail
          go_loopw [23, 24] (fun v23 _ wr2 => ∃ k : Nat, k ≤ fs.length ∧ v23 = .int .i64 k ∧ LJ X5 p w3.heap.size w wr2 q2 q2' ∧ FB wr2 (.slice a22 fs.length c22) fs) (fun v _ _ => fs.length - (intOf v).toNat)
          case atStart => exact ⟨0, by omega, rfl, H7.out, Hfb7.out⟩
          case round =>
            clear H7 Hfb7
            obtain ⟨k, hk, rfl, hj, hb⟩ := hrel
            generalize wr = wo at *
            by_cases hlt : k < fs.length
            · obtain ⟨s, hs⟩ : ∃ s, fs[k]? = some s := ⟨_, List.getElem?_eq_getElem hlt⟩
              obtain ⟨bs0, hbl0, hob0⟩ := hb.bytes s (List.mem_of_getElem? hs)
              obtain ⟨sa, sc, hsv⟩ := hob0.shape
              have Hs := Lib.hid (List.mem_of_getElem? hs)
              have Hj := Lib.hid hj
              have Hb := Lib.hid hb
              have Hsk := Lib.hid hs
              have Hsv := Lib.hid hsv
              have hltI : (k : Int) < (fs.length : Int) := by omega
              clear hs hbl0 hob0 hsv hj hb
              go_wp2_with fail
              go_loopw [24] (fun v24 wr2 => ∃ j : Nat, j ≤ s.bs.length ∧ v24 = .int .i64 j ∧ LJ X5 p w3.heap.size w wr2 q2 q2' ∧ FB wr2 (.slice a22 fs.length c22) fs) (fun v _ => s.bs.length - (intOf v).toNat)
              case atStart => exact ⟨0, by omega, rfl, Hj.out, Hb.out⟩
              case round =>
                clear Hj Hb
                obtain ⟨j, hjl, rfl, hj, hb⟩ := hrel
                generalize wr = wo2 at *
                obtain ⟨gr, offr, hav, _, _, hcr, _, _⟩ := hb.rows.rowAt FR.c_len Hsk.out hlt
                have r5 : wo2.cell? ⟨gr, offr + k * 6 + 5, none⟩ = some s.bv := hcr 5 _ (by omega) rfl
                rw [Hsv.out] at r5
                subst hav
                have hsl : s.bs.length ≤ 9223372036854775807 := by
                  obtain ⟨bs0, hbl0, hob0⟩ := hb.bytes s Hs.out
                  exact fb_len hob0
                by_cases hlt2 : j < s.bs.length
                · obtain ⟨bs0, hbl0, hob0⟩ := hb.bytes s Hs.out
                  obtain ⟨y, hy⟩ : ∃ y, bs0[j]? = some y := ⟨_, List.getElem?_eq_getElem (by omega)⟩
                  obtain ⟨g, off, cap, hv9, _, _, _, _, hcell⟩ := hob0.form (by omega)
                  rw [Hsv.out] at hv9
                  injection hv9 with e1 _ e3
                  subst e1 e3
                  have y0 := hcell j (u8 y) (by rw [List.getElem?_map, hy]; rfl)
                  unfold u8 at y0
                  have fy : wo2.frozen? ⟨g, off + j, none⟩ = false := by
                    rw [Hsv.out] at hob0
                    exact hob0.free (off + j)
                  have hltI2 : (j : Int) < (s.bs.length : Int) := by omega
                  obtain ⟨z, hz⟩ := xor_u8 y
                  have Hj := Lib.hid hj
                  have Hb := Lib.hid hb
                  clear hj hb hob0 hcell hy hcr hbl0
                  go_wp2_with fail
                  refine wp_region_quiet_tail 16 (by kernel_rfl) (by kernel_rfl) ?_
                  simp only [List.take_succ_cons, List.take_zero, List.drop_succ_cons, List.drop_zero]
                  repeat (go_big_quiet_step (fail))
                  refine quiet_tail_end ?_
                  rintro _ ⟨nq, rfl⟩
                  have hj8 := Hj.out.drewN nq
                  have hb8 := Hb.out.keep0 ((Keep.refl [] wo2).drewN nq)
                  have Y0 : (wo2.drewN nq).cell? ⟨g, off + j, none⟩ = some (.int .u8 (y.toNat : Int)) := y0
                  have FY : (wo2.drewN nq).frozen? ⟨g, off + j, none⟩ = false := fy
                  clear r5 y0 fy Hj Hb
                  generalize wo2.drewN nq = wo3 at *
                  have kw : Keep [g] wo3 (wo3.setCell ⟨g, off + j, none⟩ (.int .u8 (z.toNat : Int))) := (Keep.refl _ _).setCell (by simp) _
                  have hj9 := hj8.write kw (fun x hx => by
                    rw [show x = g by simpa using hx]
                    exact HX5.out g (mem_frBlocks.2 ⟨s, Hs.out, by rw [Hsv.out]; rfl⟩))
                  have hb9 := hb8.write (z := z) Hs.out Hsv.out j
                  have Hrel := Lib.hid (And.intro hj9 hb9)
                  clear hj8 hb8 hj9 hb9 kw
                  go_wp2_with fail
                  go_roundw
                  case rel => exact ⟨j + 1, by omega, by go_num, Hrel.out.1, Hrel.out.2⟩
                  case measure => simp [intOf]; omega
                · have hjn : j = s.bs.length := by omega
                  have Hrel := Lib.hid (And.intro hj hb)
                  subst hjn
                  clear hj hb hcr
                  go_wp2_with fail
                  go_roundw
                  case rel => exact ⟨k + 1, by omega, by go_num, Hrel.out.1, Hrel.out.2⟩
                  case measure => simp [intOf]; omega
            · have hkn : k = fs.length := by omega
              have HJ := Lib.hid hj
              subst hkn
              clear hj hb
              generalize wo = wq at *
              have hgl := HG.out.ol
              have Ho : Hid (∀ m, Calls Try.prog 13 #[.pointer (some ⟨p, 0, none⟩)] (wq.drewN m) (Same' (.int .i64 q2.open_.length) (wq.drewN m))) := Lib.hid (fun m => lj_open (HJ.out.drewN m))
              have HoR : Hid (∀ m, Calls Try.prog 24 #[.pointer (some ⟨w3.heap.size, 0, none⟩)] (wq.drewN m) (Same' (.int .i64 q2.open_.length) (wq.drewN m))) := Lib.hid (fun m => by rw [HSim.out.olen]; exact lj_openR (HJ.out.drewN m))
              have Hse : Hid (∀ m, Calls Try.prog 25 #[.pointer (some ⟨p, 0, none⟩)] (wq.drewN m) (Same' (.int .i64 q2.seq) (wq.drewN m))) := Lib.hid (fun m => lj_seq (HJ.out.drewN m))
              have z5 : wq.cell? ⟨w3.heap.size, 5, none⟩ = some (.int .i64 q2.seq) := by rw [HSim.out.seq]; exact HJ.out.seqR
              have n1 : ((q2.open_.length : Int) != (q2.open_.length : Int)) = false := by simp
              have n2 : (q2.seq != q2.seq) = false := by simp
              have n3 : decide ((8 : Int) < (q2.open_.length : Int)) = false := by simp; omega
              clear hgl
              go_wp2_with fail
              go_quiet (first | (go_at_call 13; exact same_quiet (Ho.out _)) | (go_at_call 24; exact same_quiet (HoR.out _)) | (go_at_call 25; exact same_quiet (Hse.out _)))
              have Hrel := Lib.hid ((HJ.out.drewN nq).sub (Y := []) (by simp))
              clear HJ Ho HoR Hse z5 n1 n2 n3
              go_wp2
              go_roundw
              case rel => exact ⟨i + 1, q2, q2', by omega, by go_num, Hrel.out, HSim.out, HG.out⟩
              case measure => simp [intOf]; omega
        · have hs := Lib.hid (lj_in (fr := f.fr) (to_ := f.to) (life := f.life) (sq := f.sq) (ack := f.ack) h4 Hfb.out Gq.out (by omega) Hfs.out)
          clear z1 z2 h4
          go_wp2_with fail
          refine hs.out.mono ?_
          intro e w5 hin
          unfold InJ at hin
          by_cases hok : inOk q f.fr f.to f.life f.sq f.ack f.bs = true
          · rw [if_pos hok] at hin
            obtain ⟨bv, vr, rfl, ho5, hj5, hkx⟩ := hin
            have hb5 := hkx.blk hblk (by simp)
            have hol := outs_len q f.sq f.ack f.bs bv
            have hgl := Gq.out.un
            have hgu := Gq.out.u0
            have HG : Hid (LGood (inLk q f.sq f.ack f.bs bv) (i + 1)) := Lib.hid (Gq.out.in_ bv)
            have t3 : w5.cell? ⟨g9, 3, none⟩ = some (.int .i64 f.fr) := hb5.cell 3
            have t4 : w5.cell? ⟨g9, 4, none⟩ = some (.int .i64 f.to) := hb5.cell 4
            have t5 : w5.cell? ⟨g9, 5, none⟩ = some (.int .i64 f.life) := hb5.cell 5
            have t6 : w5.cell? ⟨g9, 6, none⟩ = some (.int .i64 f.sq) := hb5.cell 6
            have t7 : w5.cell? ⟨g9, 7, none⟩ = some (.int .i64 f.ack) := hb5.cell 7
            have t8 : w5.cell? ⟨g9, 8, none⟩ = some (.slice fa f.bs.length fc) := hb5.cell 8
            have hs2 := Lib.hid (lj_inR (fr := f.fr) (to_ := f.to) (life := f.life) (sq := f.sq) (ack := f.ack) hj5 Hfb.out (Gq.out.sim Sq.out) (by omega) Hfs.out)
            obtain ⟨ar, cr, rfl⟩ := ho5.rows.shape
            have Ho5 := Lib.hid ho5
            have Hok := Lib.hid hok
            have Hol := Lib.hid (show (inR (ackd q f.ack) f.sq f.bs bv).2.2.length ≤ 100000 by omega)
            clear hs ho5 hj5 hkx hok hb5 hblk hol hgl hgu z0 z3 z4 z5 z6 z7 z8
            go_wp2_with fail
            refine hs2.out.mono ?_
            intro e w6 hin
            unfold InJR at hin
            rw [if_pos (by rw [← inOk_sim Sq.out]; exact Hok.out)] at hin
            obtain ⟨bv', vr', rfl, ho', hj6, hkx6⟩ := hin
            have ho6 := Ho5.out.kx hkx6 (fun x hx => List.mem_append_left _ hx) (fun x hx => List.mem_append_right _ (List.mem_append_left _ hx))
            have hsim2 := inLk_sim Sq.out f.sq f.ack f.bs bv bv'
            have hc := Lib.hid (loads_spec ho6 ho' hsim2.2 Hol.out)
            obtain ⟨ar', cr', rfl⟩ := ho'.rows.shape
            have H6 := Lib.hid hj6
            have HSim := Lib.hid hsim2.1
            clear hs2 ho' ho6 hj6 hkx6 hsim2 t3 t4 t5 t6 t7 t8 Ho5
            go_wp2_with fail
            refine hc.out.mono ?_
            rintro e wq ⟨rfl, hk7⟩
            have HJ := Lib.hid (H6.out.keep0 hk7)
            clear hc hk7 H6
            generalize inLk q f.sq f.ack f.bs bv = q2 at *
            generalize inLk q' f.sq f.ack f.bs bv' = q2' at *
            have hgl := HG.out.ol
            have Ho : Hid (∀ m, Calls Try.prog 13 #[.pointer (some ⟨p, 0, none⟩)] (wq.drewN m) (Same' (.int .i64 q2.open_.length) (wq.drewN m))) := Lib.hid (fun m => lj_open (HJ.out.drewN m))
            have HoR : Hid (∀ m, Calls Try.prog 24 #[.pointer (some ⟨w3.heap.size, 0, none⟩)] (wq.drewN m) (Same' (.int .i64 q2.open_.length) (wq.drewN m))) := Lib.hid (fun m => by rw [HSim.out.olen]; exact lj_openR (HJ.out.drewN m))
            have Hse : Hid (∀ m, Calls Try.prog 25 #[.pointer (some ⟨p, 0, none⟩)] (wq.drewN m) (Same' (.int .i64 q2.seq) (wq.drewN m))) := Lib.hid (fun m => lj_seq (HJ.out.drewN m))
            have z5 : wq.cell? ⟨w3.heap.size, 5, none⟩ = some (.int .i64 q2.seq) := by rw [HSim.out.seq]; exact HJ.out.seqR
            have n1 : ((q2.open_.length : Int) != (q2.open_.length : Int)) = false := by simp
            have n2 : (q2.seq != q2.seq) = false := by simp
            have n3 : decide ((8 : Int) < (q2.open_.length : Int)) = false := by simp; omega
            clear hgl
            go_wp2_with fail
            go_quiet (first | (go_at_call 13; exact same_quiet (Ho.out _)) | (go_at_call 24; exact same_quiet (HoR.out _)) | (go_at_call 25; exact same_quiet (Hse.out _)))
            have Hrel := Lib.hid ((HJ.out.drewN nq).sub (Y := []) (by simp))
            clear HJ Ho HoR Hse z5 n1 n2 n3
            go_wp2
            go_roundw
            case rel => exact ⟨i + 1, q2, q2', by omega, by go_num, Hrel.out, HSim.out, HG.out⟩
            case measure => simp [intOf]; omega
          · rw [if_neg hok] at hin
            obtain ⟨rfl, hj5, hkx⟩ := hin
            have hb5 := hkx.blk hblk (by simp)
            have t3 : w5.cell? ⟨g9, 3, none⟩ = some (.int .i64 f.fr) := hb5.cell 3
            have t4 : w5.cell? ⟨g9, 4, none⟩ = some (.int .i64 f.to) := hb5.cell 4
            have t5 : w5.cell? ⟨g9, 5, none⟩ = some (.int .i64 f.life) := hb5.cell 5
            have t6 : w5.cell? ⟨g9, 6, none⟩ = some (.int .i64 f.sq) := hb5.cell 6
            have t7 : w5.cell? ⟨g9, 7, none⟩ = some (.int .i64 f.ack) := hb5.cell 7
            have t8 : w5.cell? ⟨g9, 8, none⟩ = some (.slice fa f.bs.length fc) := hb5.cell 8
            have hs2 := Lib.hid (lj_inR (fr := f.fr) (to_ := f.to) (life := f.life) (sq := f.sq) (ack := f.ack) hj5 Hfb.out (Gq.out.sim Sq.out) (by omega) Hfs.out)
            have HG : Hid (LGood q (i + 1)) := Lib.hid (Gq.out.mono (by omega))
            have Hok := Lib.hid hok
            clear hs hj5 hkx hok hb5 hblk z0 z3 z4 z5 z6 z7 z8
            go_wp2_with fail
            refine hs2.out.mono ?_
            intro e w6 hin
            unfold InJR at hin
            rw [if_neg (by rw [← inOk_sim Sq.out]; exact Hok.out)] at hin
            obtain ⟨rfl, hj6, hkx6⟩ := hin
            have hc := Lib.hid (loads_spec (w := w6) (B := 0) (B' := 0) (v := .slice none 0 0) (v' := .slice none 0 0) (os := []) (os' := []) ⟨OwnsAt.nil _ _ _ _, by simp⟩ ⟨OwnsAt.nil _ _ _ _, by simp⟩ rfl (by simp))
            have H6 := Lib.hid hj6
            have HSim := Sq
            clear hs2 hj6 hkx6 t3 t4 t5 t6 t7 t8
            go_wp2_with fail
            refine hc.out.mono ?_
            rintro e wq ⟨rfl, hk7⟩
            have HJ := Lib.hid (H6.out.keep0 hk7)
            clear hc hk7 H6
            obtain ⟨q2, hq2⟩ : ∃ q2, q2 = q := ⟨_, rfl⟩
            obtain ⟨q2', hq2'⟩ : ∃ q2', q2' = q' := ⟨_, rfl⟩
            rw [← hq2, ← hq2'] at HJ
            rw [← hq2] at HG
            rw [← hq2, ← hq2'] at HSim
            clear hq2 hq2'
            have hgl := HG.out.ol
            have Ho : Hid (∀ m, Calls Try.prog 13 #[.pointer (some ⟨p, 0, none⟩)] (wq.drewN m) (Same' (.int .i64 q2.open_.length) (wq.drewN m))) := Lib.hid (fun m => lj_open (HJ.out.drewN m))
            have HoR : Hid (∀ m, Calls Try.prog 24 #[.pointer (some ⟨w3.heap.size, 0, none⟩)] (wq.drewN m) (Same' (.int .i64 q2.open_.length) (wq.drewN m))) := Lib.hid (fun m => by rw [HSim.out.olen]; exact lj_openR (HJ.out.drewN m))
            have Hse : Hid (∀ m, Calls Try.prog 25 #[.pointer (some ⟨p, 0, none⟩)] (wq.drewN m) (Same' (.int .i64 q2.seq) (wq.drewN m))) := Lib.hid (fun m => lj_seq (HJ.out.drewN m))
            have z5 : wq.cell? ⟨w3.heap.size, 5, none⟩ = some (.int .i64 q2.seq) := by rw [HSim.out.seq]; exact HJ.out.seqR
            have n1 : ((q2.open_.length : Int) != (q2.open_.length : Int)) = false := by simp
            have n2 : (q2.seq != q2.seq) = false := by simp
            have n3 : decide ((8 : Int) < (q2.open_.length : Int)) = false := by simp; omega
            clear hgl
            go_wp2_with fail
            go_quiet (first | (go_at_call 13; exact same_quiet (Ho.out _)) | (go_at_call 24; exact same_quiet (HoR.out _)) | (go_at_call 25; exact same_quiet (Hse.out _)))
            have Hrel := Lib.hid ((HJ.out.drewN nq).sub (Y := []) (by simp))
            clear HJ Ho HoR Hse z5 n1 n2 n3
            go_wp2
            go_roundw
            case rel => exact ⟨i + 1, q2, q2', by omega, by go_num, Hrel.out, HSim.out, HG.out⟩
            case measure => simp [intOf]; omega
      · obtain rfl : i = l.length := by omega
        have hk := Lib.hid hj.out
        clear hj hsim hgood
        go_wp2
        go_ret
        exact ⟨rfl, hk.out⟩
theorem walk_linkPlays {H : Type} {enc : TypeId × Value → H} (W : World) {self peer life theirs last : Int} {v1 : Value} {d1 : DataW H} {p1 : List MemPlace} {base : Nat} (_ : (Lit.int .i64 self).wf = true) (_ : (Lit.int .i64 peer).wf = true) (_ : (Lit.int .i64 life).wf = true) (_ : (Lit.int .i64 theirs).wf = true) (h5 : (Lit.int .i64 last).wf = true)
    (o1 : Value.okWide Try.prog W .any base 59 v1) (h1 : DataW.Trod enc Try.prog W 0 (fun _ => true) true 59 v1 d1 p1) :
    Calls Try.prog 7 #[.int .i64 self, .int .i64 peer, .int .i64 life, .int .i64 theirs, .int .i64 last, v1] W fun e w' => e = .returned (.bool true) ∧ Below W.heap.size W w' := by
  obtain ⟨l, hl⟩ := lacts_open o1 h1
  simp [Lit.wf] at h5
  exact (linkPlays_any W self peer life theirs last v1 l hl h5.2).mono fun _ _ ⟨he, hk⟩ => ⟨he, hk.to_below⟩
end Go.Proofs.Ytacifjjhadjhfaa
