/- The reference net: Flip, Dup. -/
import Derived.Test.YtolhcikgodaecaaRows
import Derived.WalkKit
import Derived.WalkSpells
import Derived.WalkLawsBesides
import Derived.RegionTactic
import Derived.ChangeAlike
import Derived.BigQuiet
import Derived.Deep.QuietTactic
import Derived.StillTailTactics
import Derived.IntWalk
import Derived.Handy
import Derived.Lib.Hide
import Derived.Deep.AppendLies
import Derived.Deep.RegionWith
import Derived.Deep.RegionLaw
import Derived.Test.YtolhcikgodaecaaBase
import Derived.Test.YtolhcikgodaecaaTail
import Derived.Test.YtolhcikgodaecaaArgs
import Derived.Test.YtolhcikgodaecaaAppend
import Derived.Test.YtolhcikgodaecaaOffs
import Derived.Test.YtolhcikgodaecaaStructs
import Derived.Test.YtolhcikgodaecaaNetObj
import Derived.Test.YtolhcikgodaecaaNetObj2
import Derived.Test.YtolhcikgodaecaaNetSend
import Derived.Test.YtolhcikgodaecaaNetWay
import Derived.Test.YtolhcikgodaecaaNetDel
import Derived.Test.YtolhcikgodaecaaNetSmall
import Derived.Test.YtolhcikgodaecaaSplit
import Derived.Test.YtolhcikgodaecaaNetSmall
import Derived.Test.YtolhcikgodaecaaNetFlip
import Derived.Test.YtolhcikgodaecaaNetDup
import Derived.Deep.CutRange
import Derived.Deep.DeepCutAuto
import Derived.BigRegion
import Derived.Test.YtolhcikgodaecaaRNet
import Derived.Test.YtolhcikgodaecaaRNet2
import Derived.Test.YtolhcikgodaecaaRNet3
namespace Go.Proofs.Ytolhcikgodaecaa
open Go.RowKit
theorem bb_set {ss : List PS} {k : Nat} {s s' : PS} (h : ss[k]? = some s) (hb : s'.bv = s.bv) : byteBlocks (ss.set k s') = byteBlocks ss := by
  have e : ∀ l : List PS, byteBlocks l = (l.map PS.bv).flatMap ownBlocks := fun l => by unfold byteBlocks; rw [List.flatMap_map]
  rw [e, e]
  congr 1
  rw [List.map_set, hb]
  apply List.ext_getElem?
  intro i
  have hk : k < ss.length := by
    rcases Nat.lt_or_ge k ss.length with h' | h'
    · exact h'
    · rw [List.getElem?_eq_none h'] at h; cases h
  by_cases hik : k = i
  · subst hik
    rw [List.getElem?_set_self (by simpa using hk), List.getElem?_map, h]
    rfl
  · rw [List.getElem?_set_ne hik]
theorem flat_set_same {ss : List PS} {k : Nat} {s s' : PS} (h : ss[k]? = some s) (hc : s'.c3 = s.c3) : (ss.set k s').flatMap PS.c3 = ss.flatMap PS.c3 := by
  have e : ∀ l : List PS, l.flatMap PS.c3 = (l.map PS.c3).flatten := fun l => by rw [List.flatMap_def]
  rw [e, e, List.map_set, hc]
  congr 1
  apply List.ext_getElem?
  intro i
  have hk : k < ss.length := by
    rcases Nat.lt_or_ge k ss.length with h' | h'
    · exact h'
    · rw [List.getElem?_eq_none h'] at h; cases h
  by_cases hik : k = i
  · subst hik
    rw [List.getElem?_set_self (by simpa using hk), List.getElem?_map, h]
    rfl
  · rw [List.getElem?_set_ne hik]
/-- a byte of one that is on the way turned -/
theorem RNIn.flip {w : World} {B p gb ob cb j kn : Nat} {vw : Value} {ss : List PS} {s : PS} (h : RNIn w B p vw ss) (hi : ss[kn]? = some s) (hv : s.bv = .slice (some ⟨gb, ob, none⟩) s.bs.length cb) (y : UInt8) :
    RNIn (w.setCell ⟨gb, ob + j, none⟩ (u8 y)) B p vw (ss.set kn ⟨s.f, s.t, s.bs.set j y, s.fl, s.bv⟩) ∧ Keep (netFoot p vw ss) w (w.setCell ⟨gb, ob + j, none⟩ (u8 y)) ∧ netFoot p vw (ss.set kn ⟨s.f, s.t, s.bs.set j y, s.fl, s.bv⟩) = netFoot p vw ss := by
  have hob := h.bytes s (List.mem_of_getElem? hi)
  have hg : s.bv.ownBlock = some gb := by rw [hv]; rfl
  have n1 : gb ≠ p := fun e => OwnsAt.ne_blk hob h.head (by decide) (by rw [← e]; exact hg)
  have kw : Keep [gb] w (w.setCell ⟨gb, ob + j, none⟩ (u8 y)) := (Keep.refl _ _).setCell (by simp) _
  have hbb := bb_set (s' := ⟨s.f, s.t, s.bs.set j y, s.fl, s.bv⟩) hi rfl
  refine ⟨⟨h.head.far (by simpa using n1.symm) _, ?_, fun t ht => ?_, by rw [hbb]; exact h.nodup, h.base⟩, kw.mono (fun x hx => Or.inl ?_), by unfold netFoot; rw [hbb]⟩
  · rw [List.length_set, flat_set_same (s' := ⟨s.f, s.t, s.bs.set j y, s.fl, s.bv⟩) hi rfl]
    exact h.rows.keep kw (fun x hx hm => OwnsAt.ne_own h.rows hob (by decide) x hx (by rw [show x = gb by simpa using hm]; exact hg))
  · obtain ⟨i, hil, rfl⟩ := List.mem_iff_getElem.1 ht
    by_cases hik : kn = i
    · subst hik
      rw [List.getElem_set_self]
      unfold OwnB at hob ⊢
      rw [hv] at hob ⊢
      have h1 := hob.set_ j (u8 y)
      simp only [List.length_set, List.map_set]
      exact h1
    · rw [List.getElem_set_ne hik]
      rw [List.length_set] at hil
      refine OwnsAt.keep (h.bytes _ (List.getElem_mem hil)) kw (fun x hx hm => ?_)
      have hxg : x = gb := by simpa using hm
      subst hxg
      exact not_in_erase h.nodup hi hg (mem_byteBlocks.2 ⟨ss[i], (List.mem_eraseIdx_iff_getElem).2 ⟨i, hil, fun e => hik e.symm, rfl⟩, hx⟩)
  · rw [show x = gb by simpa using hx]
    simp only [netFoot, List.mem_cons, List.mem_append]
    exact Or.inr (Or.inr (mem_byteBlocks.2 ⟨s, List.mem_of_getElem? hi, hg⟩))
def RFlipPost (B p : Nat) (F : List Nat) (w : World) (ss : List PS) (k bit : Int) (e : Ending) (w' : World) : Prop :=
  if isK k ss.length = true ∧ 0 ≤ bit ∧ bit / 8 < (((ss[k.toNat]?).map (fun s => s.bs.length)).getD 0 : Nat) then
    ∃ s, ss[k.toNat]? = some s ∧ RNPost B p F w (.bool true) (ss.set k.toNat ⟨s.f, s.t, flipB s.bs bit.toNat, s.fl, s.bv⟩) e w'
  else e = .returned (.bool false) ∧ w' = w
set_option maxHeartbeats 4000000 in
set_option maxRecDepth 100000 in
theorem flipR_spec {w : World} {B p : Nat} {F : List Nat} {ss : List PS} (k bit : Int) (h : RNAt w B p F ss) (hl : ss.length ≤ 10000) (hbl : ∀ s ∈ ss, s.bs.length ≤ 1000000) (hbit : bit ≤ 9223372036854775807) :
    Calls Try.prog 20 #[.pointer (some ⟨p, 0, none⟩), .int .i64 k, .int .i64 bit] w (RFlipPost B p F w ss k bit) := by
  obtain ⟨vw, h, rfl⟩ := h
  obtain ⟨aw, cw, rfl⟩ := h.rows.shape
  have c0 : w.cell? ⟨p, 0, none⟩ = some (.slice aw ss.length cw) := h.head.cell 0
  have H := Lib.hid h
  have hl2 : (ss.length : Int) ≤ 9000000000 := by omega
  have Hbl := Lib.hid hbl
  clear h hl hbl
  by_cases hk : isK k ss.length = true
  · have hk' : 0 ≤ k ∧ k < ss.length := by unfold isK at hk; simpa using hk
    obtain ⟨kn, rfl⟩ := Int.eq_ofNat_of_zero_le hk'.1
    have hkn : kn < ss.length := by omega
    have hi : ss[kn]? = some ss[kn] := List.getElem?_eq_getElem hkn
    obtain ⟨g, off, rfl, hg1, hg2, hcells, hcap, hfr⟩ := H.out.rows.rowAt PS.c3_len hi hkn
    have hob := H.out.bytes _ (List.getElem_mem hkn)
    have hbl2 := Hbl.out _ (List.getElem_mem hkn)
    generalize ss[kn] = s at *
    obtain ⟨f, t, bs, fl, bv⟩ := s
    have e2 : w.cell? ⟨g, off + kn * 3 + 2, none⟩ = some bv := hcells 2 _ (by omega) rfl
    simp only at hob hbl2
    obtain ⟨ab, cb, rfl⟩ := OwnsAt.shape hob
    have hkn2 : (kn : Int) < (ss.length : Int) := by omega
    have hkn3 : ¬ ((ss.length : Int) ≤ (kn : Int)) := by omega
    have Hk := Lib.hid hk
    have Hi := Lib.hid hi
    have Hob := Lib.hid hob
    by_cases hb0 : bit < 0
    · have Hc := Lib.hid (show ¬ (isK (kn : Int) ss.length = true ∧ 0 ≤ bit ∧ bit / 8 < (((ss[((kn : Nat) : Int).toNat]?).map (fun s => s.bs.length)).getD 0 : Nat)) from fun h => by omega)
      clear hcells hfr hob hi hk hk'
      go_enter Try.func20, Try.ntmps20
      go_wp2
      go_ret
      unfold RFlipPost
      rw [if_neg Hc.out]
      exact ⟨rfl, rfl⟩
    · by_cases hb1 : bit / 8 < (bs.length : Int)
      · obtain ⟨bn, rfl⟩ := Int.eq_ofNat_of_zero_le (show 0 ≤ bit by omega)
        have hbn : bn / 8 < bs.length := by omega
        obtain ⟨gb, ob, cb', hbv, hcb1, hcb2, hgb1, hgb2, hbc⟩ := OwnsAt.form hob (by omega)
        cases hbv
        have x0 : w.cell? ⟨gb, ob + bn / 8, none⟩ = some (u8 bs[bn / 8]) := hbc (bn / 8) (u8 bs[bn / 8]) (by rw [List.getElem?_map, List.getElem?_eq_getElem hbn]; rfl)
        have xf : w.frozen? ⟨gb, ob + bn / 8, none⟩ = false := hob.free _
        have hfl := H.out.flip (j := bn / 8) hi rfl (bs[bn / 8] ^^^ (1 <<< UInt8.ofNat (bn % 8)))
        have hgd : bs.getD (bn / 8) 0 = bs[bn / 8] := by rw [List.getD_eq_getElem?_getD, List.getElem?_eq_getElem hbn]; rfl
        have hnb : ¬ ((bs.length : Int) ≤ (bn : Int) / 8) := by omega
        have Hfin : ∀ w2, w2 = (w.setCell ⟨gb, ob + bn / 8, none⟩ (.int .u8 (bits .xor .u8 (bs[bn / 8].toNat : Int) (2 ^ (bn % 8) % 256)))) → RFlipPost B p (netFoot p (.slice (some ⟨g, off, none⟩) ss.length cw) ss) w ss kn bn (.returned (.bool true)) w2 := by
          rintro w2 rfl
          unfold RFlipPost
          rw [xor_u8]
          have hi2 : ss[((kn : Nat) : Int).toNat]? = some ⟨f, t, bs, fl, .slice (some ⟨gb, ob, none⟩) bs.length cb⟩ := hi
          have hcond : isK (kn : Int) ss.length = true ∧ 0 ≤ (bn : Int) ∧ (bn : Int) / 8 < (((ss[((kn : Nat) : Int).toNat]?).map (fun s => s.bs.length)).getD 0 : Nat) := ⟨hk, by omega, by rw [hi2]; exact hb1⟩
          rw [if_pos hcond]
          refine ⟨_, hi2, rfl, _, ⟨.slice (some ⟨g, off, none⟩) ss.length cw, ?_, rfl⟩, hfl.2.1, ?_⟩
          · have h1 := hfl.1
            unfold flipB
            simp only [Int.toNat_natCast, hgd]
            exact h1
          · intro x hx
            refine Or.inl ?_
            rw [← hfl.2.2]
            unfold flipB at hx
            simp only [Int.toNat_natCast, hgd] at hx
            exact hx
        have Hfin := Lib.hid Hfin
        unfold u8 at x0
        clear hfl hgd hcells hfr hob hi hk hk' hbc
        go_enter Try.func20, Try.ntmps20
        go_wp2
        go_ret
        exact Hfin.out _ rfl
      · have Hc := Lib.hid (show ¬ (isK (kn : Int) ss.length = true ∧ 0 ≤ bit ∧ bit / 8 < (((ss[((kn : Nat) : Int).toNat]?).map (fun s => s.bs.length)).getD 0 : Nat)) from fun hh => by
          have h3 := hh.2.2
          rw [show ss[((kn : Nat) : Int).toNat]? = some ⟨f, t, bs, fl, .slice ab bs.length cb⟩ from hi] at h3
          exact hb1 h3)
        have hnb : (bs.length : Int) ≤ bit / 8 := by omega
        clear hcells hfr hob hi hk hk'
        obtain ⟨bn, rfl⟩ := Int.eq_ofNat_of_zero_le (show 0 ≤ bit by omega)
        go_enter Try.func20, Try.ntmps20
        go_wp2
        go_ret
        unfold RFlipPost
        rw [if_neg Hc.out]
        exact ⟨rfl, rfl⟩
  · have hk' : ¬ (0 ≤ k ∧ k < ss.length) := by unfold isK at hk; simpa using hk
    have Hc := Lib.hid (show ¬ (isK k ss.length = true ∧ 0 ≤ bit ∧ bit / 8 < (((ss[k.toNat]?).map (fun s => s.bs.length)).getD 0 : Nat)) from fun h => hk h.1)
    clear hk
    by_cases h0 : k < 0
    · clear hk'
      go_enter Try.func20, Try.ntmps20
      go_wp2
      go_ret
      unfold RFlipPost
      rw [if_neg Hc.out]
      exact ⟨rfl, rfl⟩
    · have h1 : (ss.length : Int) ≤ k := by omega
      clear hk'
      go_enter Try.func20, Try.ntmps20
      go_wp2
      go_ret
      unfold RFlipPost
      rw [if_neg Hc.out]
      exact ⟨rfl, rfl⟩
def RDupPost (B p : Nat) (F : List Nat) (w : World) (ss : List PS) (k : Int) (e : Ending) (w' : World) : Prop :=
  if isK k ss.length = true ∧ ss.length < 10000 then
    ∃ (s s' : PS), ss[k.toNat]? = some s ∧ dat3 s' = dat3 s ∧ RNPost B p F w (.bool true) (ss ++ [s']) e w'
  else e = .returned (.bool false) ∧ w' = w
end Go.Proofs.Ytolhcikgodaecaa
