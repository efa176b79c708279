/- Nets: Flip. -/
import Derived.Test.YtolhcikgodaecaaRows
import Derived.WalkKit
import Derived.WalkSpells
import Derived.WalkLawsBesides
import Derived.RegionTactic
import Derived.ChangeAlike
import Derived.BigQuiet
import Derived.Deep.QuietTactic
import Derived.StillTailTactics
import Derived.IntWalk
import Derived.Handy
import Derived.Lib.Hide
import Derived.Deep.AppendLies
import Derived.Deep.RegionWith
import Derived.Deep.RegionLaw
import Derived.Test.YtolhcikgodaecaaBase
import Derived.Test.YtolhcikgodaecaaTail
import Derived.Test.YtolhcikgodaecaaArgs
import Derived.Test.YtolhcikgodaecaaAppend
import Derived.Test.YtolhcikgodaecaaOffs
import Derived.Test.YtolhcikgodaecaaStructs
import Derived.Test.YtolhcikgodaecaaNetObj
import Derived.Test.YtolhcikgodaecaaNetObj2
import Derived.Test.YtolhcikgodaecaaNetSend
import Derived.Test.YtolhcikgodaecaaNetWay
import Derived.Test.YtolhcikgodaecaaNetDel
import Derived.Test.YtolhcikgodaecaaNetSmall
namespace Go.Proofs.Ytolhcikgodaecaa
open Go.RowKit

/-- a bit turned -/
def flipB (bs : List UInt8) (bit : Nat) : List UInt8 := bs.set (bit / 8) ((bs.getD (bit / 8) 0) ^^^ (1 <<< UInt8.ofNat (bit % 8)))
theorem xor_bit : ∀ m : Fin 8, ∀ x : Fin 256, bits .xor .u8 (x.val : Int) (2 ^ m.val % 256) = ((UInt8.ofNat x.val ^^^ (1 <<< UInt8.ofNat m.val)).toNat : Int) := by decide +kernel
theorem xor_u8 (x : UInt8) (b : Nat) : Value.int .u8 (bits .xor .u8 (x.toNat : Int) (2 ^ (b % 8) % 256)) = u8 (x ^^^ (1 <<< UInt8.ofNat (b % 8))) := by
  have h := xor_bit ⟨b % 8, Nat.mod_lt _ (by omega)⟩ ⟨x.toNat, x.toNat_lt⟩
  simp only at h
  rw [h, UInt8.ofNat_toNat]
  rfl
theorem NetIn.flip {w : World} {B p g off cw kn gb ob cb j : Nat} {ss : List PS} {f t : Int} {bs : List UInt8} {fl : Bool} (h : NetIn w B p (.slice (some ⟨g, off, none⟩) ss.length cw) ss) (hi : ss[kn]? = some ⟨f, t, bs, fl, .slice (some ⟨gb, ob, none⟩) bs.length cb⟩) (y : UInt8) :
    NetIn ((w.setCell ⟨gb, ob + j, none⟩ (u8 y)).setCell ⟨g, off + kn * 4 + 3, none⟩ (.bool true)) B p (.slice (some ⟨g, off, none⟩) ss.length cw) (ss.set kn ⟨f, t, bs.set j y, true, .slice (some ⟨gb, ob, none⟩) bs.length cb⟩) ∧
    Keep (netFoot p (.slice (some ⟨g, off, none⟩) ss.length cw) ss) w ((w.setCell ⟨gb, ob + j, none⟩ (u8 y)).setCell ⟨g, off + kn * 4 + 3, none⟩ (.bool true)) ∧
    netFoot p (.slice (some ⟨g, off, none⟩) ss.length cw) (ss.set kn ⟨f, t, bs.set j y, true, .slice (some ⟨gb, ob, none⟩) bs.length cb⟩) = netFoot p (.slice (some ⟨g, off, none⟩) ss.length cw) ss := by
  have hkn : kn < ss.length := by
    rcases Nat.lt_or_ge kn ss.length with h' | h'
    · exact h'
    · rw [List.getElem?_eq_none h'] at hi; cases hi
  have hs : (⟨f, t, bs, fl, .slice (some ⟨gb, ob, none⟩) bs.length cb⟩ : PS) ∈ ss := List.mem_of_getElem? hi
  have hob := h.bytes _ hs
  have n1 : gb ≠ p := fun e => by subst e; exact OwnsAt.ne_blk hob h.head (by decide) rfl
  have n2 : gb ≠ g := fun e => by subst e; exact OwnsAt.ne_own hob h.rows (by decide) _ rfl rfl
  have n3 : g ≠ p := fun e => by subst e; exact OwnsAt.ne_blk h.rows h.head (by decide) rfl
  have hbb : byteBlocks (ss.set kn ⟨f, t, bs.set j y, true, .slice (some ⟨gb, ob, none⟩) bs.length cb⟩) = byteBlocks ss := by
    have e : ∀ l : List PS, byteBlocks l = (l.map PS.bv).flatMap ownBlocks := fun l => by unfold byteBlocks; rw [List.flatMap_map]
    rw [e, e, List.map_set]
    congr 1
    apply List.ext_getElem?
    intro i
    by_cases hik : kn = i
    · subst hik
      rw [List.getElem?_set_self (by simpa using hkn), List.getElem?_map, hi]
      rfl
    · rw [List.getElem?_set_ne hik]
  have k1 : Keep [gb] w (w.setCell ⟨gb, ob + j, none⟩ (u8 y)) := (Keep.refl _ _).setCell (by simp) _
  have k2 : Keep [g] (w.setCell ⟨gb, ob + j, none⟩ (u8 y)) ((w.setCell ⟨gb, ob + j, none⟩ (u8 y)).setCell ⟨g, off + kn * 4 + 3, none⟩ (.bool true)) := (Keep.refl _ _).setCell (by simp) _
  have hsplit : ss = ss.take kn ++ (⟨f, t, bs, fl, .slice (some ⟨gb, ob, none⟩) bs.length cb⟩ : PS) :: ss.drop (kn + 1) := by
    have := List.take_append_drop kn ss
    rw [List.drop_eq_getElem_cons hkn] at this
    rw [List.getElem?_eq_getElem hkn] at hi
    rw [← Option.some.inj hi]
    exact this.symm
  have hnd := h.nodup
  have hbs : byteBlocks ss = byteBlocks (ss.take kn) ++ ([gb] ++ byteBlocks (ss.drop (kn + 1))) := by
    conv => lhs; rw [hsplit]
    unfold byteBlocks
    rw [List.flatMap_append, List.flatMap_cons]
    rfl
  rw [hbs] at hnd
  obtain ⟨_, m2, m3⟩ := List.nodup_append.1 hnd
  obtain ⟨_, _, m6⟩ := List.nodup_append.1 m2
  refine ⟨⟨(h.head.far n1.symm _).far n3.symm _, ?_, ?_, by rw [hbb]; exact h.nodup, h.base⟩, ?_, by unfold netFoot; rw [hbb]⟩
  · have h1 := (h.rows.keep k1 (fun x hx hm => by
      have e1 : x = g := by simpa [Value.ownBlock] using hx.symm
      have e2 : x = gb := by simpa using hm
      exact n2 (e2.symm.trans e1))).set_ (kn * 4 + 3) (.bool true)
    rw [flat_set_ PS.c4_len ss kn _ ⟨f, t, bs.set j y, true, .slice (some ⟨gb, ob, none⟩) bs.length cb⟩ 3 (.bool true) hi (by omega) rfl] at h1
    rw [List.length_set, Nat.add_assoc]
    exact h1
  · intro s hs'
    obtain ⟨i, hi', he⟩ := List.mem_iff_getElem.1 hs'
    have hsi : (ss.set kn ⟨f, t, bs.set j y, true, .slice (some ⟨gb, ob, none⟩) bs.length cb⟩)[i]? = some s := by rw [List.getElem?_eq_getElem hi', he]
    by_cases hik : kn = i
    · subst hik
      rw [List.getElem?_set_self hkn] at hsi
      cases hsi
      have h1 := OwnsAt.set_ hob j (u8 y)
      have h2 : OwnB (w.setCell ⟨gb, ob + j, none⟩ (u8 y)) B (.slice (some ⟨gb, ob, none⟩) bs.length cb) (bs.set j y) := by
        unfold OwnB
        rw [List.length_set, List.map_set]
        exact h1
      exact OwnsAt.keep h2 k2 (fun x hx hm => by
        have e1 : x = gb := by simpa [Value.ownBlock] using hx.symm
        have e2 : x = g := by simpa using hm
        exact n2 (e1.symm.trans e2))
    · rw [List.getElem?_set_ne hik] at hsi
      have hsm := List.mem_of_getElem? hsi
      have hne : ∀ x, s.bv.ownBlock = some x → x ≠ gb := fun x hx e => by
        subst e
        rcases Nat.lt_or_ge i kn with hlt | hge
        · have : s ∈ ss.take kn := List.mem_of_getElem? (i := i) (by rw [List.getElem?_take, if_pos hlt]; exact hsi)
          exact m3 x (mem_byteBlocks.2 ⟨s, this, hx⟩) x (by simp) rfl
        · have : s ∈ ss.drop (kn + 1) := List.mem_of_getElem? (i := i - (kn + 1)) (by rw [List.getElem?_drop, show kn + 1 + (i - (kn + 1)) = i by omega]; exact hsi)
          exact m6 x (by simp) x (mem_byteBlocks.2 ⟨s, this, hx⟩) rfl
      refine OwnsAt.keep (OwnsAt.keep (h.bytes s hsm) k1 (fun x hx hm => hne x hx (by simpa using hm))) k2 (fun x hx hm => ?_)
      have e2 : x = g := by simpa using hm
      subst e2
      exact OwnsAt.ne_own (h.bytes s hsm) h.rows (by decide) _ hx rfl
  · refine (k1.mono (T := netFoot p (.slice (some ⟨g, off, none⟩) ss.length cw) ss) (fun x hx => Or.inl ?_)).trans k2 (fun x hx => Or.inl ?_)
    · have : x = gb := by simpa using hx
      subst this
      simp only [netFoot, List.mem_cons, List.mem_append]
      exact Or.inr (Or.inr (mem_byteBlocks.2 ⟨_, hs, rfl⟩))
    · have : x = g := by simpa using hx
      subst this
      simp [netFoot, ownBlocks, Value.ownBlock]
def FlipPost (B p : Nat) (F : List Nat) (w : World) (ss : List PS) (k bit : Int) (e : Ending) (w' : World) : Prop :=
  if isK k ss.length = true ∧ 0 ≤ bit ∧ bit / 8 < (((ss[k.toNat]?).map (fun s => s.bs.length)).getD 0 : Nat) then
    ∃ s, ss[k.toNat]? = some s ∧ NetPost B p F w (.bool true) (ss.set k.toNat ⟨s.f, s.t, flipB s.bs bit.toNat, true, s.bv⟩) e w'
  else e = .returned (.bool false) ∧ w' = w
set_option maxHeartbeats 4000000 in
set_option maxRecDepth 100000 in
theorem flip_spec {w : World} {B p : Nat} {F : List Nat} {ss : List PS} (k bit : Int) (h : NetAt w B p F ss) (hl : ss.length ≤ 10000) (hbl : ∀ s ∈ ss, s.bs.length ≤ 1000000) (hbit : bit ≤ 9223372036854775807) :
    Calls Try.prog 13 #[.pointer (some ⟨p, 0, none⟩), .int .i64 k, .int .i64 bit] w (FlipPost B p F w ss k bit) := by
  obtain ⟨vw, h, rfl⟩ := h
  obtain ⟨aw, cw, rfl⟩ := h.rows.shape
  have c0 : w.cell? ⟨p, 0, none⟩ = some (.slice aw ss.length cw) := h.head.cell 0
  have his := isK_spec k h
  have H := Lib.hid h
  have Hl := Lib.hid hl
  have hl2 : (ss.length : Int) ≤ 9000000000 := by omega
  have Hbl := Lib.hid hbl
  clear h hl hbl
  by_cases hk : isK k ss.length = true
  · rw [hk] at his
    have His := Lib.hid his
    have hk' : 0 ≤ k ∧ k < ss.length := by unfold isK at hk; simpa using hk
    obtain ⟨kn, rfl⟩ := Int.eq_ofNat_of_zero_le hk'.1
    have hkn : kn < ss.length := by omega
    have hi : ss[kn]? = some ss[kn] := List.getElem?_eq_getElem hkn
    obtain ⟨g, off, rfl, hg1, hg2, hcells, hcap, hfr⟩ := H.out.rows.rowAt PS.c4_len hi hkn
    have hob := H.out.bytes _ (List.getElem_mem hkn)
    have hbl2 := Hbl.out _ (List.getElem_mem hkn)
    generalize ss[kn] = s at *
    obtain ⟨f, t, bs, fl, bv⟩ := s
    have e2 : w.cell? ⟨g, off + kn * 4 + 2, none⟩ = some bv := hcells 2 _ (by omega) rfl
    have e3 : w.cell? ⟨g, off + kn * 4 + 3, none⟩ = some (.bool fl) := hcells 3 _ (by omega) rfl
    have f3 := hfr (off + kn * 4 + 3)
    simp only at hob hbl2
    obtain ⟨ab, cb, rfl⟩ := OwnsAt.shape hob
    have hkn2 : (kn : Int) < (ss.length : Int) := by omega
    have Hk := Lib.hid hk
    have Hi := Lib.hid hi
    have Hob := Lib.hid hob
    by_cases hb0 : bit < 0
    · have Hc := Lib.hid (show ¬ (isK (kn : Int) ss.length = true ∧ 0 ≤ bit ∧ bit / 8 < (((ss[((kn : Nat) : Int).toNat]?).map (fun s => s.bs.length)).getD 0 : Nat)) from fun h => by omega)
      clear hcells hfr hob hi hk hk' his
      go_enter Try.func13, Try.ntmps13
      go_wp2_with fail
      refine His.out.mono ?_
      rintro e w1 ⟨rfl, rfl⟩
      go_wp2
      go_ret
      unfold FlipPost
      rw [if_neg Hc.out]
      exact ⟨rfl, rfl⟩
    · by_cases hb1 : bit / 8 < (bs.length : Int)
      · obtain ⟨bn, rfl⟩ := Int.eq_ofNat_of_zero_le (show 0 ≤ bit by omega)
        have hbn : bn / 8 < bs.length := by omega
        obtain ⟨gb, ob, cb', hbv, hcb1, hcb2, hgb1, hgb2, hbc⟩ := OwnsAt.form hob (by omega)
        cases hbv
        have x0 : w.cell? ⟨gb, ob + bn / 8, none⟩ = some (u8 bs[bn / 8]) := hbc (bn / 8) (u8 bs[bn / 8]) (by rw [List.getElem?_map, List.getElem?_eq_getElem hbn]; rfl)
        have xf : w.frozen? ⟨gb, ob + bn / 8, none⟩ = false := hob.free _
        have hfl := H.out.flip (j := bn / 8) hi (bs[bn / 8] ^^^ (1 <<< UInt8.ofNat (bn % 8)))
        have hne1 : gb ≠ p := fun e => by subst e; exact OwnsAt.ne_blk hob H.out.head (by decide) rfl
        have hne2 : gb ≠ g := fun e => by subst e; exact OwnsAt.ne_own hob H.out.rows (by decide) _ rfl rfl
        have hgd : bs.getD (bn / 8) 0 = bs[bn / 8] := by rw [List.getD_eq_getElem?_getD, List.getElem?_eq_getElem hbn]; rfl
        have Hfin : ∀ w2 n, w2 = (((w.setCell ⟨gb, ob + bn / 8, none⟩ (.int .u8 (bits .xor .u8 (bs[bn / 8].toNat : Int) (2 ^ (bn % 8) % 256)))).setCell ⟨g, off + kn * 4 + 3, none⟩ (.bool true)).drewN n) → FlipPost B p (netFoot p (.slice (some ⟨g, off, none⟩) ss.length cw) ss) w ss (kn : Int) (bn : Int) (.returned (.bool true)) w2 := by
          rintro w2 n rfl
          unfold FlipPost
          rw [xor_u8]
          have hi2 : ss[((kn : Nat) : Int).toNat]? = some ⟨f, t, bs, fl, .slice (some ⟨gb, ob, none⟩) bs.length cb⟩ := hi
          have hcond : isK (kn : Int) ss.length = true ∧ 0 ≤ (bn : Int) ∧ (bn : Int) / 8 < (((ss[((kn : Nat) : Int).toNat]?).map (fun s => s.bs.length)).getD 0 : Nat) := ⟨hk, by omega, by rw [hi2]; exact hb1⟩
          rw [if_pos hcond]
          refine ⟨_, hi2, rfl, _, ⟨.slice (some ⟨g, off, none⟩) ss.length cw, ?_, rfl⟩, hfl.2.1.drewN n, ?_⟩
          · have h1 := hfl.1.keep ((Keep.refl [] _).drewN n) (by simp)
            unfold flipB
            simp only [Int.toNat_natCast, hgd]
            exact h1
          · intro x hx
            refine Or.inl ?_
            rw [← hfl.2.2]
            unfold flipB at hx
            simp only [Int.toNat_natCast, hgd] at hx
            exact hx
        have Hfin := Lib.hid Hfin
        unfold u8 at x0
        clear hfl hgd
        clear hcells hfr hob hi hk hk' his hbc
        go_enter Try.func13, Try.ntmps13
        go_wp2_with fail
        refine His.out.mono ?_
        rintro e w1 ⟨rfl, rfl⟩
        go_wp2_with fail
        go_region
        all_goals
          go_wp2
          go_ret
          exact Hfin.out _ 1 rfl
      · have Hc := Lib.hid (show ¬ (isK (kn : Int) ss.length = true ∧ 0 ≤ bit ∧ bit / 8 < (((ss[((kn : Nat) : Int).toNat]?).map (fun s => s.bs.length)).getD 0 : Nat)) from fun hh => by
          have h3 := hh.2.2
          rw [show ss[((kn : Nat) : Int).toNat]? = some ⟨f, t, bs, fl, .slice ab bs.length cb⟩ from hi] at h3
          exact hb1 h3)
        clear hcells hfr hob hi hk hk' his
        go_enter Try.func13, Try.ntmps13
        go_wp2_with fail
        refine His.out.mono ?_
        rintro e w1 ⟨rfl, rfl⟩
        go_wp2
        go_ret
        unfold FlipPost
        rw [if_neg Hc.out]
        exact ⟨rfl, rfl⟩
  · have hk' : isK k ss.length = false := by simpa using hk
    rw [hk'] at his
    have His := Lib.hid his
    have Hc := Lib.hid (show ¬ (isK k ss.length = true ∧ 0 ≤ bit ∧ bit / 8 < (((ss[k.toNat]?).map (fun s => s.bs.length)).getD 0 : Nat)) from fun h => hk h.1)
    clear hk hk' his
    go_enter Try.func13, Try.ntmps13
    go_wp2_with fail
    refine His.out.mono ?_
    rintro e w1 ⟨rfl, rfl⟩
    go_wp2
    go_ret
    unfold FlipPost
    rw [if_neg Hc.out]
    exact ⟨rfl, rfl⟩
end Go.Proofs.Ytolhcikgodaecaa
