/- LinkBrings: rows of loads beside each other. -/
import Derived.Test.YtacifjjhadjhfaaRows
import Derived.WalkKit
import Derived.WalkSpells
import Derived.WalkLawsBesides
import Derived.RegionTactic
import Derived.ChangeAlike
import Derived.BigQuiet
import Derived.Deep.QuietTactic
import Derived.StillTailTactics
import Derived.IntWalk
import Derived.Handy
import Derived.Lib.Hide
import Derived.Deep.AppendLies
import Derived.Deep.RegionWith
import Derived.Test.YtacifjjhadjhfaaBase
import Derived.Test.YtacifjjhadjhfaaTail
import Derived.Test.YtacifjjhadjhfaaArgs
import Derived.Test.YtacifjjhadjhfaaAppend
import Derived.Deep.RegionLaw
import Derived.Test.YtacifjjhadjhfaaOffs
import Derived.Test.YtacifjjhadjhfaaStructs
import Derived.Test.YtacifjjhadjhfaaSplit
import Derived.Maps.OwnSet
import Derived.Maps.Views
import Derived.Test.YtacifjjhadjhfaaLinkBytes
import Derived.Test.YtacifjjhadjhfaaLinkObj
import Derived.Test.YtacifjjhadjhfaaLinkSend
import Derived.Test.YtacifjjhadjhfaaLinkDue
import Derived.Test.YtacifjjhadjhfaaLinkFrame
import Derived.Test.YtacifjjhadjhfaaLinkOut
import Derived.Test.YtacifjjhadjhfaaLinkOut2
import Derived.Test.YtacifjjhadjhfaaLinkOne
import Derived.Test.YtacifjjhadjhfaaLinkLive
import Derived.Test.YtacifjjhadjhfaaLinkAck
import Derived.Test.YtacifjjhadjhfaaLinkAck2
import Derived.Test.YtacifjjhadjhfaaLinkGot
import Derived.Test.YtacifjjhadjhfaaLinkGot2
import Derived.Test.YtacifjjhadjhfaaLinkGot3
import Derived.Test.YtacifjjhadjhfaaLinkInn
import Derived.Test.YtacifjjhadjhfaaLinkX2
import Derived.Deep.CutRange
import Derived.Deep.DeepCutAuto
import Derived.BigRegion
import Derived.Laws.BytesArg
import Derived.Test.YtacifjjhadjhfaaBringsObj
namespace Go.Proofs.Ytacifjjhadjhfaa
open Go.RowKit Go.ChangeShapes Go.WideShapes Go.Deep
def strB (bs : List UInt8) : ByteArray := ⟨bs.toArray⟩
theorem strB_inj {a b : List UInt8} (h : strB a = strB b) : a = b := by
  unfold strB at h
  injection h with h
  simpa using congrArg Array.toList h
theorem strB_toList (bs : List UInt8) : (strB bs).toList = bs := by rw [ByteArray.toList_eq]; rfl
theorem strB_beq (a b : List UInt8) {r : Bool} (h : (a == b) = r) : ((strB a).toList == (strB b).toList) = r := by rw [strB_toList, strB_toList]; exact h
theorem conv_bytes {w : World} {v : Value} {bs : List UInt8} (h : BytesOf w v bs) (hd : Try.prog.underlying 9 = some .string) (he : Try.prog.underlying 5 = some (.int .u8)) : (convert 35 9 v).run Try.prog w = .ok (.string (strB bs)) w := by
  obtain ⟨a, c, rfl, h⟩ := h
  by_cases hb : bs = []
  · subst hb
    have := run_convert_bytes_string (P := Try.prog) w 35 9 5 a 0 c Try.underlying35 he hd
    simp only [List.length_nil]
    rw [this]
    have hl : ∀ ad, (loadCells ad 0).run Try.prog w = .ok #[] w := fun ad => by simpa using run_loadCells_list (P := Try.prog) w ad [] (by simp)
    cases a with
    | none => simp [Conv.bytesToString, strB]; rfl
    | some ad =>
      have h2 := run_bytesToString (P := Try.prog) w ad 0 c [] (by simpa using hl ad)
      rw [h2]
      rfl
  · obtain ⟨b, off, rfl, _, hc⟩ := h hb
    have := run_convert_bytes_arg (P := Try.prog) w 35 5 Try.underlying35 he b off bs.length c (bs.map fun x => (x.toNat : Int)) (by simp) (fun i hi => by
      rw [hc i bs[i] (List.getElem?_eq_getElem hi)]
      simp [u8, List.getD, List.getElem?_eq_getElem hi]) 9 hd
    rw [this]
    congr 2
    unfold strOfNums strB
    have : (bs.map fun x => (x.toNat : Int)).map (fun n => UInt8.ofNat n.toNat) = bs := by
      rw [List.map_map]
      conv => rhs; rw [← List.map_id bs]
      exact List.map_congr_left fun x _ => by simp
    rw [this]
/-- a row of loads, as it is read -/
def LdView (w : World) (v : Value) (os : List BV) : Prop :=
  ∃ a c, v = .slice a os.length c ∧ os.length ≤ c ∧ c ≤ 9223372036854775807 ∧ ∀ (i : Nat) (s : BV), os[i]? = some s → (∃ g off, a = some ⟨g, off, none⟩ ∧ g < w.heap.size ∧ w.cell? ⟨g, off + i, none⟩ = some s.bv) ∧ BytesOf w s.bv s.bs
theorem LdView.keep0 {w w' : World} {v : Value} {os : List BV} (h : LdView w v os) (k : Keep [] w w') : LdView w' v os := by
  obtain ⟨a, c, hv, h1, h2, h⟩ := h
  refine ⟨a, c, hv, h1, h2, fun i s hs => ?_⟩
  obtain ⟨⟨g, off, ha, hg, hc⟩, hb⟩ := h i s hs
  exact ⟨⟨g, off, ha, Nat.lt_of_lt_of_le hg k.size, (k.cell (p := ⟨g, off + i, none⟩) hg (by simp)).trans hc⟩, hb.keep0 k⟩
theorem LdView.take {w : World} {a : Option Addr} {n c m : Nat} {os : List BV} (h : LdView w (.slice a n c) os) (hm : m ≤ os.length) : LdView w (.slice a m c) (os.take m) := by
  obtain ⟨a', c', hv, h1, h2, h⟩ := h
  injection hv with e1 e2 e3
  subst e1 e3
  refine ⟨a, c, by rw [List.length_take, Nat.min_eq_left hm], by rw [List.length_take]; omega, h2, fun i s hs => h i s ?_⟩
  rcases Nat.lt_or_ge i m with h' | h'
  · rw [List.getElem?_take_of_lt h'] at hs; exact hs
  · rw [List.getElem?_eq_none (by rw [List.length_take]; omega)] at hs; cases hs
theorem LdAt.view {X : List Nat} {w0 w : World} {v : Value} {os : List BV} (h : LdAt X w0 w v os) (k : Keep [] w0 w) : LdView w v os := by
  obtain ⟨a, c, rfl⟩ := h.rows.shape
  have hc : os.length ≤ c ∧ c ≤ 9223372036854775807 := by
    rcases Nat.eq_zero_or_pos os.length with h0 | h0
    · rcases h.rows.2 with ⟨hv, _⟩ | ⟨g, off, cap, cur, hv, _, h1, h2, h3, _⟩
      · injection hv with _ _ e3
        omega
      · injection hv with _ _ e3
        unfold maxLen at *
        omega
    · obtain ⟨g, off, cap, hv, h1, h2, _⟩ := h.rows.form h0
      injection hv with _ _ e3
      unfold maxLen at h2
      omega
  refine ⟨a, c, rfl, hc.1, hc.2, fun i s hs => ?_⟩
  have hi : i < os.length := by
    rcases Nat.lt_or_ge i os.length with h' | h'
    · exact h'
    · rw [List.getElem?_eq_none h'] at hs; cases hs
  obtain ⟨g, off, cap, hv, _, _, _, hg, hcell⟩ := h.rows.form (by omega)
  injection hv with e1 _ e3
  exact ⟨⟨g, off, e1, hg, hcell i _ (by rw [List.getElem?_map, hs]; rfl)⟩, (h.bytes s (List.mem_of_getElem? hs)).of k⟩
set_option maxHeartbeats 4000000 in
theorem loads_spec {w : World} {v v' : Value} {os os' : List BV} (h : LdView w v os) (h' : LdView w v' os') (he : os.map BV.bs = os'.map BV.bs) (hl : os.length ≤ 200000) :
    Calls Try.prog 17 #[v, v'] w fun e w' => e = .returned (.bool true) ∧ ∃ m, w' = w.drewN m := by
  have hll : os'.length = os.length := by have := congrArg List.length he; simpa using this.symm
  have H0 := Lib.hid h
  have H0' := Lib.hid h'
  obtain ⟨a, c, rfl, -, -, -⟩ := h
  obtain ⟨a', c', rfl, -, -, -⟩ := h'
  have He := Lib.hid he
  have hlI : (os.length : Int) ≤ 200000 := by omega
  rw [hll]
  rw [hll] at H0'
  clear he
  go_enter Try.func17, Try.ntmps17
  go_wp2_with fail
  go_loopw [5] (fun v5 wr => ∃ i : Nat, i ≤ os.length ∧ v5 = .int .i64 i ∧ ∃ m, wr = w.drewN m) (fun v _ => os.length - (intOf v).toNat)
  case atStart => exact ⟨0, by omega, rfl, 0, rfl⟩
  case round =>
    obtain ⟨i, hi, rfl, m, hm⟩ := hrel
    have hk : Keep [] w wr := by rw [hm]; exact (Keep.refl [] w).drewN m
    by_cases hlt : i < os.length
    · obtain ⟨s, hs⟩ : ∃ s, os[i]? = some s := ⟨_, List.getElem?_eq_getElem hlt⟩
      obtain ⟨s', hs'⟩ : ∃ s, os'[i]? = some s := ⟨_, List.getElem?_eq_getElem (by omega)⟩
      have hfe : s.bs = s'.bs := by
        have h1 := congrArg (fun l => l[i]?) He.out
        simp only [List.getElem?_map, hs, hs', Option.map_some, Option.some.injEq] at h1
        exact h1
      obtain ⟨a2, c2, hv2, -, -, hc⟩ := H0.out.keep0 hk
      obtain ⟨a2', c2', hv2', -, -, hc'⟩ := H0'.out.keep0 hk
      injection hv2 with e1 e2 e3
      injection hv2' with e1' e2' e3'
      subst e1 e3 e1' e3'
      clear e2 e2'
      obtain ⟨⟨g, off, rfl, hg, c0⟩, hb⟩ := hc i s hs
      obtain ⟨⟨g', off', rfl, hg', d0⟩, hb'⟩ := hc' i s' hs'
      rw [← hfe] at hb'
      obtain ⟨va, vc, hva⟩ := hb.shape
      obtain ⟨va', vc', hva'⟩ := hb'.shape
      rw [hva] at c0 hb
      rw [hva'] at d0 hb'
      have q1 : ∀ n, (convert 35 9 (.slice va s.bs.length vc)).run Try.prog (wr.drewN n) = .ok (.string (strB s.bs)) (wr.drewN n) := fun n => conv_bytes (hb.keep0 ((Keep.refl [] _).drewN n)) (by kernel_rfl) (by kernel_rfl)
      have q2 : ∀ n, (convert 35 9 (.slice va' s.bs.length vc')).run Try.prog (wr.drewN n) = .ok (.string (strB s.bs)) (wr.drewN n) := fun n => conv_bytes (hb'.keep0 ((Keep.refl [] _).drewN n)) (by kernel_rfl) (by kernel_rfl)
      have e2 := strB_beq s.bs s.bs (r := true) (by simp)
      have hltI : (i : Int) < (os.length : Int) := by omega
      have Hk : Hid (∀ n, ∃ m', wr.drewN n = w.drewN m') := Lib.hid (fun n => ⟨m + n, by rw [hm]; exact World.drewN_drewN _ _ _⟩)
      clear hm hc hc' hs hs' hfe hb hb' hk hva hva' hg hg' hl
      go_wp2_with fail
      go_quiet (fail)
      clear c0 d0 q1 q2 e2
      go_wp2
      go_roundw
      case rel => exact ⟨i + 1, by omega, by go_num, Hk.out _⟩
      case measure => simp [intOf]; omega
    · obtain rfl : i = os.length := by omega
      have Hk : Hid (∃ m', wr = w.drewN m') := Lib.hid ⟨m, hm⟩
      clear hk hm
      go_wp2
      go_ret
      exact ⟨rfl, Hk.out⟩
set_option maxHeartbeats 4000000 in
theorem begins_spec {w : World} {v v' : Value} {os os' : List BV} (h : LdView w v os) (h' : LdView w v' os') (hle : os.length ≤ os'.length) (he : os.map BV.bs = (os'.map BV.bs).take os.length) (hl : os'.length ≤ 200000) :
    Calls Try.prog 16 #[v, v'] w fun e w' => e = .returned (.bool true) ∧ ∃ m, w' = w.drewN m := by
  have H0 := Lib.hid h
  have H0' := Lib.hid h'
  obtain ⟨a, c, rfl, -, -, -⟩ := h
  obtain ⟨a', c', rfl, hcl, hc1, -⟩ := h'
  have hs := Lib.hid (loads_spec H0.out (H0'.out.take hle) (by rw [he, List.map_take]) (by omega))
  have hleI : (os.length : Int) ≤ (os'.length : Int) := by omega
  have hclI : (os.length : Int) ≤ (c' : Int) := by omega
  have hcI : (c' : Int) ≤ 9223372036854775807 := by omega
  have hlI : (os'.length : Int) ≤ 200000 := by omega
  clear he hc1 hcl hl hle
  go_enter Try.func16, Try.ntmps16
  go_wp2_with fail
  refine hs.out.mono ?_
  rintro e w2 ⟨rfl, hk⟩
  go_wp2
  go_ret
  exact ⟨rfl, hk⟩
end Go.Proofs.Ytacifjjhadjhfaa
