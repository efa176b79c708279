/- Frames and loads beside each other; the calls of LinkPlays. -/
import Derived.Test.YtacifjjhadjhfaaRows
import Derived.WalkKit
import Derived.WalkSpells
import Derived.WalkLawsBesides
import Derived.RegionTactic
import Derived.ChangeAlike
import Derived.BigQuiet
import Derived.Deep.QuietTactic
import Derived.StillTailTactics
import Derived.IntWalk
import Derived.Handy
import Derived.Lib.Hide
import Derived.Deep.AppendLies
import Derived.Deep.RegionWith
import Derived.Test.YtacifjjhadjhfaaBase
import Derived.Test.YtacifjjhadjhfaaTail
import Derived.Test.YtacifjjhadjhfaaArgs
import Derived.Test.YtacifjjhadjhfaaAppend
import Derived.Deep.RegionLaw
import Derived.Test.YtacifjjhadjhfaaOffs
import Derived.Test.YtacifjjhadjhfaaStructs
import Derived.Test.YtacifjjhadjhfaaSplit
import Derived.Maps.OwnSet
import Derived.Maps.Views
import Derived.Test.YtacifjjhadjhfaaLinkBytes
import Derived.Test.YtacifjjhadjhfaaLinkObj
import Derived.Test.YtacifjjhadjhfaaLinkSend
import Derived.Test.YtacifjjhadjhfaaLinkDue
import Derived.Test.YtacifjjhadjhfaaLinkFrame
import Derived.Test.YtacifjjhadjhfaaLinkOut
import Derived.Test.YtacifjjhadjhfaaLinkOut2
import Derived.Test.YtacifjjhadjhfaaLinkOne
import Derived.Test.YtacifjjhadjhfaaLinkLive
import Derived.Test.YtacifjjhadjhfaaLinkAck
import Derived.Test.YtacifjjhadjhfaaLinkAck2
import Derived.Test.YtacifjjhadjhfaaLinkGot
import Derived.Test.YtacifjjhadjhfaaLinkGot2
import Derived.Test.YtacifjjhadjhfaaLinkGot3
import Derived.Test.YtacifjjhadjhfaaLinkInn
import Derived.Test.YtacifjjhadjhfaaLinkX2
import Derived.Deep.CutRange
import Derived.Deep.DeepCutAuto
import Derived.BigRegion
import Derived.Test.YtacifjjhadjhfaaRLink
import Derived.Test.YtacifjjhadjhfaaRLink2
import Derived.Test.YtacifjjhadjhfaaRLink3
import Derived.Laws.BytesArg
namespace Go.Proofs.Ytacifjjhadjhfaa
open Go.RowKit Go.ChangeShapes Go.WideShapes Go.Deep
def strB (bs : List UInt8) : ByteArray := ⟨bs.toArray⟩
theorem strB_inj {a b : List UInt8} (h : strB a = strB b) : a = b := by
  unfold strB at h
  injection h with h
  simpa using congrArg Array.toList h
theorem strB_toList (bs : List UInt8) : (strB bs).toList = bs := by rw [ByteArray.toList_eq]; rfl
theorem strB_beq (a b : List UInt8) {r : Bool} (h : (a == b) = r) : ((strB a).toList == (strB b).toList) = r := by rw [strB_toList, strB_toList]; exact h
theorem conv_bytes {w : World} {v : Value} {bs : List UInt8} (h : BytesOf w v bs) (hd : Try.prog.underlying 9 = some .string) (he : Try.prog.underlying 5 = some (.int .u8)) : (convert 35 9 v).run Try.prog w = .ok (.string (strB bs)) w := by
  obtain ⟨a, c, rfl, h⟩ := h
  by_cases hb : bs = []
  · subst hb
    have := run_convert_bytes_string (P := Try.prog) w 35 9 5 a 0 c Try.underlying35 he hd
    simp only [List.length_nil]
    rw [this]
    have hl : ∀ ad, (loadCells ad 0).run Try.prog w = .ok #[] w := fun ad => by simpa using run_loadCells_list (P := Try.prog) w ad [] (by simp)
    cases a with
    | none => simp [Conv.bytesToString, strB]; rfl
    | some ad =>
      have h2 := run_bytesToString (P := Try.prog) w ad 0 c [] (by simpa using hl ad)
      rw [h2]
      rfl
  · obtain ⟨b, off, rfl, _, hc⟩ := h hb
    have := run_convert_bytes_arg (P := Try.prog) w 35 5 Try.underlying35 he b off bs.length c (bs.map fun x => (x.toNat : Int)) (by simp) (fun i hi => by
      rw [hc i bs[i] (List.getElem?_eq_getElem hi)]
      simp [u8, List.getD, List.getElem?_eq_getElem hi]) 9 hd
    rw [this]
    congr 2
    unfold strOfNums strB
    have : (bs.map fun x => (x.toNat : Int)).map (fun n => UInt8.ofNat n.toNat) = bs := by
      rw [List.map_map]
      conv => rhs; rw [← List.map_id bs]
      exact List.map_congr_left fun x _ => by simp
    rw [this]
theorem frd_eq {s t : FR} (h : frd s = frd t) : s.fr = t.fr ∧ s.to = t.to ∧ s.life = t.life ∧ s.seq = t.seq ∧ s.ack = t.ack ∧ s.bs = t.bs := by
  unfold frd at h
  simp only [Prod.mk.injEq] at h
  exact h
set_option maxHeartbeats 4000000 in
theorem sameframe_spec {w : World} {fr to_ life sq ack : Int} {bs : List UInt8} {v v' : Value} (hv : BytesOf w v bs) (hv' : BytesOf w v' bs) :
    Calls Try.prog 32 #[.agg #[.int .i64 fr, .int .i64 to_, .int .i64 life, .int .i64 sq, .int .i64 ack, v], .agg #[.int .i64 fr, .int .i64 to_, .int .i64 life, .int .i64 sq, .int .i64 ack, v']] w fun e w' => e = .returned (.bool true) ∧ Keep [] w w' := by
  obtain ⟨a, c, rfl⟩ := hv.shape
  obtain ⟨a', c', rfl⟩ := hv'.shape
  have k1 : Keep [] w (w.alloc (.cells #[.int .i64 fr, .int .i64 to_, .int .i64 life, .int .i64 sq, .int .i64 ack, .slice a bs.length c] 46)) := (Keep.refl _ _).alloc _
  have k2 : Keep [] w ((w.alloc (.cells #[.int .i64 fr, .int .i64 to_, .int .i64 life, .int .i64 sq, .int .i64 ack, .slice a bs.length c] 46)).alloc (.cells #[.int .i64 fr, .int .i64 to_, .int .i64 life, .int .i64 sq, .int .i64 ack, .slice a' bs.length c'] 46)) := k1.alloc _
  have q1 := conv_bytes (hv.keep0 k2) (by kernel_rfl) (by kernel_rfl)
  have q2 := conv_bytes (hv'.keep0 k2) (by kernel_rfl) (by kernel_rfl)
  have e2 := strB_beq bs bs (r := true) (by simp)
  have K2 := Lib.hid k2
  clear k1 k2 hv hv'
  go_enter Try.func32, Try.ntmps32
  go_wp2
  go_ret
  exact ⟨by simp, K2.out⟩
set_option maxHeartbeats 4000000 in
theorem frames_spec {w : World} {B B' : Nat} {v v' : Value} {fs fs' : List FR} (h : FramesIn w B v fs) (h' : FramesIn w B' v' fs') (he : fs.map frd = fs'.map frd) (hl : fs.length ≤ 1000) :
    Calls Try.prog 21 #[v, v'] w fun e w' => e = .returned (.bool true) ∧ Keep [] w w' := by
  obtain ⟨a, c, rfl⟩ := h.rows.shape
  obtain ⟨a', c', rfl⟩ := h'.rows.shape
  have hll : fs'.length = fs.length := by have := congrArg List.length he; simpa using this.symm
  have H := Lib.hid h
  have H' := Lib.hid h'
  have He := Lib.hid he
  have hlI : (fs.length : Int) ≤ 1000 := by omega
  rw [hll]
  rw [hll] at H'
  clear h h' he
  go_enter Try.func21, Try.ntmps21
  go_wp2_with fail
  go_loopw [5] (fun v5 wr => ∃ i : Nat, i ≤ fs.length ∧ v5 = .int .i64 i ∧ Keep [] w wr) (fun v _ => fs.length - (intOf v).toNat)
  case atStart => exact ⟨0, by omega, rfl, Keep.refl _ _⟩
  case round =>
    obtain ⟨i, hi, rfl, hk⟩ := hrel
    by_cases hlt : i < fs.length
    · obtain ⟨s, hs⟩ : ∃ s, fs[i]? = some s := ⟨_, List.getElem?_eq_getElem hlt⟩
      obtain ⟨s', hs'⟩ : ∃ s, fs'[i]? = some s := ⟨_, List.getElem?_eq_getElem (by omega)⟩
      have hfe : frd s = frd s' := by
        have h1 := congrArg (fun l => l[i]?) He.out
        simp only [List.getElem?_map, hs, hs', Option.map_some, Option.some.injEq] at h1
        exact h1
      have hb := bytes_of_off (OwnsAt.keep (H.out.bytes s (List.mem_of_getElem? hs)) hk (by simp))
      have hb' := bytes_of_off (OwnsAt.keep (H'.out.bytes s' (List.mem_of_getElem? hs')) hk (by simp))
      have hr' := H'.out.rows
      rw [hll] at hr'
      obtain ⟨g, off, rfl, _, _, hc, _, _⟩ := (H.out.rows.keep hk (by simp)).rowAt FR.c_len hs hlt
      obtain ⟨g', off', rfl, _, _, hc', _, _⟩ := (hr'.keep hk (by simp)).rowAt FR.c_len hs' hlt
      obtain ⟨q1, q2, q3, q4, q5, q6⟩ := frd_eq hfe
      obtain ⟨x1, x2, x3, x4, x5, xb, xv⟩ := s
      obtain ⟨y1, y2, y3, y4, y5, yb, yv⟩ := s'
      simp only at q1 q2 q3 q4 q5 q6 hb hb'
      subst q1 q2 q3 q4 q5 q6
      obtain ⟨va, vc, rfl⟩ := hb.shape
      obtain ⟨va', vc', rfl⟩ := hb'.shape
      have c0 : wr.cell? ⟨g, off + i * 6, none⟩ = some (.int .i64 x1) := hc 0 _ (by omega) rfl
      have c1 : wr.cell? ⟨g, off + i * 6 + 1, none⟩ = some (.int .i64 x2) := hc 1 _ (by omega) rfl
      have c2 : wr.cell? ⟨g, off + i * 6 + 2, none⟩ = some (.int .i64 x3) := hc 2 _ (by omega) rfl
      have c3 : wr.cell? ⟨g, off + i * 6 + 3, none⟩ = some (.int .i64 x4) := hc 3 _ (by omega) rfl
      have c4 : wr.cell? ⟨g, off + i * 6 + 4, none⟩ = some (.int .i64 x5) := hc 4 _ (by omega) rfl
      have c5 : wr.cell? ⟨g, off + i * 6 + 5, none⟩ = some (.slice va xb.length vc) := hc 5 _ (by omega) rfl
      have d0 : wr.cell? ⟨g', off' + i * 6, none⟩ = some (.int .i64 x1) := hc' 0 _ (by omega) rfl
      have d1 : wr.cell? ⟨g', off' + i * 6 + 1, none⟩ = some (.int .i64 x2) := hc' 1 _ (by omega) rfl
      have d2 : wr.cell? ⟨g', off' + i * 6 + 2, none⟩ = some (.int .i64 x3) := hc' 2 _ (by omega) rfl
      have d3 : wr.cell? ⟨g', off' + i * 6 + 3, none⟩ = some (.int .i64 x4) := hc' 3 _ (by omega) rfl
      have d4 : wr.cell? ⟨g', off' + i * 6 + 4, none⟩ = some (.int .i64 x5) := hc' 4 _ (by omega) rfl
      have d5 : wr.cell? ⟨g', off' + i * 6 + 5, none⟩ = some (.slice va' xb.length vc') := hc' 5 _ (by omega) rfl
      have hltI : (i : Int) < (fs.length : Int) := by omega
      have Hb := Lib.hid hb
      have Hb' := Lib.hid hb'
      have Hk := Lib.hid hk
      clear hc hc' hs hs' hfe hb hb' hr' hk
      go_wp2_with fail
      refine wp_region_quiet_tail 8 (by kernel_rfl) (by kernel_rfl) ?_
      simp only [List.take_succ_cons, List.take_zero, List.drop_succ_cons, List.drop_zero]
      repeat (go_big_quiet_step (fail))
      refine quiet_tail_end ?_
      rintro _ ⟨nq, rfl⟩
      go_wp2_with fail
      refine (sameframe_spec (Hb.out.keep0 ((Keep.refl [] _).drewN nq)) (Hb'.out.keep0 ((Keep.refl [] _).drewN nq))).mono ?_
      rintro e w5 ⟨rfl, hk5⟩
      have Hk5 := Lib.hid ((Hk.out.drewN nq).trans hk5 (by simp))
      clear hk5 c0 c1 c2 c3 c4 c5 d0 d1 d2 d3 d4 d5
      go_wp2
      go_roundw
      case rel => exact ⟨i + 1, by omega, by go_num, Hk5.out⟩
      case measure => simp [intOf]; omega
    · obtain rfl : i = fs.length := by omega
      have Hk := Lib.hid hk
      clear hk
      go_wp2
      go_ret
      exact ⟨rfl, Hk.out⟩
set_option maxHeartbeats 4000000 in
theorem loads_spec {w : World} {B B' : Nat} {v v' : Value} {os os' : List LD} (h : OutsIn w B v os) (h' : OutsIn w B' v' os') (he : os.map LD.bs = os'.map LD.bs) (hl : os.length ≤ 100000) :
    Calls Try.prog 17 #[v, v'] w fun e w' => e = .returned (.bool true) ∧ Keep [] w w' := by
  obtain ⟨a, c, rfl⟩ := h.rows.shape
  obtain ⟨a', c', rfl⟩ := h'.rows.shape
  have hll : os'.length = os.length := by have := congrArg List.length he; simpa using this.symm
  have H := Lib.hid h
  have H' := Lib.hid h'
  have He := Lib.hid he
  have hlI : (os.length : Int) ≤ 100000 := by omega
  rw [hll]
  rw [hll] at H'
  clear h h' he
  go_enter Try.func17, Try.ntmps17
  go_wp2_with fail
  go_loopw [5] (fun v5 wr => ∃ i : Nat, i ≤ os.length ∧ v5 = .int .i64 i ∧ Keep [] w wr) (fun v _ => os.length - (intOf v).toNat)
  case atStart => exact ⟨0, by omega, rfl, Keep.refl _ _⟩
  case round =>
    obtain ⟨i, hi, rfl, hk⟩ := hrel
    by_cases hlt : i < os.length
    · obtain ⟨s, hs⟩ : ∃ s, os[i]? = some s := ⟨_, List.getElem?_eq_getElem hlt⟩
      obtain ⟨s', hs'⟩ : ∃ s, os'[i]? = some s := ⟨_, List.getElem?_eq_getElem (by omega)⟩
      have hfe : s.bs = s'.bs := by
        have h1 := congrArg (fun l => l[i]?) He.out
        simp only [List.getElem?_map, hs, hs', Option.map_some, Option.some.injEq] at h1
        exact h1
      have hb := bytes_of_off (OwnsAt.keep (H.out.bytes s (List.mem_of_getElem? hs)) hk (by simp))
      have hb' := bytes_of_off (OwnsAt.keep (H'.out.bytes s' (List.mem_of_getElem? hs')) hk (by simp))
      have hr := H.out.rows
      have hr' := H'.out.rows
      rw [hll] at hr'
      have fm : ∀ l : List LD, l.map LD.bv = l.flatMap fun s => [s.bv] := fun l => by induction l with
        | nil => rfl
        | cons a l ih => simp [List.flatMap_cons, ih]
      rw [fm] at hr hr'
      obtain ⟨g, off, rfl, _, _, hc, _, _⟩ := (hr.keep hk (by simp)).rowAt (fun _ => rfl) hs hlt
      obtain ⟨g', off', rfl, _, _, hc', _, _⟩ := (hr'.keep hk (by simp)).rowAt (fun _ => rfl) hs' hlt
      rw [← hfe] at hb'
      obtain ⟨va, vc, hva⟩ := hb.shape
      obtain ⟨va', vc', hva'⟩ := hb'.shape
      have c0 : wr.cell? ⟨g, off + i, none⟩ = some s.bv := by simpa using hc 0 _ (by omega) rfl
      have d0 : wr.cell? ⟨g', off' + i, none⟩ = some s'.bv := by simpa using hc' 0 _ (by omega) rfl
      rw [hva] at c0 hb
      rw [hva'] at d0 hb'
      have q1 : ∀ n, (convert 35 9 (.slice va s.bs.length vc)).run Try.prog (wr.drewN n) = .ok (.string (strB s.bs)) (wr.drewN n) := fun n => conv_bytes (hb.keep0 ((Keep.refl [] _).drewN n)) (by kernel_rfl) (by kernel_rfl)
      have q2 : ∀ n, (convert 35 9 (.slice va' s.bs.length vc')).run Try.prog (wr.drewN n) = .ok (.string (strB s.bs)) (wr.drewN n) := fun n => conv_bytes (hb'.keep0 ((Keep.refl [] _).drewN n)) (by kernel_rfl) (by kernel_rfl)
      have e2 := strB_beq s.bs s.bs (r := true) (by simp)
      have hltI : (i : Int) < (os.length : Int) := by omega
      have Hk := Lib.hid hk
      clear hc hc' hs hs' hfe hb hb' hr hr' hk fm hva hva'
      go_wp2_with fail
      go_quiet (fail)
      clear c0 d0 q1 q2 e2
      go_wp2
      go_roundw
      case rel => exact ⟨i + 1, by omega, by go_num, Hk.out.drewN _⟩
      case measure => simp [intOf]; omega
    · obtain rfl : i = os.length := by omega
      have Hk := Lib.hid hk
      clear hk
      go_wp2
      go_ret
      exact ⟨rfl, Hk.out⟩
end Go.Proofs.Ytacifjjhadjhfaa
