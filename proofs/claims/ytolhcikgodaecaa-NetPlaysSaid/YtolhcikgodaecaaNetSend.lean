/- Nets: Send. -/
import Derived.Test.YtolhcikgodaecaaRows
import Derived.WalkKit
import Derived.WalkSpells
import Derived.WalkLawsBesides
import Derived.RegionTactic
import Derived.ChangeAlike
import Derived.BigQuiet
import Derived.Deep.QuietTactic
import Derived.StillTailTactics
import Derived.IntWalk
import Derived.Handy
import Derived.Lib.Hide
import Derived.Deep.AppendLies
import Derived.Deep.RegionWith
import Derived.Deep.RegionLaw
import Derived.Deep.RegionHeld3
import Derived.Test.YtolhcikgodaecaaBase
import Derived.Test.YtolhcikgodaecaaTail
import Derived.Test.YtolhcikgodaecaaArgs
import Derived.Test.YtolhcikgodaecaaAppend
import Derived.Test.YtolhcikgodaecaaOffs
import Derived.Test.YtolhcikgodaecaaStructs
import Derived.Test.YtolhcikgodaecaaNetObj
import Derived.Test.YtolhcikgodaecaaNetObj2
namespace Go.Proofs.Ytolhcikgodaecaa
open Go.RowKit

theorem src_row {w : World} {t : TypeId} {cs : List Value} (sz : Nat) (h : cs.length = sz) (c : Array Value) (hc : c = cs.toArray) : SrcOf (w.alloc (.cells c t)) (.slice (some ⟨w.heap.size, 0, none⟩) 1 1) sz 1 cs := by
  subst hc
  refine ⟨_, _, rfl, by omega, fun _ => ⟨_, rfl, fun j u hu => ?_⟩⟩
  rw [add_none, Nat.zero_add]
  exact ((Blk.new w t cs).cell j).trans hu
/-- how many of m parcels a net of n takes -/
def room (n m : Nat) : Nat := min m (10000 - n)
/-- what a net is when it has taken k of ps: their bytes are new -/
def dat (s : PS) : Int × Int × List UInt8 × Bool := (s.f, s.t, s.bs, s.fl)
def SendPost (B p : Nat) (F : List Nat) (w : World) (ss ps : List PS) (e : Ending) (w' : World) : Prop :=
  ∃ k ss', k = room ss.length ps.length ∧ ss'.map dat = (ps.take k).map (fun s => (s.f, s.t, s.bs, false)) ∧ NetPost B p F w (.int .i64 k) (ss ++ ss') e w'
set_option maxHeartbeats 4000000 in
set_option maxRecDepth 100000 in
theorem send_gen {w : World} {B p : Nat} {F : List Nat} {ss ps : List PS} {v : Value} (h : NetAt w B p F ss) (hB : B ≤ w.heap.size) (hsep : ∀ w', Keep F w w' → ParcelsOf w' v ps) (hl : ss.length ≤ 10000) (hpl : ps.length ≤ 100000) (hbl : ∀ s ∈ ps, s.bs.length ≤ 1000000) :
    Calls Try.prog 9 #[.pointer (some ⟨p, 0, none⟩), v] w (SendPost B p F w ss ps) := by
  have hv := hsep w (Keep.refl _ _)
  have Hsep := Lib.hid hsep
  have Hl := Lib.hid hl
  have hpl2 : ps.length ≤ 9000000000000 := by omega
  have Hbl := Lib.hid hbl
  clear hl hbl hsep
  obtain ⟨a, c, rfl, hcells⟩ := hv
  clear hcells
  go_enter Try.func9, Try.ntmps9
  go_wp2
  go_loopw [5, 7, 10] (fun v5 v7 v10 wr => ∃ (i : Nat) (F' : List Nat) (ss' : List PS), i ≤ ps.length ∧ v10 = .int .i64 i ∧ v5 = .int .i64 (room ss.length i : Nat) ∧ ss'.map dat = (ps.take (room ss.length i)).map (fun s => (s.f, s.t, s.bs, false)) ∧
    NetAt wr B p F' (ss ++ ss') ∧ Keep F w wr ∧ (∀ x ∈ F', x ∈ F ∨ w.heap.size ≤ x)) (fun _ _ v _ => ps.length - (intOf v).toNat)
  case atStart => exact ⟨0, F, [], by omega, rfl, by simp [room], by simp [room], by simpa using h, Keep.refl _ _, fun x hx => Or.inl hx⟩
  case round =>
    clear h
    obtain ⟨i, F', ss', hi, rfl, rfl, hdat, hat, hk, hf⟩ := hrel
    have hss : ss'.length = room ss.length i := by
      have := congrArg List.length hdat
      have hl := Hl.out
      simp only [List.length_map, List.length_take] at this
      unfold room at this ⊢
      omega
    by_cases hlt : i < ps.length
    · have hv2 := Hsep.out _ hk
      obtain ⟨a', c', hva, hcells⟩ := hv2
      cases hva
      obtain ⟨b, off, rfl, hb, e0, e1, e2, e3⟩ := hcells i ps[i] (List.getElem?_eq_getElem hlt)
      clear hcells
      have hbl2 := Hbl.out _ (List.getElem_mem hlt)
      have htk : ps.take (i + 1) = ps.take i ++ [ps[i]] := List.take_succ_eq_append_getElem hlt
      generalize ps[i] = s at *
      obtain ⟨f, t, bs, fl, bv⟩ := s
      simp only at e0 e1 e2 e3 hbl2
      obtain ⟨ab, cb, rfl⟩ := e3.shape
      have He3 := Lib.hid e3
      have Htk := Lib.hid htk
      clear e3 htk
      obtain ⟨vw, hn, rfl⟩ := hat
      have c0 : wr.cell? ⟨p, 0, none⟩ = some vw := hn.head.cell 0
      obtain ⟨aw, cw, rfl⟩ := hn.rows.shape
      have hplt := hn.head.lt
      have hBw : B ≤ wr.heap.size := Nat.le_trans hB hk.size
      have hkA : Keep [] wr (wr.alloc (.cells #[.int .i64 f, .int .i64 t, .slice ab bs.length cb] 29)) := (Keep.refl _ _).alloc _
      have hn2 := hn.keep hkA (by simp)
      have hA : Blk (wr.alloc (.cells #[.int .i64 f, .int .i64 t, .slice ab bs.length cb] 29)) wr.heap.size 29 [.int .i64 f, .int .i64 t, .slice ab bs.length cb] := Blk.new' _ _ _ _ rfl
      by_cases hroom : ss.length + ss'.length < 10000
      · have hlen : (ss ++ ss').length < 10000 := by simpa using hroom
        generalize hSS : ss ++ ss' = SS at *
        have HSS := Lib.hid hSS
        have ht : decide ((SS.length : Int) < 10000) = true := by simp; omega
        have Hss := Lib.hid hss
        have hri : ((room ss.length i : Nat) : Int) ≤ i := by unfold room; omega
        have Hlen := Lib.hid hlen
        have Hbl2 := Lib.hid hbl2
        clear hSS hroom hlen hbl2 hss
        go_wp2_with fail
        go_region_law (first
          | (refine step_append_off rfl (.tmp 24) (.tmp 28) rfl Try.way49 B (.slice aw SS.length cw) SS.length (SS.flatMap PS.c4) (by simp [Act.eval]) (hn3.rows.keep ((Keep.refl [] _).alloc _) (by simp)) (.slice (some ⟨w3.heap.size, 0, none⟩) 1 1) 1 [.int .i64 f, .int .i64 t, .slice a9 bs.length c9, .bool false] (by simp [Act.eval]) (src_row 4 rfl _ rfl) (by simp [Value.oneCell']) (by unfold maxLen; have := Hlen.out; omega) (by have := Hlen.out; omega) (by have := hk3.size; simp at this; simp; omega) ?_; intro v' w4 hown4 hk4 hat4; have hp4 : p ∉ ownBlocks (.slice aw SS.length cw) := (fun hx => hn3.rows.ne_blk hn3.head (by decide) (mem_own.1 hx)); have c5 : w4.cell? ⟨p, 0, none⟩ = some (.slice aw SS.length cw) := ((hn3.head.alloc _).keep hk4 hp4).cell 0; have f5 : w4.frozen? ⟨p, 0, none⟩ = false := ((hn3.head.alloc _).keep hk4 hp4).frozen 0; obtain ⟨a7, c7', rfl⟩ := hown4.shape)
          | (go_simp; go_at_call 23; refine (own_spec ((He3.out.keep0 hkA).keep0 (Keep.refl _ _).drew) (by have := Hbl2.out; omega)).mono ?_; rintro e w3 ⟨bv, rfl, ho, hk3⟩; have hn3 := (hn2.keep (Keep.refl [] _).drew (by simp)).keep hk3 (by simp); have c1 : w3.cell? ⟨p, 0, none⟩ = some (.slice aw SS.length cw) := hn3.head.cell 0; have hp3 := hn3.head.lt; obtain ⟨a9, c9, rfl⟩ := OwnsAt.shape ho))
        all_goals
          obtain ⟨g1, g2, g3⟩ := NetIn.push (s := ⟨f, t, bs, false, .slice a9 bs.length c9⟩) (hn2.keep (Keep.refl [] _).drew (by simp)) (by simp; omega) (hk3.alloc (.cells #[.int .i64 f, .int .i64 t, .slice a9 bs.length c9, .bool false] 54)) (OwnsAt.keep ho ((Keep.refl [] _).alloc _) (by simp)) hk4 (by simpa [PS.c4] using hown4) (by
            rcases hat4 with h | h
            · exact Or.inl h
            · exact Or.inr ⟨_, h, by simp⟩)
          have g4 : Keep F w (w4.setCell ⟨p, 0, none⟩ (.slice a7 (SS.length + 1) c7')) := (hk.trans (hkA.drew) (by simp)).trans g2 hf
          have hroom2 : room ss.length (i + 1) = room ss.length i + 1 ∧ room ss.length i = i := by
            have h1 := Hlen.out
            have h2 := congrArg List.length HSS.out
            simp only [List.length_append] at h2
            have h3 := Hss.out
            unfold room at h3 ⊢
            omega
          have hdat2 : (ss' ++ [(⟨f, t, bs, false, .slice a9 bs.length c9⟩ : PS)]).map dat = (ps.take (room ss.length (i + 1))).map (fun s => (s.f, s.t, s.bs, false)) := by
            rw [hroom2.1, hroom2.2, Htk.out, List.map_append, List.map_append, hdat, hroom2.2]
            rfl
          have g5 : NetAt (w4.setCell ⟨p, 0, none⟩ (.slice a7 (SS.length + 1) c7')) B p (netFoot p (.slice a7 (SS.length + 1) c7') (SS ++ [⟨f, t, bs, false, .slice a9 bs.length c9⟩])) (ss ++ (ss' ++ [⟨f, t, bs, false, .slice a9 bs.length c9⟩])) := by
            rw [← List.append_assoc, HSS.out]
            exact ⟨_, g1, rfl⟩
          have g6 : ∀ x ∈ netFoot p (.slice a7 (SS.length + 1) c7') (SS ++ [⟨f, t, bs, false, .slice a9 bs.length c9⟩]), x ∈ F ∨ w.heap.size ≤ x := fun x hx => by
            rcases g3 x hx with h | h
            · exact hf x h
            · have := hk.size
              simp at h
              exact Or.inr (by omega)
          have hr1 : ((room ss.length (i + 1) : Nat) : Int) = (room ss.length i : Nat) + 1 := by rw [hroom2.1]; rfl
          have Hr1 := Lib.hid hr1
          clear g1 g2 g3 hn3 hn2 hn hA hk3 hk4 hown4 hat4 ho hk hf hroom2 hr1 hdat
          go_wp2
          go_roundw
          case rel => exact ⟨i + 1, _, _, by omega, by go_num, by rw [Hr1.out], hdat2, g5, g4, g6⟩
          case measure => simp [intOf]; omega
      · have hlen : ¬ (ss ++ ss').length < 10000 := by simpa using hroom
        generalize hSS : ss ++ ss' = SS at *
        have HSS := Lib.hid hSS
        have ht : decide ((SS.length : Int) < 10000) = false := by simp; omega
        have Hlen := Lib.hid hlen
        have Hss := Lib.hid hss
        have hroom2 : room ss.length (i + 1) = room ss.length i := by
          have h1 := Hlen.out
          have h2 := congrArg List.length HSS.out
          simp only [List.length_append] at h2
          have h3 := Hss.out
          unfold room at h3 ⊢
          omega
        have Hroom2 := Lib.hid hroom2
        have g5 : NetAt (wr.alloc (.cells #[.int .i64 f, .int .i64 t, .slice ab bs.length cb] 29)) B p (netFoot p (.slice aw SS.length cw) SS) (ss ++ ss') := by
          rw [HSS.out]
          exact ⟨_, hn2, rfl⟩
        have g4 := hk.alloc (.cells #[.int .i64 f, .int .i64 t, .slice ab bs.length cb] 29)
        rw [← hroom2] at hdat
        clear hSS hroom hlen hbl2 hss hroom2 hn2 hA hk hn
        go_wp2_with fail
        go_roundw
        case rel => exact ⟨i + 1, _, ss', by omega, by go_num, by rw [Hroom2.out], hdat, g5, g4, hf⟩
        case measure => simp [intOf]; omega
    · have : i = ps.length := by omega
      subst this
      have Hfin : Hid (SendPost B p F w ss ps (.returned (.int .i64 (room ss.length ps.length : Nat))) wr) := Lib.hid ⟨_, ss', rfl, hdat, rfl, F', hat, hk, hf⟩
      clear hat hk hf hdat hss
      go_wp2
      go_ret
      exact Hfin.out
theorem send_spec {w : World} {B p : Nat} {F : List Nat} {ss ps : List PS} {v : Value} (h : NetAt w B p F ss) (hB : B ≤ w.heap.size) (hv : ParcelsOf w v ps) (hsep : ∀ x ∈ parcelBlocks v ps, x ∉ F ∧ x < w.heap.size) (hl : ss.length ≤ 10000) (hpl : ps.length ≤ 100000) (hbl : ∀ s ∈ ps, s.bs.length ≤ 1000000) :
    Calls Try.prog 9 #[.pointer (some ⟨p, 0, none⟩), v] w (SendPost B p F w ss ps) :=
  send_gen h hB (fun _ hk => hv.keep hk (fun x hx => (hsep x hx).1)) hl hpl hbl
end Go.Proofs.Ytolhcikgodaecaa
