/- The calls of LinkPlays. -/
import Derived.Test.YtacifjjhadjhfaaRows
import Derived.WalkKit
import Derived.WalkSpells
import Derived.WalkLawsBesides
import Derived.RegionTactic
import Derived.ChangeAlike
import Derived.BigQuiet
import Derived.Deep.QuietTactic
import Derived.StillTailTactics
import Derived.IntWalk
import Derived.Handy
import Derived.Lib.Hide
import Derived.Deep.AppendLies
import Derived.Deep.RegionWith
import Derived.Test.YtacifjjhadjhfaaBase
import Derived.Test.YtacifjjhadjhfaaTail
import Derived.Test.YtacifjjhadjhfaaArgs
import Derived.Test.YtacifjjhadjhfaaAppend
import Derived.Deep.RegionLaw
import Derived.Test.YtacifjjhadjhfaaOffs
import Derived.Test.YtacifjjhadjhfaaStructs
import Derived.Test.YtacifjjhadjhfaaSplit
import Derived.Maps.OwnSet
import Derived.Maps.Views
import Derived.Test.YtacifjjhadjhfaaLinkBytes
import Derived.Test.YtacifjjhadjhfaaLinkObj
import Derived.Test.YtacifjjhadjhfaaLinkSend
import Derived.Test.YtacifjjhadjhfaaLinkDue
import Derived.Test.YtacifjjhadjhfaaLinkFrame
import Derived.Test.YtacifjjhadjhfaaLinkOut
import Derived.Test.YtacifjjhadjhfaaLinkOut2
import Derived.Test.YtacifjjhadjhfaaLinkOne
import Derived.Test.YtacifjjhadjhfaaLinkLive
import Derived.Test.YtacifjjhadjhfaaLinkAck
import Derived.Test.YtacifjjhadjhfaaLinkAck2
import Derived.Test.YtacifjjhadjhfaaLinkGot
import Derived.Test.YtacifjjhadjhfaaLinkGot2
import Derived.Test.YtacifjjhadjhfaaLinkGot3
import Derived.Test.YtacifjjhadjhfaaLinkInn
import Derived.Test.YtacifjjhadjhfaaLinkX2
import Derived.Deep.CutRange
import Derived.Deep.DeepCutAuto
import Derived.BigRegion
import Derived.Test.YtacifjjhadjhfaaRLink
import Derived.Test.YtacifjjhadjhfaaRLink2
import Derived.Test.YtacifjjhadjhfaaRLink3
import Derived.Laws.BytesArg
import Derived.Test.YtacifjjhadjhfaaRLink5
namespace Go.Proofs.Ytacifjjhadjhfaa
open Go.RowKit Go.ChangeShapes Go.WideShapes Go.Deep
/-- a call that is to be made -/
structure LA where
  way : Int
  now : Int
  bs : List UInt8
  v : Value
  f : FA
structure LA.In (x : LA) (w : World) : Prop where
  bytes : BytesOf w x.v x.bs
  fr : x.f.In w
def LActsOf (w : World) (v : Value) (l : List LA) : Prop :=
  ∃ a c, v = .slice a l.length c ∧ ∀ (i : Nat) (x : LA), l[i]? = some x → ∃ b off, a = some ⟨b, off, none⟩ ∧ b < w.heap.size ∧ w.cell? ⟨b, off + i * 9, none⟩ = some (.int .i64 x.way) ∧ w.cell? ⟨b, off + i * 9 + 1, none⟩ = some (.int .i64 x.now) ∧ w.cell? ⟨b, off + i * 9 + 2, none⟩ = some x.v ∧
    w.cell? ⟨b, off + i * 9 + 3, none⟩ = some (.int .i64 x.f.fr) ∧ w.cell? ⟨b, off + i * 9 + 4, none⟩ = some (.int .i64 x.f.to) ∧ w.cell? ⟨b, off + i * 9 + 5, none⟩ = some (.int .i64 x.f.life) ∧ w.cell? ⟨b, off + i * 9 + 6, none⟩ = some (.int .i64 x.f.sq) ∧ w.cell? ⟨b, off + i * 9 + 7, none⟩ = some (.int .i64 x.f.ack) ∧ w.cell? ⟨b, off + i * 9 + 8, none⟩ = some x.f.v ∧ x.In w
theorem LA.In.keep0 {x : LA} {w w' : World} (h : x.In w) (k : Keep [] w w') : x.In w' := ⟨h.bytes.keep0 k, h.fr.keep0 k⟩
theorem LActsOf.keep0 {w w' : World} {v : Value} {l : List LA} (h : LActsOf w v l) (hk : Keep [] w w') : LActsOf w' v l := by
  obtain ⟨a, c, rfl, h⟩ := h
  refine ⟨a, c, rfl, fun i x hx => ?_⟩
  obtain ⟨b, off, rfl, hb, h0, h1, h2, h3, h4, h5, h6, h7, h8, h9⟩ := h i x hx
  have g : ∀ (o : Nat) (u : Value), w.cell? ⟨b, o, none⟩ = some u → w'.cell? ⟨b, o, none⟩ = some u := fun o u hu => (hk.cell (p := ⟨b, o, none⟩) hb (by simp)).trans hu
  exact ⟨b, off, rfl, Nat.lt_of_lt_of_le hb hk.size, g _ _ h0, g _ _ h1, g _ _ h2, g _ _ h3, g _ _ h4, g _ _ h5, g _ _ h6, g _ _ h7, g _ _ h8, h9.keep0 hk⟩
theorem lacts_open {H : Type} {enc : TypeId × Value → H} {w : World} {r : Reach} {b0 : Nat} {v : Value} {d : DataW H} {p : List MemPlace} (ho : Value.okWide Try.prog w r b0 59 v) (h : DataW.Trod enc Try.prog w 0 (fun _ => true) true 59 v d p) :
    ∃ l, LActsOf w v l := by
  obtain ⟨v', css, hv, ⟨a, c, rfl, hr⟩, hall⟩ := reads_rows 9 Try.underlying59 (by kernel_rfl) (by omega) (reads_of Try.underlying59 ho h)
  obtain rfl : v = .slice a css.length c := by simpa using hv
  obtain ⟨l, hlen, hx⟩ := choose_list (fun cs (x : LA) => cs[0]? = some (.int .i64 x.way) ∧ cs[1]? = some (.int .i64 x.now) ∧ cs[2]? = some x.v ∧ (cs.drop 3).take 6 = x.f.c ∧ x.In w) css (fun cs hcs => by
    have hR := hall cs hcs
    obtain ⟨x0, h0, _⟩ := reads_int_at (i := 0) (t := 3) (o := 0) Try.underlying67 (show _ = (#[(3, 0), (3, 1), (35, 2), (46, 3)] : Array (TypeId × Nat)) by kernel_rfl) hR rfl Try.underlying3 (by kernel_rfl)
    obtain ⟨x1, h1, _⟩ := reads_int_at (i := 1) (t := 3) (o := 1) Try.underlying67 (show _ = (#[(3, 0), (3, 1), (35, 2), (46, 3)] : Array (TypeId × Nat)) by kernel_rfl) hR rfl Try.underlying3 (by kernel_rfl)
    have h2 := reads_at (i := 2) (t := 35) (o := 2) Try.underlying67 (show _ = (#[(3, 0), (3, 1), (35, 2), (46, 3)] : Array (TypeId × Nat)) by kernel_rfl) hR rfl
    rw [show Try.prog.cellsOf 35 = 1 by kernel_rfl] at h2
    obtain ⟨v2, bs2, hv2, hb2⟩ := reads_bytes Try.underlying35 Try.underlying5 (by kernel_rfl) h2
    have h3 := reads_at (i := 3) (t := 46) (o := 3) Try.underlying67 (show _ = (#[(3, 0), (3, 1), (35, 2), (46, 3)] : Array (TypeId × Nat)) by kernel_rfl) hR rfl
    rw [show Try.prog.cellsOf 46 = 6 by kernel_rfl] at h3
    obtain ⟨f, hf, hin⟩ := frame_reads h3
    exact ⟨⟨x0, x1, bs2, v2, f⟩, h0, h1, one_at hv2, hf, hb2, hin⟩)
  refine ⟨l, a, c, by rw [hlen], fun i x hi => ?_⟩
  have hil : i < css.length := by
    rw [← hlen]
    rcases Nat.lt_or_ge i l.length with h' | h'
    · exact h'
    · rw [List.getElem?_eq_none h'] at hi; cases hi
  obtain ⟨b, off, rfl, hb, hc⟩ := hr (by intro h; rw [h] at hil; simp at hil)
  have hcs := List.getElem?_eq_getElem hil
  obtain ⟨h0, h1, h2, h3, h4⟩ := hx i _ x hcs hi
  have hcell := (hc i _ hcs).2
  have g : ∀ j, j < 6 → ∀ u, x.f.c[j]? = some u → w.cell? ⟨b, off + i * 9 + (3 + j), none⟩ = some u := fun j hj u hu => by
    refine hcell (3 + j) u ?_
    rw [← h3, List.getElem?_take, if_pos hj, List.getElem?_drop] at hu
    exact hu
  exact ⟨b, off, rfl, hb, hcell 0 _ h0, hcell 1 _ h1, hcell 2 _ h2, g 0 (by omega) _ rfl, g 1 (by omega) _ rfl, g 2 (by omega) _ rfl, g 3 (by omega) _ rfl, g 4 (by omega) _ rfl, g 5 (by omega) _ rfl, h4⟩
structure LA.Fits (x : LA) : Prop where
  b1 : x.bs.length ≤ 5000
  b2 : x.f.bs.length ≤ 5000
  n1 : x.now ≤ 1152921504606846976
  n2 : -1152921504606846976 ≤ x.now
def BigPost (l : List LA) (w : World) (e : Ending) (w' : World) : Prop := ∃ b, e = .returned (.bool b) ∧ Keep [] w w' ∧ (b = false → l.length ≤ 200 ∧ ∀ x ∈ l, x.Fits)
set_option maxHeartbeats 8000000 in
set_option maxRecDepth 100000 in
theorem big_spec {w : World} {v : Value} {l : List LA} (hv : LActsOf w v l) : Calls Try.prog 18 #[v] w (BigPost l w) := by
  have Hv := Lib.hid hv
  obtain ⟨a, c, rfl, _⟩ := hv
  by_cases h200 : 200 < l.length
  · have hI : (200 : Int) < (l.length : Int) := by omega

    go_enter Try.func18, Try.ntmps18
    go_wp2
    go_ret
    exact ⟨true, rfl, Keep.refl _ _, fun h => by cases h⟩
  · have hI : ¬ (200 : Int) < (l.length : Int) := by omega

    go_enter Try.func18, Try.ntmps18
    go_wp2_with fail
    go_loopw [3] (fun v3 wr => ∃ i : Nat, i ≤ l.length ∧ v3 = .int .i64 i ∧ wr = w ∧ ∀ (j : Nat) (x : LA), j < i → l[j]? = some x → x.Fits) (fun v _ => l.length - (intOf v).toNat)
    case atStart => exact ⟨0, by omega, rfl, rfl, by omega⟩
    case round =>
      obtain ⟨i, hi, rfl, rfl, hf⟩ := hrel
      by_cases hlt : i < l.length
      · obtain ⟨x, hx⟩ : ∃ x, l[i]? = some x := ⟨_, List.getElem?_eq_getElem hlt⟩
        obtain ⟨a', c', hva, hcells⟩ := Hv.out
        cases hva
        obtain ⟨b, off, rfl, hb, h0, h1, h2, h3, h4, h5, h6, h7, h8, hin⟩ := hcells i x hx
        obtain ⟨va, vc, hbv⟩ := hin.bytes.shape
        obtain ⟨fa, fc, hfv⟩ := hin.fr.bytes.shape
        rw [hbv] at h2
        rw [hfv] at h8
        have hltI : (i : Int) < (l.length : Int) := by omega
        have hi300 : (i : Int) ≤ 200 := by omega
        have hnext : x.Fits → ∀ (j : Nat) (y : LA), j < i + 1 → l[j]? = some y → y.Fits := fun hxf j y hj hy => by
          by_cases hji : j = i
          · subst hji
            rw [hx] at hy
            cases hy
            exact hxf
          · exact hf j y (by omega) hy
        have Hnext := Lib.hid hnext
        have Hf := Lib.hid hf
        clear hcells hx hin hbv hfv hnext hf h0 h3 h4 h5 h6 h7
        by_cases g1 : 5000 < x.bs.length
        · have gI : (5000 : Int) < (x.bs.length : Int) := by omega
          clear g1
          go_wp2
          go_ret
          exact ⟨true, rfl, Keep.refl _ _, fun h => by cases h⟩
        · have gI : ¬ (5000 : Int) < (x.bs.length : Int) := by omega
          by_cases g2 : 5000 < x.f.bs.length
          · have gI2 : (5000 : Int) < (x.f.bs.length : Int) := by omega
            clear g1 g2
            go_wp2
            go_ret
            exact ⟨true, rfl, Keep.refl _ _, fun h => by cases h⟩
          · have gI2 : ¬ (5000 : Int) < (x.f.bs.length : Int) := by omega
            by_cases g3 : 1152921504606846976 < x.now
            · clear g1 g2
              go_wp2
              go_ret
              exact ⟨true, rfl, Keep.refl _ _, fun h => by cases h⟩
            · by_cases g4 : x.now < -1152921504606846976
              · clear g1 g2
                go_wp2
                go_ret
                exact ⟨true, rfl, Keep.refl _ _, fun h => by cases h⟩
              · have hfit := Lib.hid (Hnext.out ⟨by omega, by omega, by omega, by omega⟩)
                clear g1 g2
                go_wp2
                go_roundw
                case rel => exact ⟨i + 1, by omega, by go_num, by first | rfl | trivial, hfit.out⟩
                case measure => simp [intOf]; omega
      · obtain rfl : i = l.length := by omega
        have Hf := Lib.hid hf
        clear hf
        go_wp2
        go_ret
        refine ⟨false, rfl, Keep.refl _ _, fun _ => ⟨by omega, fun x hx => ?_⟩⟩
        obtain ⟨j, hj, rfl⟩ := List.mem_iff_getElem.1 hx
        exact Hf.out j _ hj (List.getElem?_eq_getElem hj)
end Go.Proofs.Ytacifjjhadjhfaa
