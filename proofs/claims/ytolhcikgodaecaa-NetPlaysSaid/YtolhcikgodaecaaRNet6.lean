/- Nets: Drop, rows that are one, the calls of NetPlays. -/
import Derived.Test.YtolhcikgodaecaaRows
import Derived.WalkKit
import Derived.WalkSpells
import Derived.WalkLawsBesides
import Derived.RegionTactic
import Derived.ChangeAlike
import Derived.BigQuiet
import Derived.Deep.QuietTactic
import Derived.StillTailTactics
import Derived.IntWalk
import Derived.Handy
import Derived.Lib.Hide
import Derived.Deep.AppendLies
import Derived.Deep.RegionWith
import Derived.Deep.RegionLaw
import Derived.Test.YtolhcikgodaecaaBase
import Derived.Test.YtolhcikgodaecaaTail
import Derived.Test.YtolhcikgodaecaaArgs
import Derived.Test.YtolhcikgodaecaaAppend
import Derived.Test.YtolhcikgodaecaaOffs
import Derived.Test.YtolhcikgodaecaaStructs
import Derived.Test.YtolhcikgodaecaaNetObj
import Derived.Test.YtolhcikgodaecaaNetObj2
import Derived.Test.YtolhcikgodaecaaNetSend
import Derived.Test.YtolhcikgodaecaaNetWay
import Derived.Test.YtolhcikgodaecaaNetDel
import Derived.Test.YtolhcikgodaecaaNetSmall
import Derived.Test.YtolhcikgodaecaaSplit
import Derived.Test.YtolhcikgodaecaaNetSmall
import Derived.Test.YtolhcikgodaecaaNetFlip
import Derived.Test.YtolhcikgodaecaaNetDup
import Derived.Deep.CutRange
import Derived.Deep.DeepCutAuto
import Derived.BigRegion
import Derived.Test.YtolhcikgodaecaaRNet
import Derived.Test.YtolhcikgodaecaaRNet2
import Derived.Test.YtolhcikgodaecaaRNet3
import Derived.Test.YtolhcikgodaecaaRNet4
import Derived.Test.YtolhcikgodaecaaRNet5
import Derived.Test.YtolhcikgodaecaaNetGone
import Derived.Test.YtolhcikgodaecaaBytes
import Derived.Test.YtolhcikgodaecaaOpens
namespace Go.Proofs.Ytolhcikgodaecaa
open Go.RowKit Go.ChangeShapes Go.WideShapes Go.Deep

/-! ### Drop -/
def DropPost (B p : Nat) (F : List Nat) (w : World) (ss : List PS) (k : Int) (e : Ending) (w' : World) : Prop :=
  if isK k ss.length = true then NetPost B p F w (.bool true) (ss.eraseIdx k.toNat) e w'
  else e = .returned (.bool false) ∧ Keep [] w w'
theorem drop_spec {w : World} {B p : Nat} {F : List Nat} {ss : List PS} (k : Int) (h : NetAt w B p F ss) (hl : ss.length ≤ 100000) :
    Calls Try.prog 18 #[.pointer (some ⟨p, 0, none⟩), .int .i64 k] w (DropPost B p F w ss k) := by
  have hd := Lib.hid (deliver_spec k h hl)
  clear h
  cases hk : isK k ss.length with
  | true =>
    go_enter Try.func18, Try.ntmps18
    go_wp2_with fail
    refine hd.out.mono ?_
    intro e w1 hp
    unfold DeliverPost at hp
    rw [if_pos hk] at hp
    obtain ⟨s, F', _, rfl, hn, hkp, hf, hob, _⟩ := hp
    obtain ⟨sa, sc, hsv⟩ := OwnsAt.shape hob
    rw [hsv]
    have Hn := Lib.hid (And.intro hn (And.intro hkp hf))
    clear hd hn hkp hf hob
    go_wp2
    go_ret
    unfold DropPost
    rw [if_pos hk]
    exact ⟨rfl, F', Hn.out.1.keep ((Keep.refl [] _).alloc _) (by simp), Hn.out.2.1.trans ((Keep.refl [] _).alloc _) (by simp), fun x hx => Or.inl (Hn.out.2.2 x hx)⟩
  | false =>
    go_enter Try.func18, Try.ntmps18
    go_wp2_with fail
    refine hd.out.mono ?_
    intro e w1 hp
    unfold DeliverPost at hp
    rw [if_neg (by rw [hk]; decide)] at hp
    obtain ⟨rfl, hkp⟩ := hp
    have Hn := Lib.hid hkp
    clear hd hkp
    go_wp2
    go_ret
    unfold DropPost
    rw [if_neg (by rw [hk]; decide)]
    exact ⟨rfl, Hn.out.trans ((Keep.refl [] _).alloc _) (by simp)⟩
/-! ### same -/
theorem ParcelsOf.keep0 {w w' : World} {v : Value} {ps : List PS} (h : ParcelsOf w v ps) (hk : Keep [] w w') : ParcelsOf w' v ps := h.keep hk (by simp)
theorem dat3_eq {s t : PS} (h : dat3 s = dat3 t) : s.f = t.f ∧ s.t = t.t ∧ s.bs = t.bs := by simpa [dat3] using h
set_option maxHeartbeats 8000000 in
set_option maxRecDepth 100000 in
theorem same_spec {w : World} {v v' : Value} {ps qs : List PS} (h : ParcelsOf w v ps) (h' : ParcelsOf w v' qs) (he : ps.map dat3 = qs.map dat3) (hl : ps.length ≤ 100000) :
    Calls Try.prog 17 #[v, v'] w fun e w' => e = .returned (.bool true) ∧ Keep [] w w' := by
  obtain ⟨a, c, rfl⟩ : ∃ a c, v = .slice a ps.length c := by obtain ⟨a, c, h, _⟩ := h; exact ⟨a, c, h⟩
  obtain ⟨a', c', rfl⟩ : ∃ a c, v' = .slice a qs.length c := by obtain ⟨a, c, h, _⟩ := h'; exact ⟨a, c, h⟩
  have hll : qs.length = ps.length := by have := congrArg List.length he; simpa using this.symm
  have H := Lib.hid h
  have H' := Lib.hid h'
  have He := Lib.hid he
  have hlI : (ps.length : Int) ≤ 100000 := by omega
  rw [hll]
  rw [hll] at H'
  clear h h' he
  go_enter Try.func17, Try.ntmps17
  go_wp2_with fail
  go_loopw [5] (fun v5 wr => ∃ i : Nat, i ≤ ps.length ∧ v5 = .int .i64 i ∧ Keep [] w wr) (fun v _ => ps.length - (intOf v).toNat)
  case atStart => exact ⟨0, by omega, rfl, Keep.refl _ _⟩
  case round =>
    obtain ⟨i, hi, rfl, hk⟩ := hrel
    by_cases hlt : i < ps.length
    · obtain ⟨s, hs⟩ : ∃ s, ps[i]? = some s := ⟨_, List.getElem?_eq_getElem hlt⟩
      obtain ⟨s', hs'⟩ : ∃ s, qs[i]? = some s := ⟨_, List.getElem?_eq_getElem (by omega)⟩
      have hfe : dat3 s = dat3 s' := by
        have h1 := congrArg (fun l => l[i]?) He.out
        simp only [List.getElem?_map, hs, hs', Option.map_some, Option.some.injEq] at h1
        exact h1
      obtain ⟨f1, f2, f3⟩ := dat3_eq hfe
      obtain ⟨_, _, ha, hc⟩ := H.out.keep0 hk
      obtain ⟨_, _, ha', hc'⟩ := H'.out.keep0 hk
      injection ha with ha hu1 hu2
      injection ha' with ha' hu3 hu4
      subst ha ha'
      clear hu1 hu2 hu3 hu4
      obtain ⟨g, off, rfl, _, c0, c1, c2, hb⟩ := hc i s hs
      obtain ⟨g', off', rfl, _, d0, d1, d2, hb'⟩ := hc' i s' hs'
      rw [← f1] at d0
      rw [← f2] at d1
      rw [← f3] at hb'
      obtain ⟨va, vc, hva⟩ := hb.shape
      obtain ⟨va', vc', hva'⟩ := hb'.shape
      rw [hva] at c2 hb
      rw [hva'] at d2 hb'
      have q1 : ∀ n, (convert 27 9 (.slice va s.bs.length vc)).run Try.prog (wr.drewN n) = .ok (.string (strB s.bs)) (wr.drewN n) := fun n => conv_bytes (hb.keep0 ((Keep.refl [] _).drewN n)) (by kernel_rfl) (by kernel_rfl)
      have q2 : ∀ n, (convert 27 9 (.slice va' s.bs.length vc')).run Try.prog (wr.drewN n) = .ok (.string (strB s.bs)) (wr.drewN n) := fun n => conv_bytes (hb'.keep0 ((Keep.refl [] _).drewN n)) (by kernel_rfl) (by kernel_rfl)
      have e2 := strB_beq s.bs s.bs (r := true) (by simp)
      have e3 : (s.f != s.f) = false := by simp
      have e4 : (s.t != s.t) = false := by simp
      have hltI : (i : Int) < (ps.length : Int) := by omega
      have Hk := Lib.hid hk
      clear hc hc' hs hs' hfe hb hb' hk hva hva' f1 f2 f3
      go_wp2_with fail
      go_quiet (fail)
      clear c0 c1 c2 d0 d1 d2 q1 q2 e2 e3 e4
      go_wp2
      go_roundw
      case rel => exact ⟨i + 1, by omega, by go_num, Hk.out.drewN _⟩
      case measure => simp [intOf]; omega
    · obtain rfl : i = ps.length := by omega
      have Hk := Lib.hid hk
      clear hk
      go_wp2
      go_ret
      exact ⟨rfl, Hk.out⟩
/-! ### the calls -/
theorem reads_bytes {H : Type} {enc : TypeId × Value → H} {P : Program} {w : World} {t e : TypeId} {cs : List Value} (ht : P.underlying t = some (.slice e)) (he : P.underlying e = some (.int .u8)) (hC : P.cellsOf e = 1) (h : Reads enc P w t cs) :
    ∃ v bs, cs = [v] ∧ BytesOf w v bs := by
  obtain ⟨v, css, hcs, ⟨a, c, hv, hr⟩, hall'⟩ := reads_rows 1 ht hC (by omega) h
  obtain ⟨bs, hlen, hx⟩ := choose_list (fun cs (x : UInt8) => cs = [u8 x]) css (fun cs hcs => by
    obtain ⟨x, hx, hw⟩ := reads_int he (hall' cs hcs)
    have hw' : 0 ≤ x ∧ x ≤ 255 := by
      simp [Lit.wf] at hw
      exact ⟨hw.1, hw.2⟩
    refine ⟨UInt8.ofNat x.toNat, ?_⟩
    rw [hx]
    unfold u8
    have : x.toNat < 256 := by omega
    rw [UInt8.toNat_ofNat_of_lt' (by simpa [UInt8.size] using this)]
    congr 2
    omega)
  refine ⟨v, bs, hcs, ⟨a, c, by rw [hlen]; exact hv, fun hne => ?_⟩⟩
  obtain ⟨b, off, ha, hb, hc⟩ := hr (by intro h; subst h; simp at hlen; exact hne hlen)
  refine ⟨b, off, ha, hb, fun k x hk => ?_⟩
  have hk' : k < bs.length := by
    rcases Nat.lt_or_ge k bs.length with h | h
    · exact h
    · rw [List.getElem?_eq_none h] at hk; cases hk
  have h1 := hx k _ _ (List.getElem?_eq_getElem (by omega)) hk
  have h2 := (hc k _ (List.getElem?_eq_getElem (by omega))).2 0 (u8 x) (by rw [h1]; rfl)
  simpa using h2
theorem reads_parcels {H : Type} {enc : TypeId × Value → H} {w : World} {cs : List Value} (h : Reads enc Try.prog w 32 cs) : ∃ v ps, cs = [v] ∧ ParcelsOf w v ps := by
  obtain ⟨v, css, hcs, ⟨a, c, hv, hr⟩, hall⟩ := reads_rows 3 Try.underlying32 (by kernel_rfl) (by omega) h
  obtain ⟨ps, hlen, hx⟩ := choose_list (fun cs (x : PS) => cs[0]? = some (.int .i64 x.f) ∧ cs[1]? = some (.int .i64 x.t) ∧ cs[2]? = some x.bv ∧ BytesOf w x.bv x.bs) css (fun cs hcs => by
    have hR := hall cs hcs
    obtain ⟨x0, h0, _⟩ := reads_int_at (i := 0) (t := 3) (o := 0) Try.underlying29 (show _ = (#[(3, 0), (3, 1), (27, 2)] : Array (TypeId × Nat)) by kernel_rfl) hR rfl Try.underlying3 (by kernel_rfl)
    obtain ⟨x1, h1, _⟩ := reads_int_at (i := 1) (t := 3) (o := 1) Try.underlying29 (show _ = (#[(3, 0), (3, 1), (27, 2)] : Array (TypeId × Nat)) by kernel_rfl) hR rfl Try.underlying3 (by kernel_rfl)
    have h2 := reads_at (i := 2) (t := 27) (o := 2) Try.underlying29 (show _ = (#[(3, 0), (3, 1), (27, 2)] : Array (TypeId × Nat)) by kernel_rfl) hR rfl
    rw [show Try.prog.cellsOf 27 = 1 by kernel_rfl] at h2
    obtain ⟨v2, bs2, hv2, hb2⟩ := reads_bytes Try.underlying27 Try.underlying5 (by kernel_rfl) h2
    exact ⟨⟨x0, x1, bs2, false, v2⟩, h0, h1, one_at hv2, hb2⟩)
  refine ⟨v, ps, hcs, a, c, by rw [hlen]; exact hv, fun i s hi => ?_⟩
  have hil : i < css.length := by
    rw [← hlen]
    rcases Nat.lt_or_ge i ps.length with h' | h'
    · exact h'
    · rw [List.getElem?_eq_none h'] at hi; cases hi
  obtain ⟨b, off, rfl, hb, hc⟩ := hr (by intro h; rw [h] at hil; simp at hil)
  have hcs := List.getElem?_eq_getElem hil
  obtain ⟨h0, h1, h2, h3⟩ := hx i _ s hcs hi
  have hcell := (hc i _ hcs).2
  exact ⟨b, off, rfl, hb, hcell 0 _ h0, hcell 1 _ h1, hcell 2 _ h2, h3⟩
/-- a call that is to be made -/
structure NA where
  way : Int
  k : Int
  bit : Int
  ps : List PS
  pv : Value
  ns : List Int
  nv : Value
structure NA.In (x : NA) (w : World) : Prop where
  pcs : ParcelsOf w x.pv x.ps
  ints : IntsOf w x.nv x.ns
  bit : x.bit ≤ 9223372036854775807
theorem NA.In.keep0 {x : NA} {w w' : World} (h : x.In w) (k : Keep [] w w') : x.In w' := ⟨h.pcs.keep0 k, h.ints.keep0 k, h.bit⟩
def NActsOf (w : World) (v : Value) (l : List NA) : Prop :=
  ∃ a c, v = .slice a l.length c ∧ ∀ (i : Nat) (x : NA), l[i]? = some x → ∃ b off, a = some ⟨b, off, none⟩ ∧ b < w.heap.size ∧ w.cell? ⟨b, off + i * 5, none⟩ = some (.int .i64 x.way) ∧ w.cell? ⟨b, off + i * 5 + 1, none⟩ = some (.int .i64 x.k) ∧ w.cell? ⟨b, off + i * 5 + 2, none⟩ = some (.int .i64 x.bit) ∧
    w.cell? ⟨b, off + i * 5 + 3, none⟩ = some x.pv ∧ w.cell? ⟨b, off + i * 5 + 4, none⟩ = some x.nv ∧ x.In w
theorem NActsOf.keep0 {w w' : World} {v : Value} {l : List NA} (h : NActsOf w v l) (hk : Keep [] w w') : NActsOf w' v l := by
  obtain ⟨a, c, rfl, h⟩ := h
  refine ⟨a, c, rfl, fun i x hx => ?_⟩
  obtain ⟨b, off, rfl, hb, h0, h1, h2, h3, h4, h5⟩ := h i x hx
  have g : ∀ (o : Nat) (u : Value), w.cell? ⟨b, o, none⟩ = some u → w'.cell? ⟨b, o, none⟩ = some u := fun o u hu => (hk.cell (p := ⟨b, o, none⟩) hb (by simp)).trans hu
  exact ⟨b, off, rfl, Nat.lt_of_lt_of_le hb hk.size, g _ _ h0, g _ _ h1, g _ _ h2, g _ _ h3, g _ _ h4, h5.keep0 hk⟩
theorem NActsOf.in_ {w : World} {v : Value} {l : List NA} (h : NActsOf w v l) {i : Nat} {x : NA} (hx : l[i]? = some x) : x.In w := by
  obtain ⟨a, c, rfl, h⟩ := h
  obtain ⟨b, off, rfl, hb, h0, h1, h2, h3, h4, h5⟩ := h i x hx
  exact h5
theorem nacts_open {H : Type} {enc : TypeId × Value → H} {w : World} {r : Reach} {b0 : Nat} {v : Value} {d : DataW H} {p : List MemPlace} (ho : Value.okWide Try.prog w r b0 38 v) (h : DataW.Trod enc Try.prog w 0 (fun _ => true) true 38 v d p) :
    ∃ l, NActsOf w v l := by
  obtain ⟨v', css, hv, ⟨a, c, rfl, hr⟩, hall⟩ := reads_rows 5 Try.underlying38 (by kernel_rfl) (by omega) (reads_of Try.underlying38 ho h)
  obtain rfl : v = .slice a css.length c := by simpa using hv
  obtain ⟨l, hlen, hx⟩ := choose_list (fun cs (x : NA) => cs[0]? = some (.int .i64 x.way) ∧ cs[1]? = some (.int .i64 x.k) ∧ cs[2]? = some (.int .i64 x.bit) ∧ cs[3]? = some x.pv ∧ cs[4]? = some x.nv ∧ x.In w) css (fun cs hcs => by
    have hR := hall cs hcs
    obtain ⟨x0, h0, _⟩ := reads_int_at (i := 0) (t := 3) (o := 0) Try.underlying44 (show _ = (#[(3, 0), (3, 1), (3, 2), (32, 3), (22, 4)] : Array (TypeId × Nat)) by kernel_rfl) hR rfl Try.underlying3 (by kernel_rfl)
    obtain ⟨x1, h1, _⟩ := reads_int_at (i := 1) (t := 3) (o := 1) Try.underlying44 (show _ = (#[(3, 0), (3, 1), (3, 2), (32, 3), (22, 4)] : Array (TypeId × Nat)) by kernel_rfl) hR rfl Try.underlying3 (by kernel_rfl)
    obtain ⟨x2, h2, hw2⟩ := reads_int_at (i := 2) (t := 3) (o := 2) Try.underlying44 (show _ = (#[(3, 0), (3, 1), (3, 2), (32, 3), (22, 4)] : Array (TypeId × Nat)) by kernel_rfl) hR rfl Try.underlying3 (by kernel_rfl)
    have h3 := reads_at (i := 3) (t := 32) (o := 3) Try.underlying44 (show _ = (#[(3, 0), (3, 1), (3, 2), (32, 3), (22, 4)] : Array (TypeId × Nat)) by kernel_rfl) hR rfl
    rw [show Try.prog.cellsOf 32 = 1 by kernel_rfl] at h3
    obtain ⟨v3, ps, hv3, hp3⟩ := reads_parcels h3
    have h4 := reads_at (i := 4) (t := 22) (o := 4) Try.underlying44 (show _ = (#[(3, 0), (3, 1), (3, 2), (32, 3), (22, 4)] : Array (TypeId × Nat)) by kernel_rfl) hR rfl
    rw [show Try.prog.cellsOf 22 = 1 by kernel_rfl] at h4
    obtain ⟨v4, ns, hv4, hn4, _⟩ := reads_ints Try.underlying22 Try.underlying3 (by kernel_rfl) h4
    refine ⟨⟨x0, x1, x2, ps, v3, ns, v4⟩, h0, h1, h2, one_at hv3, one_at hv4, hp3, hn4, ?_⟩
    simp [Lit.wf] at hw2
    exact hw2.2)
  refine ⟨l, a, c, by rw [hlen], fun i x hi => ?_⟩
  have hil : i < css.length := by
    rw [← hlen]
    rcases Nat.lt_or_ge i l.length with h' | h'
    · exact h'
    · rw [List.getElem?_eq_none h'] at hi; cases hi
  obtain ⟨b, off, rfl, hb, hc⟩ := hr (by intro h; rw [h] at hil; simp at hil)
  have hcs := List.getElem?_eq_getElem hil
  obtain ⟨h0, h1, h2, h3, h4, h5⟩ := hx i _ x hcs hi
  have hcell := (hc i _ hcs).2
  exact ⟨b, off, rfl, hb, hcell 0 _ h0, hcell 1 _ h1, hcell 2 _ h2, hcell 3 _ h3, hcell 4 _ h4, h5⟩
/-! ### big -/
structure NA.Fits (x : NA) : Prop where
  p1 : x.ps.length ≤ 20
  n1 : x.ns.length ≤ 50
  b1 : ∀ s ∈ x.ps, s.bs.length ≤ 200
def NBigPost (l : List NA) (w : World) (e : Ending) (w' : World) : Prop := ∃ b, e = .returned (.bool b) ∧ w = w' ∧ (b = false → l.length ≤ 200 ∧ ∀ x ∈ l, x.Fits)
set_option maxHeartbeats 8000000 in
set_option maxRecDepth 100000 in
theorem big_spec {w : World} {v : Value} {l : List NA} (hv : NActsOf w v l) : Calls Try.prog 14 #[v] w (NBigPost l w) := by
  have Hv := Lib.hid hv
  obtain ⟨a, c, rfl, _⟩ := hv
  by_cases h200 : 200 < l.length
  · have hI : (200 : Int) < (l.length : Int) := by omega
    clear h200
    go_enter Try.func14, Try.ntmps14
    go_wp2
    go_ret
    exact ⟨true, rfl, rfl, fun h => by cases h⟩
  · have hI : ¬ (200 : Int) < (l.length : Int) := by omega
    have h20 : l.length ≤ 200 := by omega
    clear h200
    go_enter Try.func14, Try.ntmps14
    go_wp2_with fail
    go_loopw [3, 4] (fun v3 _ wr => ∃ i : Nat, i ≤ l.length ∧ v3 = .int .i64 i ∧ wr = w ∧ ∀ (j : Nat) (x : NA), j < i → l[j]? = some x → x.Fits) (fun v _ _ => l.length - (intOf v).toNat)
    case atStart => exact ⟨0, by omega, rfl, rfl, by omega⟩
    case round =>
      obtain ⟨i, hi, rfl, rfl, hf⟩ := hrel
      by_cases hlt : i < l.length
      · obtain ⟨x, hx⟩ : ∃ x, l[i]? = some x := ⟨_, List.getElem?_eq_getElem hlt⟩
        obtain ⟨a', c', hva, hcells⟩ := Hv.out
        cases hva
        obtain ⟨b, off, rfl, hb, h0, h1, h2, h3, h4, hin⟩ := hcells i x hx
        obtain ⟨va, vc, hbv, hpc⟩ := hin.pcs
        obtain ⟨fa, fc, hfv⟩ := hin.ints.shape
        rw [hbv] at h3
        rw [hfv] at h4
        have hltI : (i : Int) < (l.length : Int) := by omega
        have hi300 : (i : Int) ≤ 200 := by omega
        have hnext : x.Fits → ∀ (j : Nat) (y : NA), j < i + 1 → l[j]? = some y → y.Fits := fun hxf j y hj hy => by
          by_cases hji : j = i
          · subst hji
            rw [hx] at hy
            cases hy
            exact hxf
          · exact hf j y (by omega) hy
        have Hnext := Lib.hid hnext
        have Hf := Lib.hid hf
        have Hpc := Lib.hid hpc
        clear hcells hx hin hbv hfv hnext hf h0 h1 h2 hpc
        by_cases g1 : 20 < x.ps.length
        · have gI : (20 : Int) < (x.ps.length : Int) := by omega
          clear g1
          go_wp2
          go_ret
          exact ⟨true, rfl, rfl, fun h => by cases h⟩
        · have gI : ¬ (20 : Int) < (x.ps.length : Int) := by omega
          by_cases g2 : 50 < x.ns.length
          · have gI2 : (50 : Int) < (x.ns.length : Int) := by omega
            clear g1 g2
            go_wp2
            go_ret
            exact ⟨true, rfl, rfl, fun h => by cases h⟩
          · have gI2 : ¬ (50 : Int) < (x.ns.length : Int) := by omega
            have hp20 : x.ps.length ≤ 20 := by omega
            have hn50 : x.ns.length ≤ 50 := by omega
            clear g1 g2
            go_wp2_with fail
            go_loopw [4] (fun v4 wr2 => ∃ j : Nat, j ≤ x.ps.length ∧ v4 = .int .i64 j ∧ wr2 = wr ∧ ∀ (k : Nat) (s : PS), k < j → x.ps[k]? = some s → s.bs.length ≤ 200) (fun v _ => x.ps.length - (intOf v).toNat)
            case atStart => exact ⟨0, by omega, rfl, rfl, by omega⟩
            case round =>
              obtain ⟨j, hj, rfl, hwr, hg⟩ := hrel
              subst hwr
              by_cases hlt2 : j < x.ps.length
              · obtain ⟨s, hs⟩ : ∃ s, x.ps[j]? = some s := ⟨_, List.getElem?_eq_getElem hlt2⟩
                obtain ⟨b2, off2, rfl, _, _, _, c2, hby⟩ := Hpc.out j s hs
                obtain ⟨sa, sc, hsv⟩ := hby.shape
                rw [hsv] at c2
                have hjI : (j : Int) < (x.ps.length : Int) := by omega
                have hj20 : (j : Int) ≤ 20 := by omega
                by_cases g3 : 200 < s.bs.length
                · have gI3 : (200 : Int) < (s.bs.length : Int) := by omega
                  clear g3 hg hs hby hsv
                  go_wp2
                  go_ret
                  exact ⟨true, rfl, rfl, fun h => by cases h⟩
                · have gI3 : ¬ (200 : Int) < (s.bs.length : Int) := by omega
                  have hg2 : ∀ (k : Nat) (y : PS), k < j + 1 → x.ps[k]? = some y → y.bs.length ≤ 200 := fun k y hk hy => by
                    by_cases hkj : k = j
                    · subst hkj
                      rw [hs] at hy
                      cases hy
                      omega
                    · exact hg k y (by omega) hy
                  have Hg2 := Lib.hid hg2
                  clear g3 hg hs hby hsv hg2
                  go_wp2
                  go_roundw
                  case rel => exact ⟨j + 1, by omega, by go_num, by first | rfl | trivial, Hg2.out⟩
                  case measure => simp [intOf]; omega
              · have hfit := Lib.hid (Hnext.out ⟨hp20, hn50, fun s hs => by
                  obtain ⟨k, hk, rfl⟩ := List.mem_iff_getElem.1 hs
                  exact hg k _ (by omega) (List.getElem?_eq_getElem hk)⟩)
                obtain rfl : j = x.ps.length := by omega
                clear hg
                go_wp2
                go_roundw
                case rel => exact ⟨i + 1, by omega, by go_num, by first | rfl | trivial, hfit.out⟩
                case measure => simp [intOf]; omega
      · obtain rfl : i = l.length := by omega
        have Hf := Lib.hid hf
        clear hf
        go_wp2
        go_ret
        refine ⟨false, rfl, rfl, fun _ => ⟨h20, fun x hx => ?_⟩⟩
        obtain ⟨j, hj, rfl⟩ := List.mem_iff_getElem.1 hx
        exact Hf.out j _ hj (List.getElem?_eq_getElem hj)
end Go.Proofs.Ytolhcikgodaecaa
