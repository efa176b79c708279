/- Nets: Gone. -/
import Derived.Test.YtolhcikgodaecaaRows
import Derived.WalkKit
import Derived.WalkSpells
import Derived.WalkLawsBesides
import Derived.RegionTactic
import Derived.ChangeAlike
import Derived.BigQuiet
import Derived.Deep.QuietTactic
import Derived.StillTailTactics
import Derived.IntWalk
import Derived.Handy
import Derived.Lib.Hide
import Derived.Deep.AppendLies
import Derived.Deep.RegionWith
import Derived.Deep.RegionLaw
import Derived.Test.YtolhcikgodaecaaBase
import Derived.Test.YtolhcikgodaecaaTail
import Derived.Test.YtolhcikgodaecaaArgs
import Derived.Test.YtolhcikgodaecaaAppend
import Derived.Test.YtolhcikgodaecaaOffs
import Derived.Test.YtolhcikgodaecaaStructs
import Derived.Test.YtolhcikgodaecaaNetObj
import Derived.Test.YtolhcikgodaecaaNetObj2
import Derived.Test.YtolhcikgodaecaaNetSend
import Derived.Test.YtolhcikgodaecaaNetWay
import Derived.Test.YtolhcikgodaecaaNetDel
import Derived.Test.YtolhcikgodaecaaNetSmall
import Derived.Test.YtolhcikgodaecaaSplit
import Derived.Test.YtolhcikgodaecaaNetSmall
import Derived.Test.YtolhcikgodaecaaNetFlip
import Derived.Test.YtolhcikgodaecaaNetDup
import Derived.Deep.CutRange
import Derived.Deep.DeepCutAuto
import Derived.BigRegion
import Derived.Test.YtolhcikgodaecaaRNet
import Derived.Test.YtolhcikgodaecaaRNet2
import Derived.Test.YtolhcikgodaecaaRNet3
import Derived.Test.YtolhcikgodaecaaRNet4
import Derived.Test.YtolhcikgodaecaaRNet5
namespace Go.Proofs.Ytolhcikgodaecaa
open Go.RowKit
set_option maxHeartbeats 4000000 in
theorem indexI_spec {w : World} {v : Value} {ns : List Int} (n : Int) (h : IntsOf w v ns) (hl : ns.length ≤ 1000000) : Calls Try.prog 33 #[v, .int .i64 n] w fun e w' => (∃ r : Int, e = .returned (.int .i64 r) ∧ decide (0 ≤ r) = (ns.any fun m => m == n)) ∧ w = w' := by
  obtain ⟨a, c, rfl⟩ := h.shape
  have H := Lib.hid h
  have hlI : (ns.length : Int) ≤ 1000000 := by omega
  clear h hl
  go_enter Try.func33, Try.ntmps33
  go_wp2_with fail
  go_loopw [5, 8] (fun _ v8 wr => ∃ i : Nat, i ≤ ns.length ∧ v8 = .int .i64 i ∧ (∀ (j : Nat) (m : Int), j < i → ns[j]? = some m → m ≠ n) ∧ wr = w) (fun _ v _ => ns.length - (intOf v).toNat)
  case atStart => exact ⟨0, by omega, rfl, by omega, rfl⟩
  case round =>
    obtain ⟨i, hi, rfl, hno, rfl⟩ := hrel
    by_cases hlt : i < ns.length
    · obtain ⟨b, off, rfl, hb, hcell⟩ := H.out.at_ hlt
      have e0 := hcell i _ (List.getElem?_eq_getElem hlt)
      have hx : ns[i]? = some ns[i] := List.getElem?_eq_getElem hlt
      generalize ns[i] = m at *
      have hltI : (i : Int) < (ns.length : Int) := by omega
      by_cases hm : n = m
      · have hany : (ns.any fun m => m == n) = true := List.any_eq_true.2 ⟨m, List.mem_of_getElem? hx, by simpa using hm.symm⟩
        have Hany := Lib.hid hany
        have hb2 : (n == m) = true := by simpa using hm
        clear hcell hx hany hno hm
        go_wp2
        go_ret
        exact ⟨⟨i, rfl, by rw [Hany.out]; simp⟩, rfl⟩
      · have hb2 : (n == m) = false := by simpa using hm
        have hno2 : ∀ (j : Nat) (y : Int), j < i + 1 → ns[j]? = some y → y ≠ n := fun j y hj hy => by
          by_cases hji : j = i
          · subst hji
            rw [hx] at hy
            cases hy
            exact fun e => hm e.symm
          · exact hno j y (by omega) hy
        have Hno := Lib.hid hno2
        clear hcell hx hno hno2 hm
        go_wp2
        go_roundw
        case rel => exact ⟨i + 1, by omega, by go_num, Hno.out, by first | rfl | trivial⟩
        case measure => simp [intOf]; omega
    · obtain rfl : i = ns.length := by omega
      have hany : (ns.any fun m => m == n) = false := by
        rw [List.any_eq_false]
        intro m hm
        obtain ⟨j, hj, rfl⟩ := List.mem_iff_getElem.1 hm
        simpa using hno j _ hj (List.getElem?_eq_getElem hj)
      have Hany := Lib.hid hany
      clear hno hany
      go_wp2
      go_ret
      exact ⟨⟨-1, rfl, by rw [Hany.out]; rfl⟩, rfl⟩
theorem contains_spec {w : World} {v : Value} {ns : List Int} (n : Int) (h : IntsOf w v ns) (hl : ns.length ≤ 1000000) : Calls Try.prog 29 #[v, .int .i64 n] w fun e w' => e = .returned (.bool (ns.any fun m => m == n)) ∧ w = w' := by
  have hi := Lib.hid (indexI_spec n h hl)
  obtain ⟨a, c, rfl⟩ := h.shape
  clear h hl
  go_enter Try.func29, Try.ntmps29
  go_wp2_with fail
  refine hi.out.mono ?_
  rintro e w1 ⟨⟨r, rfl, hr⟩, rfl⟩
  clear hi
  have Hr := Lib.hid hr
  clear hr
  go_wp2
  go_ret
  exact ⟨by rw [← Hr.out]; rfl, rfl⟩
set_option maxHeartbeats 4000000 in
theorem gone_closure {w : World} {nb : Nat} {vns : Value} {ns : List Int} (f t : Int) (bv : Value) (fl : Bool) (bs : List UInt8) (hn : w.cell? ⟨nb, 0, none⟩ = some vns) (hv : IntsOf w vns ns) (hl : ns.length ≤ 1000000) (hlt : nb < w.heap.size) :
    Calls Try.prog 28 #[.agg #[.int .i64 f, .int .i64 t, bv, .bool fl], .pointer (some ⟨nb, 0, none⟩)] w fun e w' => e = .returned (.bool (goneB ns ⟨f, t, bs, fl, bv⟩)) ∧ Keep [] w w' := by
  have hk : Keep [] w (w.alloc (.cells #[.int .i64 f, .int .i64 t, bv, .bool fl] 54)) := (Keep.refl _ _).alloc _
  have hc1 := Lib.hid (contains_spec f (hv.keep0 hk) hl)
  have hc2 := Lib.hid (contains_spec t (hv.keep0 hk) hl)
  have hgb : goneB ns ⟨f, t, bs, fl, bv⟩ = ((ns.any fun n => n == f) || (ns.any fun n => n == t)) := rfl
  rw [hgb]
  obtain ⟨a, c, rfl⟩ := hv.shape
  clear hgb hv hl
  generalize (ns.any fun n => n == t) = bt at *
  cases hA : (ns.any fun n => n == f) with
  | true =>
    rw [hA] at hc1
    clear hA hc2
    go_enter Try.func28, Try.ntmps28
    go_wp2_with fail
    refine hc1.out.mono ?_
    rintro e w1 ⟨rfl, rfl⟩
    clear hc1
    go_wp2
    go_ret
    exact ⟨rfl, hk⟩
  | false =>
    rw [hA] at hc1
    clear hA
    go_enter Try.func28, Try.ntmps28
    go_wp2_with fail
    refine hc1.out.mono ?_
    rintro e w1 ⟨rfl, rfl⟩
    clear hc1
    go_wp2_with fail
    refine hc2.out.mono ?_
    rintro e w1 ⟨rfl, rfl⟩
    clear hc2
    go_wp2
    go_ret
    exact ⟨by simp, hk⟩
theorem findIdx_at {α : Type} {p : α → Bool} {l : List α} {i : Nat} {x : α} (h : l[i]? = some x) (hs : p x = true) (hb : ∀ (j : Nat) (y : α), j < i → l[j]? = some y → p y = false) : l.findIdx? p = some i := by
  have hi : i < l.length := by
    rcases Nat.lt_or_ge i l.length with h' | h'
    · exact h'
    · rw [List.getElem?_eq_none h'] at h; cases h
  rw [List.findIdx?_eq_some_iff_getElem]
  refine ⟨hi, ?_, fun j hj => ?_⟩
  · rw [List.getElem?_eq_getElem hi] at h
    cases h
    exact hs
  · have := hb j _ hj (List.getElem?_eq_getElem (by omega))
    simp [this]
theorem findIdx_none {α : Type} {p : α → Bool} {l : List α} (hb : ∀ (j : Nat) (y : α), l[j]? = some y → p y = false) : l.findIdx? p = none := by
  rw [List.findIdx?_eq_none_iff]
  intro x hx
  obtain ⟨j, hj, rfl⟩ := List.mem_iff_getElem.1 hx
  exact hb j _ (List.getElem?_eq_getElem hj)
def idxI {α : Type} (p : α → Bool) (l : List α) : Int := match l.findIdx? p with | some k => (k : Int) | none => -1
theorem PS.shape_of {w : World} {g off i : Nat} {s : PS} (hs : ∃ a c, s.bv = .slice a s.bs.length c) (hcells : ∀ (j : Nat) (u : Value), j < 4 → s.c4[j]? = some u → w.cell? ⟨g, off + i * 4 + j, none⟩ = some u) :
    ∃ sq t fl ab cb bs, s = ⟨sq, t, bs, fl, .slice ab bs.length cb⟩ ∧ w.cell? ⟨g, off + i * 4, none⟩ = some (.int .i64 sq) ∧ w.cell? ⟨g, off + i * 4 + 1, none⟩ = some (.int .i64 t) ∧ w.cell? ⟨g, off + i * 4 + 2, none⟩ = some (.slice ab bs.length cb) ∧ w.cell? ⟨g, off + i * 4 + 3, none⟩ = some (.bool fl) := by
  obtain ⟨sq, t, bs, fl, bv⟩ := s
  obtain ⟨ab, cb, hbv⟩ := hs
  simp only at hbv
  subst hbv
  exact ⟨sq, t, fl, ab, cb, bs, rfl, hcells 0 _ (by omega) rfl, hcells 1 _ (by omega) rfl, hcells 2 _ (by omega) rfl, hcells 3 _ (by omega) rfl⟩
theorem OwnsAt.setPS {w : World} {B g off n cap i : Nat} {R : List PS} {y : PS} (h : OwnsAt w B 54 4 (.slice (some ⟨g, off, none⟩) n cap) n (R.flatMap PS.c4)) (hi : R[i]? = some y) (x : PS) :
    OwnsAt ((((w.setCell ⟨g, off + i * 4, none⟩ (.int .i64 x.f)).setCell ⟨g, off + i * 4 + 1, none⟩ (.int .i64 x.t)).setCell ⟨g, off + i * 4 + 2, none⟩ x.bv).setCell ⟨g, off + i * 4 + 3, none⟩ (.bool x.fl)) B 54 4 (.slice (some ⟨g, off, none⟩) n cap) n ((R.set i x).flatMap PS.c4) := by
  have hl : i < R.length := by
    rcases Nat.lt_or_ge i R.length with h' | h'
    · exact h'
    · rw [List.getElem?_eq_none h'] at hi; cases hi
  have s1 := h.set_ (i * 4 + 0) (.int .i64 x.f)
  rw [flat_set_ PS.c4_len R i y ⟨x.f, y.t, y.bs, y.fl, y.bv⟩ 0 _ hi (by omega) rfl] at s1
  have i1 : (R.set i (⟨x.f, y.t, y.bs, y.fl, y.bv⟩ : PS))[i]? = some ⟨x.f, y.t, y.bs, y.fl, y.bv⟩ := List.getElem?_set_self hl
  have s2 := s1.set_ (i * 4 + 1) (.int .i64 x.t)
  rw [flat_set_ PS.c4_len _ i _ ⟨x.f, x.t, y.bs, y.fl, y.bv⟩ 1 _ i1 (by omega) rfl, List.set_set] at s2
  have i2 : (R.set i (⟨x.f, x.t, y.bs, y.fl, y.bv⟩ : PS))[i]? = some ⟨x.f, x.t, y.bs, y.fl, y.bv⟩ := List.getElem?_set_self hl
  have s3 := s2.set_ (i * 4 + 2) x.bv
  rw [flat_set_ PS.c4_len _ i _ ⟨x.f, x.t, x.bs, y.fl, x.bv⟩ 2 _ i2 (by omega) rfl, List.set_set] at s3
  have i3 : (R.set i (⟨x.f, x.t, x.bs, y.fl, x.bv⟩ : PS))[i]? = some ⟨x.f, x.t, x.bs, y.fl, x.bv⟩ := List.getElem?_set_self hl
  have s4 := s3.set_ (i * 4 + 3) (.bool x.fl)
  rw [flat_set_ PS.c4_len _ i _ x 3 _ i3 (by omega) rfl, List.set_set] at s4
  simp only [Nat.add_zero, ← Nat.add_assoc] at s4
  exact s4
set_option maxHeartbeats 4000000 in
theorem index_spec {w : World} {B : Nat} {a : Option Addr} {c nb : Nat} {vns : Value} {ns : List Int} {ls : List PS} (h : OwnsAt w B 54 4 (.slice a ls.length c) ls.length (ls.flatMap PS.c4)) (hsh : ∀ s ∈ ls, ∃ a c, s.bv = .slice a s.bs.length c) (hl : ls.length ≤ 10000) (hn : w.cell? ⟨nb, 0, none⟩ = some vns) (hvn : ∀ w', Keep (ownBlocks (.slice a ls.length c)) w w' → IntsOf w' vns ns) (hnl : ns.length ≤ 1000000) (hnb : nb < w.heap.size) :
    Calls Try.prog 32 #[.slice a ls.length c, .func (.func 28) #[] #[.pointer (some ⟨nb, 0, none⟩)]] w fun e w' => e = .returned (.int .i64 (idxI (goneB ns) ls)) ∧ Keep [] w w' := by
  have H := Lib.hid h
  have Hsh := Lib.hid hsh
  have hl2 : (ls.length : Int) ≤ 10000 := by omega
  have Hn := Lib.hid hn
  have Hvn := Lib.hid hvn
  clear h hl hsh hn hvn
  go_enter Try.func32, Try.ntmps32
  go_wp2
  go_loopw [5, 8] (fun _ v8 wr => ∃ i : Nat, i ≤ ls.length ∧ v8 = .int .i64 i ∧ (∀ (j : Nat) (y : PS), j < i → ls[j]? = some y → goneB ns y = false) ∧ Keep [] w wr) (fun _ v _ => ls.length - (intOf v).toNat)
  case atStart => exact ⟨0, by omega, rfl, by omega, Keep.refl _ _⟩
  case round =>
    obtain ⟨i, hi, rfl, hb, hk⟩ := hrel
    by_cases hlt : i < ls.length
    · have hx := List.getElem?_eq_getElem hlt
      have hshx := Hsh.out _ (List.getElem_mem hlt)
      obtain ⟨g, off, rfl, _, hg2, hcells, _, _⟩ := (H.out.keep hk (by simp)).rowAt PS.c4_len hx hlt
      generalize ls[i] = x at *
      obtain ⟨sq, t, fl, ab, cb, bs, rfl, e0, e1, e2, e3⟩ := PS.shape_of hshx hcells
      have hnw : wr.cell? ⟨nb, 0, none⟩ = some vns := (hk.cell (p := ⟨nb, 0, none⟩) hnb (by simp)).trans Hn.out
      have hcl := Lib.hid (gone_closure sq t (.slice ab bs.length cb) fl bs hnw (Hvn.out _ (hk.mono (by simp))) hnl (Nat.lt_of_lt_of_le hnb hk.size))
      have Hx := Lib.hid hx
      have Hb := Lib.hid hb
      have hi2 : (i : Int) < (ls.length : Int) := by omega
      clear hcells hx hb hshx hnw
      go_wp2_with fail
      refine hcl.out.mono ?_
      rintro e w1 ⟨rfl, hk1⟩
      have hk2 := hk.trans hk1 (by simp)
      clear hcl
      cases hs : goneB ns ⟨sq, t, bs, fl, .slice ab bs.length cb⟩ with
      | true =>
        have hfin := findIdx_at Hx.out hs Hb.out
        have hid : idxI (goneB ns) ls = (i : Int) := by unfold idxI; rw [hfin]
        have Hfin := Lib.hid hid
        clear hfin hid
        go_wp2
        go_ret
        exact ⟨by rw [Hfin.out]; rfl, hk2⟩
      | false =>
        have hb2 : ∀ (j : Nat) (y : PS), j < i + 1 → ls[j]? = some y → goneB ns y = false := fun j y hj hy => by
          by_cases hji : j = i
          · subst hji
            rw [Hx.out] at hy
            cases hy
            exact hs
          · exact Hb.out j y (by omega) hy
        clear hk hk1
        go_wp2
        go_roundw
        case rel => exact ⟨i + 1, by omega, by go_num, hb2, hk2⟩
        case measure => simp [intOf]; omega
    · have hfin : idxI (goneB ns) ls = -1 := by
        have : ls.findIdx? (goneB ns) = none := findIdx_none fun j y hy => by
          have hj : j < ls.length := by
            rcases Nat.lt_or_ge j ls.length with h' | h'
            · exact h'
            · rw [List.getElem?_eq_none h'] at hy; cases hy
          exact hb j y (by omega) hy
        unfold idxI
        rw [this]
      have Hfin := Lib.hid hfin
      have : i = ls.length := by omega
      subst this
      clear hfin hb
      go_wp2
      go_ret
      exact ⟨by rw [Hfin.out]; rfl, hk⟩
def DelFPost (B n0 : Nat) (a : Option Addr) (c : Nat) (ns : List Int) (w : World) (ls : List PS) (e : Ending) (w' : World) : Prop :=
  e = .returned (.slice a (keepP ns ls).length c) ∧ OwnsAt w' B 54 4 (.slice a (keepP ns ls).length c) (keepP ns ls).length ((keepP ns ls).flatMap PS.c4) ∧ Keep (ownBlocks (.slice a n0 c)) w w'
theorem keepP_all {ns : List Int} {l : List PS} (h : ∀ (j : Nat) (y : PS), l[j]? = some y → goneB ns y = false) : keepP ns l = l := by
  unfold keepP
  rw [List.filter_eq_self]
  intro x hx
  obtain ⟨j, hj, rfl⟩ := List.mem_iff_getElem.1 hx
  rw [h j _ (List.getElem?_eq_getElem hj)]
  rfl
theorem idx_cases (ns : List Int) (l : List PS) : (idxI (goneB ns) l = -1 ∧ ∀ (j : Nat) (y : PS), l[j]? = some y → goneB ns y = false) ∨ ∃ (k : Nat) (x : PS), idxI (goneB ns) l = k ∧ l[k]? = some x ∧ goneB ns x = true ∧ ∀ (j : Nat) (y : PS), j < k → l[j]? = some y → goneB ns y = false := by
  unfold idxI
  cases hf : l.findIdx? (goneB ns) with
  | none =>
    rw [List.findIdx?_eq_none_iff] at hf
    exact Or.inl ⟨rfl, fun j y hy => hf y (List.mem_of_getElem? hy)⟩
  | some k =>
    rw [List.findIdx?_eq_some_iff_getElem] at hf
    obtain ⟨hk, hs, hb⟩ := hf
    refine Or.inr ⟨k, _, rfl, List.getElem?_eq_getElem hk, hs, fun j y hj hy => ?_⟩
    have h1 := hb j hj
    rw [List.getElem?_eq_getElem (by omega)] at hy
    cases hy
    simpa using h1
set_option maxHeartbeats 8000000 in
set_option maxRecDepth 100000 in
theorem deleteF_spec {w : World} {B : Nat} {a : Option Addr} {c nb : Nat} {vns : Value} {ns : List Int} {ls : List PS} (h : OwnsAt w B 54 4 (.slice a ls.length c) ls.length (ls.flatMap PS.c4)) (hsh : ∀ s ∈ ls, ∃ a c, s.bv = .slice a s.bs.length c) (hl : ls.length ≤ 10000) (hn : w.cell? ⟨nb, 0, none⟩ = some vns) (hvn : ∀ w', Keep (ownBlocks (.slice a ls.length c)) w w' → IntsOf w' vns ns) (hnl : ns.length ≤ 1000000) (hnb : nb < w.heap.size) (hne : (Value.slice a ls.length c).ownBlock ≠ some nb) :
    Calls Try.prog 27 #[.slice a ls.length c, .func (.func 28) #[] #[.pointer (some ⟨nb, 0, none⟩)]] w (DelFPost B ls.length a c ns w ls) := by
  have hidx := Lib.hid (index_spec h hsh hl hn hvn hnl hnb)
  have H := Lib.hid h
  have Hsh := Lib.hid hsh
  have Hn := Lib.hid hn
  have Hvn := Lib.hid hvn
  have hl2 : (ls.length : Int) ≤ 10000 := by omega
  have hz : ∀ w, (zeroValue 54).run Try.prog w = .ok (.agg #[.int .i64 0, .int .i64 0, .slice none 0 0, .bool false]) w := fun _ => by kernel_rfl
  have Hz := Lib.hid hz
  clear h hsh hn hz hvn
  go_enter Try.func27, Try.ntmps27
  go_wp2_with fail
  refine hidx.out.mono ?_
  rintro e w1 ⟨rfl, hk1⟩
  clear hidx
  rcases idx_cases ns ls with ⟨hi, hall⟩ | ⟨k, x, hi, hx, hax, hbefore⟩
  · rw [hi]
    have hkl : keepP ns ls = ls := keepP_all hall
    have hfin : DelFPost B ls.length a c ns w ls (.returned (.slice a ls.length c)) w1 := by
      unfold DelFPost
      rw [hkl]
      exact ⟨rfl, H.out.keep hk1 (by simp), hk1.mono (by simp)⟩
    have Hfin := Lib.hid hfin
    clear hfin hkl hall hi
    go_wp2
    go_ret
    exact Hfin.out
  · rw [hi]
    have hkl : k < ls.length := by
      rcases Nat.lt_or_ge k ls.length with h' | h'
      · exact h'
      · rw [List.getElem?_eq_none h'] at hx; cases hx
    obtain ⟨g, off, rfl, _, _, _, hcap, _⟩ := H.out.rowAt PS.c4_len hx hkl
    have hgn : g ≠ nb := fun e => hne (by rw [e]; rfl)
    have hcm : c ≤ maxLen := by
      obtain ⟨g', off', cap', hv, h1, h2, _⟩ := H.out.form (by omega)
      injection hv with e1 e2 e3
      subst e3
      exact h2
    unfold maxLen at hcm
    have ht0 : ls.take k = keepP ns (ls.take k) := by
      refine (keepP_all fun j y hy => ?_).symm
      have hjk : j < k := by
        rcases Nat.lt_or_ge j (ls.take k).length with h' | h'
        · simp at h'; omega
        · rw [List.getElem?_eq_none h'] at hy; cases hy
      rw [List.getElem?_take, if_pos hjk] at hy
      exact hbefore j y hjk hy
    have hstart : ls.take k = keepP ns (ls.take (k + 1)) := by
      rw [keepP_take hx, hax]
      simpa using ht0
    have Hstart := Lib.hid hstart
    have hown1 := Lib.hid (H.out.keep hk1 (by simp))
    have hkI : (k : Int) < (ls.length : Int) := by omega
    have hkm : ((k : Int) == -1) = false := by simp
    clear hi hx hax hbefore ht0 hstart
    go_wp2_with fail
    go_loopw [5, 6, 7] (fun v5 v6 _ wr => ∃ (i j : Nat) (R : List PS), i < j ∧ j ≤ ls.length ∧ v5 = .int .i64 i ∧ v6 = .int .i64 j ∧ R.length = ls.length ∧ R.take i = keepP ns (ls.take j) ∧ R.drop j = ls.drop j ∧
      OwnsAt wr B 54 4 (.slice (some ⟨g, off, none⟩) ls.length c) ls.length (R.flatMap PS.c4) ∧ Keep [g] w wr) (fun _ v _ _ => ls.length - (intOf v).toNat)
    case atStart => exact ⟨k, k + 1, ls, by omega, by omega, rfl, by go_num, rfl, Hstart.out, rfl, hown1.out, hk1.mono (by simp)⟩
    case round =>
      clear hown1 hk1 Hstart
      obtain ⟨i, j, R, hij, hjl, rfl, rfl, hRl, hRt, hRd, hown, hk⟩ := hrel
      have hkn : wr.cell? ⟨nb, 0, none⟩ = some vns := (hk.cell (p := ⟨nb, 0, none⟩) hnb (by simpa using hgn.symm)).trans Hn.out
      have hnbr : nb < wr.heap.size := Nat.lt_of_lt_of_le hnb hk.size
      have Hown := Lib.hid hown
      have HRt := Lib.hid hRt
      have HRd := Lib.hid hRd
      have hcI : (ls.length : Int) ≤ (c : Int) := by omega
      have hcmI : (c : Int) ≤ 9223372036854775807 := by omega
      by_cases hlt : j < ls.length
      · obtain ⟨x, hx⟩ : ∃ x, ls[j]? = some x := ⟨_, List.getElem?_eq_getElem hlt⟩
        have hRx : R[j]? = some x := by
          have h1 := congrArg (fun l => l[0]?) hRd
          simp only [List.getElem?_drop, Nat.add_zero] at h1
          rw [h1]
          exact hx
        obtain ⟨y, hy⟩ : ∃ y, R[i]? = some y := ⟨_, List.getElem?_eq_getElem (by omega)⟩
        have hshx := Hsh.out _ (List.mem_of_getElem? hx)
        obtain ⟨g', off', hh, _, hg2, hcells, _, hfr⟩ := hown.rowAt PS.c4_len hRx hlt
        injection hh with hh
        injection hh with e1 e2
        subst e1 e2
        obtain ⟨g'', off'', hh, _, _, hcellsy, _, _⟩ := hown.rowAt PS.c4_len hy (by omega)
        injection hh with hh
        injection hh with e1 e2
        subst e1 e2
        obtain ⟨sq, t, fl, ab, cb, bs, rfl, x0, x1, x2, x3⟩ := PS.shape_of hshx hcells
        have hA : Keep [] wr (wr.alloc (.cells #[.int .i64 sq, .int .i64 t, .slice ab bs.length cb, .bool fl] 54)) := (Keep.refl _ _).alloc _
        have bA : Blk (wr.alloc (.cells #[.int .i64 sq, .int .i64 t, .slice ab bs.length cb, .bool fl] 54)) wr.heap.size 54 [.int .i64 sq, .int .i64 t, .slice ab bs.length cb, .bool fl] := Blk.new' _ _ _ _ rfl
        have hcl := Lib.hid (gone_closure sq t (.slice ab bs.length cb) fl bs ((hA.cell (p := ⟨nb, 0, none⟩) hnbr (by simp)).trans hkn) (Hvn.out _ (hk.trans hA (by simp))) hnl (Nat.lt_of_lt_of_le hnbr hA.size))
        have hsucc := keepP_take (ns := ns) hx
        have Hsucc := Lib.hid hsucc
        have hjI : (j : Int) < (ls.length : Int) := by omega
        have hjI2 : (j : Int) ≤ 10000 := by omega
        have hiI : (i : Int) < (ls.length : Int) := by omega
        have Hcy := Lib.hid hcellsy
        have Hy := Lib.hid hy
        clear hcells hcellsy hown hRt hRd hRx hshx hsucc hy hkn
        go_wp2_with fail
        refine hcl.out.mono ?_
        rintro e w3 ⟨rfl, hk3⟩
        have hown3 := Lib.hid ((Hown.out.keep hA (by simp)).keep hk3 (by simp))
        have hk4 := ((hk.trans hA (by simp)).trans hk3 (by simp))
        have b3 := bA.keep hk3 (by simp)
        have q0 : w3.cell? ⟨wr.heap.size, 0, none⟩ = some (.int .i64 sq) := b3.cell 0
        have q1 : w3.cell? ⟨wr.heap.size, 1, none⟩ = some (.int .i64 t) := b3.cell 1
        have q2 : w3.cell? ⟨wr.heap.size, 2, none⟩ = some (.slice ab bs.length cb) := b3.cell 2
        have q3 : w3.cell? ⟨wr.heap.size, 3, none⟩ = some (.bool fl) := b3.cell 3
        clear hcl x0 x1 x2 x3 bA b3 Hown hk hfr
        cases hd : goneB ns ⟨sq, t, bs, fl, .slice ab bs.length cb⟩ with
        | true =>
          have hnext : R.take i = keepP ns (ls.take (j + 1)) := by rw [Hsucc.out, hd, HRt.out]; simp
          have hdrop : R.drop (j + 1) = ls.drop (j + 1) := by
            have := congrArg (List.drop 1) HRd.out
            simpa [List.drop_drop, Nat.add_comm] using this
          have Hnext := Lib.hid (And.intro hnext hdrop)
          clear hnext hdrop hA hk3
          go_wp2
          go_roundw
          case rel => exact ⟨i, j + 1, R, by omega, by omega, rfl, by go_num, hRl, Hnext.out.1, Hnext.out.2, hown3.out, hk4⟩
          case measure => simp [intOf]; omega
        | false =>
          have y0 : w3.cell? ⟨g, off + i * 4, none⟩ = some (.int .i64 y.f) := ((hA.trans hk3 (by simp)).cell (p := ⟨g, off + i * 4, none⟩) hg2 (by simp)).trans (Hcy.out 0 _ (by omega) rfl)
          have y1 : w3.cell? ⟨g, off + i * 4 + 1, none⟩ = some (.int .i64 y.t) := ((hA.trans hk3 (by simp)).cell (p := ⟨g, off + i * 4 + 1, none⟩) hg2 (by simp)).trans (Hcy.out 1 _ (by omega) rfl)
          have y2 : w3.cell? ⟨g, off + i * 4 + 2, none⟩ = some y.bv := ((hA.trans hk3 (by simp)).cell (p := ⟨g, off + i * 4 + 2, none⟩) hg2 (by simp)).trans (Hcy.out 2 _ (by omega) rfl)
          have y3 : w3.cell? ⟨g, off + i * 4 + 3, none⟩ = some (.bool y.fl) := ((hA.trans hk3 (by simp)).cell (p := ⟨g, off + i * 4 + 3, none⟩) hg2 (by simp)).trans (Hcy.out 3 _ (by omega) rfl)
          have f0 := hown3.out.free (off + i * 4)
          have f1 := hown3.out.free (off + i * 4 + 1)
          have f2 := hown3.out.free (off + i * 4 + 2)
          have f3 := hown3.out.free (off + i * 4 + 3)
          have hset := hown3.out.setPS Hy.out ⟨sq, t, bs, fl, .slice ab bs.length cb⟩
          have hkset : Keep [g] w ((((w3.setCell ⟨g, off + i * 4, none⟩ (.int .i64 sq)).setCell ⟨g, off + i * 4 + 1, none⟩ (.int .i64 t)).setCell ⟨g, off + i * 4 + 2, none⟩ (.slice ab bs.length cb)).setCell ⟨g, off + i * 4 + 3, none⟩ (.bool fl)) :=
            hk4.trans (T := [g]) ((((Keep.refl _ _).setCell (by simp) _).setCell (by simp) _).setCell (by simp) _ |>.setCell (by simp) _) (fun x hx => Or.inl hx)
          have hnext : (R.set i ⟨sq, t, bs, fl, .slice ab bs.length cb⟩).take (i + 1) = keepP ns (ls.take (j + 1)) := by
            rw [Hsucc.out, hd, ← HRt.out, List.take_succ_eq_append_getElem (by rw [List.length_set]; omega), List.getElem_set_self, List.take_set_of_le (Nat.le_refl _)]
            rfl
          have hdrop : (R.set i ⟨sq, t, bs, fl, .slice ab bs.length cb⟩).drop (j + 1) = ls.drop (j + 1) := by
            have := congrArg (List.drop 1) HRd.out
            rw [List.drop_set, if_pos (by omega)]
            simpa [List.drop_drop, Nat.add_comm] using this
          have Hnext := Lib.hid (And.intro hnext (And.intro hdrop (And.intro hset hkset)))
          clear hnext hdrop hA hk3 hset hkset hk4
          go_wp2
          go_roundw
          case rel => exact ⟨i + 1, j + 1, _, by omega, by omega, by go_num, by go_num, by rw [List.length_set]; exact hRl, Hnext.out.1, Hnext.out.2.1, Hnext.out.2.2.1, Hnext.out.2.2.2⟩
          case measure => simp [intOf]; omega
      · have hjl2 : j = ls.length := by omega
        subst hjl2
        rw [List.take_length] at HRt
        have hml : (keepP ns ls).length = i := by rw [← HRt.out, List.length_take]; omega
        have hcut := hown.cutAt (show i ≤ ls.length by omega)
        rw [flat_take PS.c4_len, HRt.out] at hcut
        obtain ⟨w3, hcl, h4, h5⟩ := run_clear_own (P := Try.prog) Try.underlying49 Hz.out (size := 4) rfl (fun u hu => by
          have hu' : u ∈ (#[.int .i64 0, .int .i64 0, .slice none 0 0, .bool false] : Array Value) := hu
          simp at hu'
          rcases hu' with rfl | rfl | rfl <;> rfl) 0 B g off c i (ls.length - i) (c - i) _ hcut (by omega)
        have hfin : DelFPost B ls.length (some ⟨g, off, none⟩) c ns w ls (.returned (.slice (some ⟨g, off, none⟩) i c)) w3 := by
          unfold DelFPost
          rw [hml]
          exact ⟨rfl, h4, hk.trans h5 (fun x hx => Or.inl hx)⟩
        have Hfin := Lib.hid hfin
        have hiI : (i : Int) < (ls.length : Int) := by omega
        clear hcut h4 h5 hfin hml hown hRt hRd hk Hown
        go_wp2
        go_ret
        exact Hfin.out
/-- fewer are on the way, in the rows that were -/
theorem NetIn.lessF {w w2 : World} {B p : Nat} {vw vw' : Value} {ss l : List PS} (h : NetIn w B p vw ss) (hs : l.Sublist ss) (k : Keep (ownBlocks vw) w w2) (hr : OwnsAt w2 B 54 4 vw' l.length (l.flatMap PS.c4)) (hv : vw'.ownBlock = vw.ownBlock) :
    NetIn (w2.setCell ⟨p, 0, none⟩ vw') B p vw' l ∧ Keep (netFoot p vw ss) w (w2.setCell ⟨p, 0, none⟩ vw') ∧ ∀ x ∈ netFoot p vw' l, x ∈ netFoot p vw ss := by
  have hpw : p ∉ ownBlocks vw := fun hx => h.rows.ne_blk h.head (by decide) (mem_own.1 hx)
  have hd2 : Blk w2 p 51 _ := h.head.keep k hpw
  have k3 : Keep [p] w2 (w2.setCell ⟨p, 0, none⟩ vw') := (Keep.refl _ _).setCell (by simp) _
  refine ⟨⟨hd2.set_ 0 _, ?_, fun t ht => ?_, h.nodup.sublist (bb_sub hs), h.base⟩, ?_, ?_⟩
  · exact hr.keep k3 (fun g hg hx => hr.ne_blk hd2 (by decide) ((show g = p by simpa using hx) ▸ hg))
  · have h1 := OwnsAt.keep (h.bytes t (hs.subset ht)) k (fun g hg hx => OwnsAt.ne_own h.rows (h.bytes t (hs.subset ht)) (by decide) g (mem_own.1 hx) hg)
    exact OwnsAt.keep h1 k3 (fun g hg hx => OwnsAt.ne_blk h1 hd2 (by decide) ((show g = p by simpa using hx) ▸ hg))
  · exact (k.mono (T := netFoot p vw ss) (fun x hx => Or.inl (by simp only [netFoot, List.mem_cons, List.mem_append]; exact Or.inr (Or.inl hx)))).trans k3 (fun x hx => Or.inl (by simp at hx; subst hx; simp [netFoot]))
  · intro x hx
    simp only [netFoot, List.mem_cons, List.mem_append] at hx ⊢
    rcases hx with hx | hx | hx
    · exact Or.inl hx
    · exact Or.inr (Or.inl (by rw [mem_own, ← hv]; exact mem_own.1 hx))
    · exact Or.inr (Or.inr ((bb_sub hs).subset hx))
def GonePost (B p : Nat) (F : List Nat) (w : World) (ss : List PS) (ns : List Int) (e : Ending) (w' : World) : Prop :=
  NetPost B p F w (.int .i64 ((ss.length : Int) - (keepP ns ss).length)) (keepP ns ss) e w'
set_option maxHeartbeats 4000000 in
theorem gone_spec {w : World} {B p : Nat} {F : List Nat} {ss : List PS} {v : Value} {ns : List Int} (h : NetAt w B p F ss) (hv : ∀ w', Keep F w w' → IntsOf w' v ns) (hn : ns.length ≤ 1000000) (hl : ss.length ≤ 10000) :
    Calls Try.prog 21 #[.pointer (some ⟨p, 0, none⟩), v] w (GonePost B p F w ss ns) := by
  obtain ⟨vw, h, rfl⟩ := h
  obtain ⟨ao, co, rfl⟩ := h.rows.shape
  obtain ⟨va, vc, rfl⟩ := (hv w (Keep.refl _ _)).shape
  have hA : Keep [] w (w.alloc (.cells #[.slice va ns.length vc] 22)) := (Keep.refl _ _).alloc _
  have bA : Blk (w.alloc (.cells #[.slice va ns.length vc] 22)) w.heap.size 22 [.slice va ns.length vc] := Blk.new' _ _ _ _ rfl
  have h1 := h.keep hA (by simp)
  have c0 : (w.alloc (.cells #[.slice va ns.length vc] 22)).cell? ⟨p, 0, none⟩ = some (.slice ao ss.length co) := h1.head.cell 0
  have hdel := deleteF_spec (ns := ns) (vns := .slice va ns.length vc) (nb := w.heap.size) h1.rows (fun s hs => OwnsAt.shape (h1.bytes s hs)) hl (bA.cell 0) (fun w' k => hv w' ((hA.mono (by simp)).trans k (fun x hx => Or.inl (by simp only [netFoot, List.mem_cons, List.mem_append]; exact Or.inr (Or.inl hx))))) hn (by simp) (fun e => by have := (h.rows.lt _ e).2; omega)
  have hmf : ∀ fn first cap w, (Instr.makeFunc fn first cap).run Try.prog w = .ok (.func fn first cap) w := fun _ _ _ _ => rfl
  have Hdel := Lib.hid hdel
  have H1 := Lib.hid h1
  have hplt := h.head.lt
  have hlI : (ss.length : Int) ≤ 10000 := by omega
  clear hdel h1 h bA hv
  go_enter Try.func21, Try.ntmps21
  go_wp2_with fail
  refine Hdel.out.mono ?_
  rintro e w2 ⟨rfl, hown, hk⟩
  obtain ⟨t1, t2, t3⟩ := H1.out.lessF (l := keepP ns ss) List.filter_sublist hk hown (by cases ao <;> rfl)
  have hp2 := H1.out.rows.ne_blk H1.out.head (by decide)
  have hd2 := H1.out.head.keep hk (fun hx => hp2 (mem_own.1 hx))
  have c3 : w2.cell? ⟨p, 0, none⟩ = some (.slice ao ss.length co) := hd2.cell 0
  have f3 := hd2.frozen 0
  have hkl : ((keepP ns ss).length : Int) ≤ 10000 := by
    have := List.length_filter_le (fun s => !goneB ns s) ss
    unfold keepP
    omega
  have hw1 : IntKind.i64.wrap ((ss.length : Int) - ((keepP ns ss).length : Int)) = (ss.length : Int) - (keepP ns ss).length := IntWalk.i64_in _ (by omega)
  have Hfin := Lib.hid (And.intro t1 (And.intro ((hA.mono (T := netFoot p (.slice ao ss.length co) ss) (by simp)).trans t2 (fun x hx => Or.inl hx)) t3))
  clear t1 t2 t3 hk hown hd2 hp2
  go_wp2
  go_ret
  exact ⟨rfl, _, ⟨_, Hfin.out.1, rfl⟩, Hfin.out.2.1, fun x hx => Or.inl (Hfin.out.2.2 x hx)⟩
end Go.Proofs.Ytolhcikgodaecaa
