/- asm: lines that are no instruction. -/
import Derived.Test.YtbdkmfcgnolihaaGreatDoorRows
import Derived.WalkKit
import Derived.WalkSpells
import Derived.WalkLawsBesides
import Derived.RegionTactic
import Derived.ChangeAlike
import Derived.BigQuiet
import Derived.Deep.QuietTactic
import Derived.StillTailTactics
import Derived.IntWalk
import Derived.Handy
import Derived.Lib.Hide
import Derived.Deep.AppendLies
import Derived.Deep.RegionWith
import Derived.Test.YtbdkmfcgnolihaaGreatDoorBase
import Derived.Test.YtbdkmfcgnolihaaGreatDoorTail
import Derived.Test.YtbdkmfcgnolihaaGreatDoorArgs
import Derived.Test.YtbdkmfcgnolihaaGreatDoorAppend
import Derived.Test.YtbdkmfcgnolihaaGreatDoorOffs
import Derived.Test.YtbdkmfcgnolihaaGreatDoorStructs
import Derived.Carry
import Derived.Deep.RegionHeld3
import Derived.BigRegion
import Derived.Maps.OwnSet
import Derived.Maps.Views
import Derived.Maps.StringElems
import Derived.Test.YtbdkmfcgnolihaaGreatDoorMaps2
import Derived.Deep.CutRange
import Derived.Test.YtbdkmfcgnolihaaGreatDoorAIns1
namespace Go.Proofs.YtbdkmfcgnolihaaGreatDoor
set_option linter.unusedSimpArgs false
set_option linter.unnecessarySimpa false
set_option linter.unusedVariables false
open Go.RowKit
set_option maxHeartbeats 3200000 in
set_option maxRecDepth 100000 in
theorem ins_no1 {B R n : Nat} {rest : BS} {r : AR} {fv av wv : Value} {qs : List (FN × Value)} {w : World} (hE : Env1 w) (H : RdAt B R rest n 0 r fv av wv qs w) (bs : BS) (hl : bs.length ≤ 900000) (hbad : Lib.hasPrefix bs [32, 32] = false ∨ qs = []) :
    Calls Tryz.prog 68 #[.pointer (some ⟨R, 0, none⟩), .string (strB bs)] w fun e w' => e = .returned (.bool false) ∧ Keep [] w w' := by
  have hw := words_spec hE.env bs [32, 32] (by omega)
  obtain ⟨ws, hws⟩ : ∃ ws, ws = pieces 32 (Lib.trimPrefix bs [32, 32]) := ⟨_, rfl⟩
  rw [← hws] at hw
  obtain ⟨bp, hbp⟩ : ∃ bp, bp = Lib.hasPrefix bs [32, 32] := ⟨_, rfl⟩
  rw [← hbp] at hw hbad
  have HW := Lib.hid (show Calls Tryz.prog 64 #[.string (strB bs), .string ⟨#[32, 32]⟩] w (WordsPost ws bp w) from hw)
  have HH := Lib.hid H
  obtain ⟨a, c, ha⟩ := H.fns.own.shape
  subst ha
  have z2 : w.cell? ⟨R, 2, none⟩ = some (.slice a qs.length c) := H.blk.cell 2
  clear hE H hl hw hws hbp
  go_enter Tryz.func68, Tryz.ntmps68
  go_wp2_with fail
  refine HW.out.mono ?_
  rintro e w1 ⟨rfl, hb1, hk1, hz1⟩
  have H1 := Lib.hid hk1
  have z2a := cell_keep0 hk1 z2
  clear hb1 hk1 hz1 HW z2
  cases bp with
  | false =>
    clear hbad
    go_wp2
    go_ret
    exact ⟨rfl, H1.out⟩
  | true =>
    have hq : qs = [] := by rcases hbad with h | h; cases h; exact h
    subst hq
    clear hbad
    go_wp2
    go_ret
    exact ⟨rfl, H1.out⟩
set_option maxHeartbeats 3200000 in
set_option maxRecDepth 100000 in
theorem ins_no2 {B R n k L : Nat} {rest : BS} {r : AR} {fv av wv cv : Value} {qs : List (FN × Value)} {f : FN} {w : World} (hE : Env1 w) (H : RdAt B R rest n 0 r fv av wv qs w) (hr : ARok r) (hk : qs[k]? = some (f, cv)) (hlast : qs.length = k + 1) (bs : BS) (hl : bs.length ≤ 900000)
    (hpre : Lib.hasPrefix bs [32, 32] = true) {a : BS} {ws : List BS} (hps : pieces 32 (Lib.trimPrefix bs [32, 32]) = a :: ws) (hL : ws.length + 1 = L) (hbad : opOf a = none ∨ f.code.length = 256 ∨ hasN (opOr a) ≠ decide (L = 2) ∨ 2 < L) :
    Calls Tryz.prog 68 #[.pointer (some ⟨R, 0, none⟩), .string (strB bs)] w fun e w' => e = .returned (.bool false) ∧ Keep [] w w' := by
  have hw := words_spec hE.env bs [32, 32] (by omega)
  rw [hps, hpre] at hw
  have HW := Lib.hid (show Calls Tryz.prog 64 #[.string (strB bs), .string ⟨#[32, 32]⟩] w (WordsPost (a :: ws) true w) from hw)
  obtain ⟨ac, cc, hcv⟩ := (H.fns.code k _ hk).shape
  simp only at hcv
  subst hcv
  obtain ⟨g, off, cap, hv, hg, _, _, _, _, f3, _, hgB⟩ := H.fns.fn hk
  rw [hlast] at hv
  subst hv
  have z2 : w.cell? ⟨R, 2, none⟩ = some (.slice (some ⟨g, off, none⟩) (k + 1) cap) := H.blk.cell 2
  have hk32 : k < 32 := by have := hr.few; rw [H.fs, List.length_map, hlast] at this; omega
  have hk0 : (0 : Int) ≤ (k : Int) := by omega
  have hkI : (k : Int) < 32 := by omega
  have HL := Lib.hid hL
  obtain ⟨so, hso⟩ : ∃ so, so = (opOf a).isSome := ⟨_, rfl⟩
  obtain ⟨hv, hhv⟩ : ∃ hv, hv = hasN (opOr a) := ⟨_, rfl⟩
  have HS := Lib.hid (And.intro hso hhv)
  have hb2 : so = false ∨ so = true ∧ (f.code.length = 256 ∨ f.code.length ≠ 256 ∧ (hv ≠ decide (L = 2) ∨ 2 < L)) := by
    rcases hbad with h | h | h | h
    · exact Or.inl (by rw [hso, h]; rfl)
    · cases so with
      | false => exact Or.inl rfl
      | true => exact Or.inr ⟨rfl, Or.inl h⟩
    · cases so with
      | false => exact Or.inl rfl
      | true => exact Or.inr ⟨rfl, by by_cases h9 : f.code.length = 256; exact Or.inl h9; exact Or.inr ⟨h9, Or.inl (by rw [hhv]; exact h)⟩⟩
    · cases so with
      | false => exact Or.inl rfl
      | true => exact Or.inr ⟨rfl, by by_cases h9 : f.code.length = 256; exact Or.inl h9; exact Or.inr ⟨h9, Or.inr h⟩⟩
  clear hE H hl hps hpre hw hk hlast hr hgB hbad hso hhv hL
  go_enter Tryz.func68, Tryz.ntmps68
  go_wp2_with fail
  refine HW.out.mono ?_
  rintro e w1 ⟨rfl, hb1, hk1, hz1⟩
  rw [List.length_cons, HL.out]
  have H1 := Lib.hid hk1
  have z2a := cell_keep0 hk1 z2
  have f3a := cell_keep0 hk1 f3
  have c0a : w1.cell? ⟨w.heap.size, 0, none⟩ = some (.string (strB a)) := hb1.cell 0
  have hL0 : 0 < L := by have := HL.out; omega
  have hL0I : (0 : Int) < (L : Int) := by omega
  clear hb1 hk1 hz1 HW z2 f3
  go_wp2_with fail
  refine (op_spec _ a).mono ?_
  rintro e w2 ⟨rfl, hk2⟩
  rw [← HS.out.1]
  have H2 := Lib.hid (H1.out.trans hk2 (by simp))
  have z2b := cell_keep0 hk2 z2a
  have f3b := cell_keep0 hk2 f3a
  clear hk2 z2a f3a c0a H1
  generalize opOr a = oa at *
  go_wp2_with fail
  refine (hasN_spec _ oa).mono ?_
  rintro e w3 ⟨rfl, rfl⟩
  rw [← HS.out.2]
  rcases hb2 with rfl | ⟨rfl, h | ⟨h256, h⟩⟩
  · go_wp2
    go_ret
    exact ⟨rfl, H2.out⟩
  · have h256B : ((f.code.length : Int) == 256) = true := by simp; omega
    go_wp2
    go_ret
    exact ⟨rfl, H2.out⟩
  · have h256B : ((f.code.length : Int) == 256) = false := by simp; omega
    by_cases hL2 : L = 2
    · subst hL2
      have hvf : hv = false := by rcases h with h | h; simpa using h; omega
      subst hvf
      clear h
      go_wp2
      go_ret
      exact ⟨rfl, H2.out⟩
    · have hL2B : ((L : Int) == 2) = false := by simp; omega
      by_cases hgt : 2 < L
      · have hgtI : (2 : Int) < (L : Int) := by omega
        cases hv with
        | false =>
          clear h
          go_wp2
          go_ret
          exact ⟨rfl, H2.out⟩
        | true =>
          clear h
          go_wp2
          go_ret
          exact ⟨rfl, H2.out⟩
      · have hvt : hv = true := by rcases h with h | h; simpa [hL2] using h; omega
        subst hvt
        clear h
        go_wp2
        go_ret
        exact ⟨rfl, H2.out⟩
end Go.Proofs.YtbdkmfcgnolihaaGreatDoor
