/- asm: a function by its name. -/
import Derived.Test.YtbdkmfcgnolihaaGreatDoorRows
import Derived.WalkKit
import Derived.WalkSpells
import Derived.WalkLawsBesides
import Derived.RegionTactic
import Derived.ChangeAlike
import Derived.BigQuiet
import Derived.Deep.QuietTactic
import Derived.StillTailTactics
import Derived.IntWalk
import Derived.Handy
import Derived.Lib.Hide
import Derived.Deep.AppendLies
import Derived.Deep.RegionWith
import Derived.Test.YtbdkmfcgnolihaaGreatDoorBase
import Derived.Test.YtbdkmfcgnolihaaGreatDoorTail
import Derived.Test.YtbdkmfcgnolihaaGreatDoorArgs
import Derived.Test.YtbdkmfcgnolihaaGreatDoorAppend
import Derived.Test.YtbdkmfcgnolihaaGreatDoorOffs
import Derived.Test.YtbdkmfcgnolihaaGreatDoorStructs
import Derived.Carry
import Derived.Deep.RegionHeld3
import Derived.BigRegion
import Derived.Maps.OwnSet
import Derived.Maps.Views
import Derived.Maps.StringElems
import Derived.Test.YtbdkmfcgnolihaaGreatDoorMaps2
import Derived.Test.YtbdkmfcgnolihaaGreatDoorAMain
namespace Go.Proofs.YtbdkmfcgnolihaaGreatDoor
set_option linter.unusedSimpArgs false
set_option linter.unnecessarySimpa false
set_option linter.unusedVariables false
open Go.RowKit
def findI (fs : List FN) (nm : BS) : Int := match findF fs nm with | some k => (k : Int) | none => -1
theorem findF_hit {fs : List FN} {nm : BS} {i : Nat} {f : FN} (hno : ∀ (j : Nat) (g : FN), j < i → fs[j]? = some g → g.name ≠ nm) (hf : fs[i]? = some f) (he : f.name = nm) : findF fs nm = some i := by
  unfold findF
  rw [List.findIdx?_eq_some_iff_getElem]
  have hl := get_lt hf
  refine ⟨hl, ?_, fun j hj => ?_⟩
  · rw [(List.getElem?_eq_some_iff.1 hf).2, he]; simp
  · have := hno j _ hj (List.getElem?_eq_getElem (by omega))
    simpa using this
theorem findF_miss {fs : List FN} {nm : BS} (hno : ∀ (j : Nat) (g : FN), j < fs.length → fs[j]? = some g → g.name ≠ nm) : findF fs nm = none := by
  unfold findF
  rw [List.findIdx?_eq_none_iff]
  intro x hx
  obtain ⟨j, hj⟩ := List.mem_iff_getElem?.1 hx
  have := hno j x (get_lt hj) hj
  simpa using this
set_option maxHeartbeats 1600000 in
set_option maxRecDepth 100000 in
theorem find_spec {B R : Nat} {rest : BS} {no mn : Int} {r : AR} {fv av wv : Value} {qs : List (FN × Value)} {w : World} (H : RdAt B R rest no mn r fv av wv qs w) (hr : ARok r) (nm : BS) :
    Calls Tryz.prog 47 #[.pointer (some ⟨R, 0, none⟩), .string (strB nm)] w fun e w' => e = .returned (.int .i64 (findI r.funcs nm)) ∧ Keep [] w w' := by
  obtain ⟨N, hN⟩ : ∃ N, N = findI r.funcs nm := ⟨_, rfl⟩
  rw [← hN]
  have HN := Lib.hid hN
  have HH := Lib.hid H
  have hq : qs.length ≤ 32 := by have := hr.few; rw [H.fs, List.length_map] at this; exact this
  obtain ⟨a, c, ha⟩ := H.fns.own.shape
  subst ha
  have z2 : w.cell? ⟨R, 2, none⟩ = some (.slice a qs.length c) := H.blk.cell 2
  have hqI : (qs.length : Int) ≤ 32 := by omega
  clear hN H hr hq
  go_enter Tryz.func47, Tryz.ntmps47
  go_wp2_with fail
  clear z2
  go_loopw [5, 6, 13] (fun _ _ vi wr => ∃ i : Nat, i ≤ qs.length ∧ vi = .int .i64 i ∧ (∀ (j : Nat) (g : FN), j < i → r.funcs[j]? = some g → g.name ≠ nm) ∧ Keep [] w wr) (fun _ _ vi _ => qs.length - (intOf vi).toNat)
  case atStart => exact ⟨0, Nat.zero_le _, rfl, fun j g hj => absurd hj (by omega), Keep.refl _ _⟩
  case round =>
    obtain ⟨i, hi, rfl, hno, hk⟩ := hrel
    have HNO := Lib.hid (And.intro hno hk)
    clear hno hk
    by_cases hlt : i < qs.length
    · have hltI : (i : Int) < (qs.length : Int) := by omega
      obtain ⟨⟨f, cv⟩, hp⟩ := get_ex hlt
      obtain ⟨ac, cc, hcv⟩ := (HH.out.fns.code i _ hp).shape
      simp only at hcv
      subst hcv
      obtain ⟨g, off, cap, hv, hg, _, c0, c1, c2, c3, _⟩ := (HH.out.keep0 HNO.out.2).fns.fn hp
      injection hv with e1 e2 e3
      subst e1
      have hf : r.funcs[i]? = some f := by rw [HH.out.fs, List.getElem?_map, hp]; rfl
      have HF := Lib.hid hf
      clear hp e2 e3 hf
      by_cases he : f.name = nm
      · have hq : ((strB f.name).toList == (strB nm).toList) = true := by rw [he]; simp
        have H3 := Lib.hid (show N = (i : Int) by rw [HN.out]; unfold findI; rw [findF_hit HNO.out.1 HF.out he])
        clear he
        go_wp2
        go_ret
        exact ⟨by rw [H3.out]; rfl, HNO.out.2.alloc _⟩
      · have hq : ((strB f.name).toList == (strB nm).toList) = false := strB_ne he
        have H3 := Lib.hid (show ∀ (j : Nat) (g : FN), j < i + 1 → r.funcs[j]? = some g → g.name ≠ nm from fun j g hj hg => by
          by_cases e : j = i
          · subst e
            rw [HF.out] at hg
            cases hg
            exact he
          · exact HNO.out.1 j g (by omega) hg)
        clear he
        go_wp2
        go_roundw
        case rel => exact ⟨i + 1, by omega, by go_num, H3.out, HNO.out.2.alloc _⟩
        case measure => simp [intOf]; omega
    · obtain rfl : i = qs.length := by omega
      have H3 := Lib.hid (show N = -1 by
        rw [HN.out]
        unfold findI
        rw [findF_miss]
        intro j g hj hg
        rw [HH.out.fs, List.length_map] at hj
        exact HNO.out.1 j g hj hg)
      go_wp2
      go_ret
      exact ⟨by rw [H3.out]; rfl, HNO.out.2⟩
end Go.Proofs.YtbdkmfcgnolihaaGreatDoor
