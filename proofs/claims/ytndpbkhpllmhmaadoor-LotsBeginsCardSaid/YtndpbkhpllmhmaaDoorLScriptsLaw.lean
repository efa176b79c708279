/- LotsScripts, under the example's answer. -/
import Derived.Test.YtndpbkhpllmhmaaDoorRows
import Derived.WalkKit
import Derived.WalkSpells
import Derived.WalkLawsBesides
import Derived.RegionTactic
import Derived.ChangeAlike
import Derived.BigQuiet
import Derived.Deep.QuietTactic
import Derived.StillTailTactics
import Derived.IntWalk
import Derived.Handy
import Derived.Lib.Hide
import Derived.Deep.AppendLies
import Derived.Deep.RegionWith
import Derived.Test.YtndpbkhpllmhmaaDoorMSAA
import Derived.Test.YtndpbkhpllmhmaaDoorMSAB
import Derived.Carry
import Derived.Deep.RegionHeld3
import Derived.BigRegion
import Derived.Maps.OwnSet
import Derived.Maps.Views
import Derived.Maps.StringElems
import Derived.Test.YtndpbkhpllmhmaaDoorMSAC
import Derived.Test.YtndpbkhpllmhmaaDoorMSAN
namespace Go.Proofs.YtndpbkhpllmhmaaDoor
set_option linter.unusedSimpArgs false
set_option linter.unnecessarySimpa false
set_option linter.unusedVariables false
open Go.RowKit
/-- the example of the document is as it says -/
def AliveOk : Prop := ∀ w : World, Calls Tryd.prog 12 #[] w fun e w' => e = .returned (.bool true) ∧ Keep [] w w'
set_option maxHeartbeats 6400000 in
set_option maxRecDepth 100000 in
theorem lotsScripts_any (halive : AliveOk) (w : World) (seed nodes n : Int) : Calls Tryd.prog 4 #[.int .i64 seed, .int .i64 nodes, .int .i64 n] w fun e w' => e = .returned (.bool true) ∧ Keep [] w w' := by
  have hl := scriptL_len (cutN nodes) (cutK n) (seed % 4294967296)
  have hkl := (cutK_in n).2
  obtain ⟨L, hL⟩ : ∃ L, L = scriptL (cutN nodes) (cutK n) (seed % 4294967296) := ⟨_, rfl⟩
  rw [← hL] at hl
  have HL := Lib.hid hL
  have hll : (L.length : Int) ≤ 10000 := by omega
  clear hL hl hkl
  by_cases hn1 : 1000 < n ∧ n < 10000
  · obtain ⟨hn1, hn2⟩ := hn1
    go_enter Tryd.func4, Tryd.ntmps4
    go_wp2_with fail
    refine (halive _).mono ?_
    rintro e w1 ⟨rfl, hk1⟩
    go_wp2
    all_goals
      go_ret
      exact ⟨rfl, hk1⟩
  · have hg : n ≤ 1000 ∨ 10000 ≤ n := by omega
    clear hn1
    rcases hg with hg | hg
    all_goals
      go_enter Tryd.func4, Tryd.ntmps4
      go_wp2_with fail
      refine (halive _).mono ?_
      rintro e w1 ⟨rfl, hk1⟩
      have Hk1 := Lib.hid hk1
      clear hk1
      go_wp2_with fail
      refine (script_spec _ _ _ _).mono ?_
      rintro e w2 ⟨v2, rfl, hs2, hk2⟩
      rw [← HL.out] at hs2
      go_wp2_with fail
      refine (rscript_spec _ _ _ _).mono ?_
      rintro e w3 ⟨v3, rfl, hs3, hk3⟩
      rw [← HL.out] at hs3
      have hs2' := hs2.keep0 hk3
      have HS := Lib.hid (And.intro hs2' (And.intro hs3 ((Hk1.out.trans hk2 (by simp)).trans hk3 (by simp))))
      obtain ⟨a2, c2, rfl, _⟩ := hs2
      obtain ⟨a3, c3, rfl, _⟩ := hs3
      clear hs2' hk2 hk3
      go_wp2_with fail
      go_loopw [10] (fun v10 wr => ∃ i : Nat, i ≤ L.length ∧ v10 = .int .i64 i ∧ ∃ m, wr = w3.drewN m) (fun v _ => L.length - (intOf v).toNat)
      case atStart => exact ⟨0, by omega, rfl, 0, rfl⟩
      case round =>
        obtain ⟨i, hi, rfl, m, rfl⟩ := hrel
        by_cases hlt : i < L.length
        · obtain ⟨s, hs⟩ : ∃ s, L[i]? = some s := ⟨_, List.getElem?_eq_getElem hlt⟩
          obtain ⟨x1, x2, hx, hcx⟩ := HS.out.1
          cases hx
          obtain ⟨y1, y2, hy, hcy⟩ := HS.out.2.1
          cases hy
          obtain ⟨b, off, rfl, hb, hc⟩ := hcx i s hs
          obtain ⟨b', off', rfl, hb', hc'⟩ := hcy i s hs
          have c0 : w3.cell? ⟨b, off + i * 4, none⟩ = some (.int .i64 s.kind) := hc 0 _ rfl
          have c1 : w3.cell? ⟨b, off + i * 4 + 1, none⟩ = some (.int .i64 s.node) := hc 1 _ rfl
          have c2 : w3.cell? ⟨b, off + i * 4 + 2, none⟩ = some (.int .i64 s.k) := hc 2 _ rfl
          have c3 : w3.cell? ⟨b, off + i * 4 + 3, none⟩ = some (.int .i64 s.bit) := hc 3 _ rfl
          have d0 : w3.cell? ⟨b', off' + i * 4, none⟩ = some (.int .i64 s.kind) := hc' 0 _ rfl
          have d1 : w3.cell? ⟨b', off' + i * 4 + 1, none⟩ = some (.int .i64 s.node) := hc' 1 _ rfl
          have d2 : w3.cell? ⟨b', off' + i * 4 + 2, none⟩ = some (.int .i64 s.k) := hc' 2 _ rfl
          have d3 : w3.cell? ⟨b', off' + i * 4 + 3, none⟩ = some (.int .i64 s.bit) := hc' 3 _ rfl
          have hltI : (i : Int) < (L.length : Int) := by omega
          have hiI : (i : Int) ≤ 10000 := by omega
          have hi0 : (0 : Int) ≤ (i : Int) := by omega
          clear hc hc' hs hcx hcy hb hb'
          go_wp2_with fail
          go_quiet (fail)
          go_wp2_with fail
          go_roundw
          case rel => exact ⟨i + 1, by omega, by go_num, _, rfl⟩
          case measure => simp [intOf]; omega
        · obtain rfl : i = L.length := by omega
          go_wp2
          go_ret
          exact ⟨rfl, HS.out.2.2.drewN m⟩
end Go.Proofs.YtndpbkhpllmhmaaDoor
