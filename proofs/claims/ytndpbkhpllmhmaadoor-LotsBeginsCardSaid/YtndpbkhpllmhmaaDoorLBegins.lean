/- LotsBegins, under the example's answer. -/
import Derived.Test.YtndpbkhpllmhmaaDoorRows
import Derived.WalkKit
import Derived.WalkSpells
import Derived.WalkLawsBesides
import Derived.RegionTactic
import Derived.ChangeAlike
import Derived.BigQuiet
import Derived.Deep.QuietTactic
import Derived.StillTailTactics
import Derived.IntWalk
import Derived.Handy
import Derived.Lib.Hide
import Derived.Deep.AppendLies
import Derived.Deep.RegionWith
import Derived.Test.YtndpbkhpllmhmaaDoorMSAA
import Derived.Test.YtndpbkhpllmhmaaDoorMSAB
import Derived.Carry
import Derived.Deep.RegionHeld3
import Derived.BigRegion
import Derived.Maps.OwnSet
import Derived.Maps.Views
import Derived.Maps.StringElems
import Derived.Test.YtndpbkhpllmhmaaDoorMSAC
import Derived.Test.YtndpbkhpllmhmaaDoorLScriptsLaw
import Derived.Test.YtndpbkhpllmhmaaDoorMSAO
namespace Go.Proofs.YtndpbkhpllmhmaaDoor
set_option linter.unusedSimpArgs false
set_option linter.unnecessarySimpa false
set_option linter.unusedVariables false
open Go.RowKit
theorem scriptL_prefix (N : Int) : ∀ (n m : Nat) (s : Int) (i : Nat), i < n → (scriptL N n s)[i]? = (scriptL N (n + m) s)[i]?
  | 0, _, _, _, h => absurd h (by omega)
  | n + 1, m, s, 0, _ => by rw [show n + 1 + m = (n + m) + 1 by omega, scriptL, scriptL]; rfl
  | n + 1, m, s, i + 1, h => by
    rw [show n + 1 + m = (n + m) + 1 by omega, scriptL, scriptL, List.getElem?_cons_succ, List.getElem?_cons_succ]
    exact scriptL_prefix N n m _ i (by omega)
/-- a step that there is -/
structure Fine (N : Int) (t : ST) : Prop where
  k1 : 1 ≤ t.kind
  k2 : t.kind ≤ 7
  n1 : 0 ≤ t.node
  n2 : t.node < N
  a1 : 0 ≤ t.k
  a2 : t.k ≤ 3
  b1 : 0 ≤ t.bit
  b2 : t.bit ≤ 199
  own : ownL t = t
theorem stepS_fine (N s : Int) (hN : 1 ≤ N) : Fine N (stepS N s).1 := by
  have h1 := drawN_in (nextS s) N (by omega)
  have h2 := drawN_in (nextS s) 4 (by decide)
  have h3 := drawN_in (nextS (nextS s)) 200 (by decide)
  unfold stepS
  (repeat' split) <;> constructor <;> first | (simp only; omega) | (simp [ownL])
theorem scriptL_fine (N : Int) (hN : 1 ≤ N) : ∀ (n : Nat) (s : Int) (t : ST), t ∈ scriptL N n s → Fine N t
  | 0, _, _, h => by cases h
  | n + 1, s, t, h => by
    rw [scriptL] at h
    rcases List.mem_cons.1 h with rfl | h
    · exact stepS_fine N s hN
    · exact scriptL_fine N hN n _ t h
theorem print_ne {l : List ST} (hg : ∀ t ∈ l, goodL t = true) (hl : l ≠ []) : (strB (printL l)).toList.isEmpty = false := by
  rw [strB_toList]
  obtain ⟨x, xs, rfl⟩ := List.exists_cons_of_ne_nil hl
  have : (x :: xs).all goodL = true := List.all_eq_true.2 hg
  unfold printL
  rw [if_pos this, List.flatMap_cons]
  simp
set_option maxHeartbeats 6400000 in
set_option maxRecDepth 100000 in
theorem lotsBegins_out (halive : AliveOk) (w : World) (seed nodes n more : Int) (h : nodes < 1 ∨ (1 ≤ nodes ∧ 16 < nodes) ∨ (1 ≤ nodes ∧ nodes ≤ 16 ∧ n < 0) ∨ (1 ≤ nodes ∧ nodes ≤ 16 ∧ 0 ≤ n ∧ 300 < n) ∨ (1 ≤ nodes ∧ nodes ≤ 16 ∧ 0 ≤ n ∧ n ≤ 300 ∧ more < 0) ∨ (1 ≤ nodes ∧ nodes ≤ 16 ∧ 0 ≤ n ∧ n ≤ 300 ∧ 0 ≤ more ∧ 300 < more)) :
    Calls Tryd.prog 5 #[.int .i64 seed, .int .i64 nodes, .int .i64 n, .int .i64 more] w fun e w' => e = .returned (.bool true) ∧ Keep [] w w' := by
  rcases h with h | ⟨h, h'⟩ | ⟨h, h', h''⟩ | ⟨h, h', h'', h3⟩ | ⟨h, h', h'', h3, h4⟩ | ⟨h, h', h'', h3, h4, h5⟩
  all_goals
    go_enter Tryd.func5, Tryd.ntmps5
    go_wp2_with fail
    refine (halive _).mono ?_
    rintro e w1 ⟨rfl, hk1⟩
    go_wp2
    go_ret
    exact ⟨rfl, hk1⟩
set_option maxHeartbeats 6400000 in
set_option maxRecDepth 100000 in
theorem lotsBegins_in (halive : AliveOk) (w : World) (seed nodes n more : Int) (h1 : 1 ≤ nodes) (h2 : nodes ≤ 16) (h3 : 0 ≤ n) (h4 : n ≤ 300) (h5 : 0 ≤ more) (h6 : more ≤ 300) :
    Calls Tryd.prog 5 #[.int .i64 seed, .int .i64 nodes, .int .i64 n, .int .i64 more] w fun e w' => e = .returned (.bool true) ∧ Keep [] w w' := by
  obtain ⟨a, rfl⟩ := Int.eq_ofNat_of_zero_le h3
  obtain ⟨b, rfl⟩ := Int.eq_ofNat_of_zero_le h5
  have e1 : cutN nodes = nodes := by unfold cutN; omega
  have e2 : cutK (a : Int) = a := by unfold cutK; omega
  have e3 : cutK ((a : Int) + (b : Int)) = a + b := by unfold cutK; omega
  obtain ⟨L1, hL1⟩ : ∃ L1, L1 = scriptL nodes a (seed % 4294967296) := ⟨_, rfl⟩
  obtain ⟨L2, hL2⟩ : ∃ L2, L2 = scriptL nodes (a + b) (seed % 4294967296) := ⟨_, rfl⟩
  have l1 : L1.length = a := by rw [hL1, scriptL_len]
  have l2 : L2.length = a + b := by rw [hL2, scriptL_len]
  have hpre : ∀ i, i < a → L1[i]? = L2[i]? := fun i hi => by rw [hL1, hL2]; exact scriptL_prefix _ _ _ _ _ hi
  have hfine : ∀ t ∈ L2, Fine nodes t := fun t ht => scriptL_fine nodes h1 _ _ t (by rw [← hL2]; exact ht)
  have HP := Lib.hid (And.intro hpre (And.intro hfine (And.intro l1 (And.intro l2 (And.intro hL1 (And.intro hL2 (And.intro e1 (And.intro e2 e3))))))))
  clear hpre hfine l1 l2 hL1 hL2 e1 e2 e3
  go_enter Tryd.func5, Tryd.ntmps5
  go_wp2_with fail
  refine (halive _).mono ?_
  rintro e w1 ⟨rfl, hk1⟩
  have Hk1 := Lib.hid hk1
  clear hk1
  go_wp2_with fail
  refine (script_spec _ _ _ _).mono ?_
  rintro e w2 ⟨v2, rfl, hs2, hk2⟩
  rw [HP.out.2.2.2.2.2.2.1, HP.out.2.2.2.2.2.2.2.1, ← HP.out.2.2.2.2.1] at hs2
  go_wp2_with fail
  refine (script_spec _ _ _ _).mono ?_
  rintro e w3 ⟨v3, rfl, hs3, hk3⟩
  rw [HP.out.2.2.2.2.2.2.1, HP.out.2.2.2.2.2.2.2.2, ← HP.out.2.2.2.2.2.1] at hs3
  have hs2' := hs2.keep0 hk3
  have HS := Lib.hid (And.intro hs2' (And.intro hs3 ((Hk1.out.trans hk2 (by simp)).trans hk3 (by simp))))
  obtain ⟨a2, c2, rfl, _⟩ := hs2
  obtain ⟨a3, c3, rfl, _⟩ := hs3
  rw [HP.out.2.2.1, HP.out.2.2.2.1]
  clear hs2' hk2 hk3
  go_wp2_with fail
  go_loopw [12, 13] (fun v12 _ wr => ∃ i : Nat, i ≤ a + b ∧ v12 = .int .i64 i ∧ Keep [] w3 wr) (fun v _ _ => a + b - (intOf v).toNat)
  case atStart => exact ⟨0, by omega, rfl, Keep.refl _ _⟩
  case round =>
    obtain ⟨i, hi, rfl, hk⟩ := hrel
    by_cases hlt : i < a + b
    · obtain ⟨s, hs⟩ : ∃ s, L2[i]? = some s := ⟨_, List.getElem?_eq_getElem (by rw [HP.out.2.2.2.1]; exact hlt)⟩
      obtain ⟨f1, f2, f3, f4, f5, f6, f7, f8, _⟩ := HP.out.2.1 s (List.mem_of_getElem? hs)
      obtain ⟨y1, y2, hy, hcy⟩ := HS.out.2.1.keep0 hk
      cases hy
      obtain ⟨b', off', rfl, hb', hc'⟩ := hcy i s hs
      have d0 : wr.cell? ⟨b', off' + i * 4, none⟩ = some (.int .i64 s.kind) := hc' 0 _ rfl
      have d1 : wr.cell? ⟨b', off' + i * 4 + 1, none⟩ = some (.int .i64 s.node) := hc' 1 _ rfl
      have d2 : wr.cell? ⟨b', off' + i * 4 + 2, none⟩ = some (.int .i64 s.k) := hc' 2 _ rfl
      have d3 : wr.cell? ⟨b', off' + i * 4 + 3, none⟩ = some (.int .i64 s.bit) := hc' 3 _ rfl
      have hltI : (i : Int) < (a : Int) + (b : Int) := by omega
      have hiI : (i : Int) ≤ 600 := by omega
      have hi0 : (0 : Int) ≤ (i : Int) := by omega
      by_cases hla : i < a
      · have hs1 : L1[i]? = some s := by rw [HP.out.1 i hla]; exact hs
        obtain ⟨x1, x2, hx, hcx⟩ := HS.out.1.keep0 hk
        cases hx
        obtain ⟨b0, off0, rfl, hb0, hc⟩ := hcx i s hs1
        have c0 : wr.cell? ⟨b0, off0 + i * 4, none⟩ = some (.int .i64 s.kind) := hc 0 _ rfl
        have c1 : wr.cell? ⟨b0, off0 + i * 4 + 1, none⟩ = some (.int .i64 s.node) := hc 1 _ rfl
        have c2 : wr.cell? ⟨b0, off0 + i * 4 + 2, none⟩ = some (.int .i64 s.k) := hc 2 _ rfl
        have c3 : wr.cell? ⟨b0, off0 + i * 4 + 3, none⟩ = some (.int .i64 s.bit) := hc 3 _ rfl
        have hlaI : (i : Int) < (a : Int) := by omega
        have Hk := Lib.hid hk
        clear hc hc' hs hs1 hcx hcy hk
        go_upto_region 12 with fail
        go_quiet (fail)
        go_wp2_with fail
        go_roundw
        case rel => exact ⟨i + 1, by omega, by go_num, (Hk.out.alloc _).drewN _⟩
        case measure => simp [intOf]; omega
      · have hlaI : (a : Int) ≤ (i : Int) := by omega
        have hlaD : decide ((i : Int) < (a : Int)) = false := by simp; omega
        have Hk := Lib.hid hk
        clear hc' hs hcy hk
        go_upto_region 12 with fail
        go_quiet (fail)
        go_wp2_with fail
        go_roundw
        case rel => exact ⟨i + 1, by omega, by go_num, (Hk.out.alloc _).drewN _⟩
        case measure => simp [intOf]; omega
    · obtain rfl : i = a + b := by omega
      have HK := Lib.hid (HS.out.2.2.trans hk (by simp))
      have hgood : ∀ t ∈ L2, goodL t = true := fun t ht => by
        have f := HP.out.2.1 t ht
        exact goodL_iff.2 ⟨⟨f.k1, f.k2⟩, f.own⟩
      have hin : ∀ t ∈ L2, t.In := fun t ht => by
        have f := HP.out.2.1 t ht
        obtain ⟨f1, f2, f3, f4, f5, f6, f7, f8, _⟩ := f
        exact ⟨⟨by omega, by omega⟩, ⟨by omega, by omega⟩, ⟨by omega, by omega⟩, ⟨by omega, by omega⟩⟩
      have hcall := rprint_spec (HS.out.2.1.keep0 hk) hin (by have := HP.out.2.2.2.1; omega)
      have HC := Lib.hid hcall
      have HG := Lib.hid hgood
      clear hk hgood hin hcall
      rw [HP.out.2.2.2.1] at HC
      go_wp2_with fail
      refine HC.out.mono ?_
      rintro e w9 ⟨rfl, hk9⟩
      by_cases hz : a + b = 0
      · have hzI : ((a : Int) + (b : Int) == 0) = true := by simp; omega
        go_wp2
        all_goals
          go_ret
          exact ⟨rfl, HK.out.trans hk9 (by simp)⟩
      · have hne : L2 ≠ [] := fun h => by have := HP.out.2.2.2.1; rw [h] at this; simp at this; omega
        have hs := print_ne HG.out hne
        go_wp2
        go_ret
        exact ⟨rfl, HK.out.trans hk9 (by simp)⟩
end Go.Proofs.YtndpbkhpllmhmaaDoor
