/- asm: two jobs that are alike -/
import Derived.Test.YtbdkmfcgnolihaaGreatDoorRows
import Derived.WalkKit
import Derived.WalkSpells
import Derived.WalkLawsBesides
import Derived.RegionTactic
import Derived.ChangeAlike
import Derived.BigQuiet
import Derived.Deep.QuietTactic
import Derived.StillTailTactics
import Derived.IntWalk
import Derived.Handy
import Derived.Lib.Hide
import Derived.Deep.AppendLies
import Derived.Deep.RegionWith
import Derived.Test.YtbdkmfcgnolihaaGreatDoorBase
import Derived.Test.YtbdkmfcgnolihaaGreatDoorTail
import Derived.Test.YtbdkmfcgnolihaaGreatDoorArgs
import Derived.Test.YtbdkmfcgnolihaaGreatDoorAppend
import Derived.Test.YtbdkmfcgnolihaaGreatDoorOffs
import Derived.Test.YtbdkmfcgnolihaaGreatDoorStructs
import Derived.Carry
import Derived.Deep.RegionHeld3
import Derived.BigRegion
import Derived.Maps.OwnSet
import Derived.Maps.Views
import Derived.Maps.StringElems
import Derived.Test.YtbdkmfcgnolihaaGreatDoorMaps2
import Derived.Deep.CutRange
import Derived.Deep.CutBlock
import Derived.Test.YtbdkmfcgnolihaaGreatDoorBase
import Derived.Test.YtbdkmfcgnolihaaGreatDoorTail
import Derived.Test.YtbdkmfcgnolihaaGreatDoorArgs
import Derived.Test.YtbdkmfcgnolihaaGreatDoorAppend
import Derived.Test.YtbdkmfcgnolihaaGreatDoorOffs
import Derived.Test.YtbdkmfcgnolihaaGreatDoorStructs
import Derived.Test.YtbdkmfcgnolihaaGreatDoorAObj
import Derived.Test.YtbdkmfcgnolihaaGreatDoorASeen
import Derived.Test.YtbdkmfcgnolihaaGreatDoorSplit
import Derived.Test.YtbdkmfcgnolihaaGreatDoorAWords
import Derived.Test.YtbdkmfcgnolihaaGreatDoorAPl
import Derived.Test.YtbdkmfcgnolihaaGreatDoorAPlJ
namespace Go.Proofs.YtbdkmfcgnolihaaGreatDoor
set_option linter.unusedSimpArgs false
set_option linter.unnecessarySimpa false
set_option linter.unusedVariables false
open Go.RowKit
theorem ret_boolS {a b : Bool} (h : a = b) : Ending.returned (.bool a) = .returned (.bool b) := by rw [h]
def sameB (a b : List Int) : Bool := decide (a = b)
set_option maxHeartbeats 1000000 in
theorem same_spec (w : World) (v u : Value) (a b : List Int) (ha : IntsOf w v a) (hb : IntsOf w u b) (hl : a.length ≤ 1000000000) :
    Calls Tryz.prog 35 #[v, u] w fun e w' => e = .returned (.bool (sameB a b)) ∧ ∃ n, w' = w.drewN n := by
  have Ha := Lib.hid ha
  have Hb := Lib.hid hb
  obtain ⟨av, cv, rfl⟩ := ha.shape
  obtain ⟨bv, dv, rfl⟩ := hb.shape
  clear ha hb
  by_cases hne : a.length = b.length
  · have hb0 : ((a.length : Int) != (b.length : Int)) = false := by simp [hne]
    go_enter Tryz.func35, Tryz.ntmps35
    go_wp2
    go_loopw [5] (fun v wr => ∃ (k n : Nat), k ≤ a.length ∧ v = .int .i64 k ∧ wr = w.drewN n ∧ ∀ j : Nat, j < k → a[j]? = b[j]?) (fun v _ => a.length - (intOf v).toNat)
    case atStart => exact ⟨0, 0, by omega, rfl, rfl, fun j hj => absurd hj (by omega)⟩
    case round =>
      obtain ⟨k, n, hk, rfl, rfl, hsame⟩ := hrel
      have Hs := Lib.hid hsame
      clear hsame
      by_cases hlt : k < a.length
      · have hltb : k < b.length := by omega
        have hltb' : (k : Int) < (b.length : Int) := by omega
        have Hne := Lib.hid hne
        clear hne
        obtain ⟨x, hx⟩ : ∃ x, a[k]? = some x := ⟨_, List.getElem?_eq_getElem hlt⟩
        obtain ⟨y, hy⟩ : ∃ y, b[k]? = some y := ⟨_, List.getElem?_eq_getElem hltb⟩
        obtain ⟨ba, oa, rfl, _, hca⟩ := Ha.out.at_ hlt
        obtain ⟨bb, ob, rfl, _, hcb⟩ := Hb.out.at_ hltb
        have c1 := hca k x hx
        have c2 := hcb k y hy
        have Hx := Lib.hid hx
        have Hy := Lib.hid hy
        clear hx hy hca hcb
        by_cases hxy : x = y
        · subst hxy
          have hq : (x != x) = false := by simp
          go_wp2
          go_quiet (fail)
          go_wp2
          go_roundw
          case rel =>
            refine ⟨k + 1, _, by omega, by go_num, rfl, fun j hj => ?_⟩
            by_cases hjk : j = k
            · subst hjk; rw [Hx.out, Hy.out]
            · exact Hs.out j (by omega)
          case measure => simp [intOf]; omega
        · have hq : (x != y) = true := by simpa using hxy
          have hf : sameB a b = false := decide_eq_false (fun h => hxy (by have := Hx.out; rw [h, Hy.out] at this; injection this with this; exact this.symm))
          have Hf := Lib.hid hf
          clear hxy hf
          go_wp2
          go_quiet (fail)
          go_wp2
          go_ret
          exact ⟨ret_boolS Hf.out.symm, _, World.drewN_drewN _ _ _⟩
      · obtain rfl : k = a.length := by omega
        have ht : sameB a b = true := decide_eq_true (List.ext_getElem? fun j => by
          by_cases hj : j < a.length
          · exact Hs.out j hj
          · rw [List.getElem?_eq_none (by omega), List.getElem?_eq_none (by omega)])
        have Ht := Lib.hid ht
        clear ht hne
        go_wp2
        go_ret
        exact ⟨ret_boolS Ht.out.symm, _, rfl⟩
  · have hb0 : ((a.length : Int) != (b.length : Int)) = true := by
      simp
      omega
    have hf : sameB a b = false := decide_eq_false (fun h => hne (by rw [h]))
    rw [hf]
    clear hne
    go_enter Tryz.func35, Tryz.ntmps35
    go_wp2
    go_ret
    exact ⟨rfl, 0, rfl⟩
theorem same_true (w : World) (v u : Value) (a : List Int) (ha : IntsOf w v a) (hb : IntsOf w u a) (hl : a.length ≤ 1000000000) :
    Calls Tryz.prog 35 #[v, u] w fun e w' => e = .returned (.bool true) ∧ ∃ n, w' = w.drewN n := by
  have h := same_spec w v u a a ha hb hl
  rwa [show sameB a a = true from decide_eq_true rfl] at h
theorem sameInts_spec {w : World} {a b : Value} {xs : List Int} (ha : IntsOf w a xs) (hb : IntsOf w b xs) (hl : xs.length ≤ 1000000000) : Calls Tryz.prog 35 #[a, b] w fun e w' => e = .returned (.bool true) ∧ Keep [] w w' := by
  refine (same_spec w a b xs xs ha hb hl).mono ?_
  rintro e w' ⟨rfl, n, rfl⟩
  exact ⟨by simp [sameB], (Keep.refl _ _).drewN n⟩
set_option maxHeartbeats 6400000 in
set_option maxRecDepth 100000 in
theorem sameJob_spec {w : World} {a b : Value} {j : JB} (ha : JobRd w a j) (hb : JobRd w b j) (hs : JShort j) (hl : j.args.length ≤ 1000000000) : Calls Tryz.prog 18 #[a, b] w fun e w' => e = .returned (.bool true) ∧ Keep [] w w' := by
  obtain ⟨fa, fc, aa, ac, rfl, hfa, haa⟩ := jobRd_cells ha
  obtain ⟨ga, gc, ba, bc, rfl, hfb, hab⟩ := jobRd_cells hb
  have kA : Keep [] w ((w.alloc (.cells #[.slice fa j.funcs.length fc, .int .i64 j.main, .slice aa j.args.length ac, .int .i64 j.fuel, .int .i64 j.tasks] 25)).alloc (.cells #[.slice ga j.funcs.length gc, .int .i64 j.main, .slice ba j.args.length bc, .int .i64 j.fuel, .int .i64 j.tasks] 25)) := ((Keep.refl _ _).alloc _).alloc _
  have b1 : Blk ((w.alloc (.cells #[.slice fa j.funcs.length fc, .int .i64 j.main, .slice aa j.args.length ac, .int .i64 j.fuel, .int .i64 j.tasks] 25)).alloc (.cells #[.slice ga j.funcs.length gc, .int .i64 j.main, .slice ba j.args.length bc, .int .i64 j.fuel, .int .i64 j.tasks] 25)) w.heap.size 25 (jobC fa fc aa ac j) := (Blk.new' _ _ _ _ rfl).alloc _
  have b2 : Blk ((w.alloc (.cells #[.slice fa j.funcs.length fc, .int .i64 j.main, .slice aa j.args.length ac, .int .i64 j.fuel, .int .i64 j.tasks] 25)).alloc (.cells #[.slice ga j.funcs.length gc, .int .i64 j.main, .slice ba j.args.length bc, .int .i64 j.fuel, .int .i64 j.tasks] 25)) (w.heap.size + 1) 25 (jobC ga gc ba bc j) := by
    have e : w.heap.size + 1 = (w.alloc (.cells #[.slice fa j.funcs.length fc, .int .i64 j.main, .slice aa j.args.length ac, .int .i64 j.fuel, .int .i64 j.tasks] 25)).heap.size := by simp
    rw [e]
    exact Blk.new' _ _ _ _ rfl
  have HF := Lib.hid (And.intro hfa hfb)
  have HI := Lib.hid (And.intro haa hab)
  have HS := Lib.hid hs
  have HL := Lib.hid hl
  have HW := Lib.hid (And.intro kA (And.intro b1 b2))
  have hnI : (j.funcs.length : Int) ≤ 1000000 := by have := hs.funcs; omega
  clear ha hb hfa haa hfb hab hs hl kA b1 b2
  go_enter Tryz.func18, Tryz.ntmps18
  go_wp2_with fail
  refine (sameInts_spec (HI.out.1.keep0 HW.out.1) (HI.out.2.keep0 HW.out.1) HL.out).mono ?_
  rintro e w1 ⟨rfl, hk1⟩
  have P1 := HW.out.2.1.keep hk1 (by simp)
  have P2 := HW.out.2.2.keep hk1 (by simp)
  have H1 := Lib.hid (And.intro (HW.out.1.trans hk1 (by simp)) (And.intro P1 P2))
  clear hk1 HW HI P1 P2
  go_wp2_with fail
  go_loopw [5, 6, 7, 8, 45] (fun vi _ _ _ _ wr => ∃ i : Nat, i ≤ j.funcs.length ∧ vi = .int .i64 i ∧ Keep [] w1 wr) (fun vi _ _ _ _ _ => j.funcs.length - (intOf vi).toNat)
  case atStart => exact ⟨0, Nat.zero_le _, rfl, Keep.refl _ _⟩
  case round =>
    obtain ⟨i, hi, rfl, hp⟩ := hrel
    have hq := H1.out.1.trans hp (by simp)
    have q1 := H1.out.2.1.keep hp (by simp)
    have q2 := H1.out.2.2.keep hp (by simp)
    have a0 : wr.cell? ⟨w.heap.size, 0, none⟩ = some (.slice fa j.funcs.length fc) := q1.cell 0
    have d0 : wr.cell? ⟨w.heap.size + 1, 0, none⟩ = some (.slice ga j.funcs.length gc) := q2.cell 0
    by_cases hlt : i < j.funcs.length
    · have hltI : (i : Int) < (j.funcs.length : Int) := by omega
      obtain ⟨f, hfi⟩ := get_ex hlt
      have hmem := List.mem_of_getElem? hfi
      have hnm := HS.out.names f hmem
      have hcl := HS.out.codes f hmem
      obtain ⟨b, off, cv, hfa, hb, c0', c1', c2', c3', hcode⟩ := HF.out.1.at_ hfi
      obtain ⟨b', off', cv', hfa', hb', k0', k1', k2', k3', hcode'⟩ := HF.out.2.at_ hfi
      have c0 := cell_keep0 hq c0'
      have c1 := cell_keep0 hq c1'
      have c2 := cell_keep0 hq c2'
      have c3 := cell_keep0 hq c3'
      have k0 := cell_keep0 hq k0'
      have k1 := cell_keep0 hq k1'
      have k2 := cell_keep0 hq k2'
      have k3 := cell_keep0 hq k3'
      clear c0' c1' c2' c3' k0' k1' k2' k3'
      subst hfa hfa'
      obtain ⟨ca, cc, rfl⟩ := hcode.shape
      obtain ⟨da, dc, rfl⟩ := hcode'.shape
      have hclI : (f.code.length : Int) ≤ 1000000 := by omega
      have hcd := hcode.keep0 hq
      have hcd' := hcode'.keep0 hq
      have HC := Lib.hid (And.intro hcd (And.intro hcd' (And.intro hq hp)))
      clear hcode hcode' hcd hcd' hq hp hmem hnm hcl hb hb' hfi q1 q2
      go_upto_region 7 with fail
      have kb : Keep [] wr (wr.alloc (.cells #[.string (strB f.name), .int .i64 f.args, .int .i64 f.locals, .slice ca f.code.length cc] 36)) := (Keep.refl _ _).alloc _
      have bb1 : Blk (wr.alloc (.cells #[.string (strB f.name), .int .i64 f.args, .int .i64 f.locals, .slice ca f.code.length cc] 36)) wr.heap.size 36 [.string (strB f.name), .int .i64 f.args, .int .i64 f.locals, .slice ca f.code.length cc] := Blk.new' _ _ _ _ rfl
      have d0' := cell_keep0 kb d0
      have k0' := cell_keep0 kb k0
      have k1' := cell_keep0 kb k1
      have k2' := cell_keep0 kb k2
      have k3' := cell_keep0 kb k3
      clear c0 c1 c2 c3 k0 k1 k2 k3 a0 d0
      generalize (wr.alloc (.cells #[.string (strB f.name), .int .i64 f.args, .int .i64 f.locals, .slice ca f.code.length cc] 36)) = w2 at *
      have kb2 : Keep [] wr (w2.alloc (.cells #[.string (strB f.name), .int .i64 f.args, .int .i64 f.locals, .slice da f.code.length dc] 36)) := kb.alloc _
      have bb3 : Blk (w2.alloc (.cells #[.string (strB f.name), .int .i64 f.args, .int .i64 f.locals, .slice da f.code.length dc] 36)) wr.heap.size 36 [.string (strB f.name), .int .i64 f.args, .int .i64 f.locals, .slice ca f.code.length cc] := bb1.alloc _
      have bb4 : Blk (w2.alloc (.cells #[.string (strB f.name), .int .i64 f.args, .int .i64 f.locals, .slice da f.code.length dc] 36)) w2.heap.size 36 [.string (strB f.name), .int .i64 f.args, .int .i64 f.locals, .slice da f.code.length dc] := Blk.new' _ _ _ _ rfl
      have HB := Lib.hid (And.intro kb2 (And.intro bb3 bb4))
      clear kb kb2 bb1 bb3 bb4
      go_upto_region 8 with fail
      generalize (w2.alloc (.cells #[.string (strB f.name), .int .i64 f.args, .int .i64 f.locals, .slice da f.code.length dc] 36)) = w3 at *
      have f0 : w3.cell? ⟨wr.heap.size, 0, none⟩ = some (.string (strB f.name)) := HB.out.2.1.cell 0
      have f1 : w3.cell? ⟨wr.heap.size, 1, none⟩ = some (.int .i64 f.args) := HB.out.2.1.cell 1
      have f2 : w3.cell? ⟨wr.heap.size, 2, none⟩ = some (.int .i64 f.locals) := HB.out.2.1.cell 2
      have f3 : w3.cell? ⟨wr.heap.size, 3, none⟩ = some (.slice ca f.code.length cc) := HB.out.2.1.cell 3
      have g0 : w3.cell? ⟨w2.heap.size, 0, none⟩ = some (.string (strB f.name)) := HB.out.2.2.cell 0
      have g1 : w3.cell? ⟨w2.heap.size, 1, none⟩ = some (.int .i64 f.args) := HB.out.2.2.cell 1
      have g2 : w3.cell? ⟨w2.heap.size, 2, none⟩ = some (.int .i64 f.locals) := HB.out.2.2.cell 2
      have g3 : w3.cell? ⟨w2.heap.size, 3, none⟩ = some (.slice da f.code.length dc) := HB.out.2.2.cell 3
      clear d0' k0' k1' k2' k3'
      go_wp2_with fail
      go_loopw [8, 90] (fun vq _ wq => ∃ q : Nat, q ≤ f.code.length ∧ vq = .int .i64 q ∧ Keep [] w3 wq) (fun vq _ _ => f.code.length - (intOf vq).toNat)
      case atStart => exact ⟨0, Nat.zero_le _, rfl, Keep.refl _ _⟩
      case round =>
        obtain ⟨q, hqi, rfl, hpq⟩ := hrel
        have f3' := cell_keep0 hpq f3
        have g3' := cell_keep0 hpq g3
        clear f0 f1 f2 g0 g1 g2
        by_cases hql : q < f.code.length
        · have hqlI : (q : Int) < (f.code.length : Int) := by omega
          obtain ⟨x, hx⟩ := get_ex hql
          obtain ⟨b5, o5, e5, _, x0', x1'⟩ := HC.out.1.at_ hx
          obtain ⟨b6, o6, e6, _, y0', y1'⟩ := HC.out.2.1.at_ hx
          subst e5 e6
          have kq := HB.out.1.trans hpq (by simp)
          have x0 := cell_keep0 kq x0'
          have x1 := cell_keep0 kq x1'
          have y0 := cell_keep0 kq y0'
          have y1 := cell_keep0 kq y1'
          have HQ := Lib.hid hpq
          clear x0' x1' y0' y1' kq hpq f3 g3 hx
          go_wp2
          go_quiet (fail)
          go_wp2
          go_roundw
          case rel => exact ⟨q + 1, by omega, by go_num, HQ.out.drewN _⟩
          case measure => simp [intOf]; omega
        · obtain rfl : q = f.code.length := by omega
          have HQ := Lib.hid hpq
          clear f3 g3 hpq
          go_wp2
          go_roundw
          case rel => exact ⟨i + 1, by omega, by go_num, (HC.out.2.2.2.trans HB.out.1 (by simp)).trans HQ.out (by simp)⟩
          case measure => simp [intOf]; omega
    · obtain rfl : i = j.funcs.length := by omega
      have HQ := Lib.hid hq
      clear hq q1 q2 hp
      go_wp2
      go_ret
      exact ⟨rfl, HQ.out⟩
