/- LotsSizes, walked. -/
import Derived.Test.YtndpbkhpllmhmaaDoorRows
import Derived.WalkKit
import Derived.WalkSpells
import Derived.WalkLawsBesides
import Derived.RegionTactic
import Derived.ChangeAlike
import Derived.BigQuiet
import Derived.Deep.QuietTactic
import Derived.StillTailTactics
import Derived.IntWalk
import Derived.Handy
import Derived.Lib.Hide
import Derived.Deep.AppendLies
import Derived.Deep.RegionWith
import Derived.Test.YtndpbkhpllmhmaaDoorMSAA
import Derived.Test.YtndpbkhpllmhmaaDoorMSAB
import Derived.Carry
import Derived.Deep.RegionHeld3
import Derived.BigRegion
import Derived.Maps.OwnSet
import Derived.Maps.Views
import Derived.Maps.StringElems
import Derived.Test.YtndpbkhpllmhmaaDoorMSAC
import Derived.Shelf.Spec.SlicesGrow
import Derived.Laws.MakeOwn
import Derived.Laws.Tables
import Derived.Deep.RegionLaw
import Derived.Test.YtndpbkhpllmhmaaDoorMSAD
import Derived.Test.YtndpbkhpllmhmaaDoorMSAG
import Derived.Test.YtndpbkhpllmhmaaDoorMSAH
import Derived.Test.YtndpbkhpllmhmaaDoorLChain
namespace Go.Proofs.YtndpbkhpllmhmaaDoor
set_option linter.unusedSimpArgs false
set_option linter.unnecessarySimpa false
set_option linter.unusedVariables false
open Go.RowKit
theorem sameNil_spec (w : World) : Calls Tryd.prog 16 #[.slice none 0 0, .slice none 0 0] w fun e w' => e = .returned (.bool true) ∧ w' = w := by
  go_enter Tryd.func16, Tryd.ntmps16
  go_wp2
  go_loopw [5] (fun v wr => v = .int .i64 0 ∧ w = wr) (fun _ _ => 0)
  case atStart => exact ⟨rfl, rfl⟩
  case round =>
    obtain ⟨rfl, rfl⟩ := hrel
    go_wp2
    go_ret
    exact ⟨rfl, rfl⟩
/-- a job in a block of its own, and its functions, in every world that keeps what there is -/
def BoxAt (g : Nat) (a : Option Addr) (d : Nat) (fs : List FN) (w : World) : Prop := ∀ w', Keep [] w w' → Blk w' g 26 [.slice a fs.length d, .int .i64 0, .slice none 0 0, .int .i64 300, .int .i64 500] ∧
  ∀ (i : Nat) (f : FN), fs[i]? = some f → ∃ b off x y, a = some ⟨b, off, none⟩ ∧ w'.cell? ⟨b, off + i * 4 + 3, none⟩ = some (.slice x f.code.length y)
theorem BoxAt.keep {g : Nat} {a : Option Addr} {d : Nat} {fs : List FN} {w w' : World} (h : BoxAt g a d fs w) (k : Keep [] w w') : BoxAt g a d fs w' := fun w2 k2 => h w2 (k.trans k2 (by simp))
theorem box_new {w : World} {a : Option Addr} {d : Nat} {fs : List FN} (h : FuncsAt w.heap.size w (.slice a fs.length d) fs) : BoxAt w.heap.size a d fs (w.alloc (.cells #[.slice a fs.length d, .int .i64 0, .slice none 0 0, .int .i64 300, .int .i64 500] 26)) := by
  intro w' k
  refine ⟨(Blk.new' w 26 #[.slice a fs.length d, .int .i64 0, .slice none 0 0, .int .i64 300, .int .i64 500] _ rfl).keep k (by simp), fun i f hf => ?_⟩
  obtain ⟨b, off, cv, ha, hb, _, _, _, c3, hc⟩ := h.fn hf
  obtain ⟨x, y, rfl⟩ := hc.shape
  have kB : Keep [] w (w.alloc (.cells #[.slice a fs.length d, .int .i64 0, .slice none 0 0, .int .i64 300, .int .i64 500] 26)) := (Keep.refl _ _).alloc _
  exact ⟨b, off, x, y, ha, cell_keep0 k (cell_keep0 kB c3)⟩
theorem c300 : cut3 300 200 5000 = 300 := by decide
theorem c500 : cut3 500 1 500 = 500 := by decide
theorem cut_again (n : Int) (m : Int) (N : Nat) (hm : 0 ≤ m) (h : min (max 0 n) m = (N : Int)) : min (max 0 (cut3 n 0 m)) m = (N : Int) := by
  unfold cut3
  omega
set_option maxHeartbeats 6400000 in
set_option maxRecDepth 100000 in
theorem sizes_walk (w : World) (wide deep n : Int) (W D N : Nat) (hW : min (max 0 wide) 8 = (W : Int)) (hD : min (max 0 deep) 5 = (D : Int)) (hN : min (max 0 n) 10 = (N : Int)) : Calls Tryd.prog 3 #[.int .i64 wide, .int .i64 deep, .int .i64 n] w fun e w' => e = .returned (.bool true) ∧ Keep [] w w' := by
  have HT := Lib.hid (fun w' => tree_spec w' wide deep W D 300 500 hW hD)
  have HT2 := Lib.hid (fun w' => tree_spec w' (cut3 wide 0 8) (cut3 deep 0 5) W D 300 500 (cut_again _ _ _ (by omega) hW) (cut_again _ _ _ (by omega) hD))
  have HC := Lib.hid (fun w' => chain_spec w' n N 300 500 hN)
  have HC2 := Lib.hid (fun w' => chain_spec w' (cut3 n 0 10) N 300 500 (cut_again _ _ _ (by omega) hN))
  have HX := Lib.hid (show (treeFns W D).length ≤ 100 ∧ (chainFns N).length ≤ 100 from ⟨by simp [treeFns]; omega, by simp [chainFns]; omega⟩)
  unfold TreePost ChainPost at *
  rw [c300, c500] at HT HT2 HC HC2
  generalize treeFns W D = F at *
  generalize chainFns N = G at *
  clear hW hD hN
  have c8 : (0 : Int) ≤ 8 := by decide
  go_enter Tryd.func3, Tryd.ntmps3
  go_wp2_with fail
  refine (alive_ok _).mono ?_
  rintro e w1 ⟨rfl, hk1⟩
  have Hk1 := Lib.hid hk1
  clear hk1
  go_wp2_with fail
  refine (HT.out _).mono ?_
  rintro e v1 ⟨fv, rfl, hf, hk⟩
  obtain ⟨a1, d1, rfl⟩ := hf.shape
  have HB1 := Lib.hid (box_new hf)
  have HK1 := Lib.hid ((Hk1.out.trans hk (by simp)).alloc (.cells #[.slice a1 F.length d1, .int .i64 0, .slice none 0 0, .int .i64 300, .int .i64 500] 26))
  clear hf hk
  go_upto_region 3 with fail
  revert HB1 HK1
  generalize v1.alloc (.cells #[.slice a1 F.length d1, .int .i64 0, .slice none 0 0, .int .i64 300, .int .i64 500] 26) = u1
  generalize v1.heap.size = g1
  intro HB1 HK1
  go_wp2_with fail
  refine (lawCut_spec _ _ _ _ (by decide)).mono ?_
  rintro e w' ⟨rfl, rfl⟩
  go_wp2_with fail
  refine (lawCut_spec _ _ _ _ (by decide)).mono ?_
  rintro e w' ⟨rfl, rfl⟩
  go_wp2_with fail
  refine (HT2.out _).mono ?_
  rintro e v2 ⟨fv, rfl, hf, hk⟩
  obtain ⟨a2, d2, rfl⟩ := hf.shape
  have HB2 := Lib.hid (box_new hf)
  have HK2 := Lib.hid ((HK1.out.trans hk (by simp)).alloc (.cells #[.slice a2 F.length d2, .int .i64 0, .slice none 0 0, .int .i64 300, .int .i64 500] 26))
  have hkk := hk.alloc (.cells #[.slice a2 F.length d2, .int .i64 0, .slice none 0 0, .int .i64 300, .int .i64 500] 26)
  replace HB1 := Lib.hid (HB1.out.keep hkk)
  clear hf hk hkk HK1
  go_upto_region 4 with fail
  revert HB2 HK2 HB1
  generalize v2.alloc (.cells #[.slice a2 F.length d2, .int .i64 0, .slice none 0 0, .int .i64 300, .int .i64 500] 26) = u2
  generalize v2.heap.size = g2
  intro HB2 HK2 HB1
  go_wp2_with fail
  refine (HC.out _).mono ?_
  rintro e v3 ⟨fv, rfl, hf, hk⟩
  obtain ⟨a3, d3, rfl⟩ := hf.shape
  have HB3 := Lib.hid (box_new hf)
  have HK3 := Lib.hid ((HK2.out.trans hk (by simp)).alloc (.cells #[.slice a3 G.length d3, .int .i64 0, .slice none 0 0, .int .i64 300, .int .i64 500] 26))
  have hkk := hk.alloc (.cells #[.slice a3 G.length d3, .int .i64 0, .slice none 0 0, .int .i64 300, .int .i64 500] 26)
  replace HB1 := Lib.hid (HB1.out.keep hkk)
  replace HB2 := Lib.hid (HB2.out.keep hkk)
  clear hf hk hkk HK2
  go_upto_region 5 with fail
  revert HB3 HK3 HB1 HB2
  generalize v3.alloc (.cells #[.slice a3 G.length d3, .int .i64 0, .slice none 0 0, .int .i64 300, .int .i64 500] 26) = u3
  generalize v3.heap.size = g3
  intro HB3 HK3 HB1 HB2
  go_wp2_with fail
  refine (lawCut_spec _ _ _ _ (by decide)).mono ?_
  rintro e w' ⟨rfl, rfl⟩
  go_wp2_with fail
  refine (HC2.out _).mono ?_
  rintro e v4 ⟨fv, rfl, hf, hk⟩
  obtain ⟨a4, d4, rfl⟩ := hf.shape
  have HB4 := Lib.hid (box_new hf)
  have HK4 := Lib.hid ((HK3.out.trans hk (by simp)).alloc (.cells #[.slice a4 G.length d4, .int .i64 0, .slice none 0 0, .int .i64 300, .int .i64 500] 26))
  have hkk := hk.alloc (.cells #[.slice a4 G.length d4, .int .i64 0, .slice none 0 0, .int .i64 300, .int .i64 500] 26)
  replace HB1 := Lib.hid (HB1.out.keep hkk)
  replace HB2 := Lib.hid (HB2.out.keep hkk)
  replace HB3 := Lib.hid (HB3.out.keep hkk)
  clear hf hk hkk HK3
  go_upto_region 6 with fail
  revert HB4 HK4 HB1 HB2 HB3
  generalize v4.alloc (.cells #[.slice a4 G.length d4, .int .i64 0, .slice none 0 0, .int .i64 300, .int .i64 500] 26) = u4
  generalize v4.heap.size = g4
  intro HB4 HK4 HB1 HB2 HB3
  have c10 : u4.cell? ⟨g1, 0, none⟩ = _ := (HB1.out _ (Keep.refl _ _)).1.cell 0
  have c12 : u4.cell? ⟨g1, 2, none⟩ = _ := (HB1.out _ (Keep.refl _ _)).1.cell 2
  have c20 : u4.cell? ⟨g2, 0, none⟩ = _ := (HB2.out _ (Keep.refl _ _)).1.cell 0
  have c22 : u4.cell? ⟨g2, 2, none⟩ = _ := (HB2.out _ (Keep.refl _ _)).1.cell 2
  have c30 : u4.cell? ⟨g3, 0, none⟩ = _ := (HB3.out _ (Keep.refl _ _)).1.cell 0
  have c32 : u4.cell? ⟨g3, 2, none⟩ = _ := (HB3.out _ (Keep.refl _ _)).1.cell 2
  have c40 : u4.cell? ⟨g4, 0, none⟩ = _ := (HB4.out _ (Keep.refl _ _)).1.cell 0
  have c42 : u4.cell? ⟨g4, 2, none⟩ = _ := (HB4.out _ (Keep.refl _ _)).1.cell 2
  have hF : F.length ≤ 100 := HX.out.1
  have hG : G.length ≤ 100 := HX.out.2
  go_wp2_with fail
  refine (sameNil_spec _).mono ?_
  rintro e w' ⟨rfl, rfl⟩
  go_wp2_with fail
  refine (sameNil_spec _).mono ?_
  rintro e w' ⟨rfl, rfl⟩
  go_wp2_with fail
  go_loopw [12] (fun vi wr => ∃ i : Nat, i ≤ F.length ∧ vi = .int .i64 i ∧ Keep [] w' wr) (fun v _ => F.length - (intOf v).toNat)
  case atStart => exact ⟨0, by omega, rfl, Keep.refl _ _⟩
  case round =>
    obtain ⟨i, hi, rfl, hk⟩ := hrel
    have Hk := Lib.hid hk
    have b1 := (HB1.out _ hk)
    have b2 := (HB2.out _ hk)
    have b3 := (HB3.out _ hk)
    clear c10 c20 c30 c40 c12 c22 c32 c42 hG hk
    have c10 : wr.cell? ⟨g1, 0, none⟩ = some (.slice a1 F.length d1) := b1.1.cell 0
    have c20 : wr.cell? ⟨g2, 0, none⟩ = some (.slice a2 F.length d2) := b2.1.cell 0
    by_cases hlt : i < F.length
    · obtain ⟨f, hf⟩ : ∃ f, F[i]? = some f := ⟨_, List.getElem?_eq_getElem hlt⟩
      obtain ⟨x1, o1, y1, z1, rfl, e1⟩ := b1.2 i f hf
      obtain ⟨x2, o2, y2, z2, rfl, e2⟩ := b2.2 i f hf
      have hltI : (i : Int) < (F.length : Int) := by omega
      have hi0 : (0 : Int) ≤ (i : Int) := by omega
      have hiI : (i : Int) ≤ 100 := by omega
      clear hf b1 b2 b3 hi
      go_upto_region 11 with fail
      go_quiet (fail)
      go_wp2_with fail
      go_roundw
      case rel => exact ⟨i + 1, by omega, by go_num, Hk.out.drewN _⟩
      case measure => simp [intOf]; omega
    · obtain rfl : i = F.length := by omega
      have c13 : wr.cell? ⟨g1, 3, none⟩ = some (.int .i64 300) := b1.1.cell 3
      have c33 : wr.cell? ⟨g3, 3, none⟩ = some (.int .i64 300) := b3.1.cell 3
      have HZ := Lib.hid (HK4.out.trans Hk.out (by simp))
      clear b1 b2 b3 hi hlt
      go_wp2_with fail
      go_ret
      exact ⟨rfl, HZ.out⟩
end Go.Proofs.YtndpbkhpllmhmaaDoor
