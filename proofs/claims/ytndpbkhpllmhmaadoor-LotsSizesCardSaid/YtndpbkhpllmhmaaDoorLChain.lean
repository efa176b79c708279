/- Chains of tasks. -/
import Derived.Test.YtndpbkhpllmhmaaDoorRows
import Derived.WalkKit
import Derived.WalkSpells
import Derived.WalkLawsBesides
import Derived.RegionTactic
import Derived.ChangeAlike
import Derived.BigQuiet
import Derived.Deep.QuietTactic
import Derived.StillTailTactics
import Derived.IntWalk
import Derived.Handy
import Derived.Lib.Hide
import Derived.Deep.AppendLies
import Derived.Deep.RegionWith
import Derived.Test.YtndpbkhpllmhmaaDoorMSAA
import Derived.Test.YtndpbkhpllmhmaaDoorMSAB
import Derived.Carry
import Derived.Deep.RegionHeld3
import Derived.BigRegion
import Derived.Maps.OwnSet
import Derived.Maps.Views
import Derived.Maps.StringElems
import Derived.Test.YtndpbkhpllmhmaaDoorMSAC
import Derived.Shelf.Spec.SlicesGrow
import Derived.Laws.MakeOwn
import Derived.Laws.Tables
import Derived.Deep.RegionLaw
import Derived.Test.YtndpbkhpllmhmaaDoorMSAD
import Derived.Test.YtndpbkhpllmhmaaDoorMSAG
import Derived.Test.YtndpbkhpllmhmaaDoorMSAH
namespace Go.Proofs.YtndpbkhpllmhmaaDoor
set_option linter.unusedSimpArgs false
set_option linter.unnecessarySimpa false
set_option linter.unusedVariables false
open Go.RowKit
def chainUpto (n : Nat) : List FN := (List.range n).map (fun k : Nat => treeFn k [⟨16, (k : Int) + 1⟩, ⟨17, 0⟩, ⟨1, k⟩, ⟨7, 0⟩, ⟨18, 0⟩])
theorem chainUpto_len (n : Nat) : (chainUpto n).length = n := by simp [chainUpto]
theorem chainUpto_next (n : Nat) : chainUpto (n + 1) = chainUpto n ++ [treeFn n [⟨16, (n : Int) + 1⟩, ⟨17, 0⟩, ⟨1, n⟩, ⟨7, 0⟩, ⟨18, 0⟩]] := by simp [chainUpto, List.range_succ]
def ChainPost (n : Nat) (fuel tasks : Int) (w : World) (e : Ending) (w' : World) : Prop :=
  ∃ fv, e = .returned (.agg #[fv, .int .i64 0, .slice none 0 0, .int .i64 (cut3 fuel 200 5000), .int .i64 (cut3 tasks 1 500)]) ∧ FuncsAt w'.heap.size w' fv (chainFns n) ∧ Keep [] w w'
set_option maxHeartbeats 6400000 in
set_option maxRecDepth 100000 in
theorem chain_spec (w : World) (n0 : Int) (D : Nat) (fuel tasks : Int) (hD : min (max 0 n0) 10 = (D : Int)) :
    Calls Tryd.prog 15 #[.int .i64 n0, .int .i64 fuel, .int .i64 tasks] w (ChainPost D fuel tasks w) := by
  have hD5 : D ≤ 10 := by omega
  have HD := Lib.hid hD
  have hDI : (D : Int) ≤ 10 := by omega
  have hD0 : (0 : Int) ≤ (D : Int) := by omega
  clear hD
  go_enter Tryd.func15, Tryd.ntmps15
  go_wp2_with fail
  refine (cut_spec _ _ _ _).mono ?_
  rintro e w2 ⟨rfl, hw2⟩
  rw [HD.out, hw2]
  clear hw2 w2
  go_wp2_with fail
  go_loopw [7, 12] (fun lv kv wr => ∃ n : Nat, n ≤ D ∧ kv = .int .i64 n ∧ FnsOwn (w.heap.size + 1) wr lv (chainUpto n) ∧ Keep [] w wr ∧ Blk wr w.heap.size 26 [.slice none 0 0, .int .i64 0, .slice none 0 0, .int .i64 0, .int .i64 0]) (fun _ kv _ => D - (intOf kv).toNat)
  case atStart => exact ⟨0, Nat.zero_le _, rfl, FnsOwn.nil _ _, (Keep.refl [] w).alloc _, Blk.new' _ _ _ _ rfl⟩
  case round =>
    obtain ⟨n, hn, rfl, hF, hk, hb⟩ := hrel
    obtain ⟨cvs, hcl, hown, hall⟩ := hF
    rw [chainUpto_len] at hown
    obtain ⟨al, cl, rfl⟩ := hown.shape
    have HO := Lib.hid (And.intro hown (And.intro hcl (And.intro hall (And.intro hk hb))))
    clear hk hb hcl hall hown
    by_cases hlt : n < D
    · have hnI : (n : Int) < (D : Int) := by omega
      have hn0 : (0 : Int) ≤ (n : Int) := by omega
      clear hn
      have hp1 : Blk ((wr.alloc (.cells #[.int .i64 16, .int .i64 ((n : Int) + 1), .int .i64 17, .int .i64 0, .int .i64 1, .int .i64 n, .int .i64 7, .int .i64 0, .int .i64 18, .int .i64 0] 67)).alloc (.cells #[.slice (some ⟨wr.heap.size, 0, none⟩) 5 5] 31)) (wr.heap.size + 1) 31 [.slice (some ⟨wr.heap.size, 0, none⟩) 5 5] := blk_at (by simp) rfl
      have hc1 : CodeAt (wr.heap.size + 1) ((wr.alloc (.cells #[.int .i64 16, .int .i64 ((n : Int) + 1), .int .i64 17, .int .i64 0, .int .i64 1, .int .i64 n, .int .i64 7, .int .i64 0, .int .i64 18, .int .i64 0] 67)).alloc (.cells #[.slice (some ⟨wr.heap.size, 0, none⟩) 5 5] 31)) (.slice (some ⟨wr.heap.size, 0, none⟩) 5 5) [⟨16, (n : Int) + 1⟩, ⟨17, 0⟩, ⟨1, n⟩, ⟨7, 0⟩, ⟨18, 0⟩] := code_lit ((Blk.new' wr 67 #[.int .i64 16, .int .i64 ((n : Int) + 1), .int .i64 17, .int .i64 0, .int .i64 1, .int .i64 n, .int .i64 7, .int .i64 0, .int .i64 18, .int .i64 0] [.int .i64 16, .int .i64 ((n : Int) + 1), .int .i64 17, .int .i64 0, .int .i64 1, .int .i64 n, .int .i64 7, .int .i64 0, .int .i64 18, .int .i64 0] rfl).alloc _) rfl rfl
      have hparts : PartsAt (wr.heap.size + 2) ((wr.alloc (.cells #[.int .i64 16, .int .i64 ((n : Int) + 1), .int .i64 17, .int .i64 0, .int .i64 1, .int .i64 n, .int .i64 7, .int .i64 0, .int .i64 18, .int .i64 0] 67)).alloc (.cells #[.slice (some ⟨wr.heap.size, 0, none⟩) 5 5] 31)) (.slice (some ⟨wr.heap.size + 1, 0, none⟩) 1 1) [[⟨16, (n : Int) + 1⟩, ⟨17, 0⟩, ⟨1, n⟩, ⟨7, 0⟩, ⟨18, 0⟩]] := by
        refine parts_of (pvs := [.slice (some ⟨wr.heap.size, 0, none⟩) 5 5]) rfl (own_lit 1 hp1 rfl (by unfold maxLen; omega)) (fun i p pv h1 h2 => ?_) (by simp)
        rcases i with _ | i
        · cases h1; cases h2; exact CodeAt.mono hc1 (by omega)
        · cases h1
      have hkp : Keep [] wr ((wr.alloc (.cells #[.int .i64 16, .int .i64 ((n : Int) + 1), .int .i64 17, .int .i64 0, .int .i64 1, .int .i64 n, .int .i64 7, .int .i64 0, .int .i64 18, .int .i64 0] 67)).alloc (.cells #[.slice (some ⟨wr.heap.size, 0, none⟩) 5 5] 31)) := ((Keep.refl [] wr).alloc _).alloc _
      have HP := Lib.hid (And.intro hparts hkp)
      clear hp1 hc1 hparts hkp
      go_wp2_with fail
      refine (function_spec _ (wr.heap.size + 2) n _ [[⟨16, (n : Int) + 1⟩, ⟨17, 0⟩, ⟨1, n⟩, ⟨7, 0⟩, ⟨18, 0⟩]] (by omega) HP.out.1 (by simp) (by simp [sumL]) (by simp [sumL]) (by simp)).mono ?_
      rintro e w5 ⟨cv, rfl, hcv, hk5⟩
      have hcv2 : OwnsAt w5 (wr.heap.size + 3) 67 2 cv 5 ((treeFn n [⟨16, (n : Int) + 1⟩, ⟨17, 0⟩, ⟨1, n⟩, ⟨7, 0⟩, ⟨18, 0⟩]).code.flatMap inC) := by
        have h := hcv
        rw [show (((wr.alloc (.cells #[.int .i64 16, .int .i64 ((n : Int) + 1), .int .i64 17, .int .i64 0, .int .i64 1, .int .i64 n, .int .i64 7, .int .i64 0, .int .i64 18, .int .i64 0] 67)).alloc (.cells #[.slice (some ⟨wr.heap.size, 0, none⟩) 5 5] 31)).heap.size + 1) = wr.heap.size + 3 by simp] at h
        exact h
      obtain ⟨a4, c4, rfl⟩ := hcv2.shape
      unfold fnV
      dsimp only
      obtain ⟨bs, hbs⟩ : ∃ bs, bs = (102 : UInt8) :: Lib.decDigits n := ⟨_, rfl⟩
      rw [← hbs]
      have K5 : Keep [] wr w5 := HP.out.2.trans hk5 (by simp)
      have hkz : Keep [] wr (w5.alloc (.cells #[.string (strB bs), .int .i64 0, .int .i64 0, .slice a4 5 c4] 33)) := K5.alloc _
      have hkz5 : Keep [] w5 (w5.alloc (.cells #[.string (strB bs), .int .i64 0, .int .i64 0, .slice a4 5 c4] 33)) := (Keep.refl [] w5).alloc _
      have hwr1 : w.heap.size + 1 ≤ wr.heap.size := HO.out.2.2.2.2.lt
      have hsz5 : w.heap.size + 1 ≤ w5.heap.size := by have := K5.size; omega
      have H5 := Lib.hid (And.intro (HO.out.1.keep hkz (by simp)) (And.intro (fun (i : Nat) (f : FN) (cv : Value) (h1 : (chainUpto n)[i]? = some f) (h2 : cvs[i]? = some cv) => (HO.out.2.2.1 i f cv h1 h2).keep hkz (by simp)) (And.intro ((hcv2.low (show w.heap.size + 1 ≤ wr.heap.size + 3 by omega)).keep hkz5 (by simp)) (And.intro (src_lit w5 #[.string (strB bs), .int .i64 0, .int .i64 0, .slice a4 5 c4] _ 33 4 1 rfl rfl) (And.intro hkz hbs)))))
      clear hcv hcv2 hk5 K5 hkz hkz5 hbs
      go_wp2_with (at_builtin; refine wpList_append_off rfl _ _ rfl Tryd.sts23 (w.heap.size + 1) (.slice al n cl) n _ rfl H5.out.1 _ 1 [.string (strB bs), .int .i64 0, .int .i64 0, .slice a4 5 c4] rfl H5.out.2.2.2.1 (by simp [Value.oneCell']) (by unfold maxLen; omega) (by omega) (by simp; omega) ?_)
      intro v7 w7 ho7 hk7 hb7
      obtain ⟨a7, c7, rfl⟩ := ho7.shape
      have hfin : FnsOwn (w.heap.size + 1) w7 (.slice a7 (n + 1) c7) (chainUpto n ++ [treeFn n [⟨16, (n : Int) + 1⟩, ⟨17, 0⟩, ⟨1, n⟩, ⟨7, 0⟩, ⟨18, 0⟩]]) := by
        refine fns_snoc (fs := chainUpto n) (f := treeFn n [⟨16, (n : Int) + 1⟩, ⟨17, 0⟩, ⟨1, n⟩, ⟨7, 0⟩, ⟨18, 0⟩]) (cvs := cvs) (cv := .slice a4 5 c4) HO.out.2.1 (by rw [chainUpto_len]; exact H5.out.1) H5.out.2.1 H5.out.2.2.1 hk7 ?_
        rw [chainUpto_len]
        have : fnC (treeFn n [⟨16, (n : Int) + 1⟩, ⟨17, 0⟩, ⟨1, n⟩, ⟨7, 0⟩, ⟨18, 0⟩]) (.slice a4 5 c4) = [.string (strB bs), .int .i64 0, .int .i64 0, .slice a4 5 c4] := by rw [H5.out.2.2.2.2.2]; rfl
        rw [this]
        exact ho7
      have hk57 : Keep (ownBlocks (.slice al n cl)) wr w7 := (H5.out.2.2.2.2.1.mono (T := ownBlocks (.slice al n cl)) (by simp)).trans hk7 (fun x hx => Or.inl hx)
      have hk07 : Keep [] w w7 := HO.out.2.2.2.1.trans hk57 (fun x hx => Or.inr (by have := own_base HO.out.1 x hx; omega))
      have hb7 := HO.out.2.2.2.2.keep hk57 (own_apart HO.out.1 HO.out.2.2.2.2 (by decide))
      have HR := Lib.hid (And.intro hfin (And.intro hk07 hb7))
      clear ho7 hk7 hb7 hfin hk57 hk07
      go_wp2_with fail
      go_roundw
      case rel => exact ⟨n + 1, by omega, by go_num, by rw [chainUpto_next]; exact HR.out.1, HR.out.2.1, HR.out.2.2⟩
      case measure => simp [intOf]; omega
    · obtain rfl : D = n := by omega
      clear hlt hn
      have hp1 : Blk ((wr.alloc (.cells #[.int .i64 1, .int .i64 D, .int .i64 18, .int .i64 0] 67)).alloc (.cells #[.slice (some ⟨wr.heap.size, 0, none⟩) 2 2] 31)) (wr.heap.size + 1) 31 [.slice (some ⟨wr.heap.size, 0, none⟩) 2 2] := blk_at (by simp) rfl
      have hc1 : CodeAt (wr.heap.size + 1) ((wr.alloc (.cells #[.int .i64 1, .int .i64 D, .int .i64 18, .int .i64 0] 67)).alloc (.cells #[.slice (some ⟨wr.heap.size, 0, none⟩) 2 2] 31)) (.slice (some ⟨wr.heap.size, 0, none⟩) 2 2) [⟨1, D⟩, ⟨18, 0⟩] := code_lit ((Blk.new' wr 67 #[.int .i64 1, .int .i64 D, .int .i64 18, .int .i64 0] [.int .i64 1, .int .i64 D, .int .i64 18, .int .i64 0] rfl).alloc _) rfl rfl
      have hparts : PartsAt (wr.heap.size + 2) ((wr.alloc (.cells #[.int .i64 1, .int .i64 D, .int .i64 18, .int .i64 0] 67)).alloc (.cells #[.slice (some ⟨wr.heap.size, 0, none⟩) 2 2] 31)) (.slice (some ⟨wr.heap.size + 1, 0, none⟩) 1 1) [[⟨1, D⟩, ⟨18, 0⟩]] := by
        refine parts_of (pvs := [.slice (some ⟨wr.heap.size, 0, none⟩) 2 2]) rfl (own_lit 1 hp1 rfl (by unfold maxLen; omega)) (fun i p pv h1 h2 => ?_) (by simp)
        rcases i with _ | i
        · cases h1; cases h2; exact CodeAt.mono hc1 (by omega)
        · cases h1
      have hkp : Keep [] wr ((wr.alloc (.cells #[.int .i64 1, .int .i64 D, .int .i64 18, .int .i64 0] 67)).alloc (.cells #[.slice (some ⟨wr.heap.size, 0, none⟩) 2 2] 31)) := ((Keep.refl [] wr).alloc _).alloc _
      have HP := Lib.hid (And.intro hparts hkp)
      clear hp1 hc1 hparts hkp
      go_wp2_with fail
      refine (function_spec _ (wr.heap.size + 2) D _ [[⟨1, D⟩, ⟨18, 0⟩]] (by omega) HP.out.1 (by simp) (by simp [sumL]) (by simp [sumL]) (by simp)).mono ?_
      rintro e w5 ⟨cv, rfl, hcv, hk5⟩
      have hcv2 : OwnsAt w5 (wr.heap.size + 3) 67 2 cv 2 ((treeFn D [⟨1, D⟩, ⟨18, 0⟩]).code.flatMap inC) := by
        have h := hcv
        rw [show (((wr.alloc (.cells #[.int .i64 1, .int .i64 D, .int .i64 18, .int .i64 0] 67)).alloc (.cells #[.slice (some ⟨wr.heap.size, 0, none⟩) 2 2] 31)).heap.size + 1) = wr.heap.size + 3 by simp] at h
        exact h
      obtain ⟨a4, c4, rfl⟩ := hcv2.shape
      unfold fnV
      dsimp only
      obtain ⟨bs, hbs⟩ : ∃ bs, bs = (102 : UInt8) :: Lib.decDigits D := ⟨_, rfl⟩
      rw [← hbs]
      have K5 : Keep [] wr w5 := HP.out.2.trans hk5 (by simp)
      have hkz : Keep [] wr (w5.alloc (.cells #[.string (strB bs), .int .i64 0, .int .i64 0, .slice a4 2 c4] 33)) := K5.alloc _
      have hkz5 : Keep [] w5 (w5.alloc (.cells #[.string (strB bs), .int .i64 0, .int .i64 0, .slice a4 2 c4] 33)) := (Keep.refl [] w5).alloc _
      have hwr1 : w.heap.size + 1 ≤ wr.heap.size := HO.out.2.2.2.2.lt
      have hsz5 : w.heap.size + 1 ≤ w5.heap.size := by have := K5.size; omega
      have H5 := Lib.hid (And.intro (HO.out.1.keep hkz (by simp)) (And.intro (fun (i : Nat) (f : FN) (cv : Value) (h1 : (chainUpto D)[i]? = some f) (h2 : cvs[i]? = some cv) => (HO.out.2.2.1 i f cv h1 h2).keep hkz (by simp)) (And.intro ((hcv2.low (show w.heap.size + 1 ≤ wr.heap.size + 3 by omega)).keep hkz5 (by simp)) (And.intro (src_lit w5 #[.string (strB bs), .int .i64 0, .int .i64 0, .slice a4 2 c4] _ 33 4 1 rfl rfl) (And.intro hkz hbs)))))
      clear hcv hcv2 hk5 K5 hkz hkz5 hbs
      go_wp2_with (at_builtin; refine wpList_append_off rfl _ _ rfl Tryd.sts23 (w.heap.size + 1) (.slice al D cl) D _ rfl H5.out.1 _ 1 [.string (strB bs), .int .i64 0, .int .i64 0, .slice a4 2 c4] rfl H5.out.2.2.2.1 (by simp [Value.oneCell']) (by unfold maxLen; omega) (by omega) (by simp; omega) ?_)
      intro v7 w7 ho7 hk7 hb7
      obtain ⟨a7, c7, rfl⟩ := ho7.shape
      have hfin : FnsOwn (w.heap.size + 1) w7 (.slice a7 (D + 1) c7) (chainUpto D ++ [treeFn D [⟨1, D⟩, ⟨18, 0⟩]]) := by
        refine fns_snoc (fs := chainUpto D) (f := treeFn D [⟨1, D⟩, ⟨18, 0⟩]) (cvs := cvs) (cv := .slice a4 2 c4) HO.out.2.1 (by rw [chainUpto_len]; exact H5.out.1) H5.out.2.1 H5.out.2.2.1 hk7 ?_
        rw [chainUpto_len]
        have : fnC (treeFn D [⟨1, D⟩, ⟨18, 0⟩]) (.slice a4 2 c4) = [.string (strB bs), .int .i64 0, .int .i64 0, .slice a4 2 c4] := by rw [H5.out.2.2.2.2.2]; rfl
        rw [this]
        exact ho7
      have hk57 : Keep (ownBlocks (.slice al D cl)) wr w7 := (H5.out.2.2.2.2.1.mono (T := ownBlocks (.slice al D cl)) (by simp)).trans hk7 (fun x hx => Or.inl hx)
      have hk07 : Keep [] w w7 := HO.out.2.2.2.1.trans hk57 (fun x hx => Or.inr (by have := own_base HO.out.1 x hx; omega))
      have hb7 := HO.out.2.2.2.2.keep hk57 (own_apart HO.out.1 HO.out.2.2.2.2 (by decide))
      have HR := Lib.hid (And.intro hfin (And.intro hk07 hb7))
      clear ho7 hk7 hb7 hfin hk57 hk07
      go_wp2_with fail
      refine (of_spec _ fuel tasks a7 (D + 1) c7).mono ?_
      rintro e w8 ⟨rfl, hk8⟩
      have hb8 := HR.out.2.2.keep hk8 (by simp)
      have z0 : w8.cell? ⟨w.heap.size, 0, none⟩ = some (.slice none 0 0) := hb8.cell 0
      have z1 : w8.cell? ⟨w.heap.size, 1, none⟩ = some (.int .i64 0) := hb8.cell 1
      have z2 : w8.cell? ⟨w.heap.size, 2, none⟩ = some (.slice none 0 0) := hb8.cell 2
      have z3 : w8.cell? ⟨w.heap.size, 3, none⟩ = some (.int .i64 0) := hb8.cell 3
      have z4 : w8.cell? ⟨w.heap.size, 4, none⟩ = some (.int .i64 0) := hb8.cell 4
      have zf : ∀ i, w8.frozen? ⟨w.heap.size, i, none⟩ = false := fun i => hb8.frozen i
      have D8 := set5 hb8 (.slice a7 (D + 1) c7) (.int .i64 0) (.slice none 0 0) (.int .i64 (cut3 fuel 200 5000)) (.int .i64 (cut3 tasks 1 500))
      have k5 := keep5 (w := w8) (g := w.heap.size) (.slice a7 (D + 1) c7) (.int .i64 0) (.slice none 0 0) (.int .i64 (cut3 fuel 200 5000)) (.int .i64 (cut3 tasks 1 500))
      have HT := Lib.hid (And.intro ((HR.out.1.more hk8).keepS k5 (by simp)) ((HR.out.2.1.trans hk8 (by simp)).trans k5 (by simp)))
      have HD8 := Lib.hid D8
      clear hk8 hb8 D8 k5
      go_wp2_with fail
      have d0 := HD8.out.cell 0
      have d1 := HD8.out.cell 1
      have d2 := HD8.out.cell 2
      have d3 := HD8.out.cell 3
      have d4 := HD8.out.cell 4
      exact bodyPost_ret (v := .agg #[.slice a7 (D + 1) c7, .int .i64 0, .slice none 0 0, .int .i64 (cut3 fuel 200 5000), .int .i64 (cut3 tasks 1 500)]) (by simp [results, Tryd.results15, go_sem, d0, d1, d2, d3, d4]) rfl ⟨_, rfl, HT.out.1.funcs, HT.out.2⟩
end Go.Proofs.YtndpbkhpllmhmaaDoor
