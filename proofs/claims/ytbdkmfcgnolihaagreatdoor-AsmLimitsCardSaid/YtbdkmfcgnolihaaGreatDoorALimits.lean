/- asm: the law of limits, walked -/
import Derived.Test.YtbdkmfcgnolihaaGreatDoorRows
import Derived.WalkKit
import Derived.WalkSpells
import Derived.WalkLawsBesides
import Derived.RegionTactic
import Derived.ChangeAlike
import Derived.BigQuiet
import Derived.Deep.QuietTactic
import Derived.StillTailTactics
import Derived.IntWalk
import Derived.Handy
import Derived.Lib.Hide
import Derived.Deep.AppendLies
import Derived.Deep.RegionWith
import Derived.Test.YtbdkmfcgnolihaaGreatDoorBase
import Derived.Test.YtbdkmfcgnolihaaGreatDoorTail
import Derived.Test.YtbdkmfcgnolihaaGreatDoorArgs
import Derived.Test.YtbdkmfcgnolihaaGreatDoorAppend
import Derived.Test.YtbdkmfcgnolihaaGreatDoorOffs
import Derived.Test.YtbdkmfcgnolihaaGreatDoorStructs
import Derived.Carry
import Derived.Deep.RegionHeld3
import Derived.BigRegion
import Derived.Maps.OwnSet
import Derived.Maps.Views
import Derived.Maps.StringElems
import Derived.Test.YtbdkmfcgnolihaaGreatDoorMaps2
import Derived.Deep.CutRange
import Derived.Deep.CutBlock
import Derived.Test.YtbdkmfcgnolihaaGreatDoorFEnv
import Derived.Test.YtbdkmfcgnolihaaGreatDoorAObj
import Derived.Test.YtbdkmfcgnolihaaGreatDoorAPlain
import Derived.Test.YtbdkmfcgnolihaaGreatDoorAPlain2
import Derived.Test.YtbdkmfcgnolihaaGreatDoorAPl
import Derived.Test.YtbdkmfcgnolihaaGreatDoorAPlJ
import Derived.Test.YtbdkmfcgnolihaaGreatDoorAPr
import Derived.Test.YtbdkmfcgnolihaaGreatDoorARead
import Derived.Test.YtbdkmfcgnolihaaGreatDoorASame
import Derived.Test.YtbdkmfcgnolihaaGreatDoorAAlive
import Derived.Test.YtbdkmfcgnolihaaGreatDoorALimP
import Derived.Test.YtbdkmfcgnolihaaGreatDoorRNum
namespace Go.Proofs.YtbdkmfcgnolihaaGreatDoor
set_option linter.unusedSimpArgs false
set_option linter.unnecessarySimpa false
set_option linter.unusedVariables false
open Go.RowKit
theorem dec_size {i : Nat} (h : i ≤ 1000) : (strB (Lib.decDigits i)).size ≤ 19 := by rw [strB_size]; exact dec_len (by omega)
theorem step2_eq (i : Nat) : strB (tx2 i) ++ (⟨#[102, 117, 110, 99, 32, 102]⟩ : ByteArray) ++ strB (Lib.decDigits i) ++ (⟨#[32, 48, 32, 48, 10]⟩ : ByteArray) = strB (tx2 (i + 1)) := by
  rw [show (⟨#[102, 117, 110, 99, 32, 102]⟩ : ByteArray) = strB [102, 117, 110, 99, 32, 102] from rfl, show (⟨#[32, 48, 32, 48, 10]⟩ : ByteArray) = strB [32, 48, 32, 48, 10] from rfl]
  simp only [strB_app]
  rw [tx2_succ]
  congr 1
  simp [fnT]
set_option maxHeartbeats 3200000 in
set_option maxRecDepth 100000 in
theorem limits_walk0 {w : World} (hE : Env1 w) {n : Nat} (hn : n ≤ 300) : Calls Tryz.prog 6 #[.int .i64 0, .int .i64 n] w fun e w' => e = .returned (.bool true) ∧ Keep [] w w' := by
  have HE := Lib.hid hE
  have n1 : (n : Int) ≤ 300 := by omega
  clear hE
  go_enter Tryz.func6, Tryz.ntmps6
  go_wp2_with fail
  refine (alive_spec HE.out).mono ?_
  rintro e w1 ⟨rfl, hk1⟩
  have H1 := Lib.hid hk1
  clear hk1
  go_wp2_with fail
  go_loopw [6, 9] (fun vs vi wr => ∃ i : Nat, i ≤ n ∧ vi = .int .i64 i ∧ vs = .string (strB (tx0 i)) ∧ Keep [] w1 wr) (fun _ vi _ => n - (intOf vi).toNat)
  case atStart => exact ⟨0, Nat.zero_le _, rfl, rfl, Keep.refl _ _⟩
  case round =>
    obtain ⟨i, hi, rfl, rfl, hk⟩ := hrel
    have hzl : (strB (tx0 i)).size ≤ 700 := by rw [strB_size, tx0_len]; omega
    have HK := Lib.hid hk
    clear hk
    by_cases hlt : i < n
    · have hltI : (i : Int) < (n : Int) := by omega
      go_wp2_with fail
      go_roundw
      case rel => exact ⟨i + 1, by omega, by go_num, by rw [tx0_succ, ← strB_app]; rfl, HK.out⟩
      case measure => simp [intOf]; omega
    · obtain rfl : i = n := by omega
      have he := limit0 hn
      have hle : ((tx0 i ++ tF) ++ tE).length ≤ 1000000000 := by rw [List.length_append]; rw [List.length_append]; have := tx0_len i; have : tF.length = 13 := rfl; have : tE.length = 4 := rfl; omega
      have HP := Lib.hid (And.intro he hle)
      clear he hle
      go_wp2_with fail
      rw [show strB (tx0 i) ++ (⟨#[10, 102, 117, 110, 99, 32, 102, 48, 32, 48, 32, 48, 10]⟩ : ByteArray) ++ (⟨#[101, 110, 100, 10]⟩ : ByteArray) = strB ((tx0 i ++ tF) ++ tE) from by rw [show (⟨#[10, 102, 117, 110, 99, 32, 102, 48, 32, 48, 32, 48, 10]⟩ : ByteArray) = strB tF from rfl, show (⟨#[101, 110, 100, 10]⟩ : ByteArray) = strB tE from rfl, strB_app, strB_app]]
      refine (read_spec (HE.out.keep (H1.out.trans HK.out (by simp))) ((tx0 i ++ tF) ++ tE) HP.out.2).mono ?_
      intro e w5 hr5
      rw [HP.out.1] at hr5
      by_cases hbn : i ≤ 8
      · rw [if_pos hbn] at hr5
        obtain ⟨kv, rfl, hj5, hk5⟩ := hr5.job
        have hbI : (i : Int) ≤ 8 := by omega
        generalize JL0 i = jj at *
        obtain ⟨fb, fd, ab, ad, rfl, hf, _⟩ := jobRd_cells hj5
        have kB : Keep [] w5 (w5.alloc (.cells #[.slice fb jj.funcs.length fd, .int .i64 jj.main, .slice ab jj.args.length ad, .int .i64 jj.fuel, .int .i64 jj.tasks] 25)) := (Keep.refl _ _).alloc _
        have H5 := Lib.hid (((H1.out.trans HK.out (by simp)).trans hk5 (by simp)).trans kB (by simp))
        clear hr5 hj5 hk5 kB hf hzl HP
        go_upto_region 32 with fail
        generalize (w5.alloc (.cells #[.slice fb jj.funcs.length fd, .int .i64 jj.main, .slice ab jj.args.length ad, .int .i64 jj.fuel, .int .i64 jj.tasks] 25)) = w6 at *
        go_wp2_with fail
        refine (num_spec _ _).mono ?_
        rintro e w7 ⟨rfl, rfl⟩
        go_wp2_with fail
        go_ret
        exact ⟨rfl, H5.out⟩
      · rw [if_neg hbn] at hr5
        obtain ⟨kv, rfl, hj5, hk5⟩ := hr5.job
        have hbI : 8 < (i : Int) := by omega
        obtain ⟨fb, fd, ab, ad, rfl, hf, _⟩ := jobRd_cells hj5
        have kB : Keep [] w5 (w5.alloc (.cells #[.slice fb JB0.funcs.length fd, .int .i64 JB0.main, .slice ab JB0.args.length ad, .int .i64 JB0.fuel, .int .i64 JB0.tasks] 25)) := (Keep.refl _ _).alloc _
        have H5 := Lib.hid (((H1.out.trans HK.out (by simp)).trans hk5 (by simp)).trans kB (by simp))
        clear hr5 hj5 hk5 kB hf hzl HP
        go_upto_region 32 with fail
        generalize (w5.alloc (.cells #[.slice fb JB0.funcs.length fd, .int .i64 JB0.main, .slice ab JB0.args.length ad, .int .i64 JB0.fuel, .int .i64 JB0.tasks] 25)) = w6 at *
        go_wp2_with fail
        refine (num_spec _ _).mono ?_
        rintro e w7 ⟨rfl, rfl⟩
        go_wp2_with fail
        go_ret
        exact ⟨rfl, H5.out⟩
set_option maxHeartbeats 3200000 in
set_option maxRecDepth 100000 in
theorem limits_walk1 {w : World} (hE : Env1 w) {n : Nat} (hn : n ≤ 300) : Calls Tryz.prog 6 #[.int .i64 1, .int .i64 n] w fun e w' => e = .returned (.bool true) ∧ Keep [] w w' := by
  have HE := Lib.hid hE
  have n1 : (n : Int) ≤ 300 := by omega
  clear hE
  go_enter Tryz.func6, Tryz.ntmps6
  go_wp2_with fail
  refine (alive_spec HE.out).mono ?_
  rintro e w1 ⟨rfl, hk1⟩
  have H1 := Lib.hid hk1
  clear hk1
  go_wp2_with fail
  go_loopw [6, 10] (fun vs vi wr => ∃ i : Nat, i ≤ n ∧ vi = .int .i64 i ∧ vs = .string (strB (tx1 i)) ∧ Keep [] w1 wr) (fun _ vi _ => n - (intOf vi).toNat)
  case atStart => exact ⟨0, Nat.zero_le _, rfl, rfl, Keep.refl _ _⟩
  case round =>
    obtain ⟨i, hi, rfl, rfl, hk⟩ := hrel
    have hzl : (strB (tx1 i)).size ≤ 2000 := by rw [strB_size, tx1_len]; omega
    have HK := Lib.hid hk
    clear hk
    by_cases hlt : i < n
    · have hltI : (i : Int) < (n : Int) := by omega
      go_wp2_with fail
      go_roundw
      case rel => exact ⟨i + 1, by omega, by go_num, by rw [tx1_succ, ← strB_app]; rfl, HK.out⟩
      case measure => simp [intOf]; omega
    · obtain rfl : i = n := by omega
      have he := limit1 hn
      have hle : (tx1 i ++ tE).length ≤ 1000000000 := by rw [List.length_append]; have := tx1_len i; have : tE.length = 4 := rfl; omega
      have HP := Lib.hid (And.intro he hle)
      clear he hle
      go_wp2_with fail
      rw [show strB (tx1 i) ++ (⟨#[101, 110, 100, 10]⟩ : ByteArray) = strB (tx1 i ++ tE) from by exact strB_app _ _]
      refine (read_spec (HE.out.keep (H1.out.trans HK.out (by simp))) (tx1 i ++ tE) HP.out.2).mono ?_
      intro e w5 hr5
      rw [HP.out.1] at hr5
      by_cases hbn : i ≤ 256
      · rw [if_pos hbn] at hr5
        obtain ⟨kv, rfl, hj5, hk5⟩ := hr5.job
        have hbI : (i : Int) ≤ 256 := by omega
        generalize JL1 i = jj at *
        obtain ⟨fb, fd, ab, ad, rfl, hf, _⟩ := jobRd_cells hj5
        have kB : Keep [] w5 (w5.alloc (.cells #[.slice fb jj.funcs.length fd, .int .i64 jj.main, .slice ab jj.args.length ad, .int .i64 jj.fuel, .int .i64 jj.tasks] 25)) := (Keep.refl _ _).alloc _
        have H5 := Lib.hid (((H1.out.trans HK.out (by simp)).trans hk5 (by simp)).trans kB (by simp))
        clear hr5 hj5 hk5 kB hf hzl HP
        go_upto_region 32 with fail
        generalize (w5.alloc (.cells #[.slice fb jj.funcs.length fd, .int .i64 jj.main, .slice ab jj.args.length ad, .int .i64 jj.fuel, .int .i64 jj.tasks] 25)) = w6 at *
        go_wp2_with fail
        refine (num_spec _ _).mono ?_
        rintro e w7 ⟨rfl, rfl⟩
        go_wp2_with fail
        go_ret
        exact ⟨rfl, H5.out⟩
      · rw [if_neg hbn] at hr5
        obtain ⟨kv, rfl, hj5, hk5⟩ := hr5.job
        have hbI : 256 < (i : Int) := by omega
        obtain ⟨fb, fd, ab, ad, rfl, hf, _⟩ := jobRd_cells hj5
        have kB : Keep [] w5 (w5.alloc (.cells #[.slice fb JB0.funcs.length fd, .int .i64 JB0.main, .slice ab JB0.args.length ad, .int .i64 JB0.fuel, .int .i64 JB0.tasks] 25)) := (Keep.refl _ _).alloc _
        have H5 := Lib.hid (((H1.out.trans HK.out (by simp)).trans hk5 (by simp)).trans kB (by simp))
        clear hr5 hj5 hk5 kB hf hzl HP
        go_upto_region 32 with fail
        generalize (w5.alloc (.cells #[.slice fb JB0.funcs.length fd, .int .i64 JB0.main, .slice ab JB0.args.length ad, .int .i64 JB0.fuel, .int .i64 JB0.tasks] 25)) = w6 at *
        go_wp2_with fail
        refine (num_spec _ _).mono ?_
        rintro e w7 ⟨rfl, rfl⟩
        go_wp2_with fail
        go_ret
        exact ⟨rfl, H5.out⟩
set_option maxHeartbeats 3200000 in
set_option maxRecDepth 100000 in
theorem limits_walk2 {w : World} (hE : Env1 w) {n : Nat} (hn : n ≤ 300) : Calls Tryz.prog 6 #[.int .i64 2, .int .i64 n] w fun e w' => e = .returned (.bool true) ∧ Keep [] w w' := by
  have HE := Lib.hid hE
  have n1 : (n : Int) ≤ 300 := by omega
  clear hE
  go_enter Tryz.func6, Tryz.ntmps6
  go_wp2_with fail
  refine (alive_spec HE.out).mono ?_
  rintro e w1 ⟨rfl, hk1⟩
  have H1 := Lib.hid hk1
  clear hk1
  go_wp2_with fail
  go_loopw [6, 11] (fun vs vi wr => ∃ i : Nat, i ≤ n + 1 ∧ vi = .int .i64 i ∧ vs = .string (strB (tx2 i)) ∧ Keep [] w1 wr) (fun _ vi _ => (n + 1) - (intOf vi).toNat)
  case atStart => exact ⟨0, Nat.zero_le _, rfl, rfl, Keep.refl _ _⟩
  case round =>
    obtain ⟨i, hi, rfl, rfl, hk⟩ := hrel
    have hzl : (strB (tx2 i)).size ≤ 10000 := by rw [strB_size]; have := tx2_len i (by omega); omega
    have HK := Lib.hid hk
    clear hk
    by_cases hlt : i ≤ n
    · have hltI : (i : Int) ≤ (n : Int) := by omega
      have hdl := dec_size (i := i) (by omega)
      go_wp2_with fail
      refine (digits_nat i _ (by omega)).mono ?_
      rintro e w2 ⟨rfl, rfl⟩
      go_wp2_with fail
      go_roundw
      case rel => exact ⟨i + 1, by omega, by go_num, by rw [← step2_eq], HK.out⟩
      case measure => simp [intOf]; omega
    · obtain rfl : i = n + 1 := by omega
      have he := limit2 hn
      have hle : (tx2 (n + 1) ++ tE).length ≤ 1000000000 := by rw [List.length_append]; have := tx2_len (n + 1) (by omega); have : tE.length = 4 := rfl; omega
      have HP := Lib.hid (And.intro he hle)
      clear he hle
      go_wp2_with fail
      rw [show strB (tx2 (n + 1)) ++ (⟨#[101, 110, 100, 10]⟩ : ByteArray) = strB (tx2 (n + 1) ++ tE) from by exact strB_app _ _]
      refine (read_spec (HE.out.keep (H1.out.trans HK.out (by simp))) (tx2 (n + 1) ++ tE) HP.out.2).mono ?_
      intro e w5 hr5
      rw [HP.out.1] at hr5
      by_cases hbn : n ≤ 31
      · rw [if_pos hbn] at hr5
        obtain ⟨kv, rfl, hj5, hk5⟩ := hr5.job
        have hbI : (n : Int) ≤ 31 := by omega
        generalize JL2 n = jj at *
        obtain ⟨fb, fd, ab, ad, rfl, hf, _⟩ := jobRd_cells hj5
        have kB : Keep [] w5 (w5.alloc (.cells #[.slice fb jj.funcs.length fd, .int .i64 jj.main, .slice ab jj.args.length ad, .int .i64 jj.fuel, .int .i64 jj.tasks] 25)) := (Keep.refl _ _).alloc _
        have H5 := Lib.hid (((H1.out.trans HK.out (by simp)).trans hk5 (by simp)).trans kB (by simp))
        clear hr5 hj5 hk5 kB hf hzl HP
        go_upto_region 32 with fail
        generalize (w5.alloc (.cells #[.slice fb jj.funcs.length fd, .int .i64 jj.main, .slice ab jj.args.length ad, .int .i64 jj.fuel, .int .i64 jj.tasks] 25)) = w6 at *
        go_wp2_with fail
        refine (num_spec _ _).mono ?_
        rintro e w7 ⟨rfl, rfl⟩
        go_wp2_with fail
        go_ret
        exact ⟨rfl, H5.out⟩
      · rw [if_neg hbn] at hr5
        obtain ⟨kv, rfl, hj5, hk5⟩ := hr5.job
        have hbI : 31 < (n : Int) := by omega
        obtain ⟨fb, fd, ab, ad, rfl, hf, _⟩ := jobRd_cells hj5
        have kB : Keep [] w5 (w5.alloc (.cells #[.slice fb JB0.funcs.length fd, .int .i64 JB0.main, .slice ab JB0.args.length ad, .int .i64 JB0.fuel, .int .i64 JB0.tasks] 25)) := (Keep.refl _ _).alloc _
        have H5 := Lib.hid (((H1.out.trans HK.out (by simp)).trans hk5 (by simp)).trans kB (by simp))
        clear hr5 hj5 hk5 kB hf hzl HP
        go_upto_region 32 with fail
        generalize (w5.alloc (.cells #[.slice fb JB0.funcs.length fd, .int .i64 JB0.main, .slice ab JB0.args.length ad, .int .i64 JB0.fuel, .int .i64 JB0.tasks] 25)) = w6 at *
        go_wp2_with fail
        refine (num_spec _ _).mono ?_
        rintro e w7 ⟨rfl, rfl⟩
        go_wp2_with fail
        go_ret
        exact ⟨rfl, H5.out⟩
set_option maxHeartbeats 3200000 in
set_option maxRecDepth 100000 in
theorem limits_out {w : World} (hE : Env1 w) {a n : Int} (h : a < 0 ∨ 2 < a ∨ n < 0 ∨ 300 < n) : Calls Tryz.prog 6 #[.int .i64 a, .int .i64 n] w fun e w' => e = .returned (.bool true) ∧ Keep [] w w' := by
  have HE := Lib.hid hE
  have HH := Lib.hid h
  clear hE h
  go_enter Tryz.func6, Tryz.ntmps6
  go_wp2_with fail
  refine (alive_spec HE.out).mono ?_
  rintro e w1 ⟨rfl, hk1⟩
  have H1 := Lib.hid hk1
  clear hk1
  by_cases h1 : a < 0
  · go_wp2
    go_ret
    exact ⟨rfl, H1.out⟩
  by_cases h2 : 2 < a
  · have h1' : 0 ≤ a := by omega
    clear h1
    go_wp2
    go_ret
    exact ⟨rfl, H1.out⟩
  by_cases h3 : n < 0
  · have h1' : 0 ≤ a := by omega
    have h2' : a ≤ 2 := by omega
    clear h1 h2
    go_wp2
    go_ret
    exact ⟨rfl, H1.out⟩
  · have h4 : 300 < n := by have := HH.out; omega
    have h1' : 0 ≤ a := by omega
    have h2' : a ≤ 2 := by omega
    have h3' : 0 ≤ n := by omega
    clear h1 h2 h3
    go_wp2
    go_ret
    exact ⟨rfl, H1.out⟩
theorem walk_asmLimits {a n : Int} (W : World) (hE : Env1 W) (h1 : (Lit.int .i64 a).wf = true) (h2 : (Lit.int .i64 n).wf = true) : Calls Tryz.prog 6 #[.int .i64 a, .int .i64 n] W fun e w' => e = .returned (.bool true) ∧ Below W.heap.size W w' := by
  suffices h : Calls Tryz.prog 6 #[.int .i64 a, .int .i64 n] W fun e w' => e = .returned (.bool true) ∧ Keep [] W w' from h.mono fun e w' ⟨h1, h2⟩ => ⟨h1, h2.to_below⟩
  by_cases h : a < 0 ∨ 2 < a ∨ n < 0 ∨ 300 < n
  · exact limits_out hE h
  · obtain ⟨n', rfl⟩ : ∃ k : Nat, n = k := ⟨n.toNat, by omega⟩
    have h3 : a = 0 ∨ a = 1 ∨ a = 2 := by omega
    rcases h3 with rfl | rfl | rfl
    · exact limits_walk0 hE (by omega)
    · exact limits_walk1 hE (by omega)
    · exact limits_walk2 hE (by omega)
end Go.Proofs.YtbdkmfcgnolihaaGreatDoor
