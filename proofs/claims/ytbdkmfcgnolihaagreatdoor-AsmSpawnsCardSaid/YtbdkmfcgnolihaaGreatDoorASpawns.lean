/- asm: the law of spawns, walked -/
import Derived.Test.YtbdkmfcgnolihaaGreatDoorRows
import Derived.WalkKit
import Derived.WalkSpells
import Derived.WalkLawsBesides
import Derived.RegionTactic
import Derived.ChangeAlike
import Derived.BigQuiet
import Derived.Deep.QuietTactic
import Derived.StillTailTactics
import Derived.IntWalk
import Derived.Handy
import Derived.Lib.Hide
import Derived.Deep.AppendLies
import Derived.Deep.RegionWith
import Derived.Test.YtbdkmfcgnolihaaGreatDoorBase
import Derived.Test.YtbdkmfcgnolihaaGreatDoorTail
import Derived.Test.YtbdkmfcgnolihaaGreatDoorArgs
import Derived.Test.YtbdkmfcgnolihaaGreatDoorAppend
import Derived.Test.YtbdkmfcgnolihaaGreatDoorOffs
import Derived.Test.YtbdkmfcgnolihaaGreatDoorStructs
import Derived.Carry
import Derived.Deep.RegionHeld3
import Derived.BigRegion
import Derived.Maps.OwnSet
import Derived.Maps.Views
import Derived.Maps.StringElems
import Derived.Test.YtbdkmfcgnolihaaGreatDoorMaps2
import Derived.Deep.CutRange
import Derived.Deep.CutBlock
import Derived.Test.YtbdkmfcgnolihaaGreatDoorFEnv
import Derived.Test.YtbdkmfcgnolihaaGreatDoorAObj
import Derived.Test.YtbdkmfcgnolihaaGreatDoorAPlain
import Derived.Test.YtbdkmfcgnolihaaGreatDoorAPlain2
import Derived.Test.YtbdkmfcgnolihaaGreatDoorAPl
import Derived.Test.YtbdkmfcgnolihaaGreatDoorAPlJ
import Derived.Test.YtbdkmfcgnolihaaGreatDoorAPr
import Derived.Test.YtbdkmfcgnolihaaGreatDoorARead
import Derived.Test.YtbdkmfcgnolihaaGreatDoorASame
import Derived.Test.YtbdkmfcgnolihaaGreatDoorAAlive
import Derived.Test.YtbdkmfcgnolihaaGreatDoorALimP
import Derived.Test.YtbdkmfcgnolihaaGreatDoorRNum
import Derived.Test.YtbdkmfcgnolihaaGreatDoorALimits
namespace Go.Proofs.YtbdkmfcgnolihaaGreatDoor
set_option linter.unusedSimpArgs false
set_option linter.unnecessarySimpa false
set_option linter.unusedVariables false
open Go.RowKit
def lnS (a i : Nat) : Int := if a < i then ((4 + a : Nat) : Int) else 0
theorem lnS_eq (a : Nat) : lnS a (a + 1) = 4 + (a : Int) := by unfold lnS; rw [if_pos (by omega)]; omega
theorem lnS_ne {a i : Nat} (h : i ≠ a) : lnS a (i + 1) = lnS a i := by
  unfold lnS
  by_cases h1 : a < i
  · rw [if_pos h1, if_pos (by omega)]
  · rw [if_neg h1, if_neg (by omega)]
theorem lnS_end {a n : Nat} (h : a < n) : lnS a n = ((4 + a : Nat) : Int) := by unfold lnS; rw [if_pos h]
theorem stepS_eq (a b : Nat) : strB (txS a b a) ++ (⟨#[102, 117, 110, 99, 32, 102]⟩ : ByteArray) ++ strB (Lib.decDigits a) ++ (⟨#[32, 48, 32, 48, 10]⟩ : ByteArray) ++ (⟨#[32, 32, 115, 112, 97, 119, 110, 32, 102]⟩ : ByteArray) ++ strB (Lib.decDigits b) ++ (⟨#[10]⟩ : ByteArray) = strB (txS a b (a + 1)) := by
  rw [show (⟨#[102, 117, 110, 99, 32, 102]⟩ : ByteArray) = strB [102, 117, 110, 99, 32, 102] from rfl, show (⟨#[32, 48, 32, 48, 10]⟩ : ByteArray) = strB [32, 48, 32, 48, 10] from rfl, show (⟨#[32, 32, 115, 112, 97, 119, 110, 32, 102]⟩ : ByteArray) = strB [32, 32, 115, 112, 97, 119, 110, 32, 102] from rfl, show (⟨#[10]⟩ : ByteArray) = strB [10] from rfl]
  simp only [strB_app]
  rw [txS_succ, if_pos rfl]
  congr 1
  simp [fnT, spT]
theorem stepS_at {a i : Nat} (b : Nat) (h : i = a) : strB (txS a b i) ++ (⟨#[102, 117, 110, 99, 32, 102]⟩ : ByteArray) ++ strB (Lib.decDigits i) ++ (⟨#[32, 48, 32, 48, 10]⟩ : ByteArray) ++ (⟨#[32, 32, 115, 112, 97, 119, 110, 32, 102]⟩ : ByteArray) ++ strB (Lib.decDigits b) ++ (⟨#[10]⟩ : ByteArray) = strB (txS a b (i + 1)) := by subst h; exact stepS_eq i b
theorem lnS_at {a i : Nat} (h : i = a) : lnS a (i + 1) = 4 + (i : Int) := by subst h; exact lnS_eq i
theorem stepS_ne {a b i : Nat} (h : i ≠ a) : strB (txS a b i) ++ (⟨#[102, 117, 110, 99, 32, 102]⟩ : ByteArray) ++ strB (Lib.decDigits i) ++ (⟨#[32, 48, 32, 48, 10]⟩ : ByteArray) = strB (txS a b (i + 1)) := by
  rw [show (⟨#[102, 117, 110, 99, 32, 102]⟩ : ByteArray) = strB [102, 117, 110, 99, 32, 102] from rfl, show (⟨#[32, 48, 32, 48, 10]⟩ : ByteArray) = strB [32, 48, 32, 48, 10] from rfl]
  simp only [strB_app]
  rw [txS_succ, if_neg h]
  congr 1
  simp [fnT]
set_option maxHeartbeats 3200000 in
set_option maxRecDepth 100000 in
theorem spawns_walk {w : World} (hE : Env1 w) {n a b : Nat} (hn1 : 1 ≤ n) (hn : n ≤ 20) (ha : a < n) (hb : b ≤ 30) : Calls Tryz.prog 7 #[.int .i64 n, .int .i64 a, .int .i64 b] w fun e w' => e = .returned (.bool true) ∧ Keep [] w w' := by
  have HE := Lib.hid hE
  have n0 : decide ((n : Int) < 1) = false := decide_eq_false (by omega)
  have n1 : decide ((20 : Int) < (n : Int)) = false := decide_eq_false (by omega)
  have a0 : decide ((a : Int) < 0) = false := decide_eq_false (by omega)
  have a1 : decide ((n : Int) ≤ (a : Int)) = false := decide_eq_false (by omega)
  have a2 : decide (n ≤ a) = false := decide_eq_false (by omega)
  have b0 : decide ((b : Int) < 0) = false := decide_eq_false (by omega)
  have b1 : decide ((30 : Int) < (b : Int)) = false := decide_eq_false (by omega)
  clear hE
  go_enter Tryz.func7, Tryz.ntmps7
  go_wp2_with fail
  refine (alive_spec HE.out).mono ?_
  rintro e w1 ⟨rfl, hk1⟩
  have H1 := Lib.hid hk1
  clear hk1
  go_wp2_with fail
  clear n0 n1 a0 a1 a2 b0 b1
  go_loopw [8, 9, 10] (fun vs vl vi wr => ∃ i : Nat, i ≤ n ∧ vi = .int .i64 i ∧ vs = .string (strB (txS a b i)) ∧ vl = .int .i64 (lnS a i) ∧ Keep [] w1 wr) (fun _ _ vi _ => n - (intOf vi).toNat)
  case atStart => exact ⟨0, Nat.zero_le _, rfl, rfl, rfl, Keep.refl _ _⟩
  case round =>
    obtain ⟨i, hi, rfl, rfl, rfl, hk⟩ := hrel
    have hzl : (strB (txS a b i)).size ≤ 2000 := by rw [strB_size]; have := txS_len a b i (by omega) (by omega); omega
    have HK := Lib.hid hk
    clear hk
    by_cases hlt : i < n
    · have hltI : (i : Int) < (n : Int) := by omega
      have hdl := dec_size (i := i) (by omega)
      have hdb := dec_size (i := b) (by omega)
      by_cases hia : i = a
      · have hq : ((i : Int) == (a : Int)) = true := by simp [hia]
        have HIA := Lib.hid (And.intro (stepS_at b hia) (lnS_at hia))
        clear hia
        go_wp2_with fail
        refine (digits_nat i _ (by omega)).mono ?_
        rintro e w2 ⟨rfl, rfl⟩
        go_wp2_with fail
        refine (digits_nat b _ (by omega)).mono ?_
        rintro e w2 ⟨rfl, rfl⟩
        go_wp2_with fail
        go_roundw
        case rel => exact ⟨i + 1, by omega, by go_num, by rw [HIA.out.1], by rw [HIA.out.2], HK.out⟩
        case measure => simp [intOf]; omega
      · have hne : ((i : Int) == (a : Int)) = false := by simp; omega
        go_wp2_with fail
        refine (digits_nat i _ (by omega)).mono ?_
        rintro e w2 ⟨rfl, rfl⟩
        go_wp2_with fail
        go_roundw
        case rel => exact ⟨i + 1, by omega, by go_num, by rw [← stepS_ne hia], by rw [lnS_ne hia], HK.out⟩
        case measure => simp [intOf]; omega
    · obtain rfl : i = n := by omega
      have he := spawns hn ha hb
      have hle : (txS a b i ++ tE).length ≤ 1000000000 := by rw [List.length_append]; have := txS_len a b i (by omega) (by omega); have : tE.length = 4 := rfl; omega
      rw [lnS_end ha]
      have HP := Lib.hid (And.intro he hle)
      clear he hle
      go_wp2_with fail
      rw [show strB (txS a b i) ++ (⟨#[101, 110, 100, 10]⟩ : ByteArray) = strB (txS a b i ++ tE) from strB_app _ _]
      refine (read_spec (HE.out.keep (H1.out.trans HK.out (by simp))) (txS a b i ++ tE) HP.out.2).mono ?_
      intro e w5 hr5
      rw [HP.out.1] at hr5
      by_cases hbn : b < i
      · rw [if_pos hbn] at hr5
        obtain ⟨kv, rfl, hj5, hk5⟩ := hr5.job
        have hbI : (b : Int) < (i : Int) := by omega
        obtain ⟨fb, fd, ab, ad, rfl, hf, _⟩ := jobRd_cells hj5
        have hl : (JS i a b).funcs.length = i := by simp [JS]
        rw [hl] at hf ⊢
        have hfa : (JS i a b).funcs[a]? = some (fS a b a) := by simp [JS, ha]
        obtain ⟨b5, off5, cv5, rfl, hb5, _, _, _, c3, hc⟩ := hf.at_ hfa
        obtain ⟨ca, cc, rfl⟩ := hc.shape
        have hcl : (fS a b a).code.length = 1 := by simp [fS]
        have hc0 : (fS a b a).code[0]? = some ⟨16, (b : Int)⟩ := by simp [fS]
        obtain ⟨b6, off6, rfl, hb6, d0, d1⟩ := hc.at_ hc0
        rw [hcl] at c3
        have e0 : (JS i a b).args.length = 0 := rfl
        simp only [Nat.zero_mul, Nat.add_zero] at d0 d1
        have kB : Keep [] w5 (w5.alloc (.cells #[.slice (some ⟨b5, off5, none⟩) i fd, .int .i64 (JS i a b).main, .slice ab (JS i a b).args.length ad, .int .i64 (JS i a b).fuel, .int .i64 (JS i a b).tasks] 25)) := (Keep.refl _ _).alloc _
        have bB : Blk (w5.alloc (.cells #[.slice (some ⟨b5, off5, none⟩) i fd, .int .i64 (JS i a b).main, .slice ab (JS i a b).args.length ad, .int .i64 (JS i a b).fuel, .int .i64 (JS i a b).tasks] 25)) w5.heap.size 25 [.slice (some ⟨b5, off5, none⟩) i fd, .int .i64 (JS i a b).main, .slice ab (JS i a b).args.length ad, .int .i64 (JS i a b).fuel, .int .i64 (JS i a b).tasks] := Blk.new' _ _ _ _ rfl
        have c3' := cell_keep0 kB c3
        have d0' := cell_keep0 kB d0
        have d1' := cell_keep0 kB d1
        have f0 := bB.cell 0
        have H5 := Lib.hid (((H1.out.trans HK.out (by simp)).trans hk5 (by simp)).trans kB (by simp))
        have aI : (0 : Int) ≤ (a : Int) := by omega
        have a1 : (a : Int) < (i : Int) := by omega
        clear hr5 hj5 hk5 kB bB c3 d0 d1 hc hf hl hfa hcl hc0 hb5 hb6 e0 hzl
        go_upto_region 14 with fail
        generalize (w5.alloc (.cells #[.slice (some ⟨b5, off5, none⟩) i fd, .int .i64 (JS i a b).main, .slice ab (JS i a b).args.length ad, .int .i64 (JS i a b).fuel, .int .i64 (JS i a b).tasks] 25)) = w6 at *
        generalize w5.heap.size = gg at *
        simp only [List.getElem?_cons_zero] at f0
        go_wp2_with fail
        refine (num_spec _ _).mono ?_
        rintro e w7 ⟨rfl, rfl⟩
        go_wp2_with fail
        go_ret
        exact ⟨rfl, H5.out⟩
      · rw [if_neg hbn] at hr5
        obtain ⟨kv, rfl, hj5, hk5⟩ := hr5.job
        have hbI : (i : Int) ≤ (b : Int) := by omega
        obtain ⟨fb, fd, ab, ad, rfl, hf, _⟩ := jobRd_cells hj5
        have kB : Keep [] w5 (w5.alloc (.cells #[.slice fb JB0.funcs.length fd, .int .i64 JB0.main, .slice ab JB0.args.length ad, .int .i64 JB0.fuel, .int .i64 JB0.tasks] 25)) := (Keep.refl _ _).alloc _
        have H5 := Lib.hid (((H1.out.trans HK.out (by simp)).trans hk5 (by simp)).trans kB (by simp))
        clear hr5 hj5 hk5 kB hf hzl
        go_upto_region 14 with fail
        generalize (w5.alloc (.cells #[.slice fb JB0.funcs.length fd, .int .i64 JB0.main, .slice ab JB0.args.length ad, .int .i64 JB0.fuel, .int .i64 JB0.tasks] 25)) = w6 at *
        go_wp2_with fail
        refine (num_spec _ _).mono ?_
        rintro e w7 ⟨rfl, rfl⟩
        go_wp2_with fail
        go_ret
        exact ⟨rfl, H5.out⟩
set_option maxHeartbeats 3200000 in
set_option maxRecDepth 100000 in
theorem spawns_out {w : World} (hE : Env1 w) {n a b : Int} (h : n < 1 ∨ 20 < n ∨ a < 0 ∨ n ≤ a ∨ b < 0 ∨ 30 < b) : Calls Tryz.prog 7 #[.int .i64 n, .int .i64 a, .int .i64 b] w fun e w' => e = .returned (.bool true) ∧ Keep [] w w' := by
  have HE := Lib.hid hE
  have HH := Lib.hid h
  clear hE h
  go_enter Tryz.func7, Tryz.ntmps7
  go_wp2_with fail
  refine (alive_spec HE.out).mono ?_
  rintro e w1 ⟨rfl, hk1⟩
  have H1 := Lib.hid hk1
  clear hk1
  by_cases h1 : n < 1
  · go_wp2
    go_ret
    exact ⟨rfl, H1.out⟩
  by_cases h2 : 20 < n
  · have h1' : 1 ≤ n := by omega
    clear h1
    go_wp2
    go_ret
    exact ⟨rfl, H1.out⟩
  by_cases h3 : a < 0
  · have h1' : 1 ≤ n := by omega
    have h2' : n ≤ 20 := by omega
    clear h1 h2
    go_wp2
    go_ret
    exact ⟨rfl, H1.out⟩
  by_cases h4 : n ≤ a
  · have h1' : 1 ≤ n := by omega
    have h2' : n ≤ 20 := by omega
    have h3' : 0 ≤ a := by omega
    clear h1 h2 h3
    go_wp2
    go_ret
    exact ⟨rfl, H1.out⟩
  by_cases h5 : b < 0
  · have h1' : 1 ≤ n := by omega
    have h2' : n ≤ 20 := by omega
    have h3' : 0 ≤ a := by omega
    have h4' : a < n := by omega
    clear h1 h2 h3 h4
    go_wp2
    go_ret
    exact ⟨rfl, H1.out⟩
  · have h6 : 30 < b := by have := HH.out; omega
    have h1' : 1 ≤ n := by omega
    have h2' : n ≤ 20 := by omega
    have h3' : 0 ≤ a := by omega
    have h4' : a < n := by omega
    have h5' : 0 ≤ b := by omega
    clear h1 h2 h3 h4 h5
    go_wp2
    go_ret
    exact ⟨rfl, H1.out⟩
theorem walk_asmSpawns {n a b : Int} (W : World) (hE : Env1 W) (h1 : (Lit.int .i64 n).wf = true) (h2 : (Lit.int .i64 a).wf = true) (h3 : (Lit.int .i64 b).wf = true) : Calls Tryz.prog 7 #[.int .i64 n, .int .i64 a, .int .i64 b] W fun e w' => e = .returned (.bool true) ∧ Below W.heap.size W w' := by
  suffices h : Calls Tryz.prog 7 #[.int .i64 n, .int .i64 a, .int .i64 b] W fun e w' => e = .returned (.bool true) ∧ Keep [] W w' from h.mono fun e w' ⟨h1, h2⟩ => ⟨h1, h2.to_below⟩
  by_cases h : n < 1 ∨ 20 < n ∨ a < 0 ∨ n ≤ a ∨ b < 0 ∨ 30 < b
  · exact spawns_out hE h
  · obtain ⟨n', rfl⟩ : ∃ k : Nat, n = k := ⟨n.toNat, by omega⟩
    obtain ⟨a', rfl⟩ : ∃ k : Nat, a = k := ⟨a.toNat, by omega⟩
    obtain ⟨b', rfl⟩ : ∃ k : Nat, b = k := ⟨b.toNat, by omega⟩
    exact spawns_walk hE (by omega) (by omega) (by omega) (by omega)
end Go.Proofs.YtbdkmfcgnolihaaGreatDoor
