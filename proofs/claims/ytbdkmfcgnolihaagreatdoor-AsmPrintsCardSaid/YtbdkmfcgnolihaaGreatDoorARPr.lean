/- asm: the reference's Print -/
import Derived.Test.YtbdkmfcgnolihaaGreatDoorRows
import Derived.WalkKit
import Derived.WalkSpells
import Derived.WalkLawsBesides
import Derived.RegionTactic
import Derived.ChangeAlike
import Derived.BigQuiet
import Derived.Deep.QuietTactic
import Derived.StillTailTactics
import Derived.IntWalk
import Derived.Handy
import Derived.Lib.Hide
import Derived.Deep.AppendLies
import Derived.Deep.RegionWith
import Derived.Test.YtbdkmfcgnolihaaGreatDoorBase
import Derived.Test.YtbdkmfcgnolihaaGreatDoorTail
import Derived.Test.YtbdkmfcgnolihaaGreatDoorArgs
import Derived.Test.YtbdkmfcgnolihaaGreatDoorAppend
import Derived.Test.YtbdkmfcgnolihaaGreatDoorOffs
import Derived.Test.YtbdkmfcgnolihaaGreatDoorStructs
import Derived.Carry
import Derived.Deep.RegionHeld3
import Derived.BigRegion
import Derived.Maps.OwnSet
import Derived.Maps.Views
import Derived.Maps.StringElems
import Derived.Test.YtbdkmfcgnolihaaGreatDoorMaps2
import Derived.Deep.CutRange
import Derived.Deep.CutBlock
import Derived.Test.YtbdkmfcgnolihaaGreatDoorRNum
import Derived.Test.YtbdkmfcgnolihaaGreatDoorALines
import Derived.Test.YtbdkmfcgnolihaaGreatDoorAPrP
import Derived.Test.YtbdkmfcgnolihaaGreatDoorARPl
namespace Go.Proofs.YtbdkmfcgnolihaaGreatDoor
set_option linter.unusedSimpArgs false
set_option linter.unnecessarySimpa false
set_option linter.unusedVariables false
open Go.RowKit
theorem digits_q (w : World) {n : Int} (hn : In64 n) : Calls Tryz.prog 21 #[.int .i64 n] w fun e w' => e = .returned (.string (itoaB n)) ∧ w' = w := (digits_spec w hn).mono fun _ _ ⟨h1, h2⟩ => ⟨h1, h2.symm⟩
/-- the first two lines, with the first arguments -/
def mainK (j : JB) (i : Nat) : BS := jobLine j ++ [10] ++ (wMain ++ (32 :: fnAt j j.main) ++ (j.args.take i).flatMap fun n => 32 :: Lib.itoa n)
theorem mainK_all (j : JB) : mainK j j.args.length ++ [10] = textL (doneL j 0) := by
  unfold mainK doneL
  rw [List.take_length]
  simp [textL, mainLine, glue, List.flatMap_map]
theorem mainK_succ {j : JB} {i : Nat} {n : Int} (h : j.args[i]? = some n) : strB (mainK j i) ++ (⟨#[32]⟩ : ByteArray) ++ itoaB n = strB (mainK j (i + 1)) := by
  rw [show (⟨#[32]⟩ : ByteArray) = strB [32] from rfl, itoaB, strB_app, strB_app]
  congr 1
  unfold mainK
  rw [List.take_add_one, h]
  simp
theorem mainK_len {j : JB} (h : PlainJ j) (hj : j.In) (i : Nat) : (mainK j i).length ≤ 10000000 := by
  have h1 := done_len0 h hj 0
  rw [← mainK_all] at h1
  have h2 : (mainK j i).length ≤ (mainK j j.args.length).length := by
    unfold mainK
    simp only [List.length_append]
    have : ((j.args.take i).flatMap fun n => 32 :: Lib.itoa n).length ≤ ((j.args.take j.args.length).flatMap fun n => 32 :: Lib.itoa n).length := by
      rw [List.take_length]
      conv => rhs; rw [← List.take_append_drop i j.args]
      rw [List.flatMap_append, List.length_append]
      omega
    omega
  rw [List.length_append] at h1
  omega
theorem mainK_zero (j : JB) : (⟨#[106, 111, 98, 32]⟩ : ByteArray) ++ itoaB j.fuel ++ (⟨#[32]⟩ : ByteArray) ++ itoaB j.tasks ++ (⟨#[10, 109, 97, 105, 110, 32]⟩ : ByteArray) ++ strB (fnAt j j.main) = strB (mainK j 0) := by
  rw [show (⟨#[106, 111, 98, 32]⟩ : ByteArray) = strB [106, 111, 98, 32] from rfl, show (⟨#[32]⟩ : ByteArray) = strB [32] from rfl, show (⟨#[10, 109, 97, 105, 110, 32]⟩ : ByteArray) = strB [10, 109, 97, 105, 110, 32] from rfl, itoaB, itoaB]
  simp only [strB_app]
  congr 1
  simp [mainK, jobLine, glue, wJob, wMain]
/-- the text up to a function's instruction -/
def fnK (j : JB) (k : Nat) (f : FN) (i : Nat) : BS := textL (doneL j k ++ funcLine f :: (f.code.take i).map (insLine j))
theorem fnK_zero (j : JB) (k : Nat) (f : FN) : strB (textL (doneL j k)) ++ (⟨#[102, 117, 110, 99, 32]⟩ : ByteArray) ++ strB f.name ++ (⟨#[32]⟩ : ByteArray) ++ itoaB f.args ++ (⟨#[32]⟩ : ByteArray) ++ itoaB f.locals ++ (⟨#[10]⟩ : ByteArray) = strB (fnK j k f 0) := by
  rw [show (⟨#[102, 117, 110, 99, 32]⟩ : ByteArray) = strB [102, 117, 110, 99, 32] from rfl, show (⟨#[32]⟩ : ByteArray) = strB [32] from rfl, show (⟨#[10]⟩ : ByteArray) = strB [10] from rfl, itoaB, itoaB]
  simp only [strB_app]
  congr 1
  unfold fnK
  rw [textL_app]
  simp [textL, funcLine, glue, wFunc]
theorem fnK_succ {j : JB} {k i : Nat} {f : FN} {x : IN} (h : f.code[i]? = some x) : fnK j k f (i + 1) = fnK j k f i ++ (insLine j x ++ [10]) := by
  unfold fnK
  rw [List.take_add_one, h, List.map_append, ← List.cons_append, ← List.append_assoc, textL_app]
  congr 1
  simp [textL]
theorem fnK_all {j : JB} {k : Nat} {f : FN} (h : j.funcs[k]? = some f) : fnK j k f f.code.length = textL (doneL j (k + 1)) := by
  unfold fnK
  rw [doneL_next h, List.take_length]
  rfl
theorem insLine_16 {j : JB} {x : IN} (h : x.op = 16) : insLine j x = [32, 32] ++ opName x.op ++ (32 :: fnAt j x.n) := by unfold insLine insW; rw [if_pos h]; simp [glue]
theorem insLine_has {j : JB} {x : IN} (h : x.op ≠ 16) (hh : hasN x.op = true) : insLine j x = [32, 32] ++ opName x.op ++ (32 :: Lib.itoa x.n) := by unfold insLine insW; rw [if_neg h, if_pos hh]; simp [glue]
theorem insLine_no {j : JB} {x : IN} (h : x.op ≠ 16) (hh : hasN x.op = false) : insLine j x = [32, 32] ++ opName x.op := by unfold insLine insW; rw [if_neg h, if_neg (by simp [hh])]; simp [glue]
theorem ins_text16 {j : JB} {k i : Nat} {f : FN} {x : IN} (h : f.code[i]? = some x) (h1 : x.op = 16) : strB (fnK j k f i) ++ (⟨#[32, 32]⟩ : ByteArray) ++ strB (opName x.op) ++ (⟨#[32]⟩ : ByteArray) ++ strB (fnAt j x.n) ++ (⟨#[10]⟩ : ByteArray) = strB (fnK j k f (i + 1)) := by
  rw [fnK_succ h, insLine_16 h1, show (⟨#[32, 32]⟩ : ByteArray) = strB [32, 32] from rfl, show (⟨#[32]⟩ : ByteArray) = strB [32] from rfl, show (⟨#[10]⟩ : ByteArray) = strB [10] from rfl]
  simp only [strB_app]
  congr 1
  simp
theorem ins_textN {j : JB} {k i : Nat} {f : FN} {x : IN} (h : f.code[i]? = some x) (h1 : x.op ≠ 16) (hh : hasN x.op = true) : strB (fnK j k f i) ++ (⟨#[32, 32]⟩ : ByteArray) ++ strB (opName x.op) ++ (⟨#[32]⟩ : ByteArray) ++ itoaB x.n ++ (⟨#[10]⟩ : ByteArray) = strB (fnK j k f (i + 1)) := by
  rw [fnK_succ h, insLine_has h1 hh, show (⟨#[32, 32]⟩ : ByteArray) = strB [32, 32] from rfl, show (⟨#[32]⟩ : ByteArray) = strB [32] from rfl, show (⟨#[10]⟩ : ByteArray) = strB [10] from rfl, itoaB]
  simp only [strB_app]
  congr 1
  simp
theorem ins_text0 {j : JB} {k i : Nat} {f : FN} {x : IN} (h : f.code[i]? = some x) (h1 : x.op ≠ 16) (hh : hasN x.op = false) : strB (fnK j k f i) ++ (⟨#[32, 32]⟩ : ByteArray) ++ strB (opName x.op) ++ (⟨#[10]⟩ : ByteArray) = strB (fnK j k f (i + 1)) := by
  rw [fnK_succ h, insLine_no h1 hh, show (⟨#[32, 32]⟩ : ByteArray) = strB [32, 32] from rfl, show (⟨#[10]⟩ : ByteArray) = strB [10] from rfl]
  simp only [strB_app]
  congr 1
  simp
theorem end_text (j : JB) (h : PlainJ j) : strB (textL (doneL j j.funcs.length)) ++ (⟨#[101, 110, 100, 10]⟩ : ByteArray) = strB (printJ j) := by
  rw [show (⟨#[101, 110, 100, 10]⟩ : ByteArray) = strB [101, 110, 100, 10] from rfl, strB_app, printJ_plain h, ← doneL_all, textL_app]
  rfl
theorem itoaB_le {n : Int} (h : In64 n) : (itoaB n).size ≤ 21 := by unfold itoaB; rw [strB_size]; exact itoa_le h
set_option maxHeartbeats 12800000 in
set_option maxRecDepth 100000 in
theorem rprint_spec {w : World} {jv : Value} {j : JB} (h : JobRd w jv j) (hj : j.In) (hs : JShort j) (ha : j.args.length ≤ 1000000) : Calls Tryz.prog 15 #[jv] w fun e w' => e = .returned (.string (strB (printJ j))) ∧ Keep [] w w' := by
  have HJ := Lib.hid h
  obtain ⟨fa, fc, aa, ac, rfl, hf, hav⟩ := jobRd_cells h
  have kA : Keep [] w (w.alloc (.cells #[.slice fa j.funcs.length fc, .int .i64 j.main, .slice aa j.args.length ac, .int .i64 j.fuel, .int .i64 j.tasks] 25)) := (Keep.refl _ _).alloc _
  have bA : Blk (w.alloc (.cells #[.slice fa j.funcs.length fc, .int .i64 j.main, .slice aa j.args.length ac, .int .i64 j.fuel, .int .i64 j.tasks] 25)) w.heap.size 25 (jobC fa fc aa ac j) := Blk.new' _ _ _ _ rfl
  have HA := Lib.hid (And.intro kA (And.intro bA (rplainJ_spec (h.keep0 kA) hs ha)))
  have HF := Lib.hid (And.intro hf hav)
  clear h hs kA bA hf hav
  go_enter Tryz.func15, Tryz.ntmps15
  go_wp2_with fail
  refine HA.out.2.2.mono ?_
  rintro e w1 ⟨rfl, hk1⟩
  have H1 := Lib.hid (And.intro (HA.out.1.trans hk1 (by simp)) (HA.out.2.1.keep hk1 (by simp)))
  clear hk1
  by_cases hp : plainJ j = true
  · rw [hp]
    have hpj := (plainJ_iff j).1 hp
    have HPJ := Lib.hid hpj
    have HJI := Lib.hid hj
    obtain ⟨mn, hmn⟩ := Int.eq_ofNat_of_zero_le hpj.main0
    have hml : mn < j.funcs.length := by have := hpj.main; omega
    have hmI : (mn : Int) < (j.funcs.length : Int) := by omega
    have hm0 : (0 : Int) ≤ (mn : Int) := by omega
    obtain ⟨f, hfm⟩ := get_ex hml
    obtain ⟨g, off, cv, hfa, _, c0', _, _, _, _⟩ := HF.out.1.at_ hfm
    subst hfa
    have c0 := cell_keep0 H1.out.1 c0'
    have hfn : f.name = fnAt j j.main := by rw [fnAt_eq (f := f) (by rw [hmn]; exact hfm)]
    have hnl : (strB f.name).size ≤ 20 := by rw [strB_size, hfn]; exact nameL_len (hpj.name hpj.main0 hpj.main).choose_spec.2.2
    have hz1 := itoaB_le hj.fuel
    have hz2 := itoaB_le hj.tasks
    have HM := Lib.hid hfn
    have z0 : w1.cell? ⟨w.heap.size, 0, none⟩ = some (.slice (some ⟨g, off, none⟩) j.funcs.length fc) := H1.out.2.cell 0
    have z1 : w1.cell? ⟨w.heap.size, 1, none⟩ = some (.int .i64 (mn : Int)) := by rw [H1.out.2.cell 1]; simp [jobC, hmn]
    have z3 : w1.cell? ⟨w.heap.size, 3, none⟩ = some (.int .i64 j.fuel) := H1.out.2.cell 3
    have z4 : w1.cell? ⟨w.heap.size, 4, none⟩ = some (.int .i64 j.tasks) := H1.out.2.cell 4
    have hf4 : j.funcs.length ≤ 32 := hpj.few
    have ha8 : j.args.length ≤ 8 := hpj.args
    have hfI : (j.funcs.length : Int) ≤ 32 := by omega
    have haI : (j.args.length : Int) ≤ 8 := by omega
    have HD1 := Lib.hid (fun w' => digits_q w' hj.fuel)
    have HD2 := Lib.hid (fun w' => digits_q w' hj.tasks)
    clear hp hpj hj c0' hfn hfm ha hmn hml
    go_upto_region 4 with fail
    go_quiet (first | (go_at_call 21; with_reducible refine Calls.quiet_of_same (HD1.out _)) | (go_at_call 21; with_reducible refine Calls.quiet_of_same (HD2.out _)))
    rw [HM.out, mainK_zero]
    clear z0 z1 z3 z4 c0 hz1 hz2 hnl HD1 HD2 hm0 hmI
    go_wp2_with fail
    go_loopw [4, 5] (fun vs vi wr => ∃ i : Nat, i ≤ j.args.length ∧ vi = .int .i64 i ∧ vs = .string (strB (mainK j i)) ∧ Keep [] w1 wr) (fun _ vi _ => j.args.length - (intOf vi).toNat)
    case atStart => exact ⟨0, Nat.zero_le _, rfl, rfl, (Keep.refl _ _).drewN _⟩
    case round =>
      obtain ⟨i, hi, rfl, rfl, hk⟩ := hrel
      have q1 := H1.out.2.keep hk (by simp)
      have z2 : wr.cell? ⟨w.heap.size, 2, none⟩ = some (.slice aa j.args.length ac) := q1.cell 2
      have hzl : (strB (mainK j i)).size ≤ 10000000 := by rw [strB_size]; exact mainK_len HPJ.out HJI.out i
      have KW := Lib.hid (H1.out.1.trans hk (by simp))
      have KH := Lib.hid hk
      clear hk
      by_cases hlt : i < j.args.length
      · have hltI : (i : Int) < (j.args.length : Int) := by omega
        have hiI : (i : Int) ≤ 8 := by omega
        obtain ⟨n, hn⟩ := get_ex hlt
        obtain ⟨ba, oa, rfl, _, hca⟩ := HF.out.2.at_ hlt
        have c1 := cell_keep0 KW.out (hca i n hn)
        have hin : In64 n := HJI.out.args n (List.mem_of_getElem? hn)
        have hzn := itoaB_le hin
        have HN := Lib.hid (And.intro hn hin)
        clear hn hca q1 hin
        go_wp2_with fail
        refine (digits_q _ HN.out.2).mono ?_
        rintro e w3 ⟨rfl, rfl⟩
        go_wp2_with fail
        go_roundw
        case rel => exact ⟨i + 1, by omega, by go_num, by rw [mainK_succ HN.out.1], KH.out⟩
        case measure => simp [intOf]; omega
      · obtain rfl : i = j.args.length := by omega
        have hmx : strB (mainK j j.args.length) ++ (⟨#[10]⟩ : ByteArray) = strB (textL (doneL j 0)) := by rw [show (⟨#[10]⟩ : ByteArray) = strB [10] from rfl, strB_app, mainK_all]
        have HMX := Lib.hid hmx
        clear q1 hmx
        go_wp2_with fail
        clear z2
        generalize wr = wa at *
        go_loopw [4, 6, 7, 8, 9, 10] (fun vs vi _ _ _ _ wr => ∃ k : Nat, k ≤ j.funcs.length ∧ vi = .int .i64 k ∧ vs = .string (strB (textL (doneL j k))) ∧ Keep [] w1 wr) (fun _ vi _ _ _ _ _ => j.funcs.length - (intOf vi).toNat)
        case atStart => exact ⟨0, Nat.zero_le _, rfl, by rw [HMX.out], KH.out⟩
        case round =>
          clear KW KH hzl HMX
          obtain ⟨k, hkl, rfl, rfl, hk⟩ := hrel
          have q1 := H1.out.2.keep hk (by simp)
          have z0 : wr.cell? ⟨w.heap.size, 0, none⟩ = some (.slice (some ⟨g, off, none⟩) j.funcs.length fc) := q1.cell 0
          have hzl : (strB (textL (doneL j k))).size ≤ 10000000 := by rw [strB_size]; exact done_len0 HPJ.out HJI.out k
          have KW := Lib.hid (H1.out.1.trans hk (by simp))
          have KH := Lib.hid (And.intro hk q1)
          clear hk q1
          by_cases hlt : k < j.funcs.length
          · have hltI : (k : Int) < (j.funcs.length : Int) := by omega
            have hkI : (k : Int) ≤ 32 := by omega
            obtain ⟨f, hfi⟩ := get_ex hlt
            have hmem := List.mem_of_getElem? hfi
            have hnm : (strB f.name).size ≤ 20 := by rw [strB_size]; exact nameL_len (HPJ.out.fnm hmem).1
            have hcl := (HPJ.out.fnm hmem).2
            have hfin := HJI.out.funcs f hmem
            obtain ⟨b, off', cv, hfa', _, c0', c1', c2', c3', hcode⟩ := HF.out.1.at_ hfi
            injection hfa' with hfa'
            injection hfa' with e1 e2
            subst e1 e2
            have c0 := cell_keep0 KW.out c0'
            have c1 := cell_keep0 KW.out c1'
            have c2 := cell_keep0 KW.out c2'
            have c3 := cell_keep0 KW.out c3'
            clear c0' c1' c2' c3'
            obtain ⟨ca, cc, rfl⟩ := hcode.shape
            have kb : Keep [] wr (wr.alloc (.cells #[.string (strB f.name), .int .i64 f.args, .int .i64 f.locals, .slice ca f.code.length cc] 36)) := (Keep.refl _ _).alloc _
            have bb : Blk (wr.alloc (.cells #[.string (strB f.name), .int .i64 f.args, .int .i64 f.locals, .slice ca f.code.length cc] 36)) wr.heap.size 36 [.string (strB f.name), .int .i64 f.args, .int .i64 f.locals, .slice ca f.code.length cc] := Blk.new' _ _ _ _ rfl
            have hz1 := itoaB_le hfin.args
            have hz2 := itoaB_le hfin.locals
            have HD1 := Lib.hid (fun w' => digits_q w' hfin.args)
            have HD2 := Lib.hid (fun w' => digits_q w' hfin.locals)
            have hclI : (f.code.length : Int) ≤ 256 := by omega
            have GA := Lib.hid (And.intro hcode (And.intro hcl (And.intro hfi (And.intro hfin.code hmem))))
            have KB := Lib.hid (And.intro kb bb)
            clear kb bb hcode hmem hfi hcl hfin
            go_upto_region 14 with fail
            have z0' := cell_keep0 KB.out.1 z0
            clear z0 c0 c1 c2 c3
            generalize (wr.alloc (.cells #[.string (strB f.name), .int .i64 f.args, .int .i64 f.locals, .slice ca f.code.length cc] 36)) = w2 at *
            generalize wr.heap.size = gb at *
            have b0 : w2.cell? ⟨gb, 0, none⟩ = some (.string (strB f.name)) := KB.out.2.cell 0
            have b1 : w2.cell? ⟨gb, 1, none⟩ = some (.int .i64 f.args) := KB.out.2.cell 1
            have b2 : w2.cell? ⟨gb, 2, none⟩ = some (.int .i64 f.locals) := KB.out.2.cell 2
            go_quiet (first | (go_at_call 21; with_reducible refine Calls.quiet_of_same (HD1.out _)) | (go_at_call 21; with_reducible refine Calls.quiet_of_same (HD2.out _)))
            rw [fnK_zero]
            clear b0 b1 b2 hz1 hz2 HD1 HD2 z0' hzl hnm
            go_wp2_with fail
            go_loopw [4, 8, 9, 10] (fun vs vi _ _ wq => ∃ s : Nat, s ≤ f.code.length ∧ vi = .int .i64 s ∧ vs = .string (strB (fnK j k f s)) ∧ Keep [] w2 wq) (fun _ vi _ _ _ => f.code.length - (intOf vi).toNat)
            case atStart => exact ⟨0, Nat.zero_le _, rfl, rfl, (Keep.refl _ _).drewN _⟩
            case round =>
              obtain ⟨s, hsl, rfl, rfl, hks⟩ := hrel
              have q2 := KB.out.2.keep hks (by simp)
              have b3 : wr.cell? ⟨gb, 3, none⟩ = some (.slice ca f.code.length cc) := q2.cell 3
              have hzl : (strB (fnK j k f s)).size ≤ 10000000 := by rw [strB_size]; exact done_len HPJ.out HJI.out GA.out.2.2.1
              have KS := Lib.hid hks
              have KQ := Lib.hid ((KW.out.trans KB.out.1 (by simp)).trans hks (by simp))
              clear hks q2
              by_cases hls : s < f.code.length
              · have hlsI : (s : Int) < (f.code.length : Int) := by omega
                have hsI : (s : Int) ≤ 256 := by omega
                obtain ⟨x, hx⟩ := get_ex hls
                have hxp := HPJ.out.ins GA.out.2.2.2.2 (List.mem_of_getElem? hx)
                have hxi := GA.out.2.2.2.1 x (List.mem_of_getElem? hx)
                obtain ⟨g2, o2, hca, _, y0', y1'⟩ := GA.out.1.at_ hx
                subst hca
                have y0 := cell_keep0 KQ.out y0'
                have y1 := cell_keep0 KQ.out y1'
                have ka : Keep [] wr (wr.alloc (.cells #[.int .i64 x.op, .int .i64 x.n] 47)) := (Keep.refl _ _).alloc _
                have ba : Blk (wr.alloc (.cells #[.int .i64 x.op, .int .i64 x.n] 47)) wr.heap.size 47 [.int .i64 x.op, .int .i64 x.n] := Blk.new' _ _ _ _ rfl
                have KA := Lib.hid (And.intro ka ba)
                have HX := Lib.hid (And.intro hx (And.intro hxp hxi))
                clear y0' y1' ka ba hx hxp hxi
                go_upto_region 19 with fail
                clear y0 y1 b3
                generalize (wr.alloc (.cells #[.int .i64 x.op, .int .i64 x.n] 47)) = w4 at *
                generalize wr.heap.size = gx at *
                have d0 : w4.cell? ⟨gx, 0, none⟩ = some (.int .i64 x.op) := KA.out.2.cell 0
                go_wp2_with fail
                refine (rname_spec _ x.op).mono ?_
                rintro e w5 ⟨rfl, hk5⟩
                have ba5 := KA.out.2.keep hk5 (by simp)
                have d0' : w5.cell? ⟨gx, 0, none⟩ = some (.int .i64 x.op) := ba5.cell 0
                have d1' : w5.cell? ⟨gx, 1, none⟩ = some (.int .i64 x.n) := ba5.cell 1
                have hon : (strB (opName x.op)).size ≤ 5 := by rw [strB_size]; exact opName_len x.op
                have K5 := Lib.hid ((KS.out.trans KA.out.1 (by simp)).trans hk5 (by simp))
                have KQ5 := Lib.hid ((KQ.out.trans KA.out.1 (by simp)).trans hk5 (by simp))
                have hblk := H1.out.2.keep ((((KH.out.1.trans KB.out.1 (by simp)).trans KS.out (by simp)).trans KA.out.1 (by simp)).trans hk5 (by simp)) (by simp)
                have z5 : w5.cell? ⟨w.heap.size, 0, none⟩ = some (.slice (some ⟨g, off, none⟩) j.funcs.length fc) := hblk.cell 0
                clear hk5 ba5 d0 hblk
                go_wp2_with fail
                refine (rhasN_spec _ x.op).mono ?_
                rintro e w6 ⟨rfl, rfl⟩
                by_cases h16 : x.op = 16
                · have h16B : (x.op == 16) = true := by simp [h16]
                  obtain ⟨nn, hnn⟩ := Int.eq_ofNat_of_zero_le (plainI_16 HX.out.2.1 h16).1
                  have hnl : nn < j.funcs.length := by have := (plainI_16 HX.out.2.1 h16).2; omega
                  have hnlI : (nn : Int) < (j.funcs.length : Int) := by omega
                  have hn0 : (0 : Int) ≤ (nn : Int) := by omega
                  obtain ⟨fx, hfx⟩ := get_ex hnl
                  obtain ⟨b6, off6, cv6, hfa6, _, e0', _, _, _, _⟩ := HF.out.1.at_ hfx
                  injection hfa6 with hfa6
                  injection hfa6 with e3 e4
                  subst e3 e4
                  have e0 := cell_keep0 KQ5.out e0'
                  have hfxn : fx.name = fnAt j x.n := by rw [fnAt_eq (f := fx) (by rw [hnn]; exact hfx)]
                  have hnm6 : (strB fx.name).size ≤ 20 := by rw [strB_size]; exact nameL_len (HPJ.out.fnm (List.mem_of_getElem? hfx)).1
                  have HT := Lib.hid (show strB (fnK j k f s) ++ (⟨#[32, 32]⟩ : ByteArray) ++ strB (opName x.op) ++ (⟨#[32]⟩ : ByteArray) ++ strB fx.name ++ (⟨#[10]⟩ : ByteArray) = strB (fnK j k f (s + 1)) from by rw [hfxn]; exact ins_text16 HX.out.1 h16)
                  rw [hnn] at d1'
                  clear e0' hfx hfxn h16 hnn hnl
                  go_wp2_with fail
                  go_roundw
                  case rel => exact ⟨s + 1, by omega, by go_num, by rw [HT.out], K5.out⟩
                  case measure => simp [intOf]; omega
                · have h16B : (x.op == 16) = false := by simpa using h16
                  by_cases hh : hasN x.op = true
                  · rw [hh]
                    have hzn := itoaB_le HX.out.2.2.n
                    have HT := Lib.hid (ins_textN (j := j) (k := k) HX.out.1 h16 hh)
                    clear h16 hh z5
                    go_wp2_with fail
                    refine (digits_q _ HX.out.2.2.n).mono ?_
                    rintro e w7 ⟨rfl, rfl⟩
                    go_wp2_with fail
                    go_roundw
                    case rel => exact ⟨s + 1, by omega, by go_num, by rw [HT.out], K5.out⟩
                    case measure => simp [intOf]; omega
                  · have hh' : hasN x.op = false := by simpa using hh
                    rw [hh']
                    have HT := Lib.hid (ins_text0 (j := j) (k := k) HX.out.1 h16 hh')
                    clear h16 hh hh' z5
                    go_wp2_with fail
                    go_roundw
                    case rel => exact ⟨s + 1, by omega, by go_num, by rw [HT.out], K5.out⟩
                    case measure => simp [intOf]; omega
              · obtain rfl : s = f.code.length := by omega
                go_wp2_with fail
                go_roundw
                case rel => exact ⟨k + 1, by omega, by go_num, by rw [fnK_all GA.out.2.2.1], (KH.out.1.trans KB.out.1 (by simp)).trans KS.out (by simp)⟩
                case measure => simp [intOf]; omega
          · obtain rfl : k = j.funcs.length := by omega
            have HEND := Lib.hid (end_text j HPJ.out)
            go_wp2
            go_ret
            exact ⟨by rw [HEND.out]; rfl, KW.out⟩
  · have hp' : plainJ j = false := by simpa using hp
    rw [hp']
    have he : printJ j = [] := by unfold printJ; rw [if_neg hp]
    have HE := Lib.hid he
    clear he
    go_wp2
    go_ret
    exact ⟨by rw [HE.out]; rfl, H1.out.1⟩
end Go.Proofs.YtbdkmfcgnolihaaGreatDoor
