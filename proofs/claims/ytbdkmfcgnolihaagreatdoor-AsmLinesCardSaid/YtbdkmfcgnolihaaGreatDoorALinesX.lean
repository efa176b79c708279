/- asm: the reference's Plain asm: the reference's Print How arguments that came in are read, with the bound on what each string and slice takes; a job that came in. asm: too large a job asm: the reference's Plain of a job however large asm: the law of turned lines, walked -/
import Derived.Test.YtbdkmfcgnolihaaGreatDoorRows
import Derived.WalkKit
import Derived.WalkSpells
import Derived.WalkLawsBesides
import Derived.RegionTactic
import Derived.ChangeAlike
import Derived.BigQuiet
import Derived.Deep.QuietTactic
import Derived.StillTailTactics
import Derived.IntWalk
import Derived.Handy
import Derived.Lib.Hide
import Derived.Deep.AppendLies
import Derived.Deep.RegionWith
import Derived.Test.YtbdkmfcgnolihaaGreatDoorBase
import Derived.Test.YtbdkmfcgnolihaaGreatDoorTail
import Derived.Test.YtbdkmfcgnolihaaGreatDoorArgs
import Derived.Test.YtbdkmfcgnolihaaGreatDoorAppend
import Derived.Test.YtbdkmfcgnolihaaGreatDoorOffs
import Derived.Test.YtbdkmfcgnolihaaGreatDoorStructs
import Derived.Carry
import Derived.Deep.RegionHeld3
import Derived.BigRegion
import Derived.Maps.OwnSet
import Derived.Maps.Views
import Derived.Maps.StringElems
import Derived.Test.YtbdkmfcgnolihaaGreatDoorMaps2
import Derived.Deep.CutRange
import Derived.Deep.CutBlock
import Derived.Test.YtbdkmfcgnolihaaGreatDoorFEnv
import Derived.Test.YtbdkmfcgnolihaaGreatDoorAWords
import Derived.Test.YtbdkmfcgnolihaaGreatDoorANames
import Derived.Test.YtbdkmfcgnolihaaGreatDoorAObj
import Derived.Test.YtbdkmfcgnolihaaGreatDoorAPlain
import Derived.Test.YtbdkmfcgnolihaaGreatDoorAPlain2
import Derived.Test.YtbdkmfcgnolihaaGreatDoorAPl
import Derived.Test.YtbdkmfcgnolihaaGreatDoorAPlJ
import Derived.Test.YtbdkmfcgnolihaaGreatDoorRNum
import Derived.Test.YtbdkmfcgnolihaaGreatDoorALines
import Derived.Test.YtbdkmfcgnolihaaGreatDoorAPrP
import Derived.Test.YtbdkmfcgnolihaaGreatDoorOpens
import Derived.Test.YtbdkmfcgnolihaaGreatDoorCEnv
import Derived.SizedLaws
import Derived.ChangeMaps5
import Derived.Test.YtbdkmfcgnolihaaGreatDoorASame
import Derived.Test.YtbdkmfcgnolihaaGreatDoorAAlive
import Derived.Test.YtbdkmfcgnolihaaGreatDoorAReads
import Derived.OpenShut
import Derived.ShutString
namespace Go.Proofs.YtbdkmfcgnolihaaGreatDoor
set_option linter.unusedSimpArgs false
set_option linter.unnecessarySimpa false
set_option linter.unusedVariables false
open Go.RowKit
theorem cell4_drwR {w : World} {p q r s : Addr} {a b c d : Value} (h : w.cell? p = some a ∧ w.cell? q = some b ∧ w.cell? r = some c ∧ w.cell? s = some d) : w.drew.cell? p = some a ∧ w.drew.cell? q = some b ∧ w.drew.cell? r = some c ∧ w.drew.cell? s = some d := h
set_option maxHeartbeats 3200000 in
set_option maxRecDepth 100000 in
theorem rplainI_spec (w : World) (op n : Int) (nf : Nat) (hnf : nf ≤ 1000000) : Calls Tryz.prog 24 #[.agg #[.int .i64 op, .int .i64 n], .int .i64 nf] w (PlainPost (plainI nf ⟨op, n⟩) w) := by
  obtain ⟨res, hres⟩ : ∃ res, res = plainI nf ⟨op, n⟩ := ⟨_, rfl⟩
  rw [← hres]
  have HR := Lib.hid hres
  have hnI : (nf : Int) ≤ 1000000 := by omega
  have kA : Keep [] w (w.alloc (.cells #[.int .i64 op, .int .i64 n] 47)) := (Keep.refl _ _).alloc _
  have bA : Blk (w.alloc (.cells #[.int .i64 op, .int .i64 n] 47)) w.heap.size 47 [.int .i64 op, .int .i64 n] := Blk.new' _ _ _ _ rfl
  have HB := Lib.hid (And.intro kA bA)
  clear hres hnf kA bA
  go_enter Tryz.func24, Tryz.ntmps24
  go_wp2_with fail
  refine (rhasN_spec _ op).mono ?_
  rintro e w3 ⟨rfl, rfl⟩
  go_wp2_with fail
  generalize (w.alloc (.cells #[.int .i64 op, .int .i64 n] 47)) = w1 at *
  refine (rname_spec _ op).mono ?_
  rintro e w2 ⟨rfl, hk2⟩
  have bB2 := HB.out.2.keep hk2 (by simp)
  have b0 : w2.cell? ⟨w.heap.size, 0, none⟩ = some (.int .i64 op) := bB2.cell 0
  have b1 : w2.cell? ⟨w.heap.size, 1, none⟩ = some (.int .i64 n) := bB2.cell 1
  have HK := Lib.hid (HB.out.1.trans hk2 (by simp))
  clear hk2 bB2 HB
  by_cases hnm : opName op = []
  · have hem : (strB (opName op)).toList.isEmpty = true := by rw [hnm, strB_toList]; rfl
    have HF := Lib.hid (show res = false by rw [HR.out]; exact plainI_name hnm)
    clear hnm
    go_wp2
    go_ret
    exact plain_ret HF.out HK.out
  · have hem := strB_empty hnm
    by_cases hh : hasN op = true
    · rw [hh]
      by_cases h16 : op = 16
      · have h16B : (op != 16) = false := by simp [h16]
        by_cases h0 : 0 ≤ n
        · have h0B : decide ((0 : Int) ≤ n) = true := decide_eq_true h0
          by_cases hlt : n < nf
          · have hltB : decide (n < (nf : Int)) = true := decide_eq_true hlt
            have HF := Lib.hid (show res = true by rw [HR.out]; unfold plainI; simp [hnm, hh, h0, hlt])
            clear hnm hh h16
            go_wp2
            go_ret
            exact plain_ret HF.out HK.out
          · have hltB : decide (n < (nf : Int)) = false := decide_eq_false hlt
            have HF := Lib.hid (show res = false by rw [HR.out]; unfold plainI; simp [hnm, hh, h16]; omega)
            clear hnm hh h16
            go_wp2
            go_ret
            exact plain_ret HF.out HK.out
        · have h0B : decide ((0 : Int) ≤ n) = false := decide_eq_false h0
          have HF := Lib.hid (show res = false by rw [HR.out]; unfold plainI; simp [hnm, hh, h16]; omega)
          clear hnm hh h16
          go_wp2
          go_ret
          exact plain_ret HF.out HK.out
      · have h16B : (op != 16) = true := by simpa using h16
        have HF := Lib.hid (show res = true by rw [HR.out]; unfold plainI; simp [hnm, hh, h16])
        clear hnm hh h16
        go_wp2
        go_ret
        exact plain_ret HF.out HK.out
    · have hh' : hasN op = false := by simpa using hh
      rw [hh']
      by_cases hz : n = 0
      · have hzB : (n == 0) = true := by simp [hz]
        have h16 : op ≠ 16 := by rintro rfl; cases hh'
        have h16B : (op != 16) = true := by simpa using h16
        have HF := Lib.hid (show res = true by rw [HR.out]; unfold plainI; simp [hnm, hh', h16, hz])
        clear hnm hh hh' h16 hz
        go_wp2
        go_ret
        exact plain_ret HF.out HK.out
      · have hzB : (n == 0) = false := by simpa using hz
        have HF := Lib.hid (show res = false by rw [HR.out]; unfold plainI; simp [hnm, hh', hz])
        clear hnm hh hh'
        go_wp2
        go_ret
        exact plain_ret HF.out HK.out
theorem not_contains {seen : List BS} {fs : List FN} {i : Nat} {b : BS} (hs : seen = (fs.take i).map FN.name) (h : ∀ (t : Nat) (g : FN), t < i → fs[t]? = some g → g.name ≠ b) : seen.contains b = false := by
  subst hs
  rw [Bool.eq_false_iff]
  intro hc
  rw [List.contains_iff_mem, List.mem_map] at hc
  obtain ⟨g, hg, rfl⟩ := hc
  obtain ⟨t, ht⟩ := List.mem_iff_getElem?.1 hg
  have hti : t < i := by have := get_lt ht; rw [List.length_take] at this; omega
  rw [List.getElem?_take_of_lt hti] at ht
  exact h t g hti ht rfl
theorem yes_contains {seen : List BS} {fs : List FN} {i t : Nat} {g : FN} {b : BS} (hs : seen = (fs.take i).map FN.name) (hti : t < i) (ht : fs[t]? = some g) (hb : g.name = b) : seen.contains b = true := by
  subst hs hb
  rw [List.contains_iff_mem]
  refine List.mem_map_of_mem (List.mem_of_getElem? (i := t) ?_)
  rw [List.getElem?_take_of_lt hti]
  exact ht
set_option maxHeartbeats 12800000 in
set_option maxRecDepth 100000 in
theorem rplain_loop {w : World} {jv : Value} {j : JB} (h : JobRd w jv j) (hs : JShort j) (h1 : j.funcs.length ≤ 32) (h2 : j.args.length ≤ 8) (h3 : 0 ≤ j.main) (h4 : j.main < j.funcs.length) :
    Calls Tryz.prog 12 #[jv] w (PlainPost (plainFs j.funcs.length [] j.funcs) w) := by
  obtain ⟨fa, fc, aa, ac, rfl, hf, ha⟩ := jobRd_cells h
  obtain ⟨R, hR⟩ : ∃ R, R = plainFs j.funcs.length [] j.funcs := ⟨_, rfl⟩
  rw [← hR]
  have HS := Lib.hid hs
  have HF := Lib.hid hf
  have hnI : (j.funcs.length : Int) ≤ 32 := by omega
  have haI : (j.args.length : Int) ≤ 8 := by omega
  have HN32 := Lib.hid h1
  have kA : Keep [] w (w.alloc (.cells #[.slice fa j.funcs.length fc, .int .i64 j.main, .slice aa j.args.length ac, .int .i64 j.fuel, .int .i64 j.tasks] 25)) := (Keep.refl _ _).alloc _
  have bA : Blk (w.alloc (.cells #[.slice fa j.funcs.length fc, .int .i64 j.main, .slice aa j.args.length ac, .int .i64 j.fuel, .int .i64 j.tasks] 25)) w.heap.size 25 (jobC fa fc aa ac j) := Blk.new' _ _ _ _ rfl
  have H0 := Lib.hid (And.intro kA bA)
  have HR := Lib.hid hR
  clear h hs hf ha hR h1 h2 kA bA
  go_enter Tryz.func12, Tryz.ntmps12
  go_wp2_with fail
  generalize (w.alloc (.cells #[.slice fa j.funcs.length fc, .int .i64 j.main, .slice aa j.args.length ac, .int .i64 j.fuel, .int .i64 j.tasks] 25)) = w1 at *
  go_loopw [3, 4, 5, 6, 7, 8] (fun vi _ _ _ _ _ wr => ∃ i : Nat, i ≤ j.funcs.length ∧ vi = .int .i64 i ∧ Keep [] w1 wr ∧ plainFs j.funcs.length ((j.funcs.take i).map FN.name) (j.funcs.drop i) = R) (fun vi _ _ _ _ _ _ => j.funcs.length - (intOf vi).toNat)
  case atStart => exact ⟨0, Nat.zero_le _, rfl, Keep.refl _ _, HR.out.symm⟩
  case round =>
    obtain ⟨i, hi, rfl, hk, hr⟩ := hrel
    have q1 := H0.out.2.keep hk (by simp)
    have a0 : wr.cell? ⟨w.heap.size, 0, none⟩ = some (.slice fa j.funcs.length fc) := q1.cell 0
    have KW := Lib.hid (H0.out.1.trans hk (by simp))
    clear q1
    by_cases hlt : i < j.funcs.length
    · have hltI : (i : Int) < (j.funcs.length : Int) := by omega
      have hiI : (i : Int) ≤ 32 := by omega
      obtain ⟨f, hfi⟩ := get_ex hlt
      have hmem := List.mem_of_getElem? hfi
      have hnm := HS.out.names f hmem
      have hcl := HS.out.codes f hmem
      obtain ⟨b, off, cv, hfa, hb, c0', c1', c2', c3', hcode⟩ := HF.out.at_ hfi
      have c0 := cell_keep0 KW.out c0'
      have c1 := cell_keep0 KW.out c1'
      have c2 := cell_keep0 KW.out c2'
      have c3 := cell_keep0 KW.out c3'
      clear c0' c1' c2' c3'
      subst hfa
      obtain ⟨ca, cc, rfl⟩ := hcode.shape
      rw [plainFs_here hfi] at hr
      have ht : ((j.funcs.take (i + 1)).map FN.name) = (j.funcs.take i).map FN.name ++ [f.name] := by rw [List.take_add_one, hfi, List.map_append]; rfl
      obtain ⟨sn, hsn⟩ : ∃ sn, sn = (j.funcs.take i).map FN.name := ⟨_, rfl⟩
      rw [← hsn] at hr ht
      have kb : Keep [] wr (wr.alloc (.cells #[.string (strB f.name), .int .i64 f.args, .int .i64 f.locals, .slice ca f.code.length cc] 36)) := (Keep.refl _ _).alloc _
      have bb : Blk (wr.alloc (.cells #[.string (strB f.name), .int .i64 f.args, .int .i64 f.locals, .slice ca f.code.length cc] 36)) wr.heap.size 36 [.string (strB f.name), .int .i64 f.args, .int .i64 f.locals, .slice ca f.code.length cc] := Blk.new' _ _ _ _ rfl
      have GA := Lib.hid (And.intro hsn (And.intro hk (And.intro hcode (And.intro hnm (And.intro hcl (And.intro hfi ht))))))
      have KB := Lib.hid (And.intro kb bb)
      have HR2 := Lib.hid hr
      clear hr kb bb hcode hnm hmem hfi ht hb hsn hk
      go_upto_region 7 with fail
      have a0' := cell_keep0 KB.out.1 a0
      clear a0 c0 c1 c2 c3
      generalize (wr.alloc (.cells #[.string (strB f.name), .int .i64 f.args, .int .i64 f.locals, .slice ca f.code.length cc] 36)) = w2 at *
      generalize wr.heap.size = gb at *
      have b0 : w2.cell? ⟨gb, 0, none⟩ = some (.string (strB f.name)) := KB.out.2.cell 0
      have b3 : w2.cell? ⟨gb, 3, none⟩ = some (.slice ca f.code.length cc) := KB.out.2.cell 3
      go_wp2_with fail
      refine (rgoodName_spec _ f.name GA.out.2.2.2.1).mono ?_
      rintro e w3 ⟨rfl, rfl⟩
      by_cases hn : nameL f.name = true
      · rw [hn]
        by_cases h256 : f.code.length ≤ 256
        · have h256I : (f.code.length : Int) ≤ 256 := by omega
          have HN := Lib.hid hn
          clear hn h256
          go_wp2_with fail
          go_loopw [6] (fun vq wq => ∃ q : Nat, q ≤ i ∧ vq = .int .i64 q ∧ Keep [] w3 wq ∧ ∀ (t : Nat) (g : FN), t < q → j.funcs[t]? = some g → g.name ≠ f.name) (fun vq _ => i - (intOf vq).toNat)
          case atStart => exact ⟨0, Nat.zero_le _, rfl, Keep.refl _ _, fun t g ht => absurd ht (by omega)⟩
          case round =>
            obtain ⟨q, hq, rfl, hkq, hall⟩ := hrel
            have a1 := cell_keep0 hkq a0'
            have d0 := cell_keep0 hkq b0
            have d3 := cell_keep0 hkq b3
            have HQ := Lib.hid (And.intro hkq hall)
            clear hall a0' b0 b3 hkq
            by_cases hlq : q < i
            · have hlqI : (q : Int) < (i : Int) := by omega
              have hq0 : (0 : Int) ≤ (q : Int) := by omega
              have hqn : (q : Int) < (j.funcs.length : Int) := by omega
              obtain ⟨g, hg⟩ := get_ex (show q < j.funcs.length by omega)
              obtain ⟨b', off', cv', hfa', _, e0', _, _, _, _⟩ := HF.out.at_ hg
              injection hfa' with hfa'
              injection hfa' with e1 e2
              subst e1 e2
              have e0 := cell_keep0 (((KW.out.trans KB.out.1 (by simp)).trans HQ.out.1 (by simp))) e0'
              have HG := Lib.hid hg
              clear e0' hg d3
              by_cases heq : g.name = f.name
              · have hst : ((strB g.name).toList == (strB f.name).toList) = true := by rw [heq]; simp
                have HF2 := Lib.hid (show R = false by rw [← HR2.out, yes_contains GA.out.1 hlq HG.out heq]; rfl)
                clear heq
                go_wp2
                go_quiet (fail)
                go_wp2
                go_ret
                exact plain_ret HF2.out (((KW.out.trans KB.out.1 (by simp)).trans HQ.out.1 (by simp)).drewN _)
              · have hst : ((strB g.name).toList == (strB f.name).toList) = false := by rw [strB_toList, strB_toList]; simpa using heq
                have HNE := Lib.hid heq
                clear heq
                go_wp2
                go_quiet (fail)
                go_wp2
                go_roundw
                case rel => exact ⟨q + 1, by omega, by go_num, HQ.out.1.drewN _, fun t g' ht hg' => by
                  by_cases e : t = q
                  · subst e
                    rw [HG.out] at hg'
                    cases hg'
                    exact HNE.out
                  · exact HQ.out.2 t g' (by omega) hg'⟩
                case measure => simp [intOf]; omega
            · obtain rfl : q = i := by omega
              have hsc : sn.contains f.name = false := not_contains GA.out.1 HQ.out.2
              have HR3 := Lib.hid (show (f.code.all (plainI j.funcs.length) && plainFs j.funcs.length (sn ++ [f.name]) (j.funcs.drop (q + 1))) = R by
                rw [← HR2.out, hsc]
                unfold plainF
                have : f.code.length ≤ 256 := by omega
                simp [HN.out, this])
              have KQ := Lib.hid ((KW.out.trans KB.out.1 (by simp)).trans HQ.out.1 (by simp))
              have HC3 := Lib.hid (show CodeRd wr (.slice ca f.code.length cc) f.code from GA.out.2.2.1.keep0 KQ.out)
              clear hsc
              have hclI : (f.code.length : Int) ≤ 1000000 := by omega
              generalize wr = w5 at *
              go_wp2_with fail
              go_loopw [7, 8] (fun vq _ wq => ∃ s : Nat, s ≤ f.code.length ∧ vq = .int .i64 s ∧ Keep [] w5 wq ∧ ∀ (t : Nat) (x : IN), t < s → f.code[t]? = some x → plainI j.funcs.length x = true) (fun vq _ _ => f.code.length - (intOf vq).toNat)
              case atStart => exact ⟨0, Nat.zero_le _, rfl, Keep.refl _ _, fun t x ht => absurd ht (by omega)⟩
              case round =>
                obtain ⟨s, hs, rfl, hks, hall⟩ := hrel
                have x1 := cell_keep0 hks a1
                have x3 := cell_keep0 hks d3
                clear a1 d3 d0
                by_cases hls : s < f.code.length
                · have hlsI : (s : Int) < (f.code.length : Int) := by omega
                  have hs0 : (0 : Int) ≤ (s : Int) := by omega
                  obtain ⟨x, hx⟩ := get_ex hls
                  obtain ⟨g2, o2, hca, _, y0, y1⟩ := (HC3.out.keep0 hks).at_ hx
                  subst hca
                  have G4 := Lib.hid (And.intro hks (And.intro hall hx))
                  obtain ⟨pb, hpb⟩ : ∃ pb, pb = plainI j.funcs.length x := ⟨_, rfl⟩
                  have HP := Lib.hid (show ∀ w', Calls Tryz.prog 24 #[.agg #[.int .i64 x.op, .int .i64 x.n], .int .i64 j.funcs.length] w' (PlainPost pb w') from fun w' => by rw [hpb]; exact rplainI_spec w' x.op x.n j.funcs.length HS.out.funcs)
                  have HPB := Lib.hid hpb
                  clear hks hall hx hpb
                  go_upto_region 18 with fail
                  go_region_held3 (fun w' => w'.cell? ⟨w.heap.size, 0, none⟩ = some (.slice (some ⟨b, off, none⟩) j.funcs.length fc) ∧ w'.cell? ⟨gb, 3, none⟩ = some (.slice (some ⟨g2, o2, none⟩) f.code.length cc) ∧ w'.cell? ⟨g2, o2 + s * 2, none⟩ = some (.int .i64 x.op) ∧ w'.cell? ⟨g2, o2 + s * 2 + 1, none⟩ = some (.int .i64 x.n)) (first | with_reducible exact cell4_drwR (w := wr) ⟨x1, x3, y0, y1⟩ | with_reducible exact ⟨q0, q1, q2, q3⟩)
                    (first | ((go_at_call 24; with_reducible refine (HP.out _).mono ?_); go_must (rintro e9 w9 ⟨rfl, hk9⟩; have q0 := cell_keep0 hk9.of_drew x1; have q1 := cell_keep0 hk9.of_drew x3; have q2 := cell_keep0 hk9.of_drew y0; have q3 := cell_keep0 hk9.of_drew y1; have H9 := Lib.hid hk9.of_drew; clear hk9)))
                  cases pb with
                  | true =>
                    have HA := Lib.hid (show ∀ (t : Nat) (y : IN), t < s + 1 → f.code[t]? = some y → plainI j.funcs.length y = true from fun t y ht hy => by
                      by_cases e : t = s
                      · subst e
                        rw [G4.out.2.2] at hy
                        cases hy
                        exact HPB.out.symm
                      · exact G4.out.2.1 t y (by omega) hy)
                    go_wp2
                    go_roundw
                    case rel => exact ⟨s + 1, by omega, by go_num, G4.out.1.trans H9.out (by simp), HA.out⟩
                    case measure => simp [intOf]; omega
                  | false =>
                    have HF2 := Lib.hid (show R = false by
                      rw [← HR3.out]
                      have : f.code.all (plainI j.funcs.length) = false := by
                        rw [List.all_eq_false]
                        exact ⟨x, List.mem_of_getElem? G4.out.2.2, by rw [← HPB.out]; simp⟩
                      rw [this]; rfl)
                    go_wp2
                    go_ret
                    exact plain_ret HF2.out ((KQ.out.trans G4.out.1 (by simp)).trans H9.out (by simp))
                · obtain rfl : s = f.code.length := by omega
                  have HX := Lib.hid (And.intro hks (show plainFs j.funcs.length (sn ++ [f.name]) (j.funcs.drop (q + 1)) = R by
                    rw [← HR3.out]
                    have : f.code.all (plainI j.funcs.length) = true := List.all_eq_true.2 (fun x hx => by
                      obtain ⟨t, ht⟩ := List.mem_iff_getElem?.1 hx
                      exact hall t x (get_lt ht) ht)
                    rw [this]; rfl))
                  clear hks hall
                  go_wp2
                  go_roundw
                  case rel => exact ⟨q + 1, by omega, by go_num, ((GA.out.2.1.trans KB.out.1 (by simp)).trans HQ.out.1 (by simp)).trans HX.out.1 (by simp), by rw [GA.out.2.2.2.2.2.2]; exact HX.out.2⟩
                  case measure => simp [intOf]; omega
        · have h256I : (256 : Int) < (f.code.length : Int) := by omega
          have HF2 := Lib.hid (show R = false by rw [← HR2.out]; unfold plainF; simp [h256])
          clear hn h256
          go_wp2
          go_ret
          exact plain_ret HF2.out (KW.out.trans KB.out.1 (by simp))
      · have hn' : nameL f.name = false := by simpa using hn
        rw [hn']
        have HF2 := Lib.hid (show R = false by rw [← HR2.out]; unfold plainF; simp [hn'])
        clear hn hn'
        go_wp2
        go_ret
        exact plain_ret HF2.out (KW.out.trans KB.out.1 (by simp))
    · obtain rfl : i = j.funcs.length := by omega
      rw [List.drop_length] at hr
      have HX := Lib.hid hr
      clear hr
      go_wp2
      go_ret
      exact plain_ret HX.out.symm KW.out
theorem rplainJ_spec {w : World} {jv : Value} {j : JB} (h : JobRd w jv j) (hs : JShort j) (ha : j.args.length ≤ 1000000) : Calls Tryz.prog 12 #[jv] w (PlainPost (plainJ j) w) := by
  by_cases h1 : j.funcs.length ≤ 32
  · by_cases h2 : j.args.length ≤ 8
    · by_cases h3 : 0 ≤ j.main
      · by_cases h4 : j.main < j.funcs.length
        · refine (rplain_loop h hs h1 h2 h3 h4).mono fun e w' hh => ?_
          have : plainJ j = plainFs j.funcs.length [] j.funcs := by unfold plainJ; simp [h1, h2, h3, h4]
          rw [this]; exact hh
        · have hf : plainJ j = false := by unfold plainJ; simp [h4]
          rw [hf]
          obtain ⟨fa, fc, aa, ac, rfl, _, _⟩ := jobRd_cells h
          have i1 : (j.funcs.length : Int) ≤ 32 := by omega
          have i2 : (j.args.length : Int) ≤ 8 := by omega
          have i4 : (j.funcs.length : Int) ≤ j.main := by omega
          clear h hs ha h1 h2 h4 hf
          go_enter Tryz.func12, Tryz.ntmps12
          go_wp2
          go_ret
          exact ⟨rfl, (Keep.refl _ _).alloc _⟩
      · have hf : plainJ j = false := by unfold plainJ; simp; omega
        rw [hf]
        obtain ⟨fa, fc, aa, ac, rfl, _, _⟩ := jobRd_cells h
        have i1 : (j.funcs.length : Int) ≤ 32 := by omega
        have i2 : (j.args.length : Int) ≤ 8 := by omega
        have i3 : j.main < 0 := by omega
        clear h hs ha h1 h2 h3 hf
        go_enter Tryz.func12, Tryz.ntmps12
        go_wp2
        go_ret
        exact ⟨rfl, (Keep.refl _ _).alloc _⟩
    · have hf : plainJ j = false := by unfold plainJ; simp [h2]
      rw [hf]
      obtain ⟨fa, fc, aa, ac, rfl, _, _⟩ := jobRd_cells h
      have i1 : (j.funcs.length : Int) ≤ 32 := by omega
      have i2 : (8 : Int) < (j.args.length : Int) := by omega
      clear h hs ha h1 h2 hf
      go_enter Tryz.func12, Tryz.ntmps12
      go_wp2
      go_ret
      exact ⟨rfl, (Keep.refl _ _).alloc _⟩
  · have hf : plainJ j = false := by unfold plainJ; simp [h1]
    rw [hf]
    obtain ⟨fa, fc, aa, ac, rfl, _, _⟩ := jobRd_cells h
    have i1 : (32 : Int) < (j.funcs.length : Int) := by omega
    clear h hs ha h1 hf
    go_enter Tryz.func12, Tryz.ntmps12
    go_wp2
    go_ret
    exact ⟨rfl, (Keep.refl _ _).alloc _⟩
end Go.Proofs.YtbdkmfcgnolihaaGreatDoor
namespace Go.Proofs.YtbdkmfcgnolihaaGreatDoor
set_option linter.unusedSimpArgs false
set_option linter.unnecessarySimpa false
set_option linter.unusedVariables false
open Go.RowKit
theorem digits_q (w : World) {n : Int} (hn : In64 n) : Calls Tryz.prog 21 #[.int .i64 n] w fun e w' => e = .returned (.string (itoaB n)) ∧ w' = w := (digits_spec w hn).mono fun _ _ ⟨h1, h2⟩ => ⟨h1, h2.symm⟩
/-- the first two lines, with the first arguments -/
def mainK (j : JB) (i : Nat) : BS := jobLine j ++ [10] ++ (wMain ++ (32 :: fnAt j j.main) ++ (j.args.take i).flatMap fun n => 32 :: Lib.itoa n)
theorem mainK_all (j : JB) : mainK j j.args.length ++ [10] = textL (doneL j 0) := by
  unfold mainK doneL
  rw [List.take_length]
  simp [textL, mainLine, glue, List.flatMap_map]
theorem mainK_succ {j : JB} {i : Nat} {n : Int} (h : j.args[i]? = some n) : strB (mainK j i) ++ (⟨#[32]⟩ : ByteArray) ++ itoaB n = strB (mainK j (i + 1)) := by
  rw [show (⟨#[32]⟩ : ByteArray) = strB [32] from rfl, itoaB, strB_app, strB_app]
  congr 1
  unfold mainK
  rw [List.take_add_one, h]
  simp
theorem mainK_len {j : JB} (h : PlainJ j) (hj : j.In) (i : Nat) : (mainK j i).length ≤ 10000000 := by
  have h1 := done_len0 h hj 0
  rw [← mainK_all] at h1
  have h2 : (mainK j i).length ≤ (mainK j j.args.length).length := by
    unfold mainK
    simp only [List.length_append]
    have : ((j.args.take i).flatMap fun n => 32 :: Lib.itoa n).length ≤ ((j.args.take j.args.length).flatMap fun n => 32 :: Lib.itoa n).length := by
      rw [List.take_length]
      conv => rhs; rw [← List.take_append_drop i j.args]
      rw [List.flatMap_append, List.length_append]
      omega
    omega
  rw [List.length_append] at h1
  omega
theorem mainK_zero (j : JB) : (⟨#[106, 111, 98, 32]⟩ : ByteArray) ++ itoaB j.fuel ++ (⟨#[32]⟩ : ByteArray) ++ itoaB j.tasks ++ (⟨#[10, 109, 97, 105, 110, 32]⟩ : ByteArray) ++ strB (fnAt j j.main) = strB (mainK j 0) := by
  rw [show (⟨#[106, 111, 98, 32]⟩ : ByteArray) = strB [106, 111, 98, 32] from rfl, show (⟨#[32]⟩ : ByteArray) = strB [32] from rfl, show (⟨#[10, 109, 97, 105, 110, 32]⟩ : ByteArray) = strB [10, 109, 97, 105, 110, 32] from rfl, itoaB, itoaB]
  simp only [strB_app]
  congr 1
  simp [mainK, jobLine, glue, wJob, wMain]
/-- the text up to a function's instruction -/
def fnK (j : JB) (k : Nat) (f : FN) (i : Nat) : BS := textL (doneL j k ++ funcLine f :: (f.code.take i).map (insLine j))
theorem fnK_zero (j : JB) (k : Nat) (f : FN) : strB (textL (doneL j k)) ++ (⟨#[102, 117, 110, 99, 32]⟩ : ByteArray) ++ strB f.name ++ (⟨#[32]⟩ : ByteArray) ++ itoaB f.args ++ (⟨#[32]⟩ : ByteArray) ++ itoaB f.locals ++ (⟨#[10]⟩ : ByteArray) = strB (fnK j k f 0) := by
  rw [show (⟨#[102, 117, 110, 99, 32]⟩ : ByteArray) = strB [102, 117, 110, 99, 32] from rfl, show (⟨#[32]⟩ : ByteArray) = strB [32] from rfl, show (⟨#[10]⟩ : ByteArray) = strB [10] from rfl, itoaB, itoaB]
  simp only [strB_app]
  congr 1
  unfold fnK
  rw [textL_app]
  simp [textL, funcLine, glue, wFunc]
theorem fnK_succ {j : JB} {k i : Nat} {f : FN} {x : IN} (h : f.code[i]? = some x) : fnK j k f (i + 1) = fnK j k f i ++ (insLine j x ++ [10]) := by
  unfold fnK
  rw [List.take_add_one, h, List.map_append, ← List.cons_append, ← List.append_assoc, textL_app]
  congr 1
  simp [textL]
theorem fnK_all {j : JB} {k : Nat} {f : FN} (h : j.funcs[k]? = some f) : fnK j k f f.code.length = textL (doneL j (k + 1)) := by
  unfold fnK
  rw [doneL_next h, List.take_length]
  rfl
theorem insLine_16 {j : JB} {x : IN} (h : x.op = 16) : insLine j x = [32, 32] ++ opName x.op ++ (32 :: fnAt j x.n) := by unfold insLine insW; rw [if_pos h]; simp [glue]
theorem insLine_has {j : JB} {x : IN} (h : x.op ≠ 16) (hh : hasN x.op = true) : insLine j x = [32, 32] ++ opName x.op ++ (32 :: Lib.itoa x.n) := by unfold insLine insW; rw [if_neg h, if_pos hh]; simp [glue]
theorem insLine_no {j : JB} {x : IN} (h : x.op ≠ 16) (hh : hasN x.op = false) : insLine j x = [32, 32] ++ opName x.op := by unfold insLine insW; rw [if_neg h, if_neg (by simp [hh])]; simp [glue]
theorem ins_text16 {j : JB} {k i : Nat} {f : FN} {x : IN} (h : f.code[i]? = some x) (h1 : x.op = 16) : strB (fnK j k f i) ++ (⟨#[32, 32]⟩ : ByteArray) ++ strB (opName x.op) ++ (⟨#[32]⟩ : ByteArray) ++ strB (fnAt j x.n) ++ (⟨#[10]⟩ : ByteArray) = strB (fnK j k f (i + 1)) := by
  rw [fnK_succ h, insLine_16 h1, show (⟨#[32, 32]⟩ : ByteArray) = strB [32, 32] from rfl, show (⟨#[32]⟩ : ByteArray) = strB [32] from rfl, show (⟨#[10]⟩ : ByteArray) = strB [10] from rfl]
  simp only [strB_app]
  congr 1
  simp
theorem ins_textN {j : JB} {k i : Nat} {f : FN} {x : IN} (h : f.code[i]? = some x) (h1 : x.op ≠ 16) (hh : hasN x.op = true) : strB (fnK j k f i) ++ (⟨#[32, 32]⟩ : ByteArray) ++ strB (opName x.op) ++ (⟨#[32]⟩ : ByteArray) ++ itoaB x.n ++ (⟨#[10]⟩ : ByteArray) = strB (fnK j k f (i + 1)) := by
  rw [fnK_succ h, insLine_has h1 hh, show (⟨#[32, 32]⟩ : ByteArray) = strB [32, 32] from rfl, show (⟨#[32]⟩ : ByteArray) = strB [32] from rfl, show (⟨#[10]⟩ : ByteArray) = strB [10] from rfl, itoaB]
  simp only [strB_app]
  congr 1
  simp
theorem ins_text0 {j : JB} {k i : Nat} {f : FN} {x : IN} (h : f.code[i]? = some x) (h1 : x.op ≠ 16) (hh : hasN x.op = false) : strB (fnK j k f i) ++ (⟨#[32, 32]⟩ : ByteArray) ++ strB (opName x.op) ++ (⟨#[10]⟩ : ByteArray) = strB (fnK j k f (i + 1)) := by
  rw [fnK_succ h, insLine_no h1 hh, show (⟨#[32, 32]⟩ : ByteArray) = strB [32, 32] from rfl, show (⟨#[10]⟩ : ByteArray) = strB [10] from rfl]
  simp only [strB_app]
  congr 1
  simp
theorem end_text (j : JB) (h : PlainJ j) : strB (textL (doneL j j.funcs.length)) ++ (⟨#[101, 110, 100, 10]⟩ : ByteArray) = strB (printJ j) := by
  rw [show (⟨#[101, 110, 100, 10]⟩ : ByteArray) = strB [101, 110, 100, 10] from rfl, strB_app, printJ_plain h, ← doneL_all, textL_app]
  rfl
theorem itoaB_le {n : Int} (h : In64 n) : (itoaB n).size ≤ 21 := by unfold itoaB; rw [strB_size]; exact itoa_le h
set_option maxHeartbeats 12800000 in
set_option maxRecDepth 100000 in
theorem rprint_spec {w : World} {jv : Value} {j : JB} (h : JobRd w jv j) (hj : j.In) (hs : JShort j) (ha : j.args.length ≤ 1000000) : Calls Tryz.prog 15 #[jv] w fun e w' => e = .returned (.string (strB (printJ j))) ∧ Keep [] w w' := by
  have HJ := Lib.hid h
  obtain ⟨fa, fc, aa, ac, rfl, hf, hav⟩ := jobRd_cells h
  have kA : Keep [] w (w.alloc (.cells #[.slice fa j.funcs.length fc, .int .i64 j.main, .slice aa j.args.length ac, .int .i64 j.fuel, .int .i64 j.tasks] 25)) := (Keep.refl _ _).alloc _
  have bA : Blk (w.alloc (.cells #[.slice fa j.funcs.length fc, .int .i64 j.main, .slice aa j.args.length ac, .int .i64 j.fuel, .int .i64 j.tasks] 25)) w.heap.size 25 (jobC fa fc aa ac j) := Blk.new' _ _ _ _ rfl
  have HA := Lib.hid (And.intro kA (And.intro bA (rplainJ_spec (h.keep0 kA) hs ha)))
  have HF := Lib.hid (And.intro hf hav)
  clear h hs kA bA hf hav
  go_enter Tryz.func15, Tryz.ntmps15
  go_wp2_with fail
  refine HA.out.2.2.mono ?_
  rintro e w1 ⟨rfl, hk1⟩
  have H1 := Lib.hid (And.intro (HA.out.1.trans hk1 (by simp)) (HA.out.2.1.keep hk1 (by simp)))
  clear hk1
  by_cases hp : plainJ j = true
  · rw [hp]
    have hpj := (plainJ_iff j).1 hp
    have HPJ := Lib.hid hpj
    have HJI := Lib.hid hj
    obtain ⟨mn, hmn⟩ := Int.eq_ofNat_of_zero_le hpj.main0
    have hml : mn < j.funcs.length := by have := hpj.main; omega
    have hmI : (mn : Int) < (j.funcs.length : Int) := by omega
    have hm0 : (0 : Int) ≤ (mn : Int) := by omega
    obtain ⟨f, hfm⟩ := get_ex hml
    obtain ⟨g, off, cv, hfa, _, c0', _, _, _, _⟩ := HF.out.1.at_ hfm
    subst hfa
    have c0 := cell_keep0 H1.out.1 c0'
    have hfn : f.name = fnAt j j.main := by rw [fnAt_eq (f := f) (by rw [hmn]; exact hfm)]
    have hnl : (strB f.name).size ≤ 20 := by rw [strB_size, hfn]; exact nameL_len (hpj.name hpj.main0 hpj.main).choose_spec.2.2
    have hz1 := itoaB_le hj.fuel
    have hz2 := itoaB_le hj.tasks
    have HM := Lib.hid hfn
    have z0 : w1.cell? ⟨w.heap.size, 0, none⟩ = some (.slice (some ⟨g, off, none⟩) j.funcs.length fc) := H1.out.2.cell 0
    have z1 : w1.cell? ⟨w.heap.size, 1, none⟩ = some (.int .i64 (mn : Int)) := by rw [H1.out.2.cell 1]; simp [jobC, hmn]
    have z3 : w1.cell? ⟨w.heap.size, 3, none⟩ = some (.int .i64 j.fuel) := H1.out.2.cell 3
    have z4 : w1.cell? ⟨w.heap.size, 4, none⟩ = some (.int .i64 j.tasks) := H1.out.2.cell 4
    have hf4 : j.funcs.length ≤ 32 := hpj.few
    have ha8 : j.args.length ≤ 8 := hpj.args
    have hfI : (j.funcs.length : Int) ≤ 32 := by omega
    have haI : (j.args.length : Int) ≤ 8 := by omega
    have HD1 := Lib.hid (fun w' => digits_q w' hj.fuel)
    have HD2 := Lib.hid (fun w' => digits_q w' hj.tasks)
    clear hp hpj hj c0' hfn hfm ha hmn hml
    go_upto_region 4 with fail
    go_quiet (first | (go_at_call 21; with_reducible refine Calls.quiet_of_same (HD1.out _)) | (go_at_call 21; with_reducible refine Calls.quiet_of_same (HD2.out _)))
    rw [HM.out, mainK_zero]
    clear z0 z1 z3 z4 c0 hz1 hz2 hnl HD1 HD2 hm0 hmI
    go_wp2_with fail
    go_loopw [4, 5] (fun vs vi wr => ∃ i : Nat, i ≤ j.args.length ∧ vi = .int .i64 i ∧ vs = .string (strB (mainK j i)) ∧ Keep [] w1 wr) (fun _ vi _ => j.args.length - (intOf vi).toNat)
    case atStart => exact ⟨0, Nat.zero_le _, rfl, rfl, (Keep.refl _ _).drewN _⟩
    case round =>
      obtain ⟨i, hi, rfl, rfl, hk⟩ := hrel
      have q1 := H1.out.2.keep hk (by simp)
      have z2 : wr.cell? ⟨w.heap.size, 2, none⟩ = some (.slice aa j.args.length ac) := q1.cell 2
      have hzl : (strB (mainK j i)).size ≤ 10000000 := by rw [strB_size]; exact mainK_len HPJ.out HJI.out i
      have KW := Lib.hid (H1.out.1.trans hk (by simp))
      have KH := Lib.hid hk
      clear hk
      by_cases hlt : i < j.args.length
      · have hltI : (i : Int) < (j.args.length : Int) := by omega
        have hiI : (i : Int) ≤ 8 := by omega
        obtain ⟨n, hn⟩ := get_ex hlt
        obtain ⟨ba, oa, rfl, _, hca⟩ := HF.out.2.at_ hlt
        have c1 := cell_keep0 KW.out (hca i n hn)
        have hin : In64 n := HJI.out.args n (List.mem_of_getElem? hn)
        have hzn := itoaB_le hin
        have HN := Lib.hid (And.intro hn hin)
        clear hn hca q1 hin
        go_wp2_with fail
        refine (digits_q _ HN.out.2).mono ?_
        rintro e w3 ⟨rfl, rfl⟩
        go_wp2_with fail
        go_roundw
        case rel => exact ⟨i + 1, by omega, by go_num, by rw [mainK_succ HN.out.1], KH.out⟩
        case measure => simp [intOf]; omega
      · obtain rfl : i = j.args.length := by omega
        have hmx : strB (mainK j j.args.length) ++ (⟨#[10]⟩ : ByteArray) = strB (textL (doneL j 0)) := by rw [show (⟨#[10]⟩ : ByteArray) = strB [10] from rfl, strB_app, mainK_all]
        have HMX := Lib.hid hmx
        clear q1 hmx
        go_wp2_with fail
        clear z2
        generalize wr = wa at *
        go_loopw [4, 6, 7, 8, 9, 10] (fun vs vi _ _ _ _ wr => ∃ k : Nat, k ≤ j.funcs.length ∧ vi = .int .i64 k ∧ vs = .string (strB (textL (doneL j k))) ∧ Keep [] w1 wr) (fun _ vi _ _ _ _ _ => j.funcs.length - (intOf vi).toNat)
        case atStart => exact ⟨0, Nat.zero_le _, rfl, by rw [HMX.out], KH.out⟩
        case round =>
          clear KW KH hzl HMX
          obtain ⟨k, hkl, rfl, rfl, hk⟩ := hrel
          have q1 := H1.out.2.keep hk (by simp)
          have z0 : wr.cell? ⟨w.heap.size, 0, none⟩ = some (.slice (some ⟨g, off, none⟩) j.funcs.length fc) := q1.cell 0
          have hzl : (strB (textL (doneL j k))).size ≤ 10000000 := by rw [strB_size]; exact done_len0 HPJ.out HJI.out k
          have KW := Lib.hid (H1.out.1.trans hk (by simp))
          have KH := Lib.hid (And.intro hk q1)
          clear hk q1
          by_cases hlt : k < j.funcs.length
          · have hltI : (k : Int) < (j.funcs.length : Int) := by omega
            have hkI : (k : Int) ≤ 32 := by omega
            obtain ⟨f, hfi⟩ := get_ex hlt
            have hmem := List.mem_of_getElem? hfi
            have hnm : (strB f.name).size ≤ 20 := by rw [strB_size]; exact nameL_len (HPJ.out.fnm hmem).1
            have hcl := (HPJ.out.fnm hmem).2
            have hfin := HJI.out.funcs f hmem
            obtain ⟨b, off', cv, hfa', _, c0', c1', c2', c3', hcode⟩ := HF.out.1.at_ hfi
            injection hfa' with hfa'
            injection hfa' with e1 e2
            subst e1 e2
            have c0 := cell_keep0 KW.out c0'
            have c1 := cell_keep0 KW.out c1'
            have c2 := cell_keep0 KW.out c2'
            have c3 := cell_keep0 KW.out c3'
            clear c0' c1' c2' c3'
            obtain ⟨ca, cc, rfl⟩ := hcode.shape
            have kb : Keep [] wr (wr.alloc (.cells #[.string (strB f.name), .int .i64 f.args, .int .i64 f.locals, .slice ca f.code.length cc] 36)) := (Keep.refl _ _).alloc _
            have bb : Blk (wr.alloc (.cells #[.string (strB f.name), .int .i64 f.args, .int .i64 f.locals, .slice ca f.code.length cc] 36)) wr.heap.size 36 [.string (strB f.name), .int .i64 f.args, .int .i64 f.locals, .slice ca f.code.length cc] := Blk.new' _ _ _ _ rfl
            have hz1 := itoaB_le hfin.args
            have hz2 := itoaB_le hfin.locals
            have HD1 := Lib.hid (fun w' => digits_q w' hfin.args)
            have HD2 := Lib.hid (fun w' => digits_q w' hfin.locals)
            have hclI : (f.code.length : Int) ≤ 256 := by omega
            have GA := Lib.hid (And.intro hcode (And.intro hcl (And.intro hfi (And.intro hfin.code hmem))))
            have KB := Lib.hid (And.intro kb bb)
            clear kb bb hcode hmem hfi hcl hfin
            go_upto_region 14 with fail
            have z0' := cell_keep0 KB.out.1 z0
            clear z0 c0 c1 c2 c3
            generalize (wr.alloc (.cells #[.string (strB f.name), .int .i64 f.args, .int .i64 f.locals, .slice ca f.code.length cc] 36)) = w2 at *
            generalize wr.heap.size = gb at *
            have b0 : w2.cell? ⟨gb, 0, none⟩ = some (.string (strB f.name)) := KB.out.2.cell 0
            have b1 : w2.cell? ⟨gb, 1, none⟩ = some (.int .i64 f.args) := KB.out.2.cell 1
            have b2 : w2.cell? ⟨gb, 2, none⟩ = some (.int .i64 f.locals) := KB.out.2.cell 2
            go_quiet (first | (go_at_call 21; with_reducible refine Calls.quiet_of_same (HD1.out _)) | (go_at_call 21; with_reducible refine Calls.quiet_of_same (HD2.out _)))
            rw [fnK_zero]
            clear b0 b1 b2 hz1 hz2 HD1 HD2 z0' hzl hnm
            go_wp2_with fail
            go_loopw [4, 8, 9, 10] (fun vs vi _ _ wq => ∃ s : Nat, s ≤ f.code.length ∧ vi = .int .i64 s ∧ vs = .string (strB (fnK j k f s)) ∧ Keep [] w2 wq) (fun _ vi _ _ _ => f.code.length - (intOf vi).toNat)
            case atStart => exact ⟨0, Nat.zero_le _, rfl, rfl, (Keep.refl _ _).drewN _⟩
            case round =>
              obtain ⟨s, hsl, rfl, rfl, hks⟩ := hrel
              have q2 := KB.out.2.keep hks (by simp)
              have b3 : wr.cell? ⟨gb, 3, none⟩ = some (.slice ca f.code.length cc) := q2.cell 3
              have hzl : (strB (fnK j k f s)).size ≤ 10000000 := by rw [strB_size]; exact done_len HPJ.out HJI.out GA.out.2.2.1
              have KS := Lib.hid hks
              have KQ := Lib.hid ((KW.out.trans KB.out.1 (by simp)).trans hks (by simp))
              clear hks q2
              by_cases hls : s < f.code.length
              · have hlsI : (s : Int) < (f.code.length : Int) := by omega
                have hsI : (s : Int) ≤ 256 := by omega
                obtain ⟨x, hx⟩ := get_ex hls
                have hxp := HPJ.out.ins GA.out.2.2.2.2 (List.mem_of_getElem? hx)
                have hxi := GA.out.2.2.2.1 x (List.mem_of_getElem? hx)
                obtain ⟨g2, o2, hca, _, y0', y1'⟩ := GA.out.1.at_ hx
                subst hca
                have y0 := cell_keep0 KQ.out y0'
                have y1 := cell_keep0 KQ.out y1'
                have ka : Keep [] wr (wr.alloc (.cells #[.int .i64 x.op, .int .i64 x.n] 47)) := (Keep.refl _ _).alloc _
                have ba : Blk (wr.alloc (.cells #[.int .i64 x.op, .int .i64 x.n] 47)) wr.heap.size 47 [.int .i64 x.op, .int .i64 x.n] := Blk.new' _ _ _ _ rfl
                have KA := Lib.hid (And.intro ka ba)
                have HX := Lib.hid (And.intro hx (And.intro hxp hxi))
                clear y0' y1' ka ba hx hxp hxi
                go_upto_region 19 with fail
                clear y0 y1 b3
                generalize (wr.alloc (.cells #[.int .i64 x.op, .int .i64 x.n] 47)) = w4 at *
                generalize wr.heap.size = gx at *
                have d0 : w4.cell? ⟨gx, 0, none⟩ = some (.int .i64 x.op) := KA.out.2.cell 0
                go_wp2_with fail
                refine (rname_spec _ x.op).mono ?_
                rintro e w5 ⟨rfl, hk5⟩
                have ba5 := KA.out.2.keep hk5 (by simp)
                have d0' : w5.cell? ⟨gx, 0, none⟩ = some (.int .i64 x.op) := ba5.cell 0
                have d1' : w5.cell? ⟨gx, 1, none⟩ = some (.int .i64 x.n) := ba5.cell 1
                have hon : (strB (opName x.op)).size ≤ 5 := by rw [strB_size]; exact opName_len x.op
                have K5 := Lib.hid ((KS.out.trans KA.out.1 (by simp)).trans hk5 (by simp))
                have KQ5 := Lib.hid ((KQ.out.trans KA.out.1 (by simp)).trans hk5 (by simp))
                have hblk := H1.out.2.keep ((((KH.out.1.trans KB.out.1 (by simp)).trans KS.out (by simp)).trans KA.out.1 (by simp)).trans hk5 (by simp)) (by simp)
                have z5 : w5.cell? ⟨w.heap.size, 0, none⟩ = some (.slice (some ⟨g, off, none⟩) j.funcs.length fc) := hblk.cell 0
                clear hk5 ba5 d0 hblk
                go_wp2_with fail
                refine (rhasN_spec _ x.op).mono ?_
                rintro e w6 ⟨rfl, rfl⟩
                by_cases h16 : x.op = 16
                · have h16B : (x.op == 16) = true := by simp [h16]
                  obtain ⟨nn, hnn⟩ := Int.eq_ofNat_of_zero_le (plainI_16 HX.out.2.1 h16).1
                  have hnl : nn < j.funcs.length := by have := (plainI_16 HX.out.2.1 h16).2; omega
                  have hnlI : (nn : Int) < (j.funcs.length : Int) := by omega
                  have hn0 : (0 : Int) ≤ (nn : Int) := by omega
                  obtain ⟨fx, hfx⟩ := get_ex hnl
                  obtain ⟨b6, off6, cv6, hfa6, _, e0', _, _, _, _⟩ := HF.out.1.at_ hfx
                  injection hfa6 with hfa6
                  injection hfa6 with e3 e4
                  subst e3 e4
                  have e0 := cell_keep0 KQ5.out e0'
                  have hfxn : fx.name = fnAt j x.n := by rw [fnAt_eq (f := fx) (by rw [hnn]; exact hfx)]
                  have hnm6 : (strB fx.name).size ≤ 20 := by rw [strB_size]; exact nameL_len (HPJ.out.fnm (List.mem_of_getElem? hfx)).1
                  have HT := Lib.hid (show strB (fnK j k f s) ++ (⟨#[32, 32]⟩ : ByteArray) ++ strB (opName x.op) ++ (⟨#[32]⟩ : ByteArray) ++ strB fx.name ++ (⟨#[10]⟩ : ByteArray) = strB (fnK j k f (s + 1)) from by rw [hfxn]; exact ins_text16 HX.out.1 h16)
                  rw [hnn] at d1'
                  clear e0' hfx hfxn h16 hnn hnl
                  go_wp2_with fail
                  go_roundw
                  case rel => exact ⟨s + 1, by omega, by go_num, by rw [HT.out], K5.out⟩
                  case measure => simp [intOf]; omega
                · have h16B : (x.op == 16) = false := by simpa using h16
                  by_cases hh : hasN x.op = true
                  · rw [hh]
                    have hzn := itoaB_le HX.out.2.2.n
                    have HT := Lib.hid (ins_textN (j := j) (k := k) HX.out.1 h16 hh)
                    clear h16 hh z5
                    go_wp2_with fail
                    refine (digits_q _ HX.out.2.2.n).mono ?_
                    rintro e w7 ⟨rfl, rfl⟩
                    go_wp2_with fail
                    go_roundw
                    case rel => exact ⟨s + 1, by omega, by go_num, by rw [HT.out], K5.out⟩
                    case measure => simp [intOf]; omega
                  · have hh' : hasN x.op = false := by simpa using hh
                    rw [hh']
                    have HT := Lib.hid (ins_text0 (j := j) (k := k) HX.out.1 h16 hh')
                    clear h16 hh hh' z5
                    go_wp2_with fail
                    go_roundw
                    case rel => exact ⟨s + 1, by omega, by go_num, by rw [HT.out], K5.out⟩
                    case measure => simp [intOf]; omega
              · obtain rfl : s = f.code.length := by omega
                go_wp2_with fail
                go_roundw
                case rel => exact ⟨k + 1, by omega, by go_num, by rw [fnK_all GA.out.2.2.1], (KH.out.1.trans KB.out.1 (by simp)).trans KS.out (by simp)⟩
                case measure => simp [intOf]; omega
          · obtain rfl : k = j.funcs.length := by omega
            have HEND := Lib.hid (end_text j HPJ.out)
            go_wp2
            go_ret
            exact ⟨by rw [HEND.out]; rfl, KW.out⟩
  · have hp' : plainJ j = false := by simpa using hp
    rw [hp']
    have he : printJ j = [] := by unfold printJ; rw [if_neg hp]
    have HE := Lib.hid he
    clear he
    go_wp2
    go_ret
    exact ⟨by rw [HE.out]; rfl, H1.out.1⟩
end Go.Proofs.YtbdkmfcgnolihaaGreatDoor
namespace Go.Proofs.YtbdkmfcgnolihaaGreatDoor
set_option linter.unusedSimpArgs false
set_option linter.unnecessarySimpa false
set_option linter.unusedVariables false
open Go Go.ChangeShapes Go.WideShapes Go.RowKit Go.Deep Go.ChangeAt
section
variable {H : Type} {enc : TypeId × Value → H} {P : Program} {w : World}
abbrev RS (enc : TypeId × Value → H) (P : Program) (w : World) (t : TypeId) (cs : List Value) : Prop := ∃ n d p, DataW.trod enc P w 0 (fun _ => true) true n t cs = some (d, p) ∧ ∀ m ∈ d.weights P t, m ≤ reachBytes
theorem weightsAll_in {e : TypeId} : ∀ {l : List (DataW H)} {d : DataW H}, d ∈ l → ∀ n ∈ d.weights P e, n ∈ DataW.weightsAll P e l
  | x :: l, d, hd, n, hn => by
    unfold DataW.weightsAll
    rcases List.mem_cons.1 hd with rfl | hd
    · exact List.mem_append_left _ hn
    · exact List.mem_append_right _ (weightsAll_in hd n hn)
theorem RS.reads {t : TypeId} {cs : List Value} (h : RS enc P w t cs) : Reads enc P w t cs := by
  obtain ⟨n, d, p, h, _⟩ := h
  exact ⟨n, _, h⟩
theorem rs_rows {t e : TypeId} {cs : List Value} (sz : Nat) (ht : P.underlying t = some (.slice e)) (hC : P.cellsOf e = sz) (hsz : 0 < sz) (h : RS enc P w t cs) :
    ∃ v css, cs = [v] ∧ Rows_ w v sz css ∧ (∀ cs ∈ css, RS enc P w e cs) ∧ css.length * P.bytesOf e ≤ reachBytes := by
  obtain ⟨fuel, d, p, hf, hwt⟩ := h
  rcases open_slice ht hf with ⟨hcs, _⟩ | ⟨a', len, cap', m, n, D, Pl, hcs, _, hl, _, hm, hx, hi⟩
  · exact ⟨_, [], hcs, ⟨none, 0, rfl, fun h => absurd rfl h⟩, by simp, by simp⟩
  · simp only [if_true] at hm
    subst hm
    rw [hC] at hi
    injection hx with hx _
    subst hx
    have hw1 : (len + (m - len)) * P.bytesOf e ≤ reachBytes := hwt _ (by simp [DataW.weights, ht])
    have hw2 : ∀ i, i < len → ∀ q ∈ (D i).weights P e, q ≤ reachBytes := fun i hi q hq => by
      refine hwt q ?_
      simp only [DataW.weights, ht]
      exact List.mem_cons_of_mem _ (List.mem_append_left _ (weightsAll_in (List.mem_map_of_mem (List.mem_range.2 hi)) q hq))
    have hch : ∀ i, ∃ cs', i < len → w.cells? 0 (a'.add (i * sz)) sz = some cs' ∧ DataW.trod enc P w 0 (fun _ => true) true n e cs' = some (D i, Pl i) := fun i => by
      by_cases h : i < len
      · obtain ⟨cs', h1, h2⟩ := hi i (by omega)
        exact ⟨cs', fun _ => ⟨h1, h2⟩⟩
      · exact ⟨[], fun h' => absurd h' h⟩
    obtain ⟨f, hf'⟩ := Classical.axiomOfChoice hch
    refine ⟨_, (List.range len).map f, hcs, ⟨some a', m, by simp, fun hne => ?_⟩, fun cs hcs => ?_, ?_⟩
    · have hlen : 0 < len := by
        rcases Nat.eq_zero_or_pos len with h0 | h0
        · subst h0; simp at hne
        · exact h0
      obtain ⟨h1, _⟩ := hf' 0 hlen
      obtain ⟨_, hl0, hat⟩ := World.cells?_some h1
      have h2 := hat 0 hsz
      rw [List.getElem?_eq_getElem (by omega)] at h2
      have hspot : a'.spot = none := by
        rw [Nat.zero_mul] at h2
        simpa [Addr.add] using World.cell?_spot h2
      obtain ⟨b, off, spot⟩ := a'
      simp only at hspot
      subst hspot
      refine ⟨b, off, rfl, ?_, fun i cs hi' => ?_⟩
      · have := World.block_lt_of_cell? _ _ h2
        simpa [add_none] using this
      · have hil : i < len := by
          rcases Nat.lt_or_ge i len with h | h
          · exact h
          · rw [List.getElem?_eq_none (by simpa using h)] at hi'; cases hi'
        rw [List.getElem?_map, List.getElem?_range hil] at hi'
        simp only [Option.map_some, Option.some.injEq] at hi'
        subst hi'
        obtain ⟨h4, _⟩ := hf' i hil
        obtain ⟨_, hl4, hat4⟩ := World.cells?_some h4
        refine ⟨hl4, fun j x hx => ?_⟩
        have hj : j < sz := by
          rcases Nat.lt_or_ge j sz with h | h
          · exact h
          · rw [List.getElem?_eq_none (by omega)] at hx; cases hx
        have h5 := hat4 j hj
        rw [add_none, add_none] at h5
        rw [h5, hx]
    · obtain ⟨i, hi', rfl⟩ := List.mem_map.1 hcs
      exact ⟨n, _, _, (hf' i (List.mem_range.1 hi')).2, hw2 i (List.mem_range.1 hi')⟩
    · rw [List.length_map, List.length_range]
      exact Nat.le_trans (Nat.mul_le_mul_right _ (Nat.le_add_right _ _)) hw1
theorem rs_field {e : TypeId} {fs : Array Field} {cs : List Value} (he : P.underlying e = some (.struct fs)) (h : RS enc P w e cs) : cs.length = P.cellsOf e ∧ ∀ (i : Nat) (f : Field), fs[i]? = some f → RS enc P w f.type ((cs.drop f.offset).take (P.cellsOf f.type)) := by
  obtain ⟨n, d, p, hy, hwt⟩ := h
  obtain ⟨ys, m, _, hx, hlen, hyl, hf⟩ := DataW.trod_struct he hy
  injection hx with hx _
  subst hx
  refine ⟨hlen, fun i f hi => ?_⟩
  have h2 := hf i f hi
  have hi' : i < ys.length := by
    rw [hyl]
    rcases Nat.lt_or_ge i fs.size with h' | h'
    · exact h'
    · rw [Array.getElem?_eq_none h'] at hi; cases hi
  rw [List.getElem?_eq_getElem hi'] at h2
  refine ⟨m, ys[i].1, ys[i].2, h2, fun q hq => hwt q ?_⟩
  simp only [DataW.weights, he]
  exact DataW.weights_mem_each (j := i) (by rw [List.getElem?_map, Array.getElem?_toList, hi]; rfl) (by rw [List.getElem?_map, List.getElem?_eq_getElem hi']; rfl) q hq
theorem rs_at {e : TypeId} {fs : Array Field} {L : Array (TypeId × Nat)} {cs : List Value} (he : P.underlying e = some (.struct fs)) (hm : (fs.map fun f => (f.type, f.offset)) = L) (h : RS enc P w e cs) {i : Nat} {t : TypeId} {o : Nat} (hi : L[i]? = some (t, o)) : RS enc P w t ((cs.drop o).take (P.cellsOf t)) := by
  subst hm
  rw [Array.getElem?_map] at hi
  cases hf : fs[i]? with
  | none => rw [hf] at hi; cases hi
  | some f =>
    rw [hf] at hi
    simp only [Option.map_some, Option.some.injEq, Prod.mk.injEq] at hi
    have := (rs_field he h).2 i f hf
    rw [hi.1, hi.2] at this
    exact this
theorem rs_string {t : TypeId} {cs : List Value} (ht : P.underlying t = some .string) (h : RS enc P w t cs) : ∃ s : ByteArray, cs = [.string s] ∧ s.size ≤ reachBytes := by
  obtain ⟨n, d, p, hy, hwt⟩ := h
  obtain ⟨s, h1, hx, _⟩ := DataW.trod_string ht hy
  injection hx with hx _
  subst hx
  have := hwt s.data.toList.length (by simp [DataW.weights])
  refine ⟨s, h1, ?_⟩
  show s.data.size ≤ reachBytes
  rw [← Array.length_toList]
  exact this
theorem rs_ints {t e : TypeId} {cs : List Value} (ht : P.underlying t = some (.slice e)) (he : P.underlying e = some (.int .i64)) (hC : P.cellsOf e = 1) (h : RS enc P w t cs) :
    ∃ v ys, cs = [v] ∧ IntsOf w v ys ∧ (∀ x ∈ ys, (Lit.int .i64 x).wf = true) ∧ ys.length * P.bytesOf e ≤ reachBytes := by
  obtain ⟨v, ys, h1, h2, h3⟩ := reads_ints ht he hC h.reads
  obtain ⟨v', css, h4, ⟨a, c, hv, _⟩, _, h6⟩ := rs_rows 1 ht hC (by omega) h
  refine ⟨v, ys, h1, h2, h3, ?_⟩
  obtain ⟨a', c', hv'⟩ := h2.shape
  rw [h1] at h4
  injection h4 with h4 _
  rw [h4, hv] at hv'
  injection hv' with _ e2 _
  rw [← e2]
  exact h6
theorem take_one {cs : List Value} {o : Nat} {v : Value} (h : (cs.drop o).take 1 = [v]) : cs[o]? = some v := one_at h
end
/-! ### a job -/
def fs25 : Array (TypeId × Nat) := #[(22, 0), (3, 1), (23, 2), (3, 3), (3, 4)]
def fs36 : Array (TypeId × Nat) := #[(9, 0), (3, 1), (3, 2), (34, 3)]
def fs47 : Array (TypeId × Nat) := #[(3, 0), (3, 1)]
section
variable {H : Type} {enc : TypeId × Value → H} {w : World}
theorem wf64 {x : Int} (h : (Lit.int .i64 x).wf = true) : In64 x := by
  simpa [Lit.wf, IntKind.min, IntKind.max, IntKind.signed, IntKind.bits, In64] using h
set_option maxRecDepth 100000 in
theorem ins_open {cs : List Value} (h : RS enc Tryz.prog w 47 cs) : ∃ x : IN, cs = inC x ∧ x.In := by
  obtain ⟨h1, _⟩ := rs_field Tryz.underlying47 h
  obtain ⟨a, ha, ha2⟩ := reads_int_at (L := fs47) Tryz.underlying47 (by simp [fs47]) h.reads (i := 0) (t := 3) (o := 0) rfl Tryz.underlying3 (by kernel_rfl)
  obtain ⟨b, hb, hb2⟩ := reads_int_at (L := fs47) Tryz.underlying47 (by simp [fs47]) h.reads (i := 1) (t := 3) (o := 1) rfl Tryz.underlying3 (by kernel_rfl)
  have hc : Tryz.prog.cellsOf 47 = 2 := by kernel_rfl
  rw [hc] at h1
  match cs, h1, ha, hb with
  | [x, y], _, ha, hb =>
    simp at ha hb
    subst ha hb
    exact ⟨⟨a, b⟩, rfl, wf64 ha2, wf64 hb2⟩
set_option maxRecDepth 100000 in
theorem code_open {cs : List Value} (h : RS enc Tryz.prog w 34 cs) : ∃ v l, cs = [v] ∧ CodeRd w v l ∧ (∀ i ∈ l, i.In) ∧ l.length * 16 ≤ reachBytes := by
  have hc : Tryz.prog.cellsOf 47 = 2 := by kernel_rfl
  have hb : Tryz.prog.bytesOf 47 = 16 := by kernel_rfl
  obtain ⟨v, css, h1, ⟨a, c, hv, hr⟩, h3, h4⟩ := rs_rows 2 Tryz.underlying34 hc (by omega) h
  rw [hb] at h4
  obtain ⟨l, hl, hx⟩ := choose_list (fun cs x => cs = inC x ∧ x.In) css (fun cs hcs => ins_open (h3 cs hcs))
  refine ⟨v, l, h1, ⟨a, c, by rw [hl]; exact hv, fun i x hxi => ?_⟩, fun i hi => ?_, by rw [hl]; exact h4⟩
  · have hil := get_lt hxi
    obtain ⟨cs', hcs'⟩ := get_ex (show i < css.length by omega)
    obtain ⟨b, off, ha, hb, hcell⟩ := hr (by rintro rfl; simp at hcs')
    obtain ⟨e1, _⟩ := hx i _ _ hcs' hxi
    obtain ⟨_, hc2⟩ := hcell i cs' hcs'
    exact ⟨b, off, ha, hb, by simpa using hc2 0 (.int .i64 x.op) (by rw [e1]; rfl), hc2 1 (.int .i64 x.n) (by rw [e1]; rfl)⟩
  · obtain ⟨k, hk⟩ := List.mem_iff_getElem?.1 hi
    obtain ⟨cs', hcs'⟩ := get_ex (show k < css.length by have := get_lt hk; omega)
    exact (hx k _ _ hcs' hk).2
def FnSz (f : FN) : Prop := f.name.length ≤ reachBytes ∧ f.code.length * 16 ≤ reachBytes
set_option maxRecDepth 100000 in
theorem fn_open {cs : List Value} (h : RS enc Tryz.prog w 36 cs) : ∃ p : FN × Value, cs = fnC p.1 p.2 ∧ CodeRd w p.2 p.1.code ∧ p.1.In ∧ FnSz p.1 := by
  obtain ⟨h1, _⟩ := rs_field Tryz.underlying36 h
  have hc : Tryz.prog.cellsOf 36 = 4 := by kernel_rfl
  rw [hc] at h1
  obtain ⟨a, ha, ha2⟩ := reads_int_at (L := fs36) Tryz.underlying36 (by simp [fs36]) h.reads (i := 1) (t := 3) (o := 1) rfl Tryz.underlying3 (by kernel_rfl)
  obtain ⟨b, hb, hb2⟩ := reads_int_at (L := fs36) Tryz.underlying36 (by simp [fs36]) h.reads (i := 2) (t := 3) (o := 2) rfl Tryz.underlying3 (by kernel_rfl)
  have h9 := rs_at (L := fs36) Tryz.underlying36 (by simp [fs36]) h (i := 0) (t := 9) (o := 0) rfl
  have hc9 : Tryz.prog.cellsOf 9 = 1 := by kernel_rfl
  rw [hc9] at h9
  obtain ⟨s, hs, hs2⟩ := rs_string Tryz.underlying9 h9
  have hs := one_at hs
  have h34 := rs_at (L := fs36) Tryz.underlying36 (by simp [fs36]) h (i := 3) (t := 34) (o := 3) rfl
  have hc34 : Tryz.prog.cellsOf 34 = 1 := by kernel_rfl
  rw [hc34] at h34
  obtain ⟨v, l, hv, hcd, hin, hsz⟩ := code_open h34
  have hv := one_at hv
  match cs, h1, ha, hb, hs, hv with
  | [x, y, z, u], _, ha, hb, hs, hv =>
    simp at ha hb hs hv
    subst ha hb hs hv
    exact ⟨(⟨s.data.toList, a, b, l⟩, u), by simp [fnC, strB_of], hcd, ⟨wf64 ha2, wf64 hb2, hin⟩, by show s.data.toList.length ≤ reachBytes; rw [Array.length_toList]; exact hs2, hsz⟩
set_option maxRecDepth 100000 in
theorem fns_open {cs : List Value} (h : RS enc Tryz.prog w 22 cs) : ∃ v fs, cs = [v] ∧ FnsRd w v fs ∧ (∀ f ∈ fs, f.In ∧ FnSz f) ∧ fs.length * 56 ≤ reachBytes := by
  have hc : Tryz.prog.cellsOf 36 = 4 := by kernel_rfl
  have hb : Tryz.prog.bytesOf 36 = 56 := by kernel_rfl
  obtain ⟨v, css, h1, ⟨a, c, hv, hr⟩, h3, h4⟩ := rs_rows 4 Tryz.underlying22 hc (by omega) h
  rw [hb] at h4
  obtain ⟨l, hl, hx⟩ := choose_list (fun cs (p : FN × Value) => cs = fnC p.1 p.2 ∧ CodeRd w p.2 p.1.code ∧ p.1.In ∧ FnSz p.1) css (fun cs hcs => fn_open (h3 cs hcs))
  refine ⟨v, l.map Prod.fst, h1, ⟨a, c, by rw [List.length_map, hl]; exact hv, fun i f hf => ?_⟩, fun f hf => ?_, by rw [List.length_map, hl]; exact h4⟩
  · rw [List.getElem?_map] at hf
    obtain ⟨p, hp, rfl⟩ := Option.map_eq_some_iff.1 hf
    obtain ⟨cs', hcs'⟩ := get_ex (show i < css.length by have := get_lt hp; omega)
    obtain ⟨b, off, ha, hb, hcell⟩ := hr (by rintro rfl; simp at hcs')
    obtain ⟨e1, e2, _⟩ := hx i _ _ hcs' hp
    obtain ⟨_, hc2⟩ := hcell i cs' hcs'
    exact ⟨b, off, p.2, ha, hb, by simpa using hc2 0 (.string (strB p.1.name)) (by rw [e1]; rfl), hc2 1 (.int .i64 p.1.args) (by rw [e1]; rfl), hc2 2 (.int .i64 p.1.locals) (by rw [e1]; rfl), hc2 3 p.2 (by rw [e1]; rfl), e2⟩
  · obtain ⟨p, hp, rfl⟩ := List.mem_map.1 hf
    obtain ⟨k, hk⟩ := List.mem_iff_getElem?.1 hp
    obtain ⟨cs', hcs'⟩ := get_ex (show k < css.length by have := get_lt hk; omega)
    exact (hx k _ _ hcs' hk).2.2
/-- what a job that came in takes -/
structure JobSz (j : JB) : Prop where
  funcs : j.funcs.length * 56 ≤ reachBytes
  fns : ∀ f ∈ j.funcs, FnSz f
  args : j.args.length * 8 ≤ reachBytes
set_option maxRecDepth 100000 in
theorem job_open {v : Value} {d : DataW H} {p : List MemPlace} {b0 : Nat} (ho : Value.okWide Tryz.prog w .any b0 25 v) (h : DataW.Trod enc Tryz.prog w 0 (fun _ => true) true 25 v d p) (hwt : ∀ m ∈ d.weights Tryz.prog 25, m ≤ reachBytes) : ∃ j, JobRd w v j ∧ j.In ∧ JobSz j := by
  unfold Value.okWide at ho
  rw [Tryz.underlying25] at ho
  obtain ⟨ca, rfl, hcs, _⟩ := ho
  obtain ⟨fuel, hf⟩ := h
  have hR : RS enc Tryz.prog w 25 ca.toList := ⟨fuel, d, p, hf, hwt⟩
  obtain ⟨h1, _⟩ := rs_field Tryz.underlying25 hR
  have hc : Tryz.prog.cellsOf 25 = 5 := by kernel_rfl
  rw [hc] at h1
  have h22 := rs_at (L := fs25) Tryz.underlying25 (by simp [fs25]) hR (i := 0) (t := 22) (o := 0) rfl
  have hc22 : Tryz.prog.cellsOf 22 = 1 := by kernel_rfl
  rw [hc22] at h22
  obtain ⟨fv, fs, hfv, hfr, hfi, hfz⟩ := fns_open h22
  have hfv := one_at hfv
  have h23 := rs_at (L := fs25) Tryz.underlying25 (by simp [fs25]) hR (i := 2) (t := 23) (o := 2) rfl
  have hc23 : Tryz.prog.cellsOf 23 = 1 := by kernel_rfl
  rw [hc23] at h23
  have hb3 : Tryz.prog.bytesOf 3 = 8 := by kernel_rfl
  obtain ⟨av, al, hav, har, hai, haz⟩ := rs_ints Tryz.underlying23 Tryz.underlying3 (by kernel_rfl) h23
  have hav := one_at hav
  rw [hb3] at haz
  obtain ⟨m, hm, hm2⟩ := reads_int_at (L := fs25) Tryz.underlying25 (by simp [fs25]) hR.reads (i := 1) (t := 3) (o := 1) rfl Tryz.underlying3 (by kernel_rfl)
  obtain ⟨u, hu, hu2⟩ := reads_int_at (L := fs25) Tryz.underlying25 (by simp [fs25]) hR.reads (i := 3) (t := 3) (o := 3) rfl Tryz.underlying3 (by kernel_rfl)
  obtain ⟨t, ht, ht2⟩ := reads_int_at (L := fs25) Tryz.underlying25 (by simp [fs25]) hR.reads (i := 4) (t := 3) (o := 4) rfl Tryz.underlying3 (by kernel_rfl)
  obtain ⟨cl⟩ := ca
  simp only at h1 hfv hav hm hu ht
  match cl, h1, hfv, hav, hm, hu, ht with
  | [x0, x1, x2, x3, x4], _, hfv, hav, hm, hu, ht =>
    simp at hfv hav hm hu ht
    subst hfv hav hm hu ht
    exact ⟨⟨fs, m, al, u, t⟩, ⟨x0, x2, rfl, hfr, har⟩, ⟨fun f hf => (hfi f hf).1, wf64 hm2, fun n hn => wf64 (hai n hn), wf64 hu2, wf64 ht2⟩, ⟨hfz, fun f hf => (hfi f hf).2, haz⟩⟩
end
/-- THE WRAP, as the one of CEnv, and what each string and slice takes is handed on. -/
theorem returnsInHanded_and_sized {H : Type} {enc : TypeId × Value → H} {a : Assume} {C : Checked} {os : Os} {f : FuncId} {fn : Func} {s : ChangeSpec} {conds : List PathCond} {apart fresh handsOn again : Bool} {X : World → Array Value → Prop}
    (hX : ∀ (w w' : World) (args : Array Value), w.heap = w'.heap → X w args → X w' args)
    (own : ownKnob C.prog.godebug = none) (started : os.Started) (noInit : C.prog.inits.idxOf? f = none) (hfn : C.prog.funcs[f]? = some fn)
    (witness : ∃ (w : World) (tape : Tape) (i : Input), w.os = os ∧ (w.forCall tape i).Shaped C.prog ∧ i.vars = [] ∧ Input.okWide C.prog (w.forCall tape i) .any w.heap.size f i ∧
      ((s.pre enc C.prog fn conds apart (w.forCall tape i).memory i.args ∧ X (w.forCall tape i).memory i.args) ∧ sizedMet enc C.prog fn (OpenSpec.ofChange s) apart (w.forCall tape i).memory i.args) ∧ a.holds C.prog (lone (Frame.enter C.prog f i.args .normal) [] (w.forCall tape i)))
    (contract : ∀ (W : World) (base : Nat) (args : Array Value) (ds gs : List (DataW H)) (before : List MemPlace),
      (∀ (j : Nat) t v, fn.params[j]? = some t → args[j]? = some v → Value.okWide C.prog W .any base t v) →
      DataW.Whole enc C.prog fn.params.toList s.vars apart W args.toList ds gs before →
      conds.all (PathCond.test C.prog ⟨fn.params.toList, ds, s.plain.varTypes C.prog, gs⟩) = true → X W args → W.ShapedOpen C.prog →
      (DataW.weightsEach C.prog (fn.params.toList ++ s.plain.varTypes C.prog) (ds ++ gs)).all (· ≤ reachBytes) = true →
      Calls C.prog f args W fun e W' => ∃ v, e = .returned v ∧ s.post enc C.prog fn apart fresh handsOn again W args v W') :
    ReturnsInHanded a C os f .any (fun w args => (s.pre enc C.prog fn conds apart w args ∧ X w args) ∧ sizedMet enc C.prog fn (OpenSpec.ofChange s) apart w args) (s.post enc C.prog fn apart fresh handsOn again) := by
  refine returnsInHanded_of_calls own started noInit witness ?_
  intro w tape i _ hsh _ hok hpre hholds
  obtain ⟨_, _, _, fn', hfn', _, _, _, _, hval⟩ := hok
  have e : fn' = fn := Option.some.inj (hfn'.symm.trans hfn)
  subst e
  obtain ⟨⟨⟨ds, gs, before, hw, hc⟩, hx⟩, hz⟩ := hpre
  have hw' := DataW.Whole.of_heap (w' := w.forCall tape i) (by rfl) hw
  refine (contract (w.forCall tape i) w.heap.size i.args ds gs before hval hw' hc (hX _ _ _ (by rfl) hx) hsh (hz.weights hw)).mono fun e W' ⟨v, he, hp⟩ => ?_
  subst he
  exact ChangeSpec.post_blind hp
end Go.Proofs.YtbdkmfcgnolihaaGreatDoor
namespace Go.Proofs.YtbdkmfcgnolihaaGreatDoor
set_option linter.unusedSimpArgs false
set_option linter.unnecessarySimpa false
set_option linter.unusedVariables false
open Go.RowKit
theorem big_sum {n c l : Nat} (h1 : n ≤ 2000) (h2 : c ≤ 8796093021952) (h3 : l ≤ 140737488351232) : wrap64 ((n : Int) + (c : Int) + wrap64 ((l : Int) / 8)) = ((n + c + l / 8 : Nat) : Int) := by
  have e1 : wrap64 ((l : Int) / 8) = (l : Int) / 8 := IntWalk.wrap64_in _ (by omega)
  have e2 : wrap64 ((n : Int) + (c : Int) + (l : Int) / 8) = (n : Int) + (c : Int) + (l : Int) / 8 := IntWalk.wrap64_in _ (by omega)
  rw [e1, e2]
  omega
theorem FnSz.code {f : FN} (h : FnSz f) : f.code.length ≤ 8796093021952 := by
  have h1 := h.2
  have h2 : reachBytes = 140737488351232 := by decide
  omega
theorem FnSz.name {f : FN} (h : FnSz f) : f.name.length ≤ 140737488351232 := by
  have h1 := h.1
  have h2 : reachBytes = 140737488351232 := by decide
  omega
def codeSum (fs : List FN) : Nat := (fs.map fun f => f.code.length).sum
theorem codeSum_snoc (fs : List FN) (f : FN) : codeSum (fs ++ [f]) = codeSum fs + f.code.length := by unfold codeSum; simp
def BigOk (j : JB) (i n : Nat) : Prop := n ≤ 30000000000000 ∧ codeSum (j.funcs.take i) ≤ n ∧ ∀ (t : Nat) (g : FN), t < i → j.funcs[t]? = some g → g.code.length ≤ n ∧ g.name.length ≤ 8 * n + 7
theorem BigOk.next {j : JB} {i n : Nat} {f : FN} (h : BigOk j i n) (hn : n ≤ 2000) (hf : j.funcs[i]? = some f) (hz : FnSz f) : BigOk j (i + 1) (n + f.code.length + f.name.length / 8) := by
  have h1 := hz.code
  have h2 := hz.name
  refine ⟨by omega, by rw [List.take_add_one, hf]; simp only [Option.toList_some]; rw [codeSum_snoc]; have := h.2.1; omega, fun t g ht hg => ?_⟩
  by_cases e : t = i
  · subst e
    rw [hf] at hg
    cases hg
    omega
  · have := h.2.2 t g (by omega) hg
    omega
def BigPost (j : JB) (w : World) (e : Ending) (w' : World) : Prop := ∃ b : Bool, e = .returned (.bool b) ∧ Keep [] w w' ∧ (b = false → JShort j ∧ j.args.length ≤ 100 ∧ codeSum j.funcs ≤ 2000)
theorem big_ret {j : JB} {w w' : World} {b : Bool} (k : Keep [] w w') (h : b = false → JShort j ∧ j.args.length ≤ 100 ∧ codeSum j.funcs ≤ 2000) : BigPost j w (.returned (.bool b)) w' := ⟨b, rfl, k, h⟩
theorem bigOk_short {j : JB} {n : Nat} (h : BigOk j j.funcs.length n) (hn : n ≤ 2000) (h60 : j.funcs.length ≤ 60) : JShort j :=
  ⟨by omega, fun f hf => by
    obtain ⟨t, ht⟩ := List.mem_iff_getElem?.1 hf
    have := (h.2.2 t f (get_lt ht) ht).2
    omega, fun f hf => by
    obtain ⟨t, ht⟩ := List.mem_iff_getElem?.1 hf
    have := (h.2.2 t f (get_lt ht) ht).1
    omega⟩
set_option maxHeartbeats 6400000 in
set_option maxRecDepth 100000 in
theorem big_spec {w : World} {jv : Value} {j : JB} (h : JobRd w jv j) (hz : JobSz j) : Calls Tryz.prog 11 #[jv] w (BigPost j w) := by
  obtain ⟨fa, fc, aa, ac, rfl, hf, ha⟩ := jobRd_cells h
  have kA : Keep [] w (w.alloc (.cells #[.slice fa j.funcs.length fc, .int .i64 j.main, .slice aa j.args.length ac, .int .i64 j.fuel, .int .i64 j.tasks] 25)) := (Keep.refl _ _).alloc _
  have bA : Blk (w.alloc (.cells #[.slice fa j.funcs.length fc, .int .i64 j.main, .slice aa j.args.length ac, .int .i64 j.fuel, .int .i64 j.tasks] 25)) w.heap.size 25 (jobC fa fc aa ac j) := Blk.new' _ _ _ _ rfl
  have H0 := Lib.hid (And.intro kA bA)
  have HF := Lib.hid (And.intro hf (And.intro ha hz))
  clear h hf ha hz kA bA
  rcases Nat.lt_or_ge 60 j.funcs.length with h60 | h60
  · have B : decide ((60 : Int) < (j.funcs.length : Int)) = true := decide_eq_true (by omega)
    clear h60
    go_enter Tryz.func11, Tryz.ntmps11
    go_wp2
    go_ret
    exact big_ret H0.out.1 (fun h => by cases h)
  have B60 : decide ((60 : Int) < (j.funcs.length : Int)) = false := decide_eq_false (by omega)
  rcases Nat.lt_or_ge 100 j.args.length with h100 | h100
  · have B : decide ((100 : Int) < (j.args.length : Int)) = true := decide_eq_true (by omega)
    clear h60 h100
    go_enter Tryz.func11, Tryz.ntmps11
    go_wp2
    go_ret
    exact big_ret H0.out.1 (fun h => by cases h)
  have B100 : decide ((100 : Int) < (j.args.length : Int)) = false := decide_eq_false (by omega)
  have HL := Lib.hid (And.intro h60 h100)
  have hlI : (j.funcs.length : Int) ≤ 60 := by omega
  clear h60 h100
  go_enter Tryz.func11, Tryz.ntmps11
  go_wp2_with fail
  generalize (w.alloc (.cells #[.slice fa j.funcs.length fc, .int .i64 j.main, .slice aa j.args.length ac, .int .i64 j.fuel, .int .i64 j.tasks] 25)) = w1 at *
  clear B60 B100
  go_loopw [3, 4] (fun vn vi wr => ∃ i n : Nat, i ≤ j.funcs.length ∧ vi = .int .i64 i ∧ vn = .int .i64 n ∧ BigOk j i n ∧ Keep [] w1 wr) (fun _ vi _ => j.funcs.length - (intOf vi).toNat)
  case atStart => exact ⟨0, 0, Nat.zero_le _, rfl, rfl, ⟨by omega, by simp [codeSum], fun t g ht => absurd ht (by omega)⟩, Keep.refl _ _⟩
  case round =>
    obtain ⟨i, n, hi, rfl, rfl, hok, hk⟩ := hrel
    have q1 := H0.out.2.keep hk (by simp)
    have a0 : wr.cell? ⟨w.heap.size, 0, none⟩ = some (.slice fa j.funcs.length fc) := q1.cell 0
    have HK := Lib.hid (And.intro hok (And.intro hk (H0.out.1.trans hk (by simp))))
    clear q1 hok hk
    by_cases hlt : i < j.funcs.length
    · have hltB : decide ((i : Int) < (j.funcs.length : Int)) = true := decide_eq_true (by omega)
      have hltI : (i : Int) < (j.funcs.length : Int) := by omega
      have hi0 : (0 : Int) ≤ (i : Int) := by omega
      rcases Nat.lt_or_ge 2000 n with hn | hn
      · have hnB : decide ((n : Int) ≤ 2000) = false := decide_eq_false (by omega)
        have hnB2 : decide ((2000 : Int) < (n : Int)) = true := decide_eq_true (by omega)
        clear hn
        go_wp2
        go_ret
        exact big_ret HK.out.2.2 (fun h => by cases h)
      · have hnB : decide ((n : Int) ≤ 2000) = true := decide_eq_true (by omega)
        obtain ⟨f, hfi⟩ := get_ex hlt
        obtain ⟨b, off, cv, hfa, hb, c0', c1', c2', c3', hcode⟩ := HF.out.1.at_ hfi
        have c0 := cell_keep0 HK.out.2.2 c0'
        have c3 := cell_keep0 HK.out.2.2 c3'
        subst hfa
        obtain ⟨ca, cc, rfl⟩ := hcode.shape
        have hz := HF.out.2.2.fns f (List.mem_of_getElem? hfi)
        have h1 := hz.code
        have h2 := hz.name
        have es : (strB f.name).size = f.name.length := strB_size _
        have hw1 : IntKind.i64.wrap ((n : Int) + (f.code.length : Int)) = (n : Int) + (f.code.length : Int) := IntWalk.i64_in _ (by omega)
        have HSM := Lib.hid (big_sum hn h1 h2)
        have HN := Lib.hid (HK.out.1.next hn hfi hz)
        clear c0' c1' c2' c3' hcode hfi hz h1 h2 hn hb
        go_wp2
        go_quiet (fail)
        go_wp2
        go_roundw
        case rel => exact ⟨i + 1, n + f.code.length + f.name.length / 8, by omega, by go_num, by rw [← HSM.out], HN.out, HK.out.2.1.drewN _⟩
        case measure => simp [intOf]; omega
    · obtain rfl : i = j.funcs.length := by omega
      have hltB : decide ((j.funcs.length : Int) < (j.funcs.length : Int)) = false := decide_eq_false (by omega)
      rcases Nat.lt_or_ge 2000 n with hn | hn
      · have hnB2 : decide ((2000 : Int) < (n : Int)) = true := decide_eq_true (by omega)
        clear hn
        go_wp2
        go_ret
        exact big_ret HK.out.2.2 (fun h => by cases h)
      · have hnB2 : decide ((2000 : Int) < (n : Int)) = false := decide_eq_false (by omega)
        have HS := Lib.hid (bigOk_short HK.out.1 hn HL.out.1)
        have HSU := Lib.hid (show codeSum j.funcs ≤ 2000 from by have h9 := HK.out.1.2.1; rw [List.take_length] at h9; omega)
        clear hn
        go_wp2
        go_ret
        exact big_ret HK.out.2.2 (fun _ => ⟨HS.out, HL.out.2, HSU.out⟩)
/-! ### a job that is no more than that has a short text -/
theorem insLine_small {j : JB} (h : PlainJ j) {i : IN} (hi : i.In) (hn : i.op = 16 → nameL (fnAt j i.n) = true) : (insLine j i).length ≤ 29 := by
  have h1 := opName_len i.op
  by_cases h16 : i.op = 16
  · rw [insLine_16 h16]
    have := nameL_len (hn h16)
    simp
    omega
  · by_cases hh : hasN i.op = true
    · rw [insLine_has h16 hh]
      have := itoa_le hi.n
      simp
      omega
    · rw [insLine_no h16 (by simpa using hh)]
      simp
      omega
theorem funcLine_small {f : FN} (hf : f.In) (hn : nameL f.name = true) : (funcLine f).length ≤ 69 := by
  have h1 := nameL_len hn
  have h2 := itoa_le hf.args
  have h3 := itoa_le hf.locals
  unfold funcLine
  simp [glue, wFunc]
  omega
theorem codes_small {j : JB} (h : PlainJ j) : ∀ l : List IN, (∀ i ∈ l, i.In ∧ (i.op = 16 → nameL (fnAt j i.n) = true)) → (textL (l.map (insLine j))).length ≤ l.length * 30
  | [], _ => by simp [textL]
  | i :: l, hl => by
    have ih := codes_small h l (fun x hx => hl x (by simp [hx]))
    have h1 := insLine_small h (hl i (by simp)).1 (hl i (by simp)).2
    rw [List.map_cons]
    have e : textL (insLine j i :: l.map (insLine j)) = insLine j i ++ [10] ++ textL (l.map (insLine j)) := by simp [textL]
    rw [e, List.length_append, List.length_append, List.length_cons]
    simp
    omega
theorem fns_small {j : JB} (h : PlainJ j) : ∀ gs : List FN, (∀ g ∈ gs, g.In ∧ nameL g.name = true ∧ ∀ i ∈ g.code, i.op = 16 → nameL (fnAt j i.n) = true) → (textL (gs.flatMap (fnLines j))).length ≤ gs.length * 70 + codeSum gs * 30
  | [], _ => by simp [textL]
  | g :: gs, hg => by
    have ih := fns_small h gs (fun x hx => hg x (by simp [hx]))
    obtain ⟨h1, h2, h3⟩ := hg g (by simp)
    have h4 := funcLine_small h1 h2
    have h5 := codes_small h g.code (fun i hi => ⟨h1.code i hi, h3 i hi⟩)
    rw [List.flatMap_cons, textL_app, List.length_append]
    have e : textL (fnLines j g) = funcLine g ++ [10] ++ textL (g.code.map (insLine j)) := by simp [textL, fnLines]
    have e2 : codeSum (g :: gs) = g.code.length + codeSum gs := by simp [codeSum]
    rw [e, List.length_append, List.length_append, List.length_cons, e2]
    simp
    omega
theorem printJ_small {j : JB} (h : PlainJ j) (hj : j.In) (hs : codeSum j.funcs ≤ 2000) : (printJ j).length ≤ 131072 := by
  rw [printJ_plain h]
  have h1 := fns_small h j.funcs (fun g hg => ⟨hj.funcs g hg, (h.fnm hg).1, fun i hi h16 => (h.name (plainI_16 (h.ins hg hi) h16).1 (plainI_16 (h.ins hg hi) h16).2).choose_spec.2.2⟩)
  have h2 := h.few
  have h3 := (lines_short h hj).job
  have h4 := (lines_short h hj).main
  have e1 : (jobLine j).length = 4 + (glue 32 [Lib.itoa j.fuel, Lib.itoa j.tasks]).length := by rw [← jobLine_eq]; simp [wJob]; omega
  have e2 : (mainLine j).length = 5 + (glue 32 (fnAt j j.main :: j.args.map Lib.itoa)).length := by rw [← mainLine_eq]; simp [wMain]; omega
  unfold linesJ
  have e3 : textL (jobLine j :: mainLine j :: (j.funcs.flatMap (fnLines j) ++ [wEnd])) = jobLine j ++ [10] ++ (mainLine j ++ [10] ++ (textL (j.funcs.flatMap (fnLines j)) ++ (wEnd ++ [10]))) := by simp [textL]
  rw [e3]
  simp only [List.length_append, e1, e2]
  simp [wEnd]
  omega
end Go.Proofs.YtbdkmfcgnolihaaGreatDoor
namespace Go.Proofs.YtbdkmfcgnolihaaGreatDoor
set_option linter.unusedSimpArgs false
set_option linter.unnecessarySimpa false
set_option linter.unusedVariables false
open Go.RowKit
set_option maxHeartbeats 1600000 in
theorem rgoodName_big (w : World) (bs : BS) (hl : bs.length ≤ 140737488351232) : Calls Tryz.prog 23 #[.string (strB bs)] w fun e w' => e = .returned (.bool (nameL bs)) ∧ w' = w := by
  have es : (strB bs).size = bs.length := strB_size bs
  have hlI : (bs.length : Int) ≤ 140737488351232 := by omega
  obtain ⟨R, hR⟩ : ∃ R, R = nameL bs := ⟨_, rfl⟩
  rw [← hR]
  have HR := Lib.hid hR
  clear hR
  go_enter Tryz.func23, Tryz.ntmps23
  go_wp2
  go_loopw [3, 4] (fun v _ wr => w = wr ∧ ∃ i : Nat, i ≤ bs.length ∧ i ≤ 21 ∧ v = .int .i64 i ∧ ∀ (j : Nat) (x : UInt8), j < i → bs[j]? = some x → nameC (j == 0) x = true) (fun v _ _ => bs.length - (intOf v).toNat)
  case atStart => exact ⟨rfl, 0, by omega, by omega, rfl, fun j x hj => absurd hj (by omega)⟩
  case round =>
    obtain ⟨rfl, i, hi, hi21, rfl, hall⟩ := hrel
    have Hall := Lib.hid hall
    clear hall
    by_cases hlt : i < bs.length
    · have hltI : (i : Int) < (bs.length : Int) := by omega
      by_cases h20 : i ≤ 20
      · have hiI : (i : Int) ≤ 20 := by omega
        have hi0 : (0 : Int) ≤ (i : Int) := by omega
        obtain ⟨x, hx⟩ : ∃ x, bs[i]? = some x := ⟨_, List.getElem?_eq_getElem hlt⟩
        have hget : ∀ h, ((strB bs)[i]'h) = x := fun h => by rw [strB_at]; exact (List.getElem?_eq_some_iff.1 hx).2
        have hnext : nameC (i == 0) x = true → ∀ (j : Nat) (y : UInt8), j < i + 1 → bs[j]? = some y → nameC (j == 0) y = true := by
          intro hc j y hj hy
          by_cases e : j = i
          · subst e; rw [hx] at hy; cases hy; exact hc
          · exact Hall.out j y (by omega) hy
        have hbad : nameC (i == 0) x = false → R = false := by
          intro hc
          rw [HR.out]
          cases h : nameL bs with
          | false => rfl
          | true => rw [((nameL_iff bs).1 h).2.2 i x hx] at hc; cases hc
        by_cases h1 : 97 ≤ x.toNat ∧ x.toNat ≤ 122
        · have i1 : (97 : Int) ≤ (x.toNat : Int) := by omega
          have i2 : (x.toNat : Int) ≤ 122 := by omega
          have Hn := Lib.hid (hnext (by unfold nameC; simp; omega))
          clear hi h1 hx hnext hbad
          go_wp2
          go_roundw
          case rel => exact ⟨trivial, i + 1, by omega, by omega, by go_num, Hn.out⟩
          case measure => simp [intOf]; omega
        · by_cases hd : 0 < i ∧ 48 ≤ x.toNat ∧ x.toNat ≤ 57
          · have i0 : (0 : Int) < (i : Int) := by omega
            have i1 : (48 : Int) ≤ (x.toNat : Int) := by omega
            have i2 : (x.toNat : Int) ≤ 57 := by omega
            have i3 : (x.toNat : Int) < 97 := by omega
            have Hn := Lib.hid (hnext (by unfold nameC; simp; omega))
            clear hi h1 hx hd hnext hbad
            go_wp2
            go_roundw
            case rel => exact ⟨trivial, i + 1, by omega, by omega, by go_num, Hn.out⟩
            case measure => simp [intOf]; omega
          · obtain rfl : R = false := hbad (by
              unfold nameC
              rw [Bool.eq_false_iff]
              intro hc
              simp at hc
              omega)
            clear hi hx hnext hbad Hall
            by_cases h97 : x.toNat < 97
            · have i3 : (x.toNat : Int) < 97 := by omega
              by_cases hz : i = 0
              · subst hz
                clear h1 hd
                go_wp2
                go_ret
                exact ⟨rfl, rfl⟩
              · have i0 : (0 : Int) < (i : Int) := by omega
                by_cases h48 : x.toNat < 48
                · have i4 : (x.toNat : Int) < 48 := by omega
                  clear h1 hd
                  go_wp2
                  go_ret
                  exact ⟨rfl, rfl⟩
                · have i4 : (48 : Int) ≤ (x.toNat : Int) := by omega
                  have i5 : decide ((x.toNat : Int) ≤ 57) = false := by simp; omega
                  clear h1 hd
                  go_wp2
                  go_ret
                  exact ⟨rfl, rfl⟩
            · have i3 : (97 : Int) ≤ (x.toNat : Int) := by omega
              have i4 : decide ((x.toNat : Int) ≤ 122) = false := by simp; omega
              have i5 : (48 : Int) ≤ (x.toNat : Int) := by omega
              have i6 : decide ((x.toNat : Int) ≤ 57) = false := by simp; omega
              clear h1 hd
              by_cases hz : i = 0
              · subst hz
                go_wp2
                go_ret
                exact ⟨rfl, rfl⟩
              · have i0 : (0 : Int) < (i : Int) := by omega
                go_wp2
                go_ret
                exact ⟨rfl, rfl⟩
      · obtain rfl : i = 21 := by omega
        obtain rfl : R = false := by
          rw [HR.out]
          cases h : nameL bs with
          | false => rfl
          | true => have := nameL_len h; omega
        have h20I : (20 : Int) < (bs.length : Int) := by omega
        have hem := strB_empty (bs := bs) (by rintro rfl; simp at hlt)
        have h20D : decide ((bs.length : Int) ≤ 20) = false := by simp; omega
        clear hi
        go_wp2
        go_ret
        exact ⟨rfl, rfl⟩
    · obtain rfl : i = bs.length := by omega
      by_cases h0 : bs = []
      · subst h0
        obtain rfl : R = false := HR.out
        have he : (strB ([] : BS)).toList.isEmpty = true := by rw [strB_toList]; rfl
        go_wp2
        go_ret
        exact ⟨rfl, rfl⟩
      · have hem := strB_empty h0
        by_cases h20 : bs.length ≤ 20
        · have h20I : (bs.length : Int) ≤ 20 := by omega
          obtain rfl : R = true := by
            rw [HR.out]
            exact (nameL_iff bs).2 ⟨h0, h20, fun j x hx => Hall.out j x (List.getElem?_eq_some_iff.1 hx).1 hx⟩
          clear hi hi21 h20 hlt
          go_wp2
          go_ret
          exact ⟨rfl, rfl⟩
        · have h20I : decide ((bs.length : Int) ≤ 20) = false := by simp; omega
          obtain rfl : R = false := by
            rw [HR.out]
            cases h : nameL bs with
            | false => rfl
            | true => have := nameL_len h; omega
          clear hi hi21 h20 hlt
          go_wp2
          go_ret
          exact ⟨rfl, rfl⟩
set_option maxHeartbeats 12800000 in
set_option maxRecDepth 100000 in
theorem bplain_loop {w : World} {jv : Value} {j : JB} (h : JobRd w jv j) (hs : JobSz j) (h1 : j.funcs.length ≤ 32) (h2 : j.args.length ≤ 8) (h3 : 0 ≤ j.main) (h4 : j.main < j.funcs.length) :
    Calls Tryz.prog 12 #[jv] w (PlainPost (plainFs j.funcs.length [] j.funcs) w) := by
  obtain ⟨fa, fc, aa, ac, rfl, hf, ha⟩ := jobRd_cells h
  obtain ⟨R, hR⟩ : ∃ R, R = plainFs j.funcs.length [] j.funcs := ⟨_, rfl⟩
  rw [← hR]
  have HS := Lib.hid hs
  have HF := Lib.hid hf
  have hnI : (j.funcs.length : Int) ≤ 32 := by omega
  have haI : (j.args.length : Int) ≤ 8 := by omega
  have HN32 := Lib.hid h1
  have kA : Keep [] w (w.alloc (.cells #[.slice fa j.funcs.length fc, .int .i64 j.main, .slice aa j.args.length ac, .int .i64 j.fuel, .int .i64 j.tasks] 25)) := (Keep.refl _ _).alloc _
  have bA : Blk (w.alloc (.cells #[.slice fa j.funcs.length fc, .int .i64 j.main, .slice aa j.args.length ac, .int .i64 j.fuel, .int .i64 j.tasks] 25)) w.heap.size 25 (jobC fa fc aa ac j) := Blk.new' _ _ _ _ rfl
  have H0 := Lib.hid (And.intro kA bA)
  have HR := Lib.hid hR
  clear h hs hf ha hR h1 h2 kA bA
  go_enter Tryz.func12, Tryz.ntmps12
  go_wp2_with fail
  generalize (w.alloc (.cells #[.slice fa j.funcs.length fc, .int .i64 j.main, .slice aa j.args.length ac, .int .i64 j.fuel, .int .i64 j.tasks] 25)) = w1 at *
  go_loopw [3, 4, 5, 6, 7, 8] (fun vi _ _ _ _ _ wr => ∃ i : Nat, i ≤ j.funcs.length ∧ vi = .int .i64 i ∧ Keep [] w1 wr ∧ plainFs j.funcs.length ((j.funcs.take i).map FN.name) (j.funcs.drop i) = R) (fun vi _ _ _ _ _ _ => j.funcs.length - (intOf vi).toNat)
  case atStart => exact ⟨0, Nat.zero_le _, rfl, Keep.refl _ _, HR.out.symm⟩
  case round =>
    obtain ⟨i, hi, rfl, hk, hr⟩ := hrel
    have q1 := H0.out.2.keep hk (by simp)
    have a0 : wr.cell? ⟨w.heap.size, 0, none⟩ = some (.slice fa j.funcs.length fc) := q1.cell 0
    have KW := Lib.hid (H0.out.1.trans hk (by simp))
    clear q1
    by_cases hlt : i < j.funcs.length
    · have hltI : (i : Int) < (j.funcs.length : Int) := by omega
      have hiI : (i : Int) ≤ 32 := by omega
      obtain ⟨f, hfi⟩ := get_ex hlt
      have hmem := List.mem_of_getElem? hfi
      have hnm := (HS.out.fns f hmem).name
      have hcl := (HS.out.fns f hmem).code
      obtain ⟨b, off, cv, hfa, hb, c0', c1', c2', c3', hcode⟩ := HF.out.at_ hfi
      have c0 := cell_keep0 KW.out c0'
      have c1 := cell_keep0 KW.out c1'
      have c2 := cell_keep0 KW.out c2'
      have c3 := cell_keep0 KW.out c3'
      clear c0' c1' c2' c3'
      subst hfa
      obtain ⟨ca, cc, rfl⟩ := hcode.shape
      rw [plainFs_here hfi] at hr
      have ht : ((j.funcs.take (i + 1)).map FN.name) = (j.funcs.take i).map FN.name ++ [f.name] := by rw [List.take_add_one, hfi, List.map_append]; rfl
      obtain ⟨sn, hsn⟩ : ∃ sn, sn = (j.funcs.take i).map FN.name := ⟨_, rfl⟩
      rw [← hsn] at hr ht
      have kb : Keep [] wr (wr.alloc (.cells #[.string (strB f.name), .int .i64 f.args, .int .i64 f.locals, .slice ca f.code.length cc] 36)) := (Keep.refl _ _).alloc _
      have bb : Blk (wr.alloc (.cells #[.string (strB f.name), .int .i64 f.args, .int .i64 f.locals, .slice ca f.code.length cc] 36)) wr.heap.size 36 [.string (strB f.name), .int .i64 f.args, .int .i64 f.locals, .slice ca f.code.length cc] := Blk.new' _ _ _ _ rfl
      have GA := Lib.hid (And.intro hsn (And.intro hk (And.intro hcode (And.intro hnm (And.intro hcl (And.intro hfi ht))))))
      have KB := Lib.hid (And.intro kb bb)
      have HR2 := Lib.hid hr
      clear hr kb bb hcode hnm hmem hfi ht hb hsn hk
      go_upto_region 7 with fail
      have a0' := cell_keep0 KB.out.1 a0
      clear a0 c0 c1 c2 c3
      generalize (wr.alloc (.cells #[.string (strB f.name), .int .i64 f.args, .int .i64 f.locals, .slice ca f.code.length cc] 36)) = w2 at *
      generalize wr.heap.size = gb at *
      have b0 : w2.cell? ⟨gb, 0, none⟩ = some (.string (strB f.name)) := KB.out.2.cell 0
      have b3 : w2.cell? ⟨gb, 3, none⟩ = some (.slice ca f.code.length cc) := KB.out.2.cell 3
      go_wp2_with fail
      refine (rgoodName_big _ f.name GA.out.2.2.2.1).mono ?_
      rintro e w3 ⟨rfl, rfl⟩
      by_cases hn : nameL f.name = true
      · rw [hn]
        by_cases h256 : f.code.length ≤ 256
        · have h256I : (f.code.length : Int) ≤ 256 := by omega
          have HN := Lib.hid hn
          clear hn h256
          go_wp2_with fail
          go_loopw [6] (fun vq wq => ∃ q : Nat, q ≤ i ∧ vq = .int .i64 q ∧ Keep [] w3 wq ∧ ∀ (t : Nat) (g : FN), t < q → j.funcs[t]? = some g → g.name ≠ f.name) (fun vq _ => i - (intOf vq).toNat)
          case atStart => exact ⟨0, Nat.zero_le _, rfl, Keep.refl _ _, fun t g ht => absurd ht (by omega)⟩
          case round =>
            obtain ⟨q, hq, rfl, hkq, hall⟩ := hrel
            have a1 := cell_keep0 hkq a0'
            have d0 := cell_keep0 hkq b0
            have d3 := cell_keep0 hkq b3
            have HQ := Lib.hid (And.intro hkq hall)
            clear hall a0' b0 b3 hkq
            by_cases hlq : q < i
            · have hlqI : (q : Int) < (i : Int) := by omega
              have hq0 : (0 : Int) ≤ (q : Int) := by omega
              have hqn : (q : Int) < (j.funcs.length : Int) := by omega
              obtain ⟨g, hg⟩ := get_ex (show q < j.funcs.length by omega)
              obtain ⟨b', off', cv', hfa', _, e0', _, _, _, _⟩ := HF.out.at_ hg
              injection hfa' with hfa'
              injection hfa' with e1 e2
              subst e1 e2
              have e0 := cell_keep0 (((KW.out.trans KB.out.1 (by simp)).trans HQ.out.1 (by simp))) e0'
              have HG := Lib.hid hg
              clear e0' hg d3
              by_cases heq : g.name = f.name
              · have hst : ((strB g.name).toList == (strB f.name).toList) = true := by rw [heq]; simp
                have HF2 := Lib.hid (show R = false by rw [← HR2.out, yes_contains GA.out.1 hlq HG.out heq]; rfl)
                clear heq
                go_wp2
                go_quiet (fail)
                go_wp2
                go_ret
                exact plain_ret HF2.out (((KW.out.trans KB.out.1 (by simp)).trans HQ.out.1 (by simp)).drewN _)
              · have hst : ((strB g.name).toList == (strB f.name).toList) = false := by rw [strB_toList, strB_toList]; simpa using heq
                have HNE := Lib.hid heq
                clear heq
                go_wp2
                go_quiet (fail)
                go_wp2
                go_roundw
                case rel => exact ⟨q + 1, by omega, by go_num, HQ.out.1.drewN _, fun t g' ht hg' => by
                  by_cases e : t = q
                  · subst e
                    rw [HG.out] at hg'
                    cases hg'
                    exact HNE.out
                  · exact HQ.out.2 t g' (by omega) hg'⟩
                case measure => simp [intOf]; omega
            · obtain rfl : q = i := by omega
              have hsc : sn.contains f.name = false := not_contains GA.out.1 HQ.out.2
              have HR3 := Lib.hid (show (f.code.all (plainI j.funcs.length) && plainFs j.funcs.length (sn ++ [f.name]) (j.funcs.drop (q + 1))) = R by
                rw [← HR2.out, hsc]
                unfold plainF
                have : f.code.length ≤ 256 := by omega
                simp [HN.out, this])
              have KQ := Lib.hid ((KW.out.trans KB.out.1 (by simp)).trans HQ.out.1 (by simp))
              have HC3 := Lib.hid (show CodeRd wr (.slice ca f.code.length cc) f.code from GA.out.2.2.1.keep0 KQ.out)
              clear hsc
              have hclI : (f.code.length : Int) ≤ 1000000 := by omega
              generalize wr = w5 at *
              go_wp2_with fail
              go_loopw [7, 8] (fun vq _ wq => ∃ s : Nat, s ≤ f.code.length ∧ vq = .int .i64 s ∧ Keep [] w5 wq ∧ ∀ (t : Nat) (x : IN), t < s → f.code[t]? = some x → plainI j.funcs.length x = true) (fun vq _ _ => f.code.length - (intOf vq).toNat)
              case atStart => exact ⟨0, Nat.zero_le _, rfl, Keep.refl _ _, fun t x ht => absurd ht (by omega)⟩
              case round =>
                obtain ⟨s, hs, rfl, hks, hall⟩ := hrel
                have x1 := cell_keep0 hks a1
                have x3 := cell_keep0 hks d3
                clear a1 d3 d0
                by_cases hls : s < f.code.length
                · have hlsI : (s : Int) < (f.code.length : Int) := by omega
                  have hs0 : (0 : Int) ≤ (s : Int) := by omega
                  obtain ⟨x, hx⟩ := get_ex hls
                  obtain ⟨g2, o2, hca, _, y0, y1⟩ := (HC3.out.keep0 hks).at_ hx
                  subst hca
                  have G4 := Lib.hid (And.intro hks (And.intro hall hx))
                  obtain ⟨pb, hpb⟩ : ∃ pb, pb = plainI j.funcs.length x := ⟨_, rfl⟩
                  have HP := Lib.hid (show ∀ w', Calls Tryz.prog 24 #[.agg #[.int .i64 x.op, .int .i64 x.n], .int .i64 j.funcs.length] w' (PlainPost pb w') from fun w' => by rw [hpb]; exact rplainI_spec w' x.op x.n j.funcs.length (Nat.le_trans HN32.out (by decide)))
                  have HPB := Lib.hid hpb
                  clear hks hall hx hpb
                  go_upto_region 18 with fail
                  go_region_held3 (fun w' => w'.cell? ⟨w.heap.size, 0, none⟩ = some (.slice (some ⟨b, off, none⟩) j.funcs.length fc) ∧ w'.cell? ⟨gb, 3, none⟩ = some (.slice (some ⟨g2, o2, none⟩) f.code.length cc) ∧ w'.cell? ⟨g2, o2 + s * 2, none⟩ = some (.int .i64 x.op) ∧ w'.cell? ⟨g2, o2 + s * 2 + 1, none⟩ = some (.int .i64 x.n)) (first | with_reducible exact cell4_drwR (w := wr) ⟨x1, x3, y0, y1⟩ | with_reducible exact ⟨q0, q1, q2, q3⟩)
                    (first | ((go_at_call 24; with_reducible refine (HP.out _).mono ?_); go_must (rintro e9 w9 ⟨rfl, hk9⟩; have q0 := cell_keep0 hk9.of_drew x1; have q1 := cell_keep0 hk9.of_drew x3; have q2 := cell_keep0 hk9.of_drew y0; have q3 := cell_keep0 hk9.of_drew y1; have H9 := Lib.hid hk9.of_drew; clear hk9)))
                  cases pb with
                  | true =>
                    have HA := Lib.hid (show ∀ (t : Nat) (y : IN), t < s + 1 → f.code[t]? = some y → plainI j.funcs.length y = true from fun t y ht hy => by
                      by_cases e : t = s
                      · subst e
                        rw [G4.out.2.2] at hy
                        cases hy
                        exact HPB.out.symm
                      · exact G4.out.2.1 t y (by omega) hy)
                    go_wp2
                    go_roundw
                    case rel => exact ⟨s + 1, by omega, by go_num, G4.out.1.trans H9.out (by simp), HA.out⟩
                    case measure => simp [intOf]; omega
                  | false =>
                    have HF2 := Lib.hid (show R = false by
                      rw [← HR3.out]
                      have : f.code.all (plainI j.funcs.length) = false := by
                        rw [List.all_eq_false]
                        exact ⟨x, List.mem_of_getElem? G4.out.2.2, by rw [← HPB.out]; simp⟩
                      rw [this]; rfl)
                    go_wp2
                    go_ret
                    exact plain_ret HF2.out ((KQ.out.trans G4.out.1 (by simp)).trans H9.out (by simp))
                · obtain rfl : s = f.code.length := by omega
                  have HX := Lib.hid (And.intro hks (show plainFs j.funcs.length (sn ++ [f.name]) (j.funcs.drop (q + 1)) = R by
                    rw [← HR3.out]
                    have : f.code.all (plainI j.funcs.length) = true := List.all_eq_true.2 (fun x hx => by
                      obtain ⟨t, ht⟩ := List.mem_iff_getElem?.1 hx
                      exact hall t x (get_lt ht) ht)
                    rw [this]; rfl))
                  clear hks hall
                  go_wp2
                  go_roundw
                  case rel => exact ⟨q + 1, by omega, by go_num, ((GA.out.2.1.trans KB.out.1 (by simp)).trans HQ.out.1 (by simp)).trans HX.out.1 (by simp), by rw [GA.out.2.2.2.2.2.2]; exact HX.out.2⟩
                  case measure => simp [intOf]; omega
        · have h256I : (256 : Int) < (f.code.length : Int) := by omega
          have HF2 := Lib.hid (show R = false by rw [← HR2.out]; unfold plainF; simp [h256])
          clear hn h256
          go_wp2
          go_ret
          exact plain_ret HF2.out (KW.out.trans KB.out.1 (by simp))
      · have hn' : nameL f.name = false := by simpa using hn
        rw [hn']
        have HF2 := Lib.hid (show R = false by rw [← HR2.out]; unfold plainF; simp [hn'])
        clear hn hn'
        go_wp2
        go_ret
        exact plain_ret HF2.out (KW.out.trans KB.out.1 (by simp))
    · obtain rfl : i = j.funcs.length := by omega
      rw [List.drop_length] at hr
      have HX := Lib.hid hr
      clear hr
      go_wp2
      go_ret
      exact plain_ret HX.out.symm KW.out
theorem bplainJ_spec {w : World} {jv : Value} {j : JB} (h : JobRd w jv j) (hs : JobSz j) : Calls Tryz.prog 12 #[jv] w (PlainPost (plainJ j) w) := by
  by_cases h1 : j.funcs.length ≤ 32
  · by_cases h2 : j.args.length ≤ 8
    · by_cases h3 : 0 ≤ j.main
      · by_cases h4 : j.main < j.funcs.length
        · refine (bplain_loop h hs h1 h2 h3 h4).mono fun e w' hh => ?_
          have : plainJ j = plainFs j.funcs.length [] j.funcs := by unfold plainJ; simp [h1, h2, h3, h4]
          rw [this]; exact hh
        · have hf : plainJ j = false := by unfold plainJ; simp [h4]
          rw [hf]
          obtain ⟨fa, fc, aa, ac, rfl, _, _⟩ := jobRd_cells h
          have i1 : (j.funcs.length : Int) ≤ 32 := by omega
          have i2 : (j.args.length : Int) ≤ 8 := by omega
          have i4 : (j.funcs.length : Int) ≤ j.main := by omega
          clear h hs h1 h2 h4 hf
          go_enter Tryz.func12, Tryz.ntmps12
          go_wp2
          go_ret
          exact ⟨rfl, (Keep.refl _ _).alloc _⟩
      · have hf : plainJ j = false := by unfold plainJ; simp; omega
        rw [hf]
        obtain ⟨fa, fc, aa, ac, rfl, _, _⟩ := jobRd_cells h
        have i1 : (j.funcs.length : Int) ≤ 32 := by omega
        have i2 : (j.args.length : Int) ≤ 8 := by omega
        have i3 : j.main < 0 := by omega
        clear h hs h1 h2 h3 hf
        go_enter Tryz.func12, Tryz.ntmps12
        go_wp2
        go_ret
        exact ⟨rfl, (Keep.refl _ _).alloc _⟩
    · have hf : plainJ j = false := by unfold plainJ; simp [h2]
      rw [hf]
      obtain ⟨fa, fc, aa, ac, rfl, _, _⟩ := jobRd_cells h
      have i1 : (j.funcs.length : Int) ≤ 32 := by omega
      have i2 : (8 : Int) < (j.args.length : Int) := by omega
      clear h hs h1 h2 hf
      go_enter Tryz.func12, Tryz.ntmps12
      go_wp2
      go_ret
      exact ⟨rfl, (Keep.refl _ _).alloc _⟩
  · have hf : plainJ j = false := by unfold plainJ; simp [h1]
    rw [hf]
    obtain ⟨fa, fc, aa, ac, rfl, _, _⟩ := jobRd_cells h
    have i1 : (32 : Int) < (j.funcs.length : Int) := by omega
    clear h hs h1 hf
    go_enter Tryz.func12, Tryz.ntmps12
    go_wp2
    go_ret
    exact ⟨rfl, (Keep.refl _ _).alloc _⟩
end Go.Proofs.YtbdkmfcgnolihaaGreatDoor
namespace Go.Proofs.YtbdkmfcgnolihaaGreatDoor
set_option linter.unusedSimpArgs false
set_option linter.unnecessarySimpa false
set_option linter.unusedVariables false
open Go.RowKit
open Go.ChangeMaps (open_string)
theorem linesL_text {ls : List BS} (h : ∀ l ∈ ls, ∀ b ∈ l, b ≠ 10) : (linesL (textL ls)).1 = ls := by
  unfold linesL
  rw [pieces_text _ h, if_pos (by simp), List.dropLast_concat]
theorem len_data (s : ByteArray) : s.data.toList.length = s.size := Array.length_toList
theorem linesJ_pos (j : JB) : 0 < (linesJ j).length := by unfold linesJ; simp
theorem rem_ok (a n : Nat) (hn : 0 < n) : ∃ k : Nat, Int.tmod (a : Int) (n : Int) = (k : Int) ∧ k < n := ⟨a % n, rfl, Nat.mod_lt _ hn⟩
set_option maxHeartbeats 12800000 in
set_option maxRecDepth 100000 in
theorem lines_walk {w : World} {jv : Value} {j : JB} (hE : Env1 w) (h : JobRd w jv j) (hj : j.In) (hz : JobSz j) (a wt : Int) (hwt : (Lit.int .i64 wt).wf = true) (mo : ByteArray) : Calls Tryz.prog 5 #[jv, .int .i64 a, .int .i64 wt, .string mo] w fun e w' => e = .returned (.bool true) ∧ Keep [] w w' := by
  have HE := Lib.hid hE
  have HJ := Lib.hid (And.intro h (And.intro hj hz))
  obtain ⟨fa, fc, aa, ac, rfl, _, _⟩ := jobRd_cells h
  have kA : Keep [] w (w.alloc (.cells #[.slice fa j.funcs.length fc, .int .i64 j.main, .slice aa j.args.length ac, .int .i64 j.fuel, .int .i64 j.tasks] 25)) := (Keep.refl _ _).alloc _
  have bA : Blk (w.alloc (.cells #[.slice fa j.funcs.length fc, .int .i64 j.main, .slice aa j.args.length ac, .int .i64 j.fuel, .int .i64 j.tasks] 25)) w.heap.size 25 (jobC fa fc aa ac j) := Blk.new' _ _ _ _ rfl
  have H1 := Lib.hid (And.intro kA bA)
  clear hE h hj hz kA bA
  go_enter Tryz.func5, Tryz.ntmps5
  go_upto_region 1 with fail
  generalize (w.alloc (.cells #[.slice fa j.funcs.length fc, .int .i64 j.main, .slice aa j.args.length ac, .int .i64 j.fuel, .int .i64 j.tasks] 25)) = w1 at *
  generalize w.heap.size = g1 at *
  go_wp2_with fail
  refine (alive_spec (HE.out.keep H1.out.1)).mono ?_
  rintro e w2 ⟨rfl, hk⟩
  have H2 := Lib.hid (And.intro (H1.out.1.trans hk (by simp)) (H1.out.2.keep hk (by simp)))
  clear hk
  have z0 : w2.cell? ⟨g1, 0, none⟩ = some (.slice fa j.funcs.length fc) := H2.out.2.cell 0
  have z1 : w2.cell? ⟨g1, 1, none⟩ = some (.int .i64 j.main) := H2.out.2.cell 1
  have z2 : w2.cell? ⟨g1, 2, none⟩ = some (.slice aa j.args.length ac) := H2.out.2.cell 2
  have z3 : w2.cell? ⟨g1, 3, none⟩ = some (.int .i64 j.fuel) := H2.out.2.cell 3
  have z4 : w2.cell? ⟨g1, 4, none⟩ = some (.int .i64 j.tasks) := H2.out.2.cell 4
  go_wp2_with fail
  refine (big_spec (HJ.out.1.keep0 H2.out.1) HJ.out.2.2).mono ?_
  rintro e w3 ⟨b, rfl, hk, hbig⟩
  have H3 := Lib.hid (And.intro (H2.out.1.trans hk (by simp)) (H2.out.2.keep hk (by simp)))
  clear hk
  clear z0 z1 z2 z3 z4
  have y0 : w3.cell? ⟨g1, 0, none⟩ = some (.slice fa j.funcs.length fc) := H3.out.2.cell 0
  have y1 : w3.cell? ⟨g1, 1, none⟩ = some (.int .i64 j.main) := H3.out.2.cell 1
  have y2 : w3.cell? ⟨g1, 2, none⟩ = some (.slice aa j.args.length ac) := H3.out.2.cell 2
  have y3 : w3.cell? ⟨g1, 3, none⟩ = some (.int .i64 j.fuel) := H3.out.2.cell 3
  have y4 : w3.cell? ⟨g1, 4, none⟩ = some (.int .i64 j.tasks) := H3.out.2.cell 4
  go_wp2_with fail
  refine (bplainJ_spec (HJ.out.1.keep0 H3.out.1) HJ.out.2.2).mono ?_
  rintro e w4 ⟨rfl, hk⟩
  have H4 := Lib.hid (And.intro (H3.out.1.trans hk (by simp)) (H3.out.2.keep hk (by simp)))
  clear hk
  clear y0 y1 y2 y3 y4
  cases b with
  | true =>
    go_wp2
    go_ret
    exact ⟨rfl, H4.out.1⟩
  | false =>
    have HS := Lib.hid (hbig rfl)
    clear hbig
    by_cases hp : plainJ j = true
    · rw [hp]
      have hpj := (plainJ_iff j).1 hp
      have HPJ := Lib.hid hpj
      clear hp hpj
      rcases Int.lt_or_le a 0 with ha | ha
      · have B1 : decide (a < 0) = true := decide_eq_true ha
        clear ha
        go_wp2
        go_ret
        exact ⟨rfl, H4.out.1⟩
      rcases Nat.lt_or_ge 50 mo.size with hmo | hmo
      · have B1 : decide (a < 0) = false := decide_eq_false (by omega)
        have B2 : decide ((50 : Int) < (mo.size : Int)) = true := decide_eq_true (by omega)
        clear ha hmo
        go_wp2
        go_ret
        exact ⟨rfl, H4.out.1⟩
      obtain ⟨an, rfl⟩ := Int.eq_ofNat_of_zero_le ha
      have B1 : decide ((an : Int) < 0) = false := decide_eq_false (by omega)
      have B2 : decide ((50 : Int) < (mo.size : Int)) = false := decide_eq_false (by omega)
      have HMO := Lib.hid hmo
      have y0 : w4.cell? ⟨g1, 0, none⟩ = some (.slice fa j.funcs.length fc) := H4.out.2.cell 0
      have y1 : w4.cell? ⟨g1, 1, none⟩ = some (.int .i64 j.main) := H4.out.2.cell 1
      have y2 : w4.cell? ⟨g1, 2, none⟩ = some (.slice aa j.args.length ac) := H4.out.2.cell 2
      have y3 : w4.cell? ⟨g1, 3, none⟩ = some (.int .i64 j.fuel) := H4.out.2.cell 3
      have y4 : w4.cell? ⟨g1, 4, none⟩ = some (.int .i64 j.tasks) := H4.out.2.cell 4
      clear ha hmo
      go_wp2_with fail
      refine (rprint_spec (HJ.out.1.keep0 H4.out.1) HJ.out.2.1 HS.out.1 (Nat.le_trans HS.out.2.1 (by decide))).mono ?_
      rintro e w5 ⟨rfl, hk⟩
      have H5 := Lib.hid (And.intro (H4.out.1.trans hk (by simp)) (H4.out.2.keep hk (by simp)))
      clear hk
      clear y0 y1 y2 y3 y4
      clear B1 B2
      have HSM := Lib.hid (printJ_small HPJ.out HJ.out.2.1 HS.out.2.2)
      go_wp2_with fail
      refine (rlines_spec _ (printJ j) (Nat.le_trans HSM.out (by decide))).mono ?_
      rintro e w6 ⟨hk6, lv, wb, rfl, _, hs⟩
      have hLL : (linesL (printJ j)).1 = linesJ j := by rw [printJ_plain HPJ.out]; exact linesL_text (linesJ_no HPJ.out)
      rw [hLL] at hs
      obtain ⟨L, hL⟩ : ∃ L, L = linesJ j := ⟨_, rfl⟩
      have hLp : 0 < L.length := by rw [hL]; exact linesJ_pos j
      have HLX := Lib.hid (show ∀ x ∈ L, x.length ≤ 131072 from fun x hx => by
        have h9 := pieces_short (c := 10) (s := printJ j) (p := x) (by rw [printJ_plain HPJ.out, pieces_text _ (linesJ_no HPJ.out), ← hL]; simp [hx])
        have := HSM.out
        omega)
      rw [← hL] at hs
      obtain ⟨la, lc, rfl⟩ : ∃ a c, lv = .slice a L.length c := by obtain ⟨a, c, h, _⟩ := hs; exact ⟨a, c, h⟩
      have H6 := Lib.hid (And.intro (H5.out.1.trans hk6 (by simp)) hs)
      clear hk6 hs hLL hL H5 H4 H3 H2 H1
      rcases Nat.lt_or_ge 400 L.length with h400 | h400
      · have hB : decide ((400 : Int) < (L.length : Int)) = true := decide_eq_true (by omega)
        clear h400
        go_wp2
        go_ret
        exact ⟨rfl, H6.out.1⟩
      have hB : decide ((400 : Int) < (L.length : Int)) = false := decide_eq_false (by omega)
      have hLI : (L.length : Int) ≤ 400 := by omega
      have hL0 : (0 : Int) < (L.length : Int) := by omega
      have hLn : ((L.length : Int) == 0) = false := beq_eq_false_iff_ne.2 (by omega)
      obtain ⟨kk, hkk, hkl⟩ := rem_ok an L.length hLp
      have HL4 := Lib.hid h400
      go_wp2_with fail
      go_loopw [15, 16] (fun vo vi wr => ∃ (i : Nat) (bs : BS), i ≤ L.length ∧ vi = .int .i64 i ∧ vo = .string (strB bs) ∧ bs.length ≤ i * 263000 ∧ Keep [] w6 wr) (fun _ vi _ => L.length - (intOf vi).toNat)
      case atStart => exact ⟨0, [], Nat.zero_le _, rfl, rfl, Nat.zero_le _, Keep.refl _ _⟩
      case round =>
        obtain ⟨i, bs, hi, rfl, rfl, hbl, hk⟩ := hrel
        have HK := Lib.hid (And.intro hk (H6.out.2.keep0 hk))
        have HBL := Lib.hid hbl
        have hzb : (strB bs).size ≤ 105200000 := by rw [strB_size]; omega
        clear hk hbl
        by_cases hlt : i < L.length
        · have hltI : (i : Int) < (L.length : Int) := by omega
          have hi0 : (0 : Int) ≤ (i : Int) := by omega
          obtain ⟨x, hx⟩ := get_ex hlt
          obtain ⟨a', c', hv', hcells⟩ := HK.out.2
          injection hv' with e1 e2 e3
          subst e1
          obtain ⟨gl, offl, hla, _, c5⟩ := hcells i x hx
          subst hla
          have hxl := HLX.out x (List.mem_of_getElem? hx)
          have hzx : (strB x).size ≤ 131072 := by rw [strB_size]; exact hxl
          have hmo : mo.size ≤ 50 := HMO.out
          clear hx hcells e3
          have HXL := Lib.hid hxl
          clear hxl
          by_cases hik : i = kk
          · have hkB : ((i : Int) != (kk : Int)) = false := by simp [hik]
            clear hik
            go_wp2_with fail
            all_goals first
              | (go_quiet (fail); go_wp2_with fail)
              | skip
            all_goals
              refine ⟨⟨i + 1, _, by omega, by go_num, congrArg Value.string (strB_of _).symm, ?_, by first | exact HK.out.1 | exact HK.out.1.drewN _⟩, by simp [intOf]; omega⟩
              rw [len_data]
              have h1 := HBL.out
              have h2 : (strB bs).size = bs.length := strB_size bs
              try simp only [ByteArray.size_append]
              have h3 : ByteArray.size ⟨#[10]⟩ = 1 := rfl
              omega
          · have hkB : ((i : Int) != (kk : Int)) = true := by simp; omega
            clear hik
            go_wp2_with fail
            go_roundw
            case rel => exact ⟨i + 1, bs ++ x ++ [10], by omega, by go_num, by rw [← strB_app, ← strB_app]; rfl, by have := HBL.out; have := HXL.out; simp; omega, HK.out.1⟩
            case measure => simp [intOf]; omega
        · obtain rfl : i = L.length := by omega
          have hbl : bs.length ≤ 1000000000 := by have := HBL.out; have := HL4.out; omega
          obtain ⟨res, hres⟩ : ∃ res, res = readJ bs := ⟨_, rfl⟩
          have HRS := Lib.hid (show JShort res.job ∧ res.job.args.length ≤ 8 from by rw [hres]; exact readJ_short bs)
          have HR1 := Lib.hid (fun (w' : World) (h : Env1 w') => read_spec h bs hbl)
          have HR3 := Lib.hid (fun (w' : World) => rread_spec (w := w') bs hbl)
          rw [← hres] at HR1 HR3
          have H7 := Lib.hid (H6.out.1.trans HK.out.1 (by simp))
          clear hres hbl
          go_wp2_with fail
          refine (HR1.out _ (HE.out.keep H7.out)).mono ?_
          intro e w8 hr
          obtain ⟨kv, rfl, hj8, hk8⟩ := hr.job
          obtain ⟨fb, fd, ab, ad, rfl, _, _⟩ := jobRd_cells hj8
          have kB : Keep [] w8 (w8.alloc (.cells #[.slice fb res.job.funcs.length fd, .int .i64 res.job.main, .slice ab res.job.args.length ad, .int .i64 res.job.fuel, .int .i64 res.job.tasks] 25)) := (Keep.refl _ _).alloc _
          have bB : Blk (w8.alloc (.cells #[.slice fb res.job.funcs.length fd, .int .i64 res.job.main, .slice ab res.job.args.length ad, .int .i64 res.job.fuel, .int .i64 res.job.tasks] 25)) w8.heap.size 25 (jobC fb fd ab ad res.job) := Blk.new' _ _ _ _ rfl
          have H8 := Lib.hid (And.intro ((H7.out.trans hk8 (by simp)).trans kB (by simp)) (And.intro bB (hj8.keep0 kB)))
          clear hr hj8 hk8 kB bB
          go_upto_region 23 with fail
          generalize (w8.alloc (.cells #[.slice fb res.job.funcs.length fd, .int .i64 res.job.main, .slice ab res.job.args.length ad, .int .i64 res.job.fuel, .int .i64 res.job.tasks] 25)) = w9 at *
          generalize w8.heap.size = g8 at *
          go_wp2_with fail
          refine (HR3.out _).mono ?_
          rintro e w10 ⟨hk10, jv, rfl, hj10⟩
          obtain ⟨fb7, fd7, ab7, ad7, rfl, _, _⟩ := jobRd_cells hj10
          have kD : Keep [] w10 (w10.alloc (.cells #[.slice fb7 res.job.funcs.length fd7, .int .i64 res.job.main, .slice ab7 res.job.args.length ad7, .int .i64 res.job.fuel, .int .i64 res.job.tasks] 25)) := (Keep.refl _ _).alloc _
          have bD : Blk (w10.alloc (.cells #[.slice fb7 res.job.funcs.length fd7, .int .i64 res.job.main, .slice ab7 res.job.args.length ad7, .int .i64 res.job.fuel, .int .i64 res.job.tasks] 25)) w10.heap.size 25 (jobC fb7 fd7 ab7 ad7 res.job) := Blk.new' _ _ _ _ rfl
          have k11 := hk10.trans kD (by simp)
          have H11 := Lib.hid (And.intro (H8.out.1.trans k11 (by simp)) (And.intro (H8.out.2.2.keep0 k11) (hj10.keep0 kD)))
          have d6 := H8.out.2.1.keep k11 (by simp)
          clear hk10 hj10 kD k11
          go_upto_region 24 with fail
          generalize (w10.alloc (.cells #[.slice fb7 res.job.funcs.length fd7, .int .i64 res.job.main, .slice ab7 res.job.args.length ad7, .int .i64 res.job.fuel, .int .i64 res.job.tasks] 25)) = w11 at *
          generalize w10.heap.size = g13 at *
          have p0 : w11.cell? ⟨g8, 0, none⟩ = some (.slice fb res.job.funcs.length fd) := d6.cell 0
          have p1 : w11.cell? ⟨g8, 1, none⟩ = some (.int .i64 res.job.main) := d6.cell 1
          have p2 : w11.cell? ⟨g8, 2, none⟩ = some (.slice ab res.job.args.length ad) := d6.cell 2
          have p3 : w11.cell? ⟨g8, 3, none⟩ = some (.int .i64 res.job.fuel) := d6.cell 3
          have p4 : w11.cell? ⟨g8, 4, none⟩ = some (.int .i64 res.job.tasks) := d6.cell 4
          have q0 : w11.cell? ⟨g13, 0, none⟩ = some (.slice fb7 res.job.funcs.length fd7) := bD.cell 0
          have q1 : w11.cell? ⟨g13, 1, none⟩ = some (.int .i64 res.job.main) := bD.cell 1
          have q2 : w11.cell? ⟨g13, 2, none⟩ = some (.slice ab7 res.job.args.length ad7) := bD.cell 2
          have q3 : w11.cell? ⟨g13, 3, none⟩ = some (.int .i64 res.job.fuel) := bD.cell 3
          have q4 : w11.cell? ⟨g13, 4, none⟩ = some (.int .i64 res.job.tasks) := bD.cell 4
          have he1 : (res.err == res.err) = true := by simp
          have he2 : ((res.line : Int) == (res.line : Int)) = true := by simp
          clear d6 bD
          go_wp2_with fail
          refine (num_spec _ _).mono ?_
          rintro e w12 ⟨rfl, rfl⟩
          go_wp2_with fail
          refine (sameJob_spec H11.out.2.1 H11.out.2.2 HRS.out.1 (Nat.le_trans HRS.out.2 (by decide))).mono ?_
          rintro e w13 ⟨rfl, hk13⟩
          have H13 := Lib.hid (H11.out.1.trans hk13 (by simp))
          clear hk13
          go_wp2_with fail
          go_ret
          exact ⟨rfl, H13.out⟩
    · have hp' : plainJ j = false := by simpa using hp
      rw [hp']
      clear hp hp'
      go_wp2
      go_ret
      exact ⟨rfl, H4.out.1⟩
set_option maxRecDepth 100000 in
theorem walk_asmLines {H : Type} {enc : TypeId × Value → H} {b0 : Nat} {v v' : Value} {d d' : DataW H} {p p' : List MemPlace} {a wt : Int} (W : World) (hE : Env1 W)
    (ho : Value.okWide Tryz.prog W .any b0 25 v) (h : DataW.Trod enc Tryz.prog W 0 (fun _ => true) true 25 v d p) (hwt : ∀ m ∈ d.weights Tryz.prog 25, m ≤ reachBytes) (_ha : (Lit.int .i64 a).wf = true) (hw : (Lit.int .i64 wt).wf = true)
    (ho' : Value.okWide Tryz.prog W .any b0 9 v') (h' : DataW.Trod enc Tryz.prog W 0 (fun _ => true) true 9 v' d' p') : Calls Tryz.prog 5 #[v, .int .i64 a, .int .i64 wt, v'] W fun e w' => e = .returned (.bool true) ∧ Below W.heap.size W w' := by
  obtain ⟨j, hj, hi, hz⟩ := job_open ho h hwt
  obtain ⟨s, rfl, _, _, _⟩ := open_string Tryz.underlying9 ho' h'
  exact (lines_walk hE hj hi hz a wt hw s).mono fun e w' ⟨h1, h2⟩ => ⟨h1, h2.to_below⟩
end Go.Proofs.YtbdkmfcgnolihaaGreatDoor
