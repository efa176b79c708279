/- asm: the reference's Plain -/
import Derived.Test.YtbdkmfcgnolihaaGreatDoorRows
import Derived.WalkKit
import Derived.WalkSpells
import Derived.WalkLawsBesides
import Derived.RegionTactic
import Derived.ChangeAlike
import Derived.BigQuiet
import Derived.Deep.QuietTactic
import Derived.StillTailTactics
import Derived.IntWalk
import Derived.Handy
import Derived.Lib.Hide
import Derived.Deep.AppendLies
import Derived.Deep.RegionWith
import Derived.Test.YtbdkmfcgnolihaaGreatDoorBase
import Derived.Test.YtbdkmfcgnolihaaGreatDoorTail
import Derived.Test.YtbdkmfcgnolihaaGreatDoorArgs
import Derived.Test.YtbdkmfcgnolihaaGreatDoorAppend
import Derived.Test.YtbdkmfcgnolihaaGreatDoorOffs
import Derived.Test.YtbdkmfcgnolihaaGreatDoorStructs
import Derived.Carry
import Derived.Deep.RegionHeld3
import Derived.BigRegion
import Derived.Maps.OwnSet
import Derived.Maps.Views
import Derived.Maps.StringElems
import Derived.Test.YtbdkmfcgnolihaaGreatDoorMaps2
import Derived.Deep.CutRange
import Derived.Deep.CutBlock
import Derived.Test.YtbdkmfcgnolihaaGreatDoorFEnv
import Derived.Test.YtbdkmfcgnolihaaGreatDoorAWords
import Derived.Test.YtbdkmfcgnolihaaGreatDoorANames
import Derived.Test.YtbdkmfcgnolihaaGreatDoorAObj
import Derived.Test.YtbdkmfcgnolihaaGreatDoorAPlain
import Derived.Test.YtbdkmfcgnolihaaGreatDoorAPlain2
import Derived.Test.YtbdkmfcgnolihaaGreatDoorAPl
import Derived.Test.YtbdkmfcgnolihaaGreatDoorAPlJ
namespace Go.Proofs.YtbdkmfcgnolihaaGreatDoor
set_option linter.unusedSimpArgs false
set_option linter.unnecessarySimpa false
set_option linter.unusedVariables false
open Go.RowKit
theorem cell4_drwR {w : World} {p q r s : Addr} {a b c d : Value} (h : w.cell? p = some a ∧ w.cell? q = some b ∧ w.cell? r = some c ∧ w.cell? s = some d) : w.drew.cell? p = some a ∧ w.drew.cell? q = some b ∧ w.drew.cell? r = some c ∧ w.drew.cell? s = some d := h
set_option maxHeartbeats 3200000 in
set_option maxRecDepth 100000 in
theorem rplainI_spec (w : World) (op n : Int) (nf : Nat) (hnf : nf ≤ 1000000) : Calls Tryz.prog 24 #[.agg #[.int .i64 op, .int .i64 n], .int .i64 nf] w (PlainPost (plainI nf ⟨op, n⟩) w) := by
  obtain ⟨res, hres⟩ : ∃ res, res = plainI nf ⟨op, n⟩ := ⟨_, rfl⟩
  rw [← hres]
  have HR := Lib.hid hres
  have hnI : (nf : Int) ≤ 1000000 := by omega
  have kA : Keep [] w (w.alloc (.cells #[.int .i64 op, .int .i64 n] 47)) := (Keep.refl _ _).alloc _
  have bA : Blk (w.alloc (.cells #[.int .i64 op, .int .i64 n] 47)) w.heap.size 47 [.int .i64 op, .int .i64 n] := Blk.new' _ _ _ _ rfl
  have HB := Lib.hid (And.intro kA bA)
  clear hres hnf kA bA
  go_enter Tryz.func24, Tryz.ntmps24
  go_wp2_with fail
  refine (rhasN_spec _ op).mono ?_
  rintro e w3 ⟨rfl, rfl⟩
  go_wp2_with fail
  generalize (w.alloc (.cells #[.int .i64 op, .int .i64 n] 47)) = w1 at *
  refine (rname_spec _ op).mono ?_
  rintro e w2 ⟨rfl, hk2⟩
  have bB2 := HB.out.2.keep hk2 (by simp)
  have b0 : w2.cell? ⟨w.heap.size, 0, none⟩ = some (.int .i64 op) := bB2.cell 0
  have b1 : w2.cell? ⟨w.heap.size, 1, none⟩ = some (.int .i64 n) := bB2.cell 1
  have HK := Lib.hid (HB.out.1.trans hk2 (by simp))
  clear hk2 bB2 HB
  by_cases hnm : opName op = []
  · have hem : (strB (opName op)).toList.isEmpty = true := by rw [hnm, strB_toList]; rfl
    have HF := Lib.hid (show res = false by rw [HR.out]; exact plainI_name hnm)
    clear hnm
    go_wp2
    go_ret
    exact plain_ret HF.out HK.out
  · have hem := strB_empty hnm
    by_cases hh : hasN op = true
    · rw [hh]
      by_cases h16 : op = 16
      · have h16B : (op != 16) = false := by simp [h16]
        by_cases h0 : 0 ≤ n
        · have h0B : decide ((0 : Int) ≤ n) = true := decide_eq_true h0
          by_cases hlt : n < nf
          · have hltB : decide (n < (nf : Int)) = true := decide_eq_true hlt
            have HF := Lib.hid (show res = true by rw [HR.out]; unfold plainI; simp [hnm, hh, h0, hlt])
            clear hnm hh h16
            go_wp2
            go_ret
            exact plain_ret HF.out HK.out
          · have hltB : decide (n < (nf : Int)) = false := decide_eq_false hlt
            have HF := Lib.hid (show res = false by rw [HR.out]; unfold plainI; simp [hnm, hh, h16]; omega)
            clear hnm hh h16
            go_wp2
            go_ret
            exact plain_ret HF.out HK.out
        · have h0B : decide ((0 : Int) ≤ n) = false := decide_eq_false h0
          have HF := Lib.hid (show res = false by rw [HR.out]; unfold plainI; simp [hnm, hh, h16]; omega)
          clear hnm hh h16
          go_wp2
          go_ret
          exact plain_ret HF.out HK.out
      · have h16B : (op != 16) = true := by simpa using h16
        have HF := Lib.hid (show res = true by rw [HR.out]; unfold plainI; simp [hnm, hh, h16])
        clear hnm hh h16
        go_wp2
        go_ret
        exact plain_ret HF.out HK.out
    · have hh' : hasN op = false := by simpa using hh
      rw [hh']
      by_cases hz : n = 0
      · have hzB : (n == 0) = true := by simp [hz]
        have h16 : op ≠ 16 := by rintro rfl; cases hh'
        have h16B : (op != 16) = true := by simpa using h16
        have HF := Lib.hid (show res = true by rw [HR.out]; unfold plainI; simp [hnm, hh', h16, hz])
        clear hnm hh hh' h16 hz
        go_wp2
        go_ret
        exact plain_ret HF.out HK.out
      · have hzB : (n == 0) = false := by simpa using hz
        have HF := Lib.hid (show res = false by rw [HR.out]; unfold plainI; simp [hnm, hh', hz])
        clear hnm hh hh'
        go_wp2
        go_ret
        exact plain_ret HF.out HK.out
theorem not_contains {seen : List BS} {fs : List FN} {i : Nat} {b : BS} (hs : seen = (fs.take i).map FN.name) (h : ∀ (t : Nat) (g : FN), t < i → fs[t]? = some g → g.name ≠ b) : seen.contains b = false := by
  subst hs
  rw [Bool.eq_false_iff]
  intro hc
  rw [List.contains_iff_mem, List.mem_map] at hc
  obtain ⟨g, hg, rfl⟩ := hc
  obtain ⟨t, ht⟩ := List.mem_iff_getElem?.1 hg
  have hti : t < i := by have := get_lt ht; rw [List.length_take] at this; omega
  rw [List.getElem?_take_of_lt hti] at ht
  exact h t g hti ht rfl
theorem yes_contains {seen : List BS} {fs : List FN} {i t : Nat} {g : FN} {b : BS} (hs : seen = (fs.take i).map FN.name) (hti : t < i) (ht : fs[t]? = some g) (hb : g.name = b) : seen.contains b = true := by
  subst hs hb
  rw [List.contains_iff_mem]
  refine List.mem_map_of_mem (List.mem_of_getElem? (i := t) ?_)
  rw [List.getElem?_take_of_lt hti]
  exact ht
set_option maxHeartbeats 12800000 in
set_option maxRecDepth 100000 in
theorem rplain_loop {w : World} {jv : Value} {j : JB} (h : JobRd w jv j) (hs : JShort j) (h1 : j.funcs.length ≤ 32) (h2 : j.args.length ≤ 8) (h3 : 0 ≤ j.main) (h4 : j.main < j.funcs.length) :
    Calls Tryz.prog 12 #[jv] w (PlainPost (plainFs j.funcs.length [] j.funcs) w) := by
  obtain ⟨fa, fc, aa, ac, rfl, hf, ha⟩ := jobRd_cells h
  obtain ⟨R, hR⟩ : ∃ R, R = plainFs j.funcs.length [] j.funcs := ⟨_, rfl⟩
  rw [← hR]
  have HS := Lib.hid hs
  have HF := Lib.hid hf
  have hnI : (j.funcs.length : Int) ≤ 32 := by omega
  have haI : (j.args.length : Int) ≤ 8 := by omega
  have HN32 := Lib.hid h1
  have kA : Keep [] w (w.alloc (.cells #[.slice fa j.funcs.length fc, .int .i64 j.main, .slice aa j.args.length ac, .int .i64 j.fuel, .int .i64 j.tasks] 25)) := (Keep.refl _ _).alloc _
  have bA : Blk (w.alloc (.cells #[.slice fa j.funcs.length fc, .int .i64 j.main, .slice aa j.args.length ac, .int .i64 j.fuel, .int .i64 j.tasks] 25)) w.heap.size 25 (jobC fa fc aa ac j) := Blk.new' _ _ _ _ rfl
  have H0 := Lib.hid (And.intro kA bA)
  have HR := Lib.hid hR
  clear h hs hf ha hR h1 h2 kA bA
  go_enter Tryz.func12, Tryz.ntmps12
  go_wp2_with fail
  generalize (w.alloc (.cells #[.slice fa j.funcs.length fc, .int .i64 j.main, .slice aa j.args.length ac, .int .i64 j.fuel, .int .i64 j.tasks] 25)) = w1 at *
  go_loopw [3, 4, 5, 6, 7, 8] (fun vi _ _ _ _ _ wr => ∃ i : Nat, i ≤ j.funcs.length ∧ vi = .int .i64 i ∧ Keep [] w1 wr ∧ plainFs j.funcs.length ((j.funcs.take i).map FN.name) (j.funcs.drop i) = R) (fun vi _ _ _ _ _ _ => j.funcs.length - (intOf vi).toNat)
  case atStart => exact ⟨0, Nat.zero_le _, rfl, Keep.refl _ _, HR.out.symm⟩
  case round =>
    obtain ⟨i, hi, rfl, hk, hr⟩ := hrel
    have q1 := H0.out.2.keep hk (by simp)
    have a0 : wr.cell? ⟨w.heap.size, 0, none⟩ = some (.slice fa j.funcs.length fc) := q1.cell 0
    have KW := Lib.hid (H0.out.1.trans hk (by simp))
    clear q1
    by_cases hlt : i < j.funcs.length
    · have hltI : (i : Int) < (j.funcs.length : Int) := by omega
      have hiI : (i : Int) ≤ 32 := by omega
      obtain ⟨f, hfi⟩ := get_ex hlt
      have hmem := List.mem_of_getElem? hfi
      have hnm := HS.out.names f hmem
      have hcl := HS.out.codes f hmem
      obtain ⟨b, off, cv, hfa, hb, c0', c1', c2', c3', hcode⟩ := HF.out.at_ hfi
      have c0 := cell_keep0 KW.out c0'
      have c1 := cell_keep0 KW.out c1'
      have c2 := cell_keep0 KW.out c2'
      have c3 := cell_keep0 KW.out c3'
      clear c0' c1' c2' c3'
      subst hfa
      obtain ⟨ca, cc, rfl⟩ := hcode.shape
      rw [plainFs_here hfi] at hr
      have ht : ((j.funcs.take (i + 1)).map FN.name) = (j.funcs.take i).map FN.name ++ [f.name] := by rw [List.take_add_one, hfi, List.map_append]; rfl
      obtain ⟨sn, hsn⟩ : ∃ sn, sn = (j.funcs.take i).map FN.name := ⟨_, rfl⟩
      rw [← hsn] at hr ht
      have kb : Keep [] wr (wr.alloc (.cells #[.string (strB f.name), .int .i64 f.args, .int .i64 f.locals, .slice ca f.code.length cc] 36)) := (Keep.refl _ _).alloc _
      have bb : Blk (wr.alloc (.cells #[.string (strB f.name), .int .i64 f.args, .int .i64 f.locals, .slice ca f.code.length cc] 36)) wr.heap.size 36 [.string (strB f.name), .int .i64 f.args, .int .i64 f.locals, .slice ca f.code.length cc] := Blk.new' _ _ _ _ rfl
      have GA := Lib.hid (And.intro hsn (And.intro hk (And.intro hcode (And.intro hnm (And.intro hcl (And.intro hfi ht))))))
      have KB := Lib.hid (And.intro kb bb)
      have HR2 := Lib.hid hr
      clear hr kb bb hcode hnm hmem hfi ht hb hsn hk
      go_upto_region 7 with fail
      have a0' := cell_keep0 KB.out.1 a0
      clear a0 c0 c1 c2 c3
      generalize (wr.alloc (.cells #[.string (strB f.name), .int .i64 f.args, .int .i64 f.locals, .slice ca f.code.length cc] 36)) = w2 at *
      generalize wr.heap.size = gb at *
      have b0 : w2.cell? ⟨gb, 0, none⟩ = some (.string (strB f.name)) := KB.out.2.cell 0
      have b3 : w2.cell? ⟨gb, 3, none⟩ = some (.slice ca f.code.length cc) := KB.out.2.cell 3
      go_wp2_with fail
      refine (rgoodName_spec _ f.name GA.out.2.2.2.1).mono ?_
      rintro e w3 ⟨rfl, rfl⟩
      by_cases hn : nameL f.name = true
      · rw [hn]
        by_cases h256 : f.code.length ≤ 256
        · have h256I : (f.code.length : Int) ≤ 256 := by omega
          have HN := Lib.hid hn
          clear hn h256
          go_wp2_with fail
          go_loopw [6] (fun vq wq => ∃ q : Nat, q ≤ i ∧ vq = .int .i64 q ∧ Keep [] w3 wq ∧ ∀ (t : Nat) (g : FN), t < q → j.funcs[t]? = some g → g.name ≠ f.name) (fun vq _ => i - (intOf vq).toNat)
          case atStart => exact ⟨0, Nat.zero_le _, rfl, Keep.refl _ _, fun t g ht => absurd ht (by omega)⟩
          case round =>
            obtain ⟨q, hq, rfl, hkq, hall⟩ := hrel
            have a1 := cell_keep0 hkq a0'
            have d0 := cell_keep0 hkq b0
            have d3 := cell_keep0 hkq b3
            have HQ := Lib.hid (And.intro hkq hall)
            clear hall a0' b0 b3 hkq
            by_cases hlq : q < i
            · have hlqI : (q : Int) < (i : Int) := by omega
              have hq0 : (0 : Int) ≤ (q : Int) := by omega
              have hqn : (q : Int) < (j.funcs.length : Int) := by omega
              obtain ⟨g, hg⟩ := get_ex (show q < j.funcs.length by omega)
              obtain ⟨b', off', cv', hfa', _, e0', _, _, _, _⟩ := HF.out.at_ hg
              injection hfa' with hfa'
              injection hfa' with e1 e2
              subst e1 e2
              have e0 := cell_keep0 (((KW.out.trans KB.out.1 (by simp)).trans HQ.out.1 (by simp))) e0'
              have HG := Lib.hid hg
              clear e0' hg d3
              by_cases heq : g.name = f.name
              · have hst : ((strB g.name).toList == (strB f.name).toList) = true := by rw [heq]; simp
                have HF2 := Lib.hid (show R = false by rw [← HR2.out, yes_contains GA.out.1 hlq HG.out heq]; rfl)
                clear heq
                go_wp2
                go_quiet (fail)
                go_wp2
                go_ret
                exact plain_ret HF2.out (((KW.out.trans KB.out.1 (by simp)).trans HQ.out.1 (by simp)).drewN _)
              · have hst : ((strB g.name).toList == (strB f.name).toList) = false := by rw [strB_toList, strB_toList]; simpa using heq
                have HNE := Lib.hid heq
                clear heq
                go_wp2
                go_quiet (fail)
                go_wp2
                go_roundw
                case rel => exact ⟨q + 1, by omega, by go_num, HQ.out.1.drewN _, fun t g' ht hg' => by
                  by_cases e : t = q
                  · subst e
                    rw [HG.out] at hg'
                    cases hg'
                    exact HNE.out
                  · exact HQ.out.2 t g' (by omega) hg'⟩
                case measure => simp [intOf]; omega
            · obtain rfl : q = i := by omega
              have hsc : sn.contains f.name = false := not_contains GA.out.1 HQ.out.2
              have HR3 := Lib.hid (show (f.code.all (plainI j.funcs.length) && plainFs j.funcs.length (sn ++ [f.name]) (j.funcs.drop (q + 1))) = R by
                rw [← HR2.out, hsc]
                unfold plainF
                have : f.code.length ≤ 256 := by omega
                simp [HN.out, this])
              have KQ := Lib.hid ((KW.out.trans KB.out.1 (by simp)).trans HQ.out.1 (by simp))
              have HC3 := Lib.hid (show CodeRd wr (.slice ca f.code.length cc) f.code from GA.out.2.2.1.keep0 KQ.out)
              clear hsc
              have hclI : (f.code.length : Int) ≤ 1000000 := by omega
              generalize wr = w5 at *
              go_wp2_with fail
              go_loopw [7, 8] (fun vq _ wq => ∃ s : Nat, s ≤ f.code.length ∧ vq = .int .i64 s ∧ Keep [] w5 wq ∧ ∀ (t : Nat) (x : IN), t < s → f.code[t]? = some x → plainI j.funcs.length x = true) (fun vq _ _ => f.code.length - (intOf vq).toNat)
              case atStart => exact ⟨0, Nat.zero_le _, rfl, Keep.refl _ _, fun t x ht => absurd ht (by omega)⟩
              case round =>
                obtain ⟨s, hs, rfl, hks, hall⟩ := hrel
                have x1 := cell_keep0 hks a1
                have x3 := cell_keep0 hks d3
                clear a1 d3 d0
                by_cases hls : s < f.code.length
                · have hlsI : (s : Int) < (f.code.length : Int) := by omega
                  have hs0 : (0 : Int) ≤ (s : Int) := by omega
                  obtain ⟨x, hx⟩ := get_ex hls
                  obtain ⟨g2, o2, hca, _, y0, y1⟩ := (HC3.out.keep0 hks).at_ hx
                  subst hca
                  have G4 := Lib.hid (And.intro hks (And.intro hall hx))
                  obtain ⟨pb, hpb⟩ : ∃ pb, pb = plainI j.funcs.length x := ⟨_, rfl⟩
                  have HP := Lib.hid (show ∀ w', Calls Tryz.prog 24 #[.agg #[.int .i64 x.op, .int .i64 x.n], .int .i64 j.funcs.length] w' (PlainPost pb w') from fun w' => by rw [hpb]; exact rplainI_spec w' x.op x.n j.funcs.length HS.out.funcs)
                  have HPB := Lib.hid hpb
                  clear hks hall hx hpb
                  go_upto_region 18 with fail
                  go_region_held3 (fun w' => w'.cell? ⟨w.heap.size, 0, none⟩ = some (.slice (some ⟨b, off, none⟩) j.funcs.length fc) ∧ w'.cell? ⟨gb, 3, none⟩ = some (.slice (some ⟨g2, o2, none⟩) f.code.length cc) ∧ w'.cell? ⟨g2, o2 + s * 2, none⟩ = some (.int .i64 x.op) ∧ w'.cell? ⟨g2, o2 + s * 2 + 1, none⟩ = some (.int .i64 x.n)) (first | with_reducible exact cell4_drwR (w := wr) ⟨x1, x3, y0, y1⟩ | with_reducible exact ⟨q0, q1, q2, q3⟩)
                    (first | ((go_at_call 24; with_reducible refine (HP.out _).mono ?_); go_must (rintro e9 w9 ⟨rfl, hk9⟩; have q0 := cell_keep0 hk9.of_drew x1; have q1 := cell_keep0 hk9.of_drew x3; have q2 := cell_keep0 hk9.of_drew y0; have q3 := cell_keep0 hk9.of_drew y1; have H9 := Lib.hid hk9.of_drew; clear hk9)))
                  cases pb with
                  | true =>
                    have HA := Lib.hid (show ∀ (t : Nat) (y : IN), t < s + 1 → f.code[t]? = some y → plainI j.funcs.length y = true from fun t y ht hy => by
                      by_cases e : t = s
                      · subst e
                        rw [G4.out.2.2] at hy
                        cases hy
                        exact HPB.out.symm
                      · exact G4.out.2.1 t y (by omega) hy)
                    go_wp2
                    go_roundw
                    case rel => exact ⟨s + 1, by omega, by go_num, G4.out.1.trans H9.out (by simp), HA.out⟩
                    case measure => simp [intOf]; omega
                  | false =>
                    have HF2 := Lib.hid (show R = false by
                      rw [← HR3.out]
                      have : f.code.all (plainI j.funcs.length) = false := by
                        rw [List.all_eq_false]
                        exact ⟨x, List.mem_of_getElem? G4.out.2.2, by rw [← HPB.out]; simp⟩
                      rw [this]; rfl)
                    go_wp2
                    go_ret
                    exact plain_ret HF2.out ((KQ.out.trans G4.out.1 (by simp)).trans H9.out (by simp))
                · obtain rfl : s = f.code.length := by omega
                  have HX := Lib.hid (And.intro hks (show plainFs j.funcs.length (sn ++ [f.name]) (j.funcs.drop (q + 1)) = R by
                    rw [← HR3.out]
                    have : f.code.all (plainI j.funcs.length) = true := List.all_eq_true.2 (fun x hx => by
                      obtain ⟨t, ht⟩ := List.mem_iff_getElem?.1 hx
                      exact hall t x (get_lt ht) ht)
                    rw [this]; rfl))
                  clear hks hall
                  go_wp2
                  go_roundw
                  case rel => exact ⟨q + 1, by omega, by go_num, ((GA.out.2.1.trans KB.out.1 (by simp)).trans HQ.out.1 (by simp)).trans HX.out.1 (by simp), by rw [GA.out.2.2.2.2.2.2]; exact HX.out.2⟩
                  case measure => simp [intOf]; omega
        · have h256I : (256 : Int) < (f.code.length : Int) := by omega
          have HF2 := Lib.hid (show R = false by rw [← HR2.out]; unfold plainF; simp [h256])
          clear hn h256
          go_wp2
          go_ret
          exact plain_ret HF2.out (KW.out.trans KB.out.1 (by simp))
      · have hn' : nameL f.name = false := by simpa using hn
        rw [hn']
        have HF2 := Lib.hid (show R = false by rw [← HR2.out]; unfold plainF; simp [hn'])
        clear hn hn'
        go_wp2
        go_ret
        exact plain_ret HF2.out (KW.out.trans KB.out.1 (by simp))
    · obtain rfl : i = j.funcs.length := by omega
      rw [List.drop_length] at hr
      have HX := Lib.hid hr
      clear hr
      go_wp2
      go_ret
      exact plain_ret HX.out.symm KW.out
theorem rplainJ_spec {w : World} {jv : Value} {j : JB} (h : JobRd w jv j) (hs : JShort j) (ha : j.args.length ≤ 1000000) : Calls Tryz.prog 12 #[jv] w (PlainPost (plainJ j) w) := by
  by_cases h1 : j.funcs.length ≤ 32
  · by_cases h2 : j.args.length ≤ 8
    · by_cases h3 : 0 ≤ j.main
      · by_cases h4 : j.main < j.funcs.length
        · refine (rplain_loop h hs h1 h2 h3 h4).mono fun e w' hh => ?_
          have : plainJ j = plainFs j.funcs.length [] j.funcs := by unfold plainJ; simp [h1, h2, h3, h4]
          rw [this]; exact hh
        · have hf : plainJ j = false := by unfold plainJ; simp [h4]
          rw [hf]
          obtain ⟨fa, fc, aa, ac, rfl, _, _⟩ := jobRd_cells h
          have i1 : (j.funcs.length : Int) ≤ 32 := by omega
          have i2 : (j.args.length : Int) ≤ 8 := by omega
          have i4 : (j.funcs.length : Int) ≤ j.main := by omega
          clear h hs ha h1 h2 h4 hf
          go_enter Tryz.func12, Tryz.ntmps12
          go_wp2
          go_ret
          exact ⟨rfl, (Keep.refl _ _).alloc _⟩
      · have hf : plainJ j = false := by unfold plainJ; simp; omega
        rw [hf]
        obtain ⟨fa, fc, aa, ac, rfl, _, _⟩ := jobRd_cells h
        have i1 : (j.funcs.length : Int) ≤ 32 := by omega
        have i2 : (j.args.length : Int) ≤ 8 := by omega
        have i3 : j.main < 0 := by omega
        clear h hs ha h1 h2 h3 hf
        go_enter Tryz.func12, Tryz.ntmps12
        go_wp2
        go_ret
        exact ⟨rfl, (Keep.refl _ _).alloc _⟩
    · have hf : plainJ j = false := by unfold plainJ; simp [h2]
      rw [hf]
      obtain ⟨fa, fc, aa, ac, rfl, _, _⟩ := jobRd_cells h
      have i1 : (j.funcs.length : Int) ≤ 32 := by omega
      have i2 : (8 : Int) < (j.args.length : Int) := by omega
      clear h hs ha h1 h2 hf
      go_enter Tryz.func12, Tryz.ntmps12
      go_wp2
      go_ret
      exact ⟨rfl, (Keep.refl _ _).alloc _⟩
  · have hf : plainJ j = false := by unfold plainJ; simp [h1]
    rw [hf]
    obtain ⟨fa, fc, aa, ac, rfl, _, _⟩ := jobRd_cells h
    have i1 : (32 : Int) < (j.funcs.length : Int) := by omega
    clear h hs ha h1 hf
    go_enter Tryz.func12, Tryz.ntmps12
    go_wp2
    go_ret
    exact ⟨rfl, (Keep.refl _ _).alloc _⟩
end Go.Proofs.YtbdkmfcgnolihaaGreatDoor
