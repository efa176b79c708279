/- asm: Print. -/
import Derived.Test.YtbdkmfcgnolihaaGreatDoorRows
import Derived.WalkKit
import Derived.WalkSpells
import Derived.WalkLawsBesides
import Derived.RegionTactic
import Derived.ChangeAlike
import Derived.BigQuiet
import Derived.Deep.QuietTactic
import Derived.StillTailTactics
import Derived.IntWalk
import Derived.Handy
import Derived.Lib.Hide
import Derived.Deep.AppendLies
import Derived.Deep.RegionWith
import Derived.Test.YtbdkmfcgnolihaaGreatDoorBase
import Derived.Test.YtbdkmfcgnolihaaGreatDoorTail
import Derived.Test.YtbdkmfcgnolihaaGreatDoorArgs
import Derived.Test.YtbdkmfcgnolihaaGreatDoorAppend
import Derived.Test.YtbdkmfcgnolihaaGreatDoorOffs
import Derived.Test.YtbdkmfcgnolihaaGreatDoorStructs
import Derived.Carry
import Derived.Deep.RegionHeld3
import Derived.BigRegion
import Derived.Maps.OwnSet
import Derived.Maps.Views
import Derived.Maps.StringElems
import Derived.Test.YtbdkmfcgnolihaaGreatDoorMaps2
import Derived.Deep.CutRange
import Derived.Deep.CutBlock
import Derived.Test.YtbdkmfcgnolihaaGreatDoorAPrP
namespace Go.Proofs.YtbdkmfcgnolihaaGreatDoor
set_option linter.unusedSimpArgs false
set_option linter.unnecessarySimpa false
set_option linter.unusedVariables false
open Go.RowKit
/-- while a text is made: gb the builder, bs what stands there -/
structure PrAt (j : JB) (fa : Option Addr) (fc : Nat) (aa : Option Addr) (ac gb : Nat) (bs : BS) (w0 w : World) : Prop where
  bld : Lib.IsBuilderF 57 5 gb gb (Lib.byteCells bs) w
  blk : Blk w w0.heap.size 25 (jobC fa fc aa ac j)
  keep : Keep [] w0 w
  lt : w0.heap.size < gb
  size : gb ≤ w.heap.size
theorem PrAt.keep0 {j : JB} {fa aa : Option Addr} {fc ac gb : Nat} {bs : BS} {w0 w w' : World} (h : PrAt j fa fc aa ac gb bs w0 w) (k : Keep [] w w') : PrAt j fa fc aa ac gb bs w0 w' := ⟨IsBuilder.keep0 h.bld k, h.blk.keep k (by simp), h.keep.trans k (by simp), h.lt, Nat.le_trans h.size k.size⟩
theorem keep_bel {w a b : World} {B : Nat} (k : Keep [] w a) (h : Below B a b) (hB : w.heap.size ≤ B) (hBa : B ≤ a.heap.size) : Keep [] w b :=
  ⟨h.os.trans k.os, h.tape.trans k.tape, h.output.trans k.output, Nat.le_trans k.size h.size, fun x hx _ => (h.block x (Nat.lt_of_lt_of_le hx hB)).trans (k.block x hx (by simp))⟩
theorem PrAt.line {j : JB} {fa aa : Option Addr} {fc ac gb : Nat} {bs bs' : BS} {w0 w wa w' : World} (h : PrAt j fa fc aa ac gb bs w0 w) (k : Keep [] w wa) (hb : Lib.IsBuilderF 57 5 gb gb (Lib.byteCells bs') w') (hl : Below gb wa w') : PrAt j fa fc aa ac gb bs' w0 w' := by
  have hA := h.keep0 k
  exact ⟨hb, hA.blk.below hl hA.lt, keep_bel hA.keep hl (Nat.le_of_lt hA.lt) hA.size, hA.lt, Nat.le_trans hA.size hl.size⟩
theorem bld_lt {B b : Nat} {bs : List Value} {w : World} (h : Lib.IsBuilderF 57 5 B b bs w) : b < w.heap.size := by
  have key : ∀ p, Lib.BuilderAtF 57 5 B b p bs w → b < w.heap.size := by
    rintro p ⟨_, v, hb, _⟩
    rcases Nat.lt_or_ge b w.heap.size with h1 | h1
    · exact h1
    · rw [Array.getElem?_eq_none h1] at hb; cases hb
  rcases h with h | h
  · exact key _ h
  · exact key _ h
theorem ints_blk {w : World} {g : Nat} {l : List Int} (h : Blk w g 3 (l.map (.int .i64))) : IntsOf w (.slice (some ⟨g, 0, none⟩) l.length l.length) l := by
  refine ⟨_, _, rfl, fun _ => ⟨g, 0, rfl, h.lt, fun k y hk => ?_⟩⟩
  rw [Nat.zero_add, h.cell, List.getElem?_map, hk]
  rfl
theorem cell3_keep {w w' : World} {p q r : Addr} {a b c : Value} (k : Keep [] w w') (h : w.cell? p = some a ∧ w.cell? q = some b ∧ w.cell? r = some c) : w'.cell? p = some a ∧ w'.cell? q = some b ∧ w'.cell? r = some c := ⟨cell_keep0 k h.1, cell_keep0 k h.2.1, cell_keep0 k h.2.2⟩
theorem cell4_keep {w w' : World} {p q r s : Addr} {a b c d : Value} (k : Keep [] w w') (h : w.cell? p = some a ∧ w.cell? q = some b ∧ w.cell? r = some c ∧ w.cell? s = some d) : w'.cell? p = some a ∧ w'.cell? q = some b ∧ w'.cell? r = some c ∧ w'.cell? s = some d := ⟨cell_keep0 k h.1, cell_keep0 k h.2.1, cell_keep0 k h.2.2.1, cell_keep0 k h.2.2.2⟩
theorem cell_bel {B : Nat} {w w' : World} {p : Addr} {v : Value} (h : w.cell? p = some v) (k : Below B w w') (hp : p.block < B) : w'.cell? p = some v := (k.cell hp).trans h
theorem done0 (j : JB) {nm : BS} (h : fnAt j j.main = nm) : ([] ++ (wJob ++ [32] ++ glue 32 [Lib.itoa j.fuel, Lib.itoa j.tasks] ++ [10]) ++ (wMain ++ [32] ++ glue 32 (nm :: j.args.map Lib.itoa) ++ [10])) = textL (doneL j 0) := by
  subst h
  rw [jobLine_eq, mainLine_eq]
  unfold doneL textL
  simp
theorem doneF (j : JB) (i : Nat) (f : FN) : textL (doneL j i) ++ (wFunc ++ [32] ++ glue 32 [f.name, Lib.itoa f.args, Lib.itoa f.locals] ++ [10]) = textL (doneL j i ++ funcLine f :: (f.code.take 0).map (insLine j)) := by
  rw [funcLine_eq, textL_app]
  simp [textL]
theorem doneI {j : JB} {i q : Nat} {f : FN} {x : IN} (h : f.code[q]? = some x) : textL (doneL j i ++ funcLine f :: (f.code.take q).map (insLine j)) ++ ([32, 32] ++ glue 32 (insW j x) ++ [10]) = textL (doneL j i ++ funcLine f :: (f.code.take (q + 1)).map (insLine j)) := by
  rw [List.take_add_one, h]
  simp [textL, insLine]
theorem strsC_app {w : World} {B c : Nat} {a : Option Addr} {nm : BS} {l : List Int} (h : OwnsAt w B 9 1 (.slice a (1 + l.length) c) (1 + l.length) ([.string (strB nm)] ++ l.map fun n => .string (itoaB n))) : StrsC w (.slice a (1 + l.length) c) (nm :: l.map Lib.itoa) := by
  have e : 1 + l.length = (nm :: l.map Lib.itoa).length := by simp; omega
  rw [e] at h ⊢
  refine StrsC.of_own (B := B) ?_
  have e2 : ((nm :: l.map Lib.itoa).map fun p => Value.string (strB p)) = [.string (strB nm)] ++ l.map fun n => .string (itoaB n) := by
    rw [List.map_cons, List.map_map]
    rfl
  rw [e2]
  exact h
theorem cells_map (l : List Int) : (l.map fun n => (Value.string (itoaB n))) = (l.map Lib.itoa).map fun p => .string (strB p) := by rw [List.map_map]; rfl

set_option maxHeartbeats 12800000 in
set_option maxRecDepth 100000 in
theorem print_spec {w : World} (hE : Env w) {jv : Value} {j : JB} (h : JobRd w jv j) (hj : j.In) (hs : JShort j) (ha : j.args.length ≤ 1000000) : Calls Tryz.prog 13 #[jv] w fun e w' => e = .returned (.string (strB (printJ j))) ∧ Keep [] w w' := by
  have HJ := Lib.hid h
  have HE := Lib.hid hE
  have HPL := Lib.hid (plainJ_spec (h.keep0 ((Keep.refl [] w).alloc (.cells #[] 0))) hs ha)
  obtain ⟨fa, fc, aa, ac, rfl, hf, hav⟩ := jobRd_cells h
  have kA : Keep [] w (w.alloc (.cells #[.slice fa j.funcs.length fc, .int .i64 j.main, .slice aa j.args.length ac, .int .i64 j.fuel, .int .i64 j.tasks] 25)) := (Keep.refl _ _).alloc _
  have bA : Blk (w.alloc (.cells #[.slice fa j.funcs.length fc, .int .i64 j.main, .slice aa j.args.length ac, .int .i64 j.fuel, .int .i64 j.tasks] 25)) w.heap.size 25 (jobC fa fc aa ac j) := Blk.new' _ _ _ _ rfl
  have HA := Lib.hid (And.intro kA (And.intro bA (plainJ_spec (h.keep0 kA) hs ha)))
  clear hE h hs kA bA HPL
  go_enter Tryz.func13, Tryz.ntmps13
  go_wp2_with fail
  refine HA.out.2.2.mono ?_
  rintro e w1 ⟨rfl, hk1⟩
  have H1 := Lib.hid (And.intro (HA.out.1.trans hk1 (by simp)) (HA.out.2.1.keep hk1 (by simp)))
  clear hk1
  by_cases hp : plainJ j = true
  · rw [hp]
    have hpj := (plainJ_iff j).1 hp
    have HPJ := Lib.hid hpj
    have HSH := Lib.hid (lines_short hpj hj)
    have HJI := Lib.hid hj
    have H2 := Lib.hid (show PrAt j fa fc aa ac w1.heap.size [] w (w1.alloc (.cells #[.pointer none, .slice none 0 0] 57)) from ⟨Lib.IsBuilderF.of (Lib.fresh_isBuilder 57 5 w1), H1.out.2.alloc _, H1.out.1.alloc _, H1.out.2.lt, by simp⟩)
    have hgw : w.heap.size < w1.heap.size := H1.out.2.lt
    have z3 : (w1.alloc (.cells #[.pointer none, .slice none 0 0] 57)).cell? ⟨w.heap.size, 3, none⟩ = some (.int .i64 j.fuel) := H2.out.blk.cell 3
    have z4 : (w1.alloc (.cells #[.pointer none, .slice none 0 0] 57)).cell? ⟨w.heap.size, 4, none⟩ = some (.int .i64 j.tasks) := H2.out.blk.cell 4
    clear hp hpj hj
    go_upto_region 4 with fail
    generalize hgb : w1.heap.size = gb at *
    generalize w1.alloc (.cells #[.pointer none, .slice none 0 0] 57) = w2 at *
    go_wp2_with fail
    have k3 : Keep [] w2 (w2.alloc (.cells #[.int .i64 j.fuel, .int .i64 j.tasks] 3)) := (Keep.refl _ _).alloc _
    refine (numbers_spec (l := [j.fuel, j.tasks]) (HE.out.keep (H2.out.keep.trans k3 (by simp))) (ints_blk (l := [j.fuel, j.tasks]) (Blk.new' _ _ _ _ rfl)) (by intro n hn; simp at hn; rcases hn with rfl | rfl; exact HJI.out.fuel; exact HJI.out.tasks) (by simp)).mono ?_
    rintro e w3 ⟨hk3, v3, rfl, ho3⟩
    have H3 := Lib.hid (k3.trans hk3 (by simp))
    have HO3 := Lib.hid (StrsC.of_own (ps := [Lib.itoa j.fuel, Lib.itoa j.tasks]) ho3)
    clear hk3 ho3 k3
    go_wp2_with fail
    have hjb : (⟨#[106, 111, 98, 32]⟩ : ByteArray) = strB (wJob ++ [32]) := rfl
    rw [hjb]
    with_reducible refine (line_spec (h := wJob ++ [32]) (bs := []) (IsBuilder.keep0 H2.out.bld H3.out) (Nat.le_trans H2.out.size H3.out.size) HO3.out (by simp) (by decide) (by have := HSH.out.job; omega) (by simp)).mono ?_
    rintro e w4 ⟨rfl, hb4, hl4, hq4⟩
    have H4 := Lib.hid (H2.out.line H3.out hb4 hl4)
    clear hb4 hl4 hq4 z3 z4 HO3 H3 H2
    obtain ⟨mn, hmn⟩ := Int.eq_ofNat_of_zero_le HPJ.out.main0
    have hml : mn < j.funcs.length := by have := HPJ.out.main; omega
    obtain ⟨f, hfm⟩ := get_ex hml
    have hmI : (mn : Int) < (j.funcs.length : Int) := by omega
    have hm0 : (0 : Int) ≤ (mn : Int) := by omega
    have hfn : fnAt j j.main = f.name := fnAt_eq (by rw [hmn]; exact hfm)
    obtain ⟨g, off, cv, hfa, hg, c0, _, _, _, _⟩ := hf.at_ hfm
    subst hfa
    have HP := H4
    have z0 : w4.cell? ⟨w.heap.size, 0, none⟩ = some (.slice (some ⟨g, off, none⟩) j.funcs.length fc) := HP.out.blk.cell 0
    have z1 : w4.cell? ⟨w.heap.size, 1, none⟩ = some (.int .i64 (mn : Int)) := by rw [← hmn]; exact HP.out.blk.cell 1
    have z2 : w4.cell? ⟨w.heap.size, 2, none⟩ = some (.slice aa j.args.length ac) := HP.out.blk.cell 2
    have z3 : w4.cell? ⟨g, off + mn * 4, none⟩ = some (.string (strB f.name)) := cell_keep0 HP.out.keep c0
    have HL2 := Lib.hid (And.intro HP.out.lt (Nat.lt_trans hg HP.out.lt))
    have HI := Lib.hid (And.intro (fun (w' : World) (k : Keep [] w4 w') => (hav.keep0 HP.out.keep).keep0 k) (And.intro HJI.out.args (show j.args.length ≤ 1000000 from ha)))
    have HEW := Lib.hid (HE.out.keep HP.out.keep)
    have hsm := HSH.out.main
    rw [hfn] at hsm
    have hsj := HSH.out.job
    have HL := Lib.hid (show (f.name :: j.args.map Lib.itoa).length ≤ 1000000 ∧ (glue 32 (f.name :: j.args.map Lib.itoa)).length ≤ 1000000000 ∧ ([] ++ (wJob ++ [32] ++ glue 32 [Lib.itoa j.fuel, Lib.itoa j.tasks] ++ [10])).length ≤ 1000000000 from ⟨by have := HPJ.out.args; simp; omega, by omega, by simp [wJob] at hsj ⊢; omega⟩)
    have hmb : (⟨#[109, 97, 105, 110, 32]⟩ : ByteArray) = strB (wMain ++ [32]) := rfl
    have hHL : j.args.length ≤ 8 := HPJ.out.args
    clear hfm hml c0 hg hsm hsj
    go_upto_region 5 with fail
    go_cut [25] from 18 to 30 (fun _ wx => PrAt j (some ⟨g, off, none⟩) fc aa ac gb ([] ++ (wJob ++ [32] ++ glue 32 [Lib.itoa j.fuel, Lib.itoa j.tasks] ++ [10]) ++ (wMain ++ [32] ++ glue 32 (f.name :: j.args.map Lib.itoa) ++ [10])) w wx)
    case first =>
      go_region_held3 (fun w' => w'.cell? ⟨w.heap.size, 0, none⟩ = some (.slice (some ⟨g, off, none⟩) j.funcs.length fc) ∧ w'.cell? ⟨w.heap.size, 1, none⟩ = some (.int .i64 (mn : Int)) ∧ w'.cell? ⟨w.heap.size, 2, none⟩ = some (.slice aa j.args.length ac) ∧ w'.cell? ⟨g, off + mn * 4, none⟩ = some (.string (strB f.name))) (first | with_reducible exact ⟨r0, r1, r2, r3⟩ | exact cell4_keep (by (repeat (first | with_reducible assumption | with_reducible exact Keep.refl _ _ | with_reducible apply Keep.drew | with_reducible apply Keep.alloc))) ⟨z0, z1, z2, z3⟩)
        (first
          | ((go_at_call 26); go_must (refine (numbers_spec (HEW.out.keep (by (repeat (first | with_reducible assumption | with_reducible exact Keep.refl _ _ | with_reducible apply Keep.drew | with_reducible apply Keep.alloc)))) (HI.out.1 _ (by (repeat (first | with_reducible assumption | with_reducible exact Keep.refl _ _ | with_reducible apply Keep.drew | with_reducible apply Keep.alloc)))) HI.out.2.1 HI.out.2.2).mono ?_; rintro e5 w5 ⟨hk5, v5, rfl, ho5⟩; have k5 : Keep [] w4 w5 := Keep.trans (by (repeat (first | with_reducible assumption | with_reducible exact Keep.refl _ _ | with_reducible apply Keep.drew | with_reducible apply Keep.alloc))) hk5 (by simp); have s5 := k5.size; obtain ⟨a5, c5, rfl⟩ := ho5.shape))
          | ((with_reducible show ite (Region.wanted ⟨some 29, _, _, _, _, _⟩ _ = true) _ _); (with_reducible have _g : Keep [] ((w4.alloc (.cells #[.string (strB (f.name))] 9))).drew w5 := hk5); refine step_append_off rfl (.tmp 25) (.tmp 28) rfl Tryz.sts40 w4.heap.size (.slice (some ⟨w4.heap.size, 0, none⟩) 1 1) 1 [.string (strB (f.name))] (by simp [Act.eval, Act.put]) ?_ (.slice a5 j.args.length c5) j.args.length (j.args.map fun n => (Value.string (itoaB n))) (by simp [Act.eval, Act.put]) ?_ (by simp [Value.oneCell']) (by unfold maxLen; omega) (by omega) ?_ ?_; exact OwnsAt.low (own_lit 1 (by (repeat (first | with_reducible exact blkN rfl (by simp) | with_reducible apply blkO | with_reducible apply blkD | with_reducible refine Blk.keep ?_ hk5 (by simp)))) rfl (by unfold maxLen; omega)) (by omega); exact src_own (OwnsAt.keep (S := []) ho5 (by (repeat (first | with_reducible exact Keep.refl _ _ | with_reducible apply Keep.drew | with_reducible apply Keep.alloc))) (by simp)); exact Keep.size (S := []) (by (repeat (first | with_reducible assumption | with_reducible exact Keep.refl _ _ | with_reducible apply Keep.drew | with_reducible apply Keep.alloc))); intro v7 w7 ho7 hk7 hb7; have k7 : Keep [] w4 w7 := Keep.trans (S := []) (by (repeat (first | with_reducible assumption | with_reducible exact Keep.refl _ _ | with_reducible apply Keep.drew | with_reducible apply Keep.alloc))) hk7 (fun x hx => Or.inr (by have h9 := lit_block hx; omega)); have Z := Lib.hid (And.intro ho7 k7); obtain ⟨a7, c7, rfl⟩ := ho7.shape; clear ho7 hk7 hb7)
          | ((with_reducible show ite (Region.wanted ⟨some 29, _, _, _, _, _⟩ _ = true) _ _); (with_reducible have _g : Keep [] (w4).drew w5 := hk5); refine step_append_off rfl (.tmp 25) (.tmp 28) rfl Tryz.sts40 w4.heap.size (.slice (some ⟨w5.heap.size, 0, none⟩) 1 1) 1 [.string (strB (f.name))] (by simp [Act.eval, Act.put]) ?_ (.slice a5 j.args.length c5) j.args.length (j.args.map fun n => (Value.string (itoaB n))) (by simp [Act.eval, Act.put]) ?_ (by simp [Value.oneCell']) (by unfold maxLen; omega) (by omega) ?_ ?_; exact OwnsAt.low (own_lit 1 (by (repeat (first | with_reducible exact blkN rfl (by simp) | with_reducible apply blkO | with_reducible apply blkD | with_reducible refine Blk.keep ?_ hk5 (by simp)))) rfl (by unfold maxLen; omega)) (by omega); exact src_own (OwnsAt.keep (S := []) ho5 (by (repeat (first | with_reducible exact Keep.refl _ _ | with_reducible apply Keep.drew | with_reducible apply Keep.alloc))) (by simp)); exact Keep.size (S := []) (by (repeat (first | with_reducible assumption | with_reducible exact Keep.refl _ _ | with_reducible apply Keep.drew | with_reducible apply Keep.alloc))); intro v7 w7 ho7 hk7 hb7; have k7 : Keep [] w4 w7 := Keep.trans (S := []) (by (repeat (first | with_reducible assumption | with_reducible exact Keep.refl _ _ | with_reducible apply Keep.drew | with_reducible apply Keep.alloc))) hk7 (fun x hx => Or.inr (by have h9 := lit_block hx; omega)); have Z := Lib.hid (And.intro ho7 k7); obtain ⟨a7, c7, rfl⟩ := ho7.shape; clear ho7 hk7 hb7)
          | ((go_at_call 25); go_must ((try rw [hmb]); with_reducible refine (line_spec (h := wMain ++ [32]) (ps := f.name :: j.args.map Lib.itoa) (IsBuilder.keep0 HP.out.bld k7) (Nat.le_trans HP.out.size k7.size) (strsC_app Z.out.1) HL.out.1 (by decide) HL.out.2.1 HL.out.2.2).mono ?_; rintro e3 w3 ⟨rfl, hb3, hl3, hq3⟩; have r0 := cell_bel (cell_keep0 k7 z0) hl3 HL2.out.1; have r1 := cell_bel (cell_keep0 k7 z1) hl3 HL2.out.1; have r2 := cell_bel (cell_keep0 k7 z2) hl3 HL2.out.1; have r3 := cell_bel (cell_keep0 k7 z3) hl3 HL2.out.2; have H3 := Lib.hid (HP.out.line k7 hb3 hl3)))
          | fail)
      all_goals
        go_wp2_with fail
        go_meet
        case rel => exact Hid.out H3
    case rest =>
      have h5 : PrAt j (some ⟨g, off, none⟩) fc aa ac gb (textL (doneL j 0)) w wc := by rw [done0 j hfn] at hcut; exact hcut
      have H5 := Lib.hid h5
      have HJW := Lib.hid (And.intro hf ha)
      have z50 : wc.cell? ⟨w.heap.size, 0, none⟩ = some (.slice (some ⟨g, off, none⟩) j.funcs.length fc) := h5.blk.cell 0
      have hfI : (j.funcs.length : Int) ≤ 32 := by have := HPJ.out.few; omega
      clear hcut h5 z0 z1 z2 z3 hmI hm0 HL HL2 HI HEW H4 HP hmn hfn hav hf ha hHL
      go_wp2_with fail
      clear z50
      go_loopw [5, 7, 34] (fun _ _ vi wr => ∃ i : Nat, i ≤ j.funcs.length ∧ vi = .int .i64 i ∧ PrAt j (some ⟨g, off, none⟩) fc aa ac gb (textL (doneL j i)) w wr) (fun _ _ vi _ => j.funcs.length - (intOf vi).toNat)
      case atStart => exact ⟨0, Nat.zero_le _, rfl, H5.out⟩
      case round =>
        clear H5
        obtain ⟨i, hi, rfl, hp⟩ := hrel
        by_cases hlt : i < j.funcs.length
        · have hltI : (i : Int) < (j.funcs.length : Int) := by omega
          have hi0 : (0 : Int) ≤ (i : Int) := by omega
          obtain ⟨f, hfi⟩ := get_ex hlt
          obtain ⟨g', off', cv, he, hg2, c0', c1', c2', c3', hcode⟩ := HJW.out.1.at_ hfi
          injection he with he
          injection he with he1 he2
          subst he1 he2
          obtain ⟨ca, cc, rfl⟩ := hcode.shape
          have c0 := cell_keep0 hp.keep c0'
          have c1 := cell_keep0 hp.keep c1'
          have c2 := cell_keep0 hp.keep c2'
          have c3 := cell_keep0 hp.keep c3'
          have kb : Keep [] wr (wr.alloc (.cells #[.string (strB f.name), .int .i64 f.args, .int .i64 f.locals, .slice ca f.code.length cc] 36)) := (Keep.refl _ _).alloc _
          have bb : Blk (wr.alloc (.cells #[.string (strB f.name), .int .i64 f.args, .int .i64 f.locals, .slice ca f.code.length cc] 36)) wr.heap.size 36 [.string (strB f.name), .int .i64 f.args, .int .i64 f.locals, .slice ca f.code.length cc] := Blk.new' _ _ _ _ rfl
          have HP := Lib.hid (hp.keep0 kb)
          have HB := Lib.hid bb
          have HC := Lib.hid (And.intro hcode (And.intro hfi (Nat.lt_of_lt_of_le HP.out.lt hp.size)))
          have hbx : gb < wr.heap.size := bld_lt hp.bld
          have b0 := bb.cell 0
          have b1 := bb.cell 1
          have b2 := bb.cell 2
          simp only [List.getElem?_cons_zero, List.getElem?_cons_succ] at b0 b1 b2
          clear c0' c1' c2' c3' hcode hfi hg2 hp kb bb
          go_upto_region 9 with fail
          clear c0 c1 c2 c3
          generalize wr.alloc (.cells #[.string (strB f.name), .int .i64 f.args, .int .i64 f.locals, .slice ca f.code.length cc] 36) = wb at *
          generalize wr.heap.size = bx at *
          have HMF := Lib.hid (List.mem_of_getElem? HC.out.2.1)
          have HEW := Lib.hid (HE.out.keep HP.out.keep)
          have hsf := HSH.out.func f HMF.out
          have hdl := done_len0 HPJ.out HJI.out i
          have HL := Lib.hid (show (f.name :: [f.args, f.locals].map Lib.itoa).length ≤ 1000000 ∧ (glue 32 (f.name :: [f.args, f.locals].map Lib.itoa)).length ≤ 1000000000 ∧ (textL (doneL j i)).length ≤ 1000000000 from ⟨by simp, by simp only [List.map_cons, List.map_nil]; omega, by omega⟩)
          have hfb : (⟨#[102, 117, 110, 99, 32]⟩ : ByteArray) = strB (wFunc ++ [32]) := rfl
          clear hsf hdl
          go_cut [34] from 34 to 61 (fun v34 wx => v34 = .int .i64 i ∧ PrAt j (some ⟨g, off, none⟩) fc aa ac gb (textL (doneL j i ++ funcLine f :: (f.code.take 0).map (insLine j))) w wx ∧ Blk wx bx 36 [.string (strB f.name), .int .i64 f.args, .int .i64 f.locals, .slice ca f.code.length cc])
          case first =>
            go_region_held3 (fun w' => w'.cell? ⟨bx, 0, none⟩ = some (.string (strB f.name)) ∧ w'.cell? ⟨bx, 1, none⟩ = some (.int .i64 f.args) ∧ w'.cell? ⟨bx, 2, none⟩ = some (.int .i64 f.locals)) (first | with_reducible exact ⟨r0, r1, r2⟩ | exact cell3_keep (by (repeat (first | with_reducible assumption | with_reducible exact Keep.refl _ _ | with_reducible apply Keep.drew | with_reducible apply Keep.alloc))) ⟨b0, b1, b2⟩)
              (first
          | ((go_at_call 26); go_must (refine (numbers_spec (HEW.out.keep (by (repeat (first | with_reducible assumption | with_reducible exact Keep.refl _ _ | with_reducible apply Keep.drew | with_reducible apply Keep.alloc)))) (ints_blk (l := [f.args, f.locals]) (by (repeat (first | with_reducible exact blkN rfl (by simp) | with_reducible apply blkO | with_reducible apply blkD)))) (by intro n hn; simp at hn; rcases hn with rfl | rfl; exact (HJI.out.funcs f HMF.out).args; exact (HJI.out.funcs f HMF.out).locals) (by simp)).mono ?_; rintro e5 w5 ⟨hk5, v5, rfl, ho5⟩; have k5 : Keep [] wb w5 := Keep.trans (by (repeat (first | with_reducible assumption | with_reducible exact Keep.refl _ _ | with_reducible apply Keep.drew | with_reducible apply Keep.alloc))) hk5 (by simp); have s5 := k5.size; obtain ⟨a5, c5, rfl⟩ := ho5.shape))
          | ((with_reducible show ite (Region.wanted ⟨some 47, _, _, _, _, _⟩ _ = true) _ _); (with_reducible have _g : Keep [] (((wb.alloc (.cells #[.string (strB (f.name))] 9)).alloc (.cells #[.int .i64 f.args, .int .i64 f.locals] 3))).drew w5 := hk5); refine step_append_off rfl (.tmp 40) (.tmp 46) rfl Tryz.sts40 wb.heap.size (.slice (some ⟨wb.heap.size, 0, none⟩) 1 1) 1 [.string (strB (f.name))] (by simp [Act.eval, Act.put]) ?_ (.slice a5 2 c5) 2 ([f.args, f.locals].map fun n => (Value.string (itoaB n))) (by simp [Act.eval, Act.put]) ?_ (by simp [Value.oneCell']) (by unfold maxLen; omega) (by omega) ?_ ?_; exact OwnsAt.low (own_lit 1 (by (repeat (first | with_reducible exact blkN rfl (by simp) | with_reducible apply blkO | with_reducible apply blkD | with_reducible refine Blk.keep ?_ hk5 (by simp)))) rfl (by unfold maxLen; omega)) (by omega); exact src_own (OwnsAt.keep (S := []) ho5 (by (repeat (first | with_reducible exact Keep.refl _ _ | with_reducible apply Keep.drew | with_reducible apply Keep.alloc))) (by simp)); exact Keep.size (S := []) (by (repeat (first | with_reducible assumption | with_reducible exact Keep.refl _ _ | with_reducible apply Keep.drew | with_reducible apply Keep.alloc))); intro v7 w7 ho7 hk7 hb7; have k7 : Keep [] wb w7 := Keep.trans (S := []) (by (repeat (first | with_reducible assumption | with_reducible exact Keep.refl _ _ | with_reducible apply Keep.drew | with_reducible apply Keep.alloc))) hk7 (fun x hx => Or.inr (by have h9 := lit_block hx; omega)); have Z := Lib.hid (And.intro ho7 k7); obtain ⟨a7, c7, rfl⟩ := ho7.shape; clear ho7 hk7 hb7)
          | ((with_reducible show ite (Region.wanted ⟨some 47, _, _, _, _, _⟩ _ = true) _ _); (with_reducible have _g : Keep [] (((wb.alloc (.cells #[.int .i64 f.args, .int .i64 f.locals] 3)).alloc (.cells #[.string (strB (f.name))] 9))).drew w5 := hk5); refine step_append_off rfl (.tmp 40) (.tmp 46) rfl Tryz.sts40 wb.heap.size (.slice (some ⟨(wb.heap.size + 1), 0, none⟩) 1 1) 1 [.string (strB (f.name))] (by simp [Act.eval, Act.put]) ?_ (.slice a5 2 c5) 2 ([f.args, f.locals].map fun n => (Value.string (itoaB n))) (by simp [Act.eval, Act.put]) ?_ (by simp [Value.oneCell']) (by unfold maxLen; omega) (by omega) ?_ ?_; exact OwnsAt.low (own_lit 1 (by (repeat (first | with_reducible exact blkN rfl (by simp) | with_reducible apply blkO | with_reducible apply blkD | with_reducible refine Blk.keep ?_ hk5 (by simp)))) rfl (by unfold maxLen; omega)) (by omega); exact src_own (OwnsAt.keep (S := []) ho5 (by (repeat (first | with_reducible exact Keep.refl _ _ | with_reducible apply Keep.drew | with_reducible apply Keep.alloc))) (by simp)); exact Keep.size (S := []) (by (repeat (first | with_reducible assumption | with_reducible exact Keep.refl _ _ | with_reducible apply Keep.drew | with_reducible apply Keep.alloc))); intro v7 w7 ho7 hk7 hb7; have k7 : Keep [] wb w7 := Keep.trans (S := []) (by (repeat (first | with_reducible assumption | with_reducible exact Keep.refl _ _ | with_reducible apply Keep.drew | with_reducible apply Keep.alloc))) hk7 (fun x hx => Or.inr (by have h9 := lit_block hx; omega)); have Z := Lib.hid (And.intro ho7 k7); obtain ⟨a7, c7, rfl⟩ := ho7.shape; clear ho7 hk7 hb7)
          | ((with_reducible show ite (Region.wanted ⟨some 47, _, _, _, _, _⟩ _ = true) _ _); (with_reducible have _g : Keep [] ((wb.alloc (.cells #[.int .i64 f.args, .int .i64 f.locals] 3))).drew w5 := hk5); refine step_append_off rfl (.tmp 40) (.tmp 46) rfl Tryz.sts40 wb.heap.size (.slice (some ⟨w5.heap.size, 0, none⟩) 1 1) 1 [.string (strB (f.name))] (by simp [Act.eval, Act.put]) ?_ (.slice a5 2 c5) 2 ([f.args, f.locals].map fun n => (Value.string (itoaB n))) (by simp [Act.eval, Act.put]) ?_ (by simp [Value.oneCell']) (by unfold maxLen; omega) (by omega) ?_ ?_; exact OwnsAt.low (own_lit 1 (by (repeat (first | with_reducible exact blkN rfl (by simp) | with_reducible apply blkO | with_reducible apply blkD | with_reducible refine Blk.keep ?_ hk5 (by simp)))) rfl (by unfold maxLen; omega)) (by omega); exact src_own (OwnsAt.keep (S := []) ho5 (by (repeat (first | with_reducible exact Keep.refl _ _ | with_reducible apply Keep.drew | with_reducible apply Keep.alloc))) (by simp)); exact Keep.size (S := []) (by (repeat (first | with_reducible assumption | with_reducible exact Keep.refl _ _ | with_reducible apply Keep.drew | with_reducible apply Keep.alloc))); intro v7 w7 ho7 hk7 hb7; have k7 : Keep [] wb w7 := Keep.trans (S := []) (by (repeat (first | with_reducible assumption | with_reducible exact Keep.refl _ _ | with_reducible apply Keep.drew | with_reducible apply Keep.alloc))) hk7 (fun x hx => Or.inr (by have h9 := lit_block hx; omega)); have Z := Lib.hid (And.intro ho7 k7); obtain ⟨a7, c7, rfl⟩ := ho7.shape; clear ho7 hk7 hb7)
          | ((go_at_call 25); go_must ((try rw [hfb]); have hsc : StrsC w7 (.slice a7 3 c7) (f.name :: [f.args, f.locals].map Lib.itoa) := strsC_app (l := [f.args, f.locals]) Z.out.1; with_reducible refine (line_spec (h := wFunc ++ [32]) (ps := f.name :: [f.args, f.locals].map Lib.itoa) (IsBuilder.keep0 HP.out.bld k7) (Nat.le_trans HP.out.size k7.size) hsc HL.out.1 (by decide) HL.out.2.1 HL.out.2.2).mono ?_; rintro e3 w3 ⟨rfl, hb3, hl3, hq3⟩; have hB3 := blk_others (HB.out.keep k7 (by simp)) hq3 (Nat.ne_of_gt hbx) (by decide); have r0 := hB3.cell 0; have r1 := hB3.cell 1; have r2 := hB3.cell 2; simp only [List.getElem?_cons_zero, List.getElem?_cons_succ] at r0 r1 r2; have H3 := Lib.hid (And.intro (show PrAt j (some ⟨g, off, none⟩) fc aa ac gb (textL (doneL j i ++ funcLine f :: (f.code.take 0).map (insLine j))) w w3 from by rw [← doneF]; simp only [List.map_cons, List.map_nil] at hb3; exact HP.out.line k7 hb3 hl3) hB3)))
          | fail)
            all_goals
              go_wp2_with fail
              go_meet
              case rel => exact ⟨rfl, Hid.out H3⟩
          case rest =>
            obtain ⟨rfl, hp6, hb6⟩ := hcut
            have H6 := Lib.hid (And.intro hp6 (HC.out.1.keep0 hp6.keep))
            have b3 : wc.cell? ⟨bx, 3, none⟩ = some (.slice ca f.code.length cc) := hb6.cell 3
            have hclI : (f.code.length : Int) ≤ 256 := by have := (HPJ.out.fnm HMF.out).2; omega
            clear hp6 hb6 HL HB HEW b0 b1 b2
            go_wp2_with fail
            clear b3
            go_loopw [7, 52] (fun _ vq wq => ∃ q : Nat, q ≤ f.code.length ∧ vq = .int .i64 q ∧ PrAt j (some ⟨g, off, none⟩) fc aa ac gb (textL (doneL j i ++ funcLine f :: (f.code.take q).map (insLine j))) w wq) (fun _ vq _ => f.code.length - (intOf vq).toNat)
            case atStart => exact ⟨0, Nat.zero_le _, rfl, H6.out.1⟩
            case round =>
              obtain ⟨q, hq, rfl, hp7⟩ := hrel
              by_cases hlq : q < f.code.length
              · have hlqI : (q : Int) < (f.code.length : Int) := by omega
                have hq0 : (0 : Int) ≤ (q : Int) := by omega
                obtain ⟨x, hx⟩ := get_ex hlq
                obtain ⟨g3, o3, hca, _, d0, d1⟩ := (HC.out.1.keep0 hp7.keep).at_ hx
                subst hca
                have zb := hp7.blk
                have z0 : wr.cell? ⟨w.heap.size, 0, none⟩ = some (.slice (some ⟨g, off, none⟩) j.funcs.length fc) := zb.cell 0
                have z1 : wr.cell? ⟨w.heap.size, 1, none⟩ = some (.int .i64 j.main) := zb.cell 1
                have z2 : wr.cell? ⟨w.heap.size, 2, none⟩ = some (.slice aa j.args.length ac) := zb.cell 2
                have z3 : wr.cell? ⟨w.heap.size, 3, none⟩ = some (.int .i64 j.fuel) := zb.cell 3
                have z4 : wr.cell? ⟨w.heap.size, 4, none⟩ = some (.int .i64 j.tasks) := zb.cell 4
                have hww : w.heap.size < wr.heap.size := zb.lt
                have kx : Keep [] wr (wr.alloc (.cells #[.int .i64 x.op, .int .i64 x.n] 47)) := (Keep.refl _ _).alloc _
                have hmx := List.mem_of_getElem? hx
                have HX := Lib.hid (And.intro (hp7.keep0 kx) (And.intro hx (And.intro (done_len HPJ.out HJI.out (q := q) HC.out.2.1) (HSH.out.ins f HMF.out x hmx))))
                have HW := Lib.hid (insW_spec (HE.out.keep (hp7.keep.trans kx (by simp))) (HJ.out.keep0 (hp7.keep.trans kx (by simp))) x ((HJI.out.funcs f HMF.out).code x hmx) (fun h16 => plainI_16 (HPJ.out.ins HMF.out hmx) h16) (by have := HPJ.out.few; omega))
                clear hp7 hx kx zb hmx
                unfold inV at HW
                go_wp2_with fail
                refine HW.out.mono ?_
                rintro e w5 ⟨hk5, v5, rfl, hs5⟩
                have hrb : (⟨#[32, 32]⟩ : ByteArray) = strB [32, 32] := rfl
                have HL := Lib.hid (show (insW j x).length ≤ 1000000 ∧ (glue 32 (insW j x)).length ≤ 1000000000 ∧ (textL (doneL j i ++ funcLine f :: (f.code.take q).map (insLine j))).length ≤ 1000000000 from ⟨by unfold insW; split; simp; split <;> simp, by have := HX.out.2.2.2; omega, by have := HX.out.2.2.1; omega⟩)
                have H5 := Lib.hid (And.intro hk5 hs5)
                clear hk5 hs5 d0 d1 z0 z1 z2 z3 z4 HW
                go_wp2_with fail
                (try rw [hrb])
                with_reducible refine (line_spec (h := [32, 32]) (IsBuilder.keep0 HX.out.1.bld H5.out.1) (Nat.le_trans HX.out.1.size H5.out.1.size) H5.out.2 HL.out.1 (by decide) HL.out.2.1 HL.out.2.2).mono ?_
                rintro e w8 ⟨rfl, hb8, hl8, hq8⟩
                have H8 := Lib.hid (HX.out.1.line H5.out.1 hb8 hl8)
                clear hb8 hl8 hq8
                go_wp2
                go_roundw
                case rel => exact ⟨q + 1, by omega, by go_num, by rw [← doneI HX.out.2.1]; exact H8.out⟩
                case measure => simp [intOf]; omega
              · obtain rfl : q = f.code.length := by omega
                have HX := Lib.hid (show PrAt j (some ⟨g, off, none⟩) fc aa ac gb (textL (doneL j (i + 1))) w wr from by rw [doneL_next HC.out.2.1]; unfold fnLines; rw [List.take_length] at hp7; exact hp7)
                clear hp7
                go_wp2
                go_roundw
                case rel => exact ⟨i + 1, by omega, by go_num, HX.out⟩
                case measure => simp [intOf]; omega
        · obtain rfl : i = j.funcs.length := by omega
          have HP := Lib.hid hp
          have hpl := done_len0 HPJ.out HJI.out j.funcs.length
          have hlen : (textL (doneL j j.funcs.length)).length ≤ 1000000000 := by omega
          have HL := Lib.hid hlen
          have heb : (⟨#[101, 110, 100]⟩ : ByteArray) = strB wEnd := rfl
          clear hp hpl hlen
          go_wp2_with fail
          (try rw [heb])
          with_reducible refine (line_spec (h := wEnd) (ps := []) HP.out.bld HP.out.size (StrsC.nil _) (by simp) (by decide) (by simp [glue]) HL.out).mono ?_
          rintro e w8 ⟨rfl, hb8, hl8, hq8⟩
          have H8 := Lib.hid (HP.out.line (Keep.refl _ _) hb8 hl8)
          clear hb8 hl8 hq8
          go_wp2_with fail
          refine (Tryz.Builder_String_any_k gb gb _ _ H8.out.bld H8.out.size).mono ?_
          rintro e w9 ⟨rfl, hb9, hl9, hq9⟩
          have H9 := Lib.hid (keep_bel H8.out.keep hl9 (Nat.le_of_lt H8.out.lt) H8.out.size)
          clear hb9 hl9 hq9
          go_wp2
          go_ret
          have hfin : printJ j = textL (doneL j j.funcs.length) ++ (wEnd ++ glue 32 [] ++ [10]) := by
            rw [printJ_plain HPJ.out, ← doneL_all, textL_app, textL_one]
            simp [glue]
          exact ⟨by rw [hfin]; rfl, H9.out⟩
  · have hp' : plainJ j = false := by simpa using hp
    rw [hp']
    have HN := Lib.hid (show printJ j = [] by unfold printJ; rw [if_neg hp])
    clear hp hp'
    go_wp2
    go_ret
    exact ⟨by rw [HN.out]; rfl, H1.out.1⟩
end Go.Proofs.YtbdkmfcgnolihaaGreatDoor
