/- asm: the document's example -/
import Derived.Test.YtbdkmfcgnolihaaGreatDoorRows
import Derived.WalkKit
import Derived.WalkSpells
import Derived.WalkLawsBesides
import Derived.RegionTactic
import Derived.ChangeAlike
import Derived.BigQuiet
import Derived.Deep.QuietTactic
import Derived.StillTailTactics
import Derived.IntWalk
import Derived.Handy
import Derived.Lib.Hide
import Derived.Deep.AppendLies
import Derived.Deep.RegionWith
import Derived.Test.YtbdkmfcgnolihaaGreatDoorBase
import Derived.Test.YtbdkmfcgnolihaaGreatDoorTail
import Derived.Test.YtbdkmfcgnolihaaGreatDoorArgs
import Derived.Test.YtbdkmfcgnolihaaGreatDoorAppend
import Derived.Test.YtbdkmfcgnolihaaGreatDoorOffs
import Derived.Test.YtbdkmfcgnolihaaGreatDoorStructs
import Derived.Carry
import Derived.Deep.RegionHeld3
import Derived.BigRegion
import Derived.Maps.OwnSet
import Derived.Maps.Views
import Derived.Maps.StringElems
import Derived.Test.YtbdkmfcgnolihaaGreatDoorMaps2
import Derived.Deep.CutRange
import Derived.Deep.CutBlock
import Derived.Test.YtbdkmfcgnolihaaGreatDoorBase
import Derived.Test.YtbdkmfcgnolihaaGreatDoorTail
import Derived.Test.YtbdkmfcgnolihaaGreatDoorArgs
import Derived.Test.YtbdkmfcgnolihaaGreatDoorAppend
import Derived.Test.YtbdkmfcgnolihaaGreatDoorOffs
import Derived.Test.YtbdkmfcgnolihaaGreatDoorStructs
import Derived.Test.YtbdkmfcgnolihaaGreatDoorFEnv
import Derived.Test.YtbdkmfcgnolihaaGreatDoorAObj
import Derived.Test.YtbdkmfcgnolihaaGreatDoorAPlain
import Derived.Test.YtbdkmfcgnolihaaGreatDoorAPlain2
import Derived.Test.YtbdkmfcgnolihaaGreatDoorAPl
import Derived.Test.YtbdkmfcgnolihaaGreatDoorAPlJ
import Derived.Test.YtbdkmfcgnolihaaGreatDoorAPr
import Derived.Test.YtbdkmfcgnolihaaGreatDoorARead
import Derived.Test.YtbdkmfcgnolihaaGreatDoorASame
namespace Go.Proofs.YtbdkmfcgnolihaaGreatDoor
set_option linter.unusedSimpArgs false
set_option linter.unnecessarySimpa false
set_option linter.unusedVariables false
open Go.RowKit
/-- a job of one function and no arguments -/
def oneJ (code : List IN) : JB := ⟨[⟨[102], 0, 0, code⟩], 0, [], 100, 50⟩
theorem fns_one {w : World} {b : Nat} {f : FN} {cv : Value} (hc : CodeRd w cv f.code) (h : Blk w b 36 [.string (strB f.name), .int .i64 f.args, .int .i64 f.locals, cv]) (t : Nat) : FnsRd w (.slice (some ⟨b, 0, none⟩) 1 t) [f] := by
  refine ⟨_, _, rfl, fun k g hg => ?_⟩
  obtain ⟨rfl, rfl⟩ : k = 0 ∧ g = f := by
    match k, hg with
    | 0, hg => exact ⟨rfl, by simpa using hg.symm⟩
    | k + 1, hg => simp at hg
  exact ⟨b, 0, cv, rfl, h.lt, h.cell 0, h.cell 1, h.cell 2, h.cell 3, hc⟩
set_option maxHeartbeats 1600000 in
theorem one_spec {w : World} {cv : Value} {code : List IN} (h : CodeRd w cv code) : Calls Tryz.prog 22 #[cv] w fun e w' => ∃ jv, e = .returned jv ∧ JobRd w' jv (oneJ code) ∧ Keep [] w w' := by
  have HC := Lib.hid h
  obtain ⟨a, c, rfl⟩ := h.shape
  clear h
  go_enter Tryz.func22, Tryz.ntmps22
  have kA : Keep [] w ((w.alloc (.cells #[.slice (some ⟨w.heap.size + 1, 0, none⟩) 1 1, .int .i64 0, .slice none 0 0, .int .i64 100, .int .i64 50] 25)).alloc (.cells #[.string ⟨#[102]⟩, .int .i64 0, .int .i64 0, .slice a code.length c] 36)) := ((Keep.refl _ _).alloc _).alloc _
  have bA : Blk ((w.alloc (.cells #[.slice (some ⟨w.heap.size + 1, 0, none⟩) 1 1, .int .i64 0, .slice none 0 0, .int .i64 100, .int .i64 50] 25)).alloc (.cells #[.string ⟨#[102]⟩, .int .i64 0, .int .i64 0, .slice a code.length c] 36)) w.heap.size 25 [.slice (some ⟨w.heap.size + 1, 0, none⟩) 1 1, .int .i64 0, .slice none 0 0, .int .i64 100, .int .i64 50] := (Blk.new' _ _ _ _ rfl).alloc _
  have bB : Blk ((w.alloc (.cells #[.slice (some ⟨w.heap.size + 1, 0, none⟩) 1 1, .int .i64 0, .slice none 0 0, .int .i64 100, .int .i64 50] 25)).alloc (.cells #[.string ⟨#[102]⟩, .int .i64 0, .int .i64 0, .slice a code.length c] 36)) (w.heap.size + 1) 36 [.string ⟨#[102]⟩, .int .i64 0, .int .i64 0, .slice a code.length c] := by
    have e : w.heap.size + 1 = (w.alloc (.cells #[.slice (some ⟨w.heap.size + 1, 0, none⟩) 1 1, .int .i64 0, .slice none 0 0, .int .i64 100, .int .i64 50] 25)).heap.size := by simp
    have h5 : Blk ((w.alloc (.cells #[.slice (some ⟨w.heap.size + 1, 0, none⟩) 1 1, .int .i64 0, .slice none 0 0, .int .i64 100, .int .i64 50] 25)).alloc (.cells #[.string ⟨#[102]⟩, .int .i64 0, .int .i64 0, .slice a code.length c] 36)) (w.alloc (.cells #[.slice (some ⟨w.heap.size + 1, 0, none⟩) 1 1, .int .i64 0, .slice none 0 0, .int .i64 100, .int .i64 50] 25)).heap.size 36 [.string ⟨#[102]⟩, .int .i64 0, .int .i64 0, .slice a code.length c] := Blk.new' _ _ _ _ rfl
    rwa [← e] at h5
  have HA := Lib.hid (And.intro kA (And.intro bA bB))
  clear kA bA bB
  go_wp2_with fail
  generalize ((w.alloc (.cells #[.slice (some ⟨w.heap.size + 1, 0, none⟩) 1 1, .int .i64 0, .slice none 0 0, .int .i64 100, .int .i64 50] 25)).alloc (.cells #[.string ⟨#[102]⟩, .int .i64 0, .int .i64 0, .slice a code.length c] 36)) = w2 at *
  have d0 := HA.out.2.1.cell 0
  have d1 := HA.out.2.1.cell 1
  have d2 := HA.out.2.1.cell 2
  have d3 := HA.out.2.1.cell 3
  have d4 := HA.out.2.1.cell 4
  exact bodyPost_ret (v := .agg #[.slice (some ⟨w.heap.size + 1, 0, none⟩) 1 1, .int .i64 0, .slice none 0 0, .int .i64 100, .int .i64 50]) (by simp [results, Tryz.results22, go_sem, d0, d1, d2, d3, d4]) rfl ⟨_, rfl, ⟨_, _, rfl, fns_one (HC.out.keep0 HA.out.1) HA.out.2.2 1, IntsOf.nil _⟩, HA.out.1⟩
def exJ : JB := oneJ [⟨1, 5⟩, ⟨18, 0⟩]
theorem exJ_plain : PlainJ exJ := (plainJ_iff _).1 (by decide)
theorem exJ_in : exJ.In := ⟨fun f hf => by
  obtain rfl : f = ⟨[102], 0, 0, [⟨1, 5⟩, ⟨18, 0⟩]⟩ := by simpa [exJ, oneJ] using hf
  exact ⟨by simp [In64], by simp [In64], fun i hi => by
    have : i = ⟨1, 5⟩ ∨ i = ⟨18, 0⟩ := by simpa using hi
    rcases this with rfl | rfl <;> exact ⟨by simp [In64], by simp [In64]⟩⟩, by simp [In64, exJ, oneJ], fun n hn => by simp [exJ, oneJ] at hn, by simp [In64, exJ, oneJ], by simp [In64, exJ, oneJ]⟩
theorem exJ_short : JShort exJ := ⟨by decide, fun f hf => by
  obtain rfl : f = ⟨[102], 0, 0, [⟨1, 5⟩, ⟨18, 0⟩]⟩ := by simpa [exJ, oneJ] using hf
  decide, fun f hf => by
  obtain rfl : f = ⟨[102], 0, 0, [⟨1, 5⟩, ⟨18, 0⟩]⟩ := by simpa [exJ, oneJ] using hf
  decide⟩
theorem exJ_text : strB (printJ exJ) = ⟨#[106, 111, 98, 32, 49, 48, 48, 32, 53, 48, 10, 109, 97, 105, 110, 32, 102, 10, 102, 117, 110, 99, 32, 102, 32, 48, 32, 48, 10, 32, 32, 112, 117, 115, 104, 32, 53, 10, 32, 32, 114, 101, 116, 10, 101, 110, 100, 10]⟩ := by
  unfold strB
  congr 1
  decide +kernel
theorem code_lit {w : World} {b : Nat} {l : List IN} {n c : Nat} (hn : n = l.length) (h : Blk w b 47 (l.flatMap inC)) : CodeRd w (.slice (some ⟨b, 0, none⟩) n c) l := by
  subst hn
  refine ⟨_, _, rfl, fun i x hx => ?_⟩
  have h0 : w.cell? ⟨b, i * 2 + 0, none⟩ = some (.int .i64 x.op) := by rw [h.cell, flat_at inC_len l i x 0 hx (by omega)]; rfl
  have h1 : w.cell? ⟨b, i * 2 + 1, none⟩ = some (.int .i64 x.n) := by rw [h.cell, flat_at inC_len l i x 1 hx (by omega)]; rfl
  exact ⟨b, 0, rfl, h.lt, by simpa using h0, by simpa using h1⟩
theorem num_spec (w : World) (n : Int) : Calls Tryz.prog 17 #[.int .i64 n] w fun e w' => e = .returned (.int .i64 n) ∧ w' = w := by
  go_enter Tryz.func17, Tryz.ntmps17
  go_wp2
  go_ret
  exact ⟨rfl, rfl⟩
set_option maxHeartbeats 3200000 in
set_option maxRecDepth 100000 in
theorem alive_spec {w : World} (hE : Env1 w) : Calls Tryz.prog 10 #[] w fun e w' => e = .returned (.bool true) ∧ Keep [] w w' := by
  have HE := Lib.hid hE
  have k1 : Keep [] w (w.alloc (.cells #[.int .i64 1, .int .i64 5, .int .i64 18, .int .i64 0] 47)) := (Keep.refl _ _).alloc _
  have b1 : Blk (w.alloc (.cells #[.int .i64 1, .int .i64 5, .int .i64 18, .int .i64 0] 47)) w.heap.size 47 (List.flatMap inC [⟨1, 5⟩, ⟨18, 0⟩]) := Blk.new' _ _ _ _ rfl
  obtain ⟨j, hj⟩ : ∃ j, j = exJ := ⟨_, rfl⟩
  have ONE := Lib.hid (show Calls Tryz.prog 22 #[.slice (some ⟨w.heap.size, 0, none⟩) 2 2] (w.alloc (.cells #[.int .i64 1, .int .i64 5, .int .i64 18, .int .i64 0] 47)) (fun e w' => ∃ jv, e = .returned jv ∧ JobRd w' jv j ∧ Keep [] (w.alloc (.cells #[.int .i64 1, .int .i64 5, .int .i64 18, .int .i64 0] 47)) w') from by
    rw [hj]
    exact one_spec (code_lit (n := 2) (c := 2) rfl b1))
  have H1 := Lib.hid k1
  have HP := Lib.hid (show j.In ∧ JShort j ∧ j.args.length ≤ 1000000 ∧ strB (printJ j) = ⟨#[106, 111, 98, 32, 49, 48, 48, 32, 53, 48, 10, 109, 97, 105, 110, 32, 102, 10, 102, 117, 110, 99, 32, 102, 32, 48, 32, 48, 10, 32, 32, 112, 117, 115, 104, 32, 53, 10, 32, 32, 114, 101, 116, 10, 101, 110, 100, 10]⟩ ∧ readJ (printJ j) = ⟨j, 0, 0⟩ ∧ (printJ j).length ≤ 1000000000 from by
    rw [hj]
    have hl : (printJ exJ).length = 48 := by
      have := congrArg ByteArray.size exJ_text
      rw [strB_size] at this
      exact this
    refine ⟨exJ_in, exJ_short, by decide, exJ_text, ?_, by omega⟩
    unfold readJ
    rw [if_neg (by omega), readP_print exJ_plain exJ_in])
  clear hE k1 b1 hj
  go_enter Tryz.func10, Tryz.ntmps10
  go_wp2_with fail
  refine ONE.out.mono ?_
  rintro e w2 ⟨jv, rfl, hj2, hk2⟩
  obtain ⟨fa, fc, aa, ac, rfl, _, _⟩ := jobRd_cells hj2
  have kA : Keep [] w2 (w2.alloc (.cells #[.slice fa j.funcs.length fc, .int .i64 j.main, .slice aa j.args.length ac, .int .i64 j.fuel, .int .i64 j.tasks] 25)) := (Keep.refl _ _).alloc _
  have bA : Blk (w2.alloc (.cells #[.slice fa j.funcs.length fc, .int .i64 j.main, .slice aa j.args.length ac, .int .i64 j.fuel, .int .i64 j.tasks] 25)) w2.heap.size 25 [.slice fa j.funcs.length fc, .int .i64 j.main, .slice aa j.args.length ac, .int .i64 j.fuel, .int .i64 j.tasks] := Blk.new' _ _ _ _ rfl
  have H2 := Lib.hid (And.intro (H1.out.trans hk2 (by simp)) (And.intro kA (And.intro bA hj2)))
  clear hj2 hk2 kA bA H1 ONE
  go_upto_region 2 with fail
  generalize (w2.alloc (.cells #[.slice fa j.funcs.length fc, .int .i64 j.main, .slice aa j.args.length ac, .int .i64 j.fuel, .int .i64 j.tasks] 25)) = w3 at *
  have c0 := H2.out.2.2.1.cell 0
  have c1 := H2.out.2.2.1.cell 1
  have c2 := H2.out.2.2.1.cell 2
  have c3 := H2.out.2.2.1.cell 3
  have c4 := H2.out.2.2.1.cell 4
  have H3 := Lib.hid (And.intro (H2.out.1.trans H2.out.2.1 (by simp)) (And.intro H2.out.2.2.1 (H2.out.2.2.2.keep0 H2.out.2.1)))
  clear H2
  go_wp2_with fail
  refine (print_spec (HE.out.env.keep H3.out.1) H3.out.2.2 HP.out.1 HP.out.2.1 HP.out.2.2.1).mono ?_
  rintro e w4 ⟨rfl, hk4⟩
  have c0' := cell_keep0 hk4 c0
  have c1' := cell_keep0 hk4 c1
  have c2' := cell_keep0 hk4 c2
  have c3' := cell_keep0 hk4 c3
  have c4' := cell_keep0 hk4 c4
  have H4 := Lib.hid (And.intro (H3.out.1.trans hk4 (by simp)) (H3.out.2.2.keep0 hk4))
  clear hk4 H3 c0 c1 c2 c3 c4
  go_wp2_with fail
  refine (read_spec (HE.out.keep H4.out.1) (printJ j) HP.out.2.2.2.2.2).mono ?_
  intro e w5 hr5
  obtain ⟨kv, rfl, hj5, hk5⟩ := hr5.job
  rw [HP.out.2.2.2.2.1] at hj5 ⊢
  obtain ⟨fb, fd, ab, ad, rfl, _, _⟩ := jobRd_cells hj5
  have kB : Keep [] w5 (w5.alloc (.cells #[.slice fb j.funcs.length fd, .int .i64 j.main, .slice ab j.args.length ad, .int .i64 j.fuel, .int .i64 j.tasks] 25)) := (Keep.refl _ _).alloc _
  have bB : Blk (w5.alloc (.cells #[.slice fb j.funcs.length fd, .int .i64 j.main, .slice ab j.args.length ad, .int .i64 j.fuel, .int .i64 j.tasks] 25)) w5.heap.size 25 [.slice fb j.funcs.length fd, .int .i64 j.main, .slice ab j.args.length ad, .int .i64 j.fuel, .int .i64 j.tasks] := Blk.new' _ _ _ _ rfl
  have H5 := Lib.hid (And.intro (H4.out.1.trans hk5 (by simp)) (And.intro kB (And.intro bB (And.intro hj5 (H4.out.2.keep0 hk5)))))
  have q0 := cell_keep0 (hk5.trans kB (by simp)) c0'
  have q1 := cell_keep0 (hk5.trans kB (by simp)) c1'
  have q2 := cell_keep0 (hk5.trans kB (by simp)) c2'
  have q3 := cell_keep0 (hk5.trans kB (by simp)) c3'
  have q4 := cell_keep0 (hk5.trans kB (by simp)) c4'
  clear hr5 hj5 hk5 kB bB H4 c0' c1' c2' c3' c4'
  simp only at *
  go_upto_region 4 with fail
  generalize (w5.alloc (.cells #[.slice fb j.funcs.length fd, .int .i64 j.main, .slice ab j.args.length ad, .int .i64 j.fuel, .int .i64 j.tasks] 25)) = w6 at *
  have d0 := H5.out.2.2.1.cell 0
  have d1 := H5.out.2.2.1.cell 1
  have d2 := H5.out.2.2.1.cell 2
  have d3 := H5.out.2.2.1.cell 3
  have d4 := H5.out.2.2.1.cell 4
  have H6 := Lib.hid (And.intro (H5.out.1.trans H5.out.2.1 (by simp)) (And.intro (H5.out.2.2.2.1.keep0 H5.out.2.1) (H5.out.2.2.2.2.keep0 H5.out.2.1)))
  clear H5
  rw [HP.out.2.2.2.1]
  go_wp2_with fail
  refine (num_spec _ _).mono ?_
  rintro e w7 ⟨rfl, rfl⟩
  go_wp2_with fail
  refine (sameJob_spec H6.out.2.2 H6.out.2.1 HP.out.2.1 (Nat.le_trans HP.out.2.2.1 (by decide))).mono ?_
  rintro e w8 ⟨rfl, hk8⟩
  have H8 := Lib.hid (H6.out.1.trans hk8 (by simp))
  clear hk8 H6
  go_wp2_with fail
  go_ret
  exact ⟨rfl, H8.out⟩
