/- AsmNumbers' walk -/
import Derived.Test.YtbdkmfcgnolihaaGreatDoorRows
import Derived.WalkKit
import Derived.WalkSpells
import Derived.WalkLawsBesides
import Derived.RegionTactic
import Derived.ChangeAlike
import Derived.BigQuiet
import Derived.Deep.QuietTactic
import Derived.StillTailTactics
import Derived.IntWalk
import Derived.Handy
import Derived.Lib.Hide
import Derived.Deep.AppendLies
import Derived.Deep.RegionWith
import Derived.Test.YtbdkmfcgnolihaaGreatDoorBase
import Derived.Test.YtbdkmfcgnolihaaGreatDoorTail
import Derived.Test.YtbdkmfcgnolihaaGreatDoorArgs
import Derived.Test.YtbdkmfcgnolihaaGreatDoorAppend
import Derived.Test.YtbdkmfcgnolihaaGreatDoorOffs
import Derived.Test.YtbdkmfcgnolihaaGreatDoorStructs
import Derived.Carry
import Derived.Deep.RegionHeld3
import Derived.BigRegion
import Derived.Maps.OwnSet
import Derived.Maps.Views
import Derived.Maps.StringElems
import Derived.Test.YtbdkmfcgnolihaaGreatDoorMaps2
import Derived.Deep.CutRange
import Derived.Deep.CutBlock
import Derived.Test.YtbdkmfcgnolihaaGreatDoorBase
import Derived.Test.YtbdkmfcgnolihaaGreatDoorTail
import Derived.Test.YtbdkmfcgnolihaaGreatDoorArgs
import Derived.Test.YtbdkmfcgnolihaaGreatDoorAppend
import Derived.Test.YtbdkmfcgnolihaaGreatDoorOffs
import Derived.Test.YtbdkmfcgnolihaaGreatDoorStructs
import Derived.Test.YtbdkmfcgnolihaaGreatDoorFEnv
import Derived.Test.YtbdkmfcgnolihaaGreatDoorAObj
import Derived.Test.YtbdkmfcgnolihaaGreatDoorAPlain
import Derived.Test.YtbdkmfcgnolihaaGreatDoorAPlain2
import Derived.Test.YtbdkmfcgnolihaaGreatDoorAPl
import Derived.Test.YtbdkmfcgnolihaaGreatDoorAPlJ
import Derived.Test.YtbdkmfcgnolihaaGreatDoorAPr
import Derived.Test.YtbdkmfcgnolihaaGreatDoorAPrP
import Derived.Test.YtbdkmfcgnolihaaGreatDoorARead
import Derived.Test.YtbdkmfcgnolihaaGreatDoorASame
import Derived.Test.YtbdkmfcgnolihaaGreatDoorAAlive
namespace Go.Proofs.YtbdkmfcgnolihaaGreatDoor
set_option linter.unusedSimpArgs false
set_option linter.unnecessarySimpa false
set_option linter.unusedVariables false
open Go.RowKit
theorem in64_wf {n : Int} (h : (Lit.int .i64 n).wf = true) : In64 n := by
  simpa [Lit.wf, IntKind.min, IntKind.max, IntKind.signed, IntKind.bits, In64] using h
def numJ (a b c d : Int) : JB := ⟨[⟨[102], a, b, [⟨1, c⟩, ⟨5, d⟩, ⟨14, a⟩]⟩], 0, [b, c], d, a⟩
theorem numJ_plain (a b c d : Int) : PlainJ (numJ a b c d) := (plainJ_iff _).1 (by
  simp [plainJ, plainFs, plainF, plainI, numJ, hasN, nameL, nameC]
  decide)
theorem numJ_in {a b c d : Int} (ha : In64 a) (hb : In64 b) (hc : In64 c) (hd : In64 d) : (numJ a b c d).In := ⟨fun f hf => by
  obtain rfl : f = ⟨[102], a, b, [⟨1, c⟩, ⟨5, d⟩, ⟨14, a⟩]⟩ := by simpa [numJ] using hf
  exact ⟨ha, hb, fun i hi => by
    have : i = ⟨1, c⟩ ∨ i = ⟨5, d⟩ ∨ i = ⟨14, a⟩ := by simpa using hi
    rcases this with rfl | rfl | rfl
    · exact ⟨by simp [In64], hc⟩
    · exact ⟨by simp [In64], hd⟩
    · exact ⟨by simp [In64], ha⟩⟩, by simp [In64, numJ], fun n hn => by
    have : n = b ∨ n = c := by simpa [numJ] using hn
    rcases this with rfl | rfl
    · exact hb
    · exact hc, hd, ha⟩
theorem numJ_short (a b c d : Int) : JShort (numJ a b c d) := ⟨by simp [numJ], fun f hf => by
  obtain rfl : f = ⟨[102], a, b, [⟨1, c⟩, ⟨5, d⟩, ⟨14, a⟩]⟩ := by simpa [numJ] using hf
  simp, fun f hf => by
  obtain rfl : f = ⟨[102], a, b, [⟨1, c⟩, ⟨5, d⟩, ⟨14, a⟩]⟩ := by simpa [numJ] using hf
  simp⟩
theorem numJ_len {a b c d : Int} (ha : In64 a) (hb : In64 b) (hc : In64 c) (hd : In64 d) : (printJ (numJ a b c d)).length ≤ 10000 := by
  have hp := numJ_plain a b c d
  rw [printJ_plain hp]
  have h1 := textL_len (lineJ_len (lines_short hp (numJ_in ha hb hc hd)))
  have h2 : (linesJ (numJ a b c d)).length = 7 := by simp [linesJ, numJ, fnLines]
  rw [h2] at h1
  omega
theorem numJ_read {a b c d : Int} (ha : In64 a) (hb : In64 b) (hc : In64 c) (hd : In64 d) : readJ (printJ (numJ a b c d)) = ⟨numJ a b c d, 0, 0⟩ := by
  have hl := numJ_len ha hb hc hd
  unfold readJ
  rw [if_neg (by omega), readP_print (numJ_plain a b c d) (numJ_in ha hb hc hd)]
theorem num_world (w1 : World) (a b c d : Int) : Keep [] w1 ((((w1.alloc (.cells #[.int .i64 1, .int .i64 c, .int .i64 5, .int .i64 d, .int .i64 14, .int .i64 a] 47)).alloc (.cells #[.string ⟨#[102]⟩, .int .i64 a, .int .i64 b, .slice (some ⟨w1.heap.size, 0, none⟩) 3 3] 36)).alloc (.cells #[.int .i64 b, .int .i64 c] 3)).alloc (.cells #[.slice (some ⟨w1.heap.size + 1, 0, none⟩) 1 1, .int .i64 0, .slice (some ⟨w1.heap.size + 1 + 1, 0, none⟩) 2 2, .int .i64 d, .int .i64 a] 25)) ∧ Blk ((((w1.alloc (.cells #[.int .i64 1, .int .i64 c, .int .i64 5, .int .i64 d, .int .i64 14, .int .i64 a] 47)).alloc (.cells #[.string ⟨#[102]⟩, .int .i64 a, .int .i64 b, .slice (some ⟨w1.heap.size, 0, none⟩) 3 3] 36)).alloc (.cells #[.int .i64 b, .int .i64 c] 3)).alloc (.cells #[.slice (some ⟨w1.heap.size + 1, 0, none⟩) 1 1, .int .i64 0, .slice (some ⟨w1.heap.size + 1 + 1, 0, none⟩) 2 2, .int .i64 d, .int .i64 a] 25)) (w1.heap.size + 1 + 1 + 1) 25 [.slice (some ⟨w1.heap.size + 1, 0, none⟩) 1 1, .int .i64 0, .slice (some ⟨w1.heap.size + 1 + 1, 0, none⟩) 2 2, .int .i64 d, .int .i64 a] ∧ JobRd ((((w1.alloc (.cells #[.int .i64 1, .int .i64 c, .int .i64 5, .int .i64 d, .int .i64 14, .int .i64 a] 47)).alloc (.cells #[.string ⟨#[102]⟩, .int .i64 a, .int .i64 b, .slice (some ⟨w1.heap.size, 0, none⟩) 3 3] 36)).alloc (.cells #[.int .i64 b, .int .i64 c] 3)).alloc (.cells #[.slice (some ⟨w1.heap.size + 1, 0, none⟩) 1 1, .int .i64 0, .slice (some ⟨w1.heap.size + 1 + 1, 0, none⟩) 2 2, .int .i64 d, .int .i64 a] 25)) (.agg #[.slice (some ⟨w1.heap.size + 1, 0, none⟩) 1 1, .int .i64 0, .slice (some ⟨w1.heap.size + 1 + 1, 0, none⟩) 2 2, .int .i64 d, .int .i64 a]) (numJ a b c d) := by
  have e1 : (w1.alloc (.cells #[.int .i64 1, .int .i64 c, .int .i64 5, .int .i64 d, .int .i64 14, .int .i64 a] 47)).heap.size = w1.heap.size + 1 := by simp
  have e2 : ((w1.alloc (.cells #[.int .i64 1, .int .i64 c, .int .i64 5, .int .i64 d, .int .i64 14, .int .i64 a] 47)).alloc (.cells #[.string ⟨#[102]⟩, .int .i64 a, .int .i64 b, .slice (some ⟨w1.heap.size, 0, none⟩) 3 3] 36)).heap.size = w1.heap.size + 1 + 1 := by simp
  have e3 : (((w1.alloc (.cells #[.int .i64 1, .int .i64 c, .int .i64 5, .int .i64 d, .int .i64 14, .int .i64 a] 47)).alloc (.cells #[.string ⟨#[102]⟩, .int .i64 a, .int .i64 b, .slice (some ⟨w1.heap.size, 0, none⟩) 3 3] 36)).alloc (.cells #[.int .i64 b, .int .i64 c] 3)).heap.size = w1.heap.size + 1 + 1 + 1 := by simp
  have b1 : Blk ((((w1.alloc (.cells #[.int .i64 1, .int .i64 c, .int .i64 5, .int .i64 d, .int .i64 14, .int .i64 a] 47)).alloc (.cells #[.string ⟨#[102]⟩, .int .i64 a, .int .i64 b, .slice (some ⟨w1.heap.size, 0, none⟩) 3 3] 36)).alloc (.cells #[.int .i64 b, .int .i64 c] 3)).alloc (.cells #[.slice (some ⟨w1.heap.size + 1, 0, none⟩) 1 1, .int .i64 0, .slice (some ⟨w1.heap.size + 1 + 1, 0, none⟩) 2 2, .int .i64 d, .int .i64 a] 25)) w1.heap.size 47 (List.flatMap inC [⟨1, c⟩, ⟨5, d⟩, ⟨14, a⟩]) := (((Blk.new' _ _ _ _ rfl).alloc _).alloc _).alloc _
  have b2 : Blk ((((w1.alloc (.cells #[.int .i64 1, .int .i64 c, .int .i64 5, .int .i64 d, .int .i64 14, .int .i64 a] 47)).alloc (.cells #[.string ⟨#[102]⟩, .int .i64 a, .int .i64 b, .slice (some ⟨w1.heap.size, 0, none⟩) 3 3] 36)).alloc (.cells #[.int .i64 b, .int .i64 c] 3)).alloc (.cells #[.slice (some ⟨w1.heap.size + 1, 0, none⟩) 1 1, .int .i64 0, .slice (some ⟨w1.heap.size + 1 + 1, 0, none⟩) 2 2, .int .i64 d, .int .i64 a] 25)) (w1.alloc (.cells #[.int .i64 1, .int .i64 c, .int .i64 5, .int .i64 d, .int .i64 14, .int .i64 a] 47)).heap.size 36 [.string ⟨#[102]⟩, .int .i64 a, .int .i64 b, .slice (some ⟨w1.heap.size, 0, none⟩) 3 3] := ((Blk.new' _ _ _ _ rfl).alloc _).alloc _
  have b3 : Blk ((((w1.alloc (.cells #[.int .i64 1, .int .i64 c, .int .i64 5, .int .i64 d, .int .i64 14, .int .i64 a] 47)).alloc (.cells #[.string ⟨#[102]⟩, .int .i64 a, .int .i64 b, .slice (some ⟨w1.heap.size, 0, none⟩) 3 3] 36)).alloc (.cells #[.int .i64 b, .int .i64 c] 3)).alloc (.cells #[.slice (some ⟨w1.heap.size + 1, 0, none⟩) 1 1, .int .i64 0, .slice (some ⟨w1.heap.size + 1 + 1, 0, none⟩) 2 2, .int .i64 d, .int .i64 a] 25)) ((w1.alloc (.cells #[.int .i64 1, .int .i64 c, .int .i64 5, .int .i64 d, .int .i64 14, .int .i64 a] 47)).alloc (.cells #[.string ⟨#[102]⟩, .int .i64 a, .int .i64 b, .slice (some ⟨w1.heap.size, 0, none⟩) 3 3] 36)).heap.size 3 [.int .i64 b, .int .i64 c] := (Blk.new' _ _ _ _ rfl).alloc _
  have b4 : Blk ((((w1.alloc (.cells #[.int .i64 1, .int .i64 c, .int .i64 5, .int .i64 d, .int .i64 14, .int .i64 a] 47)).alloc (.cells #[.string ⟨#[102]⟩, .int .i64 a, .int .i64 b, .slice (some ⟨w1.heap.size, 0, none⟩) 3 3] 36)).alloc (.cells #[.int .i64 b, .int .i64 c] 3)).alloc (.cells #[.slice (some ⟨w1.heap.size + 1, 0, none⟩) 1 1, .int .i64 0, .slice (some ⟨w1.heap.size + 1 + 1, 0, none⟩) 2 2, .int .i64 d, .int .i64 a] 25)) (((w1.alloc (.cells #[.int .i64 1, .int .i64 c, .int .i64 5, .int .i64 d, .int .i64 14, .int .i64 a] 47)).alloc (.cells #[.string ⟨#[102]⟩, .int .i64 a, .int .i64 b, .slice (some ⟨w1.heap.size, 0, none⟩) 3 3] 36)).alloc (.cells #[.int .i64 b, .int .i64 c] 3)).heap.size 25 [.slice (some ⟨w1.heap.size + 1, 0, none⟩) 1 1, .int .i64 0, .slice (some ⟨w1.heap.size + 1 + 1, 0, none⟩) 2 2, .int .i64 d, .int .i64 a] := Blk.new' _ _ _ _ rfl
  have kk : Keep [] w1 ((((w1.alloc (.cells #[.int .i64 1, .int .i64 c, .int .i64 5, .int .i64 d, .int .i64 14, .int .i64 a] 47)).alloc (.cells #[.string ⟨#[102]⟩, .int .i64 a, .int .i64 b, .slice (some ⟨w1.heap.size, 0, none⟩) 3 3] 36)).alloc (.cells #[.int .i64 b, .int .i64 c] 3)).alloc (.cells #[.slice (some ⟨w1.heap.size + 1, 0, none⟩) 1 1, .int .i64 0, .slice (some ⟨w1.heap.size + 1 + 1, 0, none⟩) 2 2, .int .i64 d, .int .i64 a] 25)) := ((((Keep.refl _ _).alloc _).alloc _).alloc _).alloc _
  generalize ((((w1.alloc (.cells #[.int .i64 1, .int .i64 c, .int .i64 5, .int .i64 d, .int .i64 14, .int .i64 a] 47)).alloc (.cells #[.string ⟨#[102]⟩, .int .i64 a, .int .i64 b, .slice (some ⟨w1.heap.size, 0, none⟩) 3 3] 36)).alloc (.cells #[.int .i64 b, .int .i64 c] 3)).alloc (.cells #[.slice (some ⟨w1.heap.size + 1, 0, none⟩) 1 1, .int .i64 0, .slice (some ⟨w1.heap.size + 1 + 1, 0, none⟩) 2 2, .int .i64 d, .int .i64 a] 25)) = w3 at *
  rw [e1] at b2
  rw [e2] at b3
  rw [e3] at b4
  refine ⟨kk, b4, _, _, rfl, fns_one (f := ⟨[102], a, b, [⟨1, c⟩, ⟨5, d⟩, ⟨14, a⟩]⟩) (code_lit (n := 3) (c := 3) rfl b1) b2 1, ⟨_, _, rfl, fun _ => ⟨_, 0, rfl, b3.lt, fun k x hx => ?_⟩⟩⟩
  match k, hx with
  | 0, hx => obtain rfl : b = x := by simpa [numJ] using hx
             exact b3.cell 0
  | 1, hx => obtain rfl : c = x := by simpa [numJ] using hx
             exact b3.cell 1
  | k + 2, hx => simp [numJ] at hx
set_option maxHeartbeats 3200000 in
set_option maxRecDepth 100000 in
theorem walk_asmNumbers {a b c d : Int} (W : World) (hE : Env1 W) (wa : (Lit.int .i64 a).wf = true) (wb : (Lit.int .i64 b).wf = true) (wc : (Lit.int .i64 c).wf = true) (wd : (Lit.int .i64 d).wf = true) : Calls Tryz.prog 8 #[.int .i64 a, .int .i64 b, .int .i64 c, .int .i64 d] W fun e w' => e = .returned (.bool true) ∧ Below W.heap.size W w' := by
  suffices h : Calls Tryz.prog 8 #[.int .i64 a, .int .i64 b, .int .i64 c, .int .i64 d] W fun e w' => e = .returned (.bool true) ∧ Keep [] W w' from h.mono fun e w' ⟨h1, h2⟩ => ⟨h1, h2.to_below⟩
  have ha := in64_wf wa
  have hb := in64_wf wb
  have hc := in64_wf wc
  have hd := in64_wf wd
  have HE := Lib.hid hE
  obtain ⟨j, hj⟩ : ∃ j, j = numJ a b c d := ⟨_, rfl⟩
  have HP := Lib.hid (show j.In ∧ JShort j ∧ j.args.length ≤ 1000000 ∧ readJ (printJ j) = ⟨j, 0, 0⟩ ∧ (printJ j).length ≤ 1000000000 from by
    rw [hj]
    exact ⟨numJ_in ha hb hc hd, numJ_short a b c d, by simp [numJ], numJ_read ha hb hc hd, Nat.le_trans (numJ_len ha hb hc hd) (by decide)⟩)
  have HN := Lib.hid (fun w1 : World => num_world w1 a b c d)
  rw [← hj] at HN
  clear hE hj ha hb hc hd wa wb wc wd
  go_enter Tryz.func8, Tryz.ntmps8
  go_wp2_with fail
  refine (alive_spec HE.out).mono ?_
  rintro e w1 ⟨rfl, hk1⟩
  have H1 := Lib.hid hk1
  clear hk1
  have HA := HN.out w1
  have H2 := Lib.hid (And.intro (H1.out.trans HA.1 (by simp)) HA.2)
  clear HA HN
  go_upto_region 3 with fail
  generalize ((((w1.alloc (.cells #[.int .i64 1, .int .i64 c, .int .i64 5, .int .i64 d, .int .i64 14, .int .i64 a] 47)).alloc (.cells #[.string ⟨#[102]⟩, .int .i64 a, .int .i64 b, .slice (some ⟨w1.heap.size, 0, none⟩) 3 3] 36)).alloc (.cells #[.int .i64 b, .int .i64 c] 3)).alloc (.cells #[.slice (some ⟨w1.heap.size + 1, 0, none⟩) 1 1, .int .i64 0, .slice (some ⟨w1.heap.size + 1 + 1, 0, none⟩) 2 2, .int .i64 d, .int .i64 a] 25)) = w3 at *
  have c0 := H2.out.2.1.cell 0
  have c1 := H2.out.2.1.cell 1
  have c2 := H2.out.2.1.cell 2
  have c3 := H2.out.2.1.cell 3
  have c4 := H2.out.2.1.cell 4
  have H3 := Lib.hid (And.intro H2.out.1 H2.out.2.2)
  clear H2
  go_wp2_with fail
  refine (print_spec (HE.out.env.keep H3.out.1) H3.out.2 HP.out.1 HP.out.2.1 HP.out.2.2.1).mono ?_
  rintro e w4 ⟨rfl, hk4⟩
  have c0' := cell_keep0 hk4 c0
  have c1' := cell_keep0 hk4 c1
  have c2' := cell_keep0 hk4 c2
  have c3' := cell_keep0 hk4 c3
  have c4' := cell_keep0 hk4 c4
  have H4 := Lib.hid (And.intro (H3.out.1.trans hk4 (by simp)) (H3.out.2.keep0 hk4))
  clear hk4 H3 c0 c1 c2 c3 c4
  go_wp2_with fail
  refine (read_spec (HE.out.keep H4.out.1) (printJ j) HP.out.2.2.2.2).mono ?_
  intro e w5 hr5
  obtain ⟨kv, rfl, hj5, hk5⟩ := hr5.job
  rw [HP.out.2.2.2.1] at hj5 ⊢
  obtain ⟨fb, fd, ab, ad, rfl, _, _⟩ := jobRd_cells hj5
  have kB : Keep [] w5 (w5.alloc (.cells #[.slice fb j.funcs.length fd, .int .i64 j.main, .slice ab j.args.length ad, .int .i64 j.fuel, .int .i64 j.tasks] 25)) := (Keep.refl _ _).alloc _
  have bB : Blk (w5.alloc (.cells #[.slice fb j.funcs.length fd, .int .i64 j.main, .slice ab j.args.length ad, .int .i64 j.fuel, .int .i64 j.tasks] 25)) w5.heap.size 25 [.slice fb j.funcs.length fd, .int .i64 j.main, .slice ab j.args.length ad, .int .i64 j.fuel, .int .i64 j.tasks] := Blk.new' _ _ _ _ rfl
  have H5 := Lib.hid (And.intro (H4.out.1.trans hk5 (by simp)) (And.intro kB (And.intro bB (And.intro hj5 (H4.out.2.keep0 hk5)))))
  have q0 := cell_keep0 (hk5.trans kB (by simp)) c0'
  have q1 := cell_keep0 (hk5.trans kB (by simp)) c1'
  have q2 := cell_keep0 (hk5.trans kB (by simp)) c2'
  have q3 := cell_keep0 (hk5.trans kB (by simp)) c3'
  have q4 := cell_keep0 (hk5.trans kB (by simp)) c4'
  clear hr5 hj5 hk5 kB bB H4 c0' c1' c2' c3' c4'
  simp only at *
  go_upto_region 4 with fail
  generalize (w5.alloc (.cells #[.slice fb j.funcs.length fd, .int .i64 j.main, .slice ab j.args.length ad, .int .i64 j.fuel, .int .i64 j.tasks] 25)) = w6 at *
  have d0 := H5.out.2.2.1.cell 0
  have d1 := H5.out.2.2.1.cell 1
  have d2 := H5.out.2.2.1.cell 2
  have d3 := H5.out.2.2.1.cell 3
  have d4 := H5.out.2.2.1.cell 4
  have H6 := Lib.hid (And.intro (H5.out.1.trans H5.out.2.1 (by simp)) (And.intro (H5.out.2.2.2.1.keep0 H5.out.2.1) (H5.out.2.2.2.2.keep0 H5.out.2.1)))
  clear H5
  go_wp2_with fail
  refine (num_spec _ _).mono ?_
  rintro e w7 ⟨rfl, rfl⟩
  go_wp2_with fail
  refine (sameJob_spec H6.out.2.2 H6.out.2.1 HP.out.2.1 (Nat.le_trans HP.out.2.2.1 (by decide))).mono ?_
  rintro e w8 ⟨rfl, hk8⟩
  have H8 := Lib.hid (H6.out.1.trans hk8 (by simp))
  clear hk8 H6
  go_wp2_with fail
  go_ret
  exact ⟨rfl, H8.out⟩
