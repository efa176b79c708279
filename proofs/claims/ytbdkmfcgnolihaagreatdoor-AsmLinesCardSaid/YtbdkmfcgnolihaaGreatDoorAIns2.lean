/- asm: an instruction's line: spawn. -/
import Derived.Test.YtbdkmfcgnolihaaGreatDoorRows
import Derived.WalkKit
import Derived.WalkSpells
import Derived.WalkLawsBesides
import Derived.RegionTactic
import Derived.ChangeAlike
import Derived.BigQuiet
import Derived.Deep.QuietTactic
import Derived.StillTailTactics
import Derived.IntWalk
import Derived.Handy
import Derived.Lib.Hide
import Derived.Deep.AppendLies
import Derived.Deep.RegionWith
import Derived.Test.YtbdkmfcgnolihaaGreatDoorBase
import Derived.Test.YtbdkmfcgnolihaaGreatDoorTail
import Derived.Test.YtbdkmfcgnolihaaGreatDoorArgs
import Derived.Test.YtbdkmfcgnolihaaGreatDoorAppend
import Derived.Test.YtbdkmfcgnolihaaGreatDoorOffs
import Derived.Test.YtbdkmfcgnolihaaGreatDoorStructs
import Derived.Carry
import Derived.Deep.RegionHeld3
import Derived.BigRegion
import Derived.Maps.OwnSet
import Derived.Maps.Views
import Derived.Maps.StringElems
import Derived.Test.YtbdkmfcgnolihaaGreatDoorMaps2
import Derived.Deep.CutRange
import Derived.Deep.CutBlock
import Derived.Test.YtbdkmfcgnolihaaGreatDoorAIns1
namespace Go.Proofs.YtbdkmfcgnolihaaGreatDoor
set_option linter.unusedSimpArgs false
set_option linter.unnecessarySimpa false
set_option linter.unusedVariables false
open Go.RowKit
set_option maxHeartbeats 6400000 in
set_option maxRecDepth 100000 in
theorem ins_spawn_no {B R n k : Nat} {rest : BS} {r : AR} {fv av wv cv : Value} {qs : List (FN × Value)} {f : FN} {w : World} (hE : Env1 w) (H : RdAt B R rest n 0 r fv av wv qs w) (hr : ARok r) (hk : qs[k]? = some (f, cv)) (hlast : qs.length = k + 1) (bs : BS) (hl : bs.length ≤ 900000) (hw1 : r.wants.length ≤ 1000000)
    (hpre : Lib.hasPrefix bs [32, 32] = true) {a b : BS}  (hps : pieces 32 (Lib.trimPrefix bs [32, 32]) = [a, b]) (ho : opOf a = some 16) (h256 : ¬ f.code.length = 256) (h256l : f.code.length ≤ 256) (hh : hasN 16 = true) (hn : nameL b = false) :
    Calls Tryz.prog 68 #[.pointer (some ⟨R, 0, none⟩), .string (strB bs)] w fun e w' => e = .returned (.bool false) ∧ Keep [] w w' := by
  have HO := Lib.hid (opOr_some ho)
  have hw := words_spec hE.env bs [32, 32] (by omega)
  have hsh : ∀ p ∈ [a, b], p.length ≤ 1000000 := fun p hp => by
    have h1 := trim_short (s := bs) (p := [32, 32])
    have := pieces_short (c := 32) (s := Lib.trimPrefix bs [32, 32]) (p := p) (by rw [hps]; exact hp)
    omega
  rw [hps, hpre] at hw
  have HW := Lib.hid (show Calls Tryz.prog 64 #[.string (strB bs), .string ⟨#[32, 32]⟩] w (WordsPost [a, b] true w) from hw)
  obtain ⟨ac, cc, hcv⟩ := (H.fns.code k _ hk).shape
  simp only at hcv
  subst hcv
  obtain ⟨g, off, cap, hv, hg, _, _, _, _, f3, _, hgB⟩ := H.fns.fn hk
  rw [hlast] at hv
  subst hv
  have z2 : w.cell? ⟨R, 2, none⟩ = some (.slice (some ⟨g, off, none⟩) (k + 1) cap) := H.blk.cell 2
  have hk32 : k < 32 := by have := hr.few; rw [H.fs, List.length_map, hlast] at this; omega
  have hk0 : (0 : Int) ≤ (k : Int) := by omega
  have hkI : (k : Int) < 32 := by omega
  have h256B : ((f.code.length : Int) == 256) = false := by simp; omega
  have HA := Lib.hid (And.intro hE (And.intro H (And.intro hk (And.intro hlast (And.intro hw1 (And.intro hr hsh))))))
  clear hE H hl hps hpre hw hk hlast hr hw1 hgB ho hsh
  go_enter Tryz.func68, Tryz.ntmps68
  go_wp2_with fail
  refine HW.out.mono ?_
  rintro e w1 ⟨rfl, hb1, hk1, hz1⟩
  simp only [List.length_cons, List.length_nil, Nat.zero_add, Nat.reduceAdd]
  have H1 := Lib.hid hk1
  have z2a := cell_keep0 hk1 z2
  have f3a := cell_keep0 hk1 f3
  have c0a : w1.cell? ⟨w.heap.size, 0, none⟩ = some (.string (strB a)) := hb1.cell 0
  have c1a : w1.cell? ⟨w.heap.size, 1, none⟩ = some (.string (strB b)) := hb1.cell 1
  clear hb1 hk1 hz1 HW z2 f3
  go_wp2_with fail
  refine (op_spec _ a).mono ?_
  rintro e w2 ⟨rfl, hk2⟩
  rw [HO.out.1, HO.out.2]
  have H2 := Lib.hid (H1.out.trans hk2 (by simp))
  have z2b := cell_keep0 hk2 z2a
  have f3b := cell_keep0 hk2 f3a
  have c1b := cell_keep0 hk2 c1a
  clear c1a
  clear hk2 z2a f3a c0a H1
  go_wp2_with fail
  refine (hasN_spec _ 16).mono ?_
  rintro e w3 ⟨rfl, rfl⟩
  rw [hh]
  go_upto_region 12 with fail
  have kw : Keep [] w3 (w3.alloc (.cells #[.int .i64 16, .int .i64 0] 47)) := (Keep.refl _ _).alloc _
  have bw : Blk (w3.alloc (.cells #[.int .i64 16, .int .i64 0] 47)) w3.heap.size 47 [.int .i64 16, .int .i64 0] := Blk.new' _ _ _ _ rfl
  have f3x := cell_keep0 kw f3b
  have c1x := cell_keep0 kw c1b
  have HK := Lib.hid (H2.out.trans kw (by simp))
  have HB := Lib.hid bw
  have hbx := Lib.hid H2.out.size
  clear z2b f3b kw bw H2 c1b
  generalize w3.alloc (.cells #[.int .i64 16, .int .i64 0] 47) = w4 at *
  generalize w3.heap.size = bx at *
  go_wp2_with fail
  refine (named_spec _ b (HA.out.2.2.2.2.2.2 b (by simp))).mono ?_
  rintro e w5 ⟨rfl, hk5⟩
  have HK5 := Lib.hid (HK.out.trans hk5 (by simp))
  have HB5 := Lib.hid (HB.out.keep hk5 (by simp))
  rw [hn]
  clear hk5 f3x c1x HK HB hn
  go_wp2
  go_ret
  exact ⟨rfl, HK5.out⟩
set_option maxHeartbeats 6400000 in
set_option maxRecDepth 100000 in
theorem ins_spawn {B R n k : Nat} {rest : BS} {r : AR} {fv av wv cv : Value} {qs : List (FN × Value)} {f : FN} {w : World} (hE : Env1 w) (H : RdAt B R rest n 0 r fv av wv qs w) (hr : ARok r) (hk : qs[k]? = some (f, cv)) (hlast : qs.length = k + 1) (bs : BS) (hl : bs.length ≤ 900000) (hw1 : r.wants.length ≤ 1000000)
    (hpre : Lib.hasPrefix bs [32, 32] = true) {a b : BS}  (hps : pieces 32 (Lib.trimPrefix bs [32, 32]) = [a, b]) (ho : opOf a = some 16) (h256 : ¬ f.code.length = 256) (h256l : f.code.length ≤ 256) (hh : hasN 16 = true) (hn : nameL b = true) :
    Calls Tryz.prog 68 #[.pointer (some ⟨R, 0, none⟩), .string (strB bs)] w fun e w' => e = .returned (.bool true) ∧ Below R w w' ∧ ∃ fv av wv ps, RdAt B R rest n 0 { r with funcs := addI r.funcs ⟨16, 0⟩, wants := r.wants ++ [⟨b, n, some (k, f.code.length)⟩] } fv av wv ps w' := by
  have HO := Lib.hid (opOr_some ho)
  have hw := words_spec hE.env bs [32, 32] (by omega)
  have hsh : ∀ p ∈ [a, b], p.length ≤ 1000000 := fun p hp => by
    have h1 := trim_short (s := bs) (p := [32, 32])
    have := pieces_short (c := 32) (s := Lib.trimPrefix bs [32, 32]) (p := p) (by rw [hps]; exact hp)
    omega
  rw [hps, hpre] at hw
  have HW := Lib.hid (show Calls Tryz.prog 64 #[.string (strB bs), .string ⟨#[32, 32]⟩] w (WordsPost [a, b] true w) from hw)
  obtain ⟨ac, cc, hcv⟩ := (H.fns.code k _ hk).shape
  simp only at hcv
  subst hcv
  obtain ⟨g, off, cap, hv, hg, _, _, _, _, f3, _, hgB⟩ := H.fns.fn hk
  rw [hlast] at hv
  subst hv
  have z2 : w.cell? ⟨R, 2, none⟩ = some (.slice (some ⟨g, off, none⟩) (k + 1) cap) := H.blk.cell 2
  have hk32 : k < 32 := by have := hr.few; rw [H.fs, List.length_map, hlast] at this; omega
  have hk0 : (0 : Int) ≤ (k : Int) := by omega
  have hkI : (k : Int) < 32 := by omega
  have h256B : ((f.code.length : Int) == 256) = false := by simp; omega
  have HA := Lib.hid (And.intro hE (And.intro H (And.intro hk (And.intro hlast (And.intro hw1 (And.intro hr hsh))))))
  clear hE H hl hps hpre hw hk hlast hr hw1 hgB ho hsh
  go_enter Tryz.func68, Tryz.ntmps68
  go_wp2_with fail
  refine HW.out.mono ?_
  rintro e w1 ⟨rfl, hb1, hk1, hz1⟩
  simp only [List.length_cons, List.length_nil, Nat.zero_add, Nat.reduceAdd]
  have H1 := Lib.hid hk1
  have z2a := cell_keep0 hk1 z2
  have f3a := cell_keep0 hk1 f3
  have c0a : w1.cell? ⟨w.heap.size, 0, none⟩ = some (.string (strB a)) := hb1.cell 0
  have c1a : w1.cell? ⟨w.heap.size, 1, none⟩ = some (.string (strB b)) := hb1.cell 1
  clear hb1 hk1 hz1 HW z2 f3
  go_wp2_with fail
  refine (op_spec _ a).mono ?_
  rintro e w2 ⟨rfl, hk2⟩
  rw [HO.out.1, HO.out.2]
  have H2 := Lib.hid (H1.out.trans hk2 (by simp))
  have z2b := cell_keep0 hk2 z2a
  have f3b := cell_keep0 hk2 f3a
  have c1b := cell_keep0 hk2 c1a
  clear c1a
  clear hk2 z2a f3a c0a H1
  go_wp2_with fail
  refine (hasN_spec _ 16).mono ?_
  rintro e w3 ⟨rfl, rfl⟩
  rw [hh]
  go_upto_block 0 with fail
  have kw : Keep [] w3 (w3.alloc (.cells #[.int .i64 16, .int .i64 0] 47)) := (Keep.refl _ _).alloc _
  have bw : Blk (w3.alloc (.cells #[.int .i64 16, .int .i64 0] 47)) w3.heap.size 47 [.int .i64 16, .int .i64 0] := Blk.new' _ _ _ _ rfl
  have f3x := cell_keep0 kw f3b
  have c1x := cell_keep0 kw c1b
  have HK := Lib.hid (H2.out.trans kw (by simp))
  have HB := Lib.hid bw
  have hbx := Lib.hid H2.out.size
  clear z2b f3b kw bw H2 c1b
  generalize w3.alloc (.cells #[.int .i64 16, .int .i64 0] 47) = w4 at *
  generalize w3.heap.size = bx at *
  go_cut [84] from 78 to 122 (fun _ wx => PostW B R n rest (.slice (some ⟨g, off, none⟩) (k + 1) cap) av { r with wants := r.wants ++ [⟨b, n, some (k, f.code.length)⟩] } qs w bx wx)
  case first =>
    go_wp2_with fail
    refine (named_spec _ b (HA.out.2.2.2.2.2.2 b (by simp))).mono ?_
    rintro e w5 ⟨rfl, hk5⟩
    have HK5 := Lib.hid (HK.out.trans hk5 (by simp))
    have HB5 := Lib.hid (HB.out.keep hk5 (by simp))
    rw [hn]
    have f3y := cell_keep0 hk5 f3x
    have c1y := cell_keep0 hk5 c1x
    have hwl := HA.out.2.2.2.2.1
    have HR5 := Lib.hid (HA.out.2.1.keep0 HK5.out)
    obtain ⟨aw, cw, hwv⟩ := HR5.out.wants.shape
    subst hwv
    have zb := HR5.out.blk
    have z1 : w5.cell? ⟨R, 1, none⟩ = some (.int .i64 n) := zb.cell 1
    have z7 : w5.cell? ⟨R, 7, none⟩ = some (.slice aw r.wants.length cw) := zb.cell 7
    have zf : ∀ i, w5.frozen? ⟨R, i, none⟩ = false := fun i => zb.frozen i
    have hRw : R < w5.heap.size := zb.lt
    have hgw5 : g < w5.heap.size := cell_lt f3y
    have hww : w.heap.size < w5.heap.size := cell_lt c1y
    have kA : Keep [] w5 ((w5.alloc (.cells #[.string (strB b), .int .i64 n, .int .i64 k, .int .i64 f.code.length] 90)).drew) := ((Keep.refl [] w5).alloc _).drew
    have HX0 := Lib.hid (And.intro (HR5.out.wants.keep kA (by simp)) (And.intro (src_lit w5 #[.string (strB b), .int .i64 n, .int .i64 k, .int .i64 f.code.length] [.string (strB b), .int .i64 n, .int .i64 k, .int .i64 f.code.length] 90 4 1 rfl rfl) (And.intro kA (zb.keep kA (by simp)))))
    clear hk5 f3x c1x HK HB hn zb kA
    go_upto_region 14 with fail
    go_wp2_with fail
    go_region_law (refine step_append_off rfl (.tmp 90) (.tmp 106) rfl Tryz.sts67 B (.slice aw r.wants.length cw) r.wants.length (r.wants.flatMap wtC) (by simp [Act.eval, Act.put]) HX0.out.1 (.slice (some ⟨w5.heap.size, 0, none⟩) 1 1) 1 [.string (strB b), .int .i64 n, .int .i64 k, .int .i64 f.code.length] (by simp [Act.eval, Act.put]) HX0.out.2.1 (by simp [Value.oneCell']) (by unfold maxLen; omega) (by omega) (Nat.le_trans HR5.out.base HX0.out.2.2.1.size) ?_; intro v' w6 hown6 hk6 hat6; obtain ⟨a6, c6, rfl⟩ := hown6.shape; have hs6 := HX0.out.2.2.2.keep hk6 (own_apart HX0.out.1 HX0.out.2.2.2 (by decide)); have y7 : w6.cell? ⟨R, 7, none⟩ = some (.slice aw r.wants.length cw) := hs6.cell 7; have yf7 : ∀ i, w6.frozen? ⟨R, i, none⟩ = false := fun i => hs6.frozen i; have G0 := Lib.hid (And.intro hown6 (And.intro hk6 hs6)); clear hown6 hk6 hat6 hs6)
    all_goals
      go_wp2_with fail
      go_meet
      case rel =>
        have kS : Keep [R] w6 (w6.setCell ⟨R, 7, none⟩ (.slice a6 (r.wants.length + 1) c6)) := (Keep.refl _ _).setCell (by simp) _
        exact ⟨_, HR5.out.want (t := ⟨b, n, some (k, f.code.length)⟩) HX0.out.2.2.1 G0.out.2.1 G0.out.1 kS (fun hb => hb.set_ 7 _), below_want (keep_below0 HK5.out (Nat.le_trans (Nat.le_of_lt HA.out.2.1.lt) HA.out.2.1.base)) HR5.out HX0.out.2.2.1 G0.out.2.1 kS, ((HB5.out.keep HX0.out.2.2.1 (by simp)).keep G0.out.2.1 (own_apart HX0.out.1 (HB5.out.keep HX0.out.2.2.1 (by simp)) (by decide))).keep kS (fun hx => by have h9 := List.mem_singleton.1 hx; have := hbx.out; have := HA.out.2.1.lt; have := HA.out.2.1.base; omega)⟩
  case rest =>
    obtain ⟨wv8, hrd, hbl, bw⟩ := hcut
    have HRW := Lib.hid (And.intro hrd hbl)
    have b0 := bw.cell 0
    have b1 := bw.cell 1
    simp only [List.getElem?_cons_zero, List.getElem?_cons_succ] at b0 b1
    have f3x : wc.cell? ⟨g, off + k * 4 + 3, none⟩ = some (.slice ac f.code.length cc) := fn_cell hrd HA.out.2.2.1
    clear hrd hbl bw
    go_upto_region 20 with fail
    have hR4 := HRW.out.1
    have z3 : wc.cell? ⟨g, off + k * 4 + 3, none⟩ = some (.slice ac f.code.length cc) := f3x
    have hfo := hR4.fns.own
    rw [HA.out.2.2.2.1] at hfo
    have gf : ∀ i, wc.frozen? ⟨g, i, none⟩ = false := fun i => hfo.free i
    have kA : Keep [] wc ((wc.alloc (.cells #[.int .i64 16, .int .i64 0] 47)).drew) := ((Keep.refl [] wc).alloc _).drew
    have hown := (hR4.fns.code k _ HA.out.2.2.1).keep kA (by simp)
    have hbs := hfo.keep kA (by simp)
    have HX := Lib.hid (And.intro hown (And.intro (src_lit wc #[.int .i64 16, .int .i64 0] [.int .i64 16, .int .i64 0] 47 2 1 rfl rfl) (And.intro kA (And.intro hR4 (And.intro hbs HRW.out.2)))))
    have hcl : f.code.length < 256 := by omega
    have hgw : g < wc.heap.size := cell_lt z3
    clear kA hown hbs hR4 hfo
    go_wp2_with fail
    go_region_law (refine step_append_off rfl (.tmp 127) (.tmp 129) rfl Tryz.sts34 B (.slice ac f.code.length cc) f.code.length (f.code.flatMap inC) (by simp [Act.eval, Act.put]) HX.out.1 (.slice (some ⟨wc.heap.size, 0, none⟩) 1 1) 1 [.int .i64 16, .int .i64 0] (by simp [Act.eval, Act.put]) HX.out.2.1 (by simp [Value.oneCell']) (by unfold maxLen; omega) (by omega) (Nat.le_trans HX.out.2.2.2.1.base HX.out.2.2.1.size) ?_; intro v' w5 hown5 hk5 hat5; obtain ⟨a5, c5, rfl⟩ := hown5.shape; have hs5 := HX.out.2.2.2.2.1.keep hk5 (own_own HX.out.2.2.2.2.1 HX.out.1 (by decide)); have y3 : w5.cell? ⟨g, off + k * 4 + 3, none⟩ = some (.slice ac f.code.length cc) := keep_fn HX.out.2.2.2.1 HA.out.2.2.1 HX.out.2.2.1 hk5; have yf : ∀ i, w5.frozen? ⟨g, i, none⟩ = false := fun i => hs5.free i; have G := Lib.hid (And.intro hown5 (And.intro hk5 hat5)); clear hown5 hk5 hat5 hs5)
    all_goals
      go_wp2
      go_ret
      exact ins_end (i := ⟨16, 0⟩) HX.out.2.2.2.2.2 HX.out.2.2.2.1 HA.out.2.2.1 HA.out.2.2.2.1 HX.out.2.2.1 G.out.2.1 G.out.1 G.out.2.2

end Go.Proofs.YtbdkmfcgnolihaaGreatDoor
