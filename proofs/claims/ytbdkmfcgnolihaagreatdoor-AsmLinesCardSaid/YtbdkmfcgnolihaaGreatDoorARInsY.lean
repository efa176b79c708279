/- asm: the reference's spawn -/
import Derived.Test.YtbdkmfcgnolihaaGreatDoorRows
import Derived.WalkKit
import Derived.WalkSpells
import Derived.WalkLawsBesides
import Derived.RegionTactic
import Derived.ChangeAlike
import Derived.BigQuiet
import Derived.Deep.QuietTactic
import Derived.StillTailTactics
import Derived.IntWalk
import Derived.Handy
import Derived.Lib.Hide
import Derived.Deep.AppendLies
import Derived.Deep.RegionWith
import Derived.Test.YtbdkmfcgnolihaaGreatDoorBase
import Derived.Test.YtbdkmfcgnolihaaGreatDoorTail
import Derived.Test.YtbdkmfcgnolihaaGreatDoorArgs
import Derived.Test.YtbdkmfcgnolihaaGreatDoorAppend
import Derived.Test.YtbdkmfcgnolihaaGreatDoorOffs
import Derived.Test.YtbdkmfcgnolihaaGreatDoorStructs
import Derived.Carry
import Derived.Deep.RegionHeld3
import Derived.BigRegion
import Derived.Maps.OwnSet
import Derived.Maps.Views
import Derived.Maps.StringElems
import Derived.Test.YtbdkmfcgnolihaaGreatDoorMaps2
import Derived.Deep.CutRange
import Derived.Deep.CutBlock
import Derived.Test.YtbdkmfcgnolihaaGreatDoorARfX
import Derived.Test.YtbdkmfcgnolihaaGreatDoorAWords
import Derived.Test.YtbdkmfcgnolihaaGreatDoorANames
namespace Go.Proofs.YtbdkmfcgnolihaaGreatDoor
set_option linter.unusedSimpArgs false
set_option linter.unnecessarySimpa false
set_option linter.unusedVariables false
open Go.RowKit
set_option maxHeartbeats 6400000 in
set_option maxRecDepth 100000 in
theorem rins_spawnno {B R Bs : Nat} {r : AR} {fv av wv sv : Value} {qs : List (FN × Value)} {w : World} (no : Nat) (H : RfAt B R 0 r fv av wv qs w) (hr : ARok r) {a b : BS} (hS : OwnsAt w Bs 9 1 sv 2 (([a, b] : List BS).map fun p => .string (strB p))) {k : Nat} {f : FN} {cv : Value} (hk : qs[k]? = some (f, cv)) (hlast : qs.length = k + 1) (ho : opOf a = some 16) (h256 : f.code.length < 256) (hh : hasN 16 = true) (hb : b.length ≤ 1000000) (hw1 : r.wants.length ≤ 1000000) (hn : nameL b = false) :
    Calls Tryz.prog 51 #[.pointer (some ⟨R, 0, none⟩), .int .i64 no, sv] w fun e w' => e = .returned (.bool false) ∧ Keep [] w w' := by
  obtain ⟨gs, offs, cs, hsv, hgs, t0⟩ := strs_at (ps := [a, b]) (i := 0) (p := a) hS rfl
  subst hsv
  rw [Nat.add_zero] at t0
  obtain ⟨gs', offs', cs', hsv', _, t1⟩ := strs_at (ps := [a, b]) (i := 1) (p := b) hS rfl
  injection hsv' with e1 e2 e3
  injection e1 with e1
  injection e1 with e1 e4
  subst e1 e4
  have HO := Lib.hid (opOr_some ho)
  obtain ⟨ac, cc, hcv⟩ := (H.fns.code k _ hk).shape
  simp only at hcv
  subst hcv
  obtain ⟨g, off, cap, hv, hg, _, _, _, _, f3, _, hgB⟩ := H.fns.fn hk
  rw [hlast] at hv
  subst hv
  have z0 : w.cell? ⟨R, 0, none⟩ = some (.slice (some ⟨g, off, none⟩) (k + 1) cap) := H.blk.cell 0
  have hk32 : k < 32 := by have := hr.few; rw [H.fs, List.length_map, hlast] at this; omega
  have hk0 : (0 : Int) ≤ (k : Int) := by omega
  have hkI : (k : Int) < 32 := by omega
  have hkk : (k : Int) < (k : Int) + 1 := by omega
  have hkB : decide ((k : Int) < 0) = false := decide_eq_false (by omega)
  have hcI : decide ((256 : Int) ≤ (f.code.length : Int)) = false := decide_eq_false (by omega)
  have HN := Lib.hid hn
  have HB := Lib.hid hb
  have HA := Lib.hid (And.intro H (And.intro hk (And.intro hlast (And.intro hr hw1))))
  have HSS := Lib.hid hS
  clear H hr hS ho hk hlast hgB hn hb hw1
  go_enter Tryz.func51, Tryz.ntmps51
  go_wp2_with fail
  refine (rop_spec _ a).mono ?_
  rintro e w2 ⟨rfl, hk2⟩
  rw [HO.out.1, HO.out.2]
  have z0a := cell_keep0 hk2 z0
  have f3a := cell_keep0 hk2 f3
  have t1a := cell_keep0 hk2 t1
  have H2 := Lib.hid hk2
  clear hk2 z0 f3 t0 t1
  go_wp2_with fail
  refine (rhasN_spec _ 16).mono ?_
  rintro e w3 ⟨rfl, rfl⟩
  rw [hh]
  go_upto_block 0 with fail
  have kw : Keep [] w2 (w2.alloc (.cells #[.int .i64 16, .int .i64 0] 47)) := (Keep.refl _ _).alloc _
  have bw : Blk (w2.alloc (.cells #[.int .i64 16, .int .i64 0] 47)) w2.heap.size 47 [.int .i64 16, .int .i64 0] := Blk.new' _ _ _ _ rfl
  have z0y := cell_keep0 kw z0a
  have f3y := cell_keep0 kw f3a
  have t1y := cell_keep0 kw t1a
  have HK := Lib.hid (H2.out.trans kw (by simp))
  have HBW := Lib.hid bw
  have hbB := Lib.hid (Nat.le_trans HA.out.1.base H2.out.size)
  clear z0a f3a t1a kw bw H2
  generalize w2.alloc (.cells #[.int .i64 16, .int .i64 0] 47) = w4 at *
  generalize w2.heap.size = bx at *
  go_wp2_with fail
  refine (rgoodName_spec _ b HB.out).mono ?_
  rintro e w6 ⟨rfl, rfl⟩
  rw [HN.out]
  go_wp2
  go_ret
  exact ⟨rfl, HK.out⟩
set_option maxHeartbeats 6400000 in
set_option maxRecDepth 100000 in
theorem rins_spawn {B R Bs : Nat} {r : AR} {fv av wv sv : Value} {qs : List (FN × Value)} {w : World} (no : Nat) (H : RfAt B R 0 r fv av wv qs w) (hr : ARok r) {a b : BS} (hS : OwnsAt w Bs 9 1 sv 2 (([a, b] : List BS).map fun p => .string (strB p))) {k : Nat} {f : FN} {cv : Value} (hk : qs[k]? = some (f, cv)) (hlast : qs.length = k + 1) (ho : opOf a = some 16) (h256 : f.code.length < 256) (hh : hasN 16 = true) (hb : b.length ≤ 1000000) (hw1 : r.wants.length ≤ 1000000) (hn : nameL b = true) :
    Calls Tryz.prog 51 #[.pointer (some ⟨R, 0, none⟩), .int .i64 no, sv] w fun e w' => e = .returned (.bool true) ∧ Below R w w' ∧ ∃ fv av wv ps, RfAt B R 0 { r with funcs := addI r.funcs ⟨16, 0⟩, wants := r.wants ++ [⟨b, no, some (k, f.code.length)⟩] } fv av wv ps w' := by
  obtain ⟨gs, offs, cs, hsv, hgs, t0⟩ := strs_at (ps := [a, b]) (i := 0) (p := a) hS rfl
  subst hsv
  rw [Nat.add_zero] at t0
  obtain ⟨gs', offs', cs', hsv', _, t1⟩ := strs_at (ps := [a, b]) (i := 1) (p := b) hS rfl
  injection hsv' with e1 e2 e3
  injection e1 with e1
  injection e1 with e1 e4
  subst e1 e4
  have HO := Lib.hid (opOr_some ho)
  obtain ⟨ac, cc, hcv⟩ := (H.fns.code k _ hk).shape
  simp only at hcv
  subst hcv
  obtain ⟨g, off, cap, hv, hg, _, _, _, _, f3, _, hgB⟩ := H.fns.fn hk
  rw [hlast] at hv
  subst hv
  have z0 : w.cell? ⟨R, 0, none⟩ = some (.slice (some ⟨g, off, none⟩) (k + 1) cap) := H.blk.cell 0
  have hk32 : k < 32 := by have := hr.few; rw [H.fs, List.length_map, hlast] at this; omega
  have hk0 : (0 : Int) ≤ (k : Int) := by omega
  have hkI : (k : Int) < 32 := by omega
  have hkk : (k : Int) < (k : Int) + 1 := by omega
  have hkB : decide ((k : Int) < 0) = false := decide_eq_false (by omega)
  have hcI : decide ((256 : Int) ≤ (f.code.length : Int)) = false := decide_eq_false (by omega)
  have HN := Lib.hid hn
  have HB := Lib.hid hb
  have HA := Lib.hid (And.intro H (And.intro hk (And.intro hlast (And.intro hr hw1))))
  have HSS := Lib.hid hS
  clear H hr hS ho hk hlast hgB hn hb hw1
  go_enter Tryz.func51, Tryz.ntmps51
  go_wp2_with fail
  refine (rop_spec _ a).mono ?_
  rintro e w2 ⟨rfl, hk2⟩
  rw [HO.out.1, HO.out.2]
  have z0a := cell_keep0 hk2 z0
  have f3a := cell_keep0 hk2 f3
  have t1a := cell_keep0 hk2 t1
  have H2 := Lib.hid hk2
  clear hk2 z0 f3 t0 t1
  go_wp2_with fail
  refine (rhasN_spec _ 16).mono ?_
  rintro e w3 ⟨rfl, rfl⟩
  rw [hh]
  go_upto_block 0 with fail
  have kw : Keep [] w2 (w2.alloc (.cells #[.int .i64 16, .int .i64 0] 47)) := (Keep.refl _ _).alloc _
  have bw : Blk (w2.alloc (.cells #[.int .i64 16, .int .i64 0] 47)) w2.heap.size 47 [.int .i64 16, .int .i64 0] := Blk.new' _ _ _ _ rfl
  have z0y := cell_keep0 kw z0a
  have f3y := cell_keep0 kw f3a
  have t1y := cell_keep0 kw t1a
  have HK := Lib.hid (H2.out.trans kw (by simp))
  have HBW := Lib.hid bw
  have hbB := Lib.hid (Nat.le_trans HA.out.1.base H2.out.size)
  clear z0a f3a t1a kw bw H2
  generalize w2.alloc (.cells #[.int .i64 16, .int .i64 0] 47) = w4 at *
  generalize w2.heap.size = bx at *
  go_cut [12] from 76 to 106 (fun _ wx => RPostW B R (.slice (some ⟨g, off, none⟩) (k + 1) cap) av { r with wants := r.wants ++ [⟨b, no, some (k, f.code.length)⟩] } qs w bx wx)
  case first =>
    go_wp2_with fail
    refine (rgoodName_spec _ b HB.out).mono ?_
    rintro e w6 ⟨rfl, rfl⟩
    rw [HN.out]
    have HR5 := Lib.hid (HA.out.1.keep0 HK.out)
    obtain ⟨aw, cw, hwv⟩ := HR5.out.wants.shape
    subst hwv
    have zb := HR5.out.blk
    have z5 : w6.cell? ⟨R, 5, none⟩ = some (.slice aw r.wants.length cw) := zb.cell 5
    have zf : ∀ i, w6.frozen? ⟨R, i, none⟩ = false := fun i => zb.frozen i
    have hRw : R < w6.heap.size := zb.lt
    have hgw5 : g < w6.heap.size := cell_lt f3y
    have hgsw : gs < w6.heap.size := cell_lt t1y
    have hwl := HA.out.2.2.2.2
    have kA : Keep [] w6 ((w6.alloc (.cells #[.int .i64 no, .int .i64 k, .int .i64 f.code.length, .string (strB b)] 77)).drew) := ((Keep.refl [] w6).alloc _).drew
    have hfn5 := rfn_cell HR5.out HA.out.2.1
    have HX0 := Lib.hid (And.intro (HR5.out.wants.keep kA (by simp)) (And.intro (src_lit w6 #[.int .i64 no, .int .i64 k, .int .i64 f.code.length, .string (strB b)] [.int .i64 no, .int .i64 k, .int .i64 f.code.length, .string (strB b)] 77 4 1 rfl rfl) (And.intro kA (zb.keep kA (by simp)))))
    clear zb kA hfn5
    go_upto_region 20 with fail
    go_wp2_with fail
    go_region_law (refine step_append_off rfl (.tmp 86) (.tmp 103) rfl Tryz.sts72 B (.slice aw r.wants.length cw) r.wants.length (r.wants.flatMap ltC) (by simp [Act.eval, Act.put]) HX0.out.1 (.slice (some ⟨w6.heap.size, 0, none⟩) 1 1) 1 [.int .i64 no, .int .i64 k, .int .i64 f.code.length, .string (strB b)] (by simp [Act.eval, Act.put]) HX0.out.2.1 (by simp [Value.oneCell']) (by unfold maxLen; omega) (by omega) (Nat.le_trans HR5.out.base HX0.out.2.2.1.size) ?_; intro v' w7 hown6 hk6 hat6; obtain ⟨a6, c6, rfl⟩ := hown6.shape; have hs6 := HX0.out.2.2.2.keep hk6 (own_apart HX0.out.1 HX0.out.2.2.2 (by decide)); have y5 : w7.cell? ⟨R, 5, none⟩ = some (.slice aw r.wants.length cw) := hs6.cell 5; have yf5 : ∀ i, w7.frozen? ⟨R, i, none⟩ = false := fun i => hs6.frozen i; have G0 := Lib.hid (And.intro hown6 (And.intro hk6 hs6)); clear hown6 hk6 hat6 hs6)
    all_goals
      go_wp2_with fail
      go_meet
      case rel =>
        have kS : Keep [R] w7 (w7.setCell ⟨R, 5, none⟩ (.slice a6 (r.wants.length + 1) c6)) := (Keep.refl _ _).setCell (by simp) _
        exact ⟨_, HR5.out.want (t := ⟨b, no, some (k, f.code.length)⟩) HX0.out.2.2.1 G0.out.2.1 G0.out.1 kS (fun hb => hb.set_ 5 _), rbelow_want (keep_below0 HK.out (Nat.le_trans (Nat.le_of_lt HA.out.1.lt) HA.out.1.base)) HR5.out HX0.out.2.2.1 G0.out.2.1 kS, ((HBW.out.keep HX0.out.2.2.1 (by simp)).keep G0.out.2.1 (own_apart HX0.out.1 (HBW.out.keep HX0.out.2.2.1 (by simp)) (by decide))).keep kS (fun hx => by have h9 := List.mem_singleton.1 hx; have := hbB.out; have := HA.out.1.lt; omega)⟩
  case rest =>
    obtain ⟨wv8, hrd, hbl, bw⟩ := hcut
    have HR4 := Lib.hid hrd
    have HBL := Lib.hid hbl
    have b0 := bw.cell 0
    have b1 := bw.cell 1
    simp only [List.getElem?_cons_zero, List.getElem?_cons_succ] at b0 b1
    clear z0y f3y t1y
    have z0y : wc.cell? ⟨R, 0, none⟩ = some (.slice (some ⟨g, off, none⟩) (k + 1) cap) := hrd.blk.cell 0
    have f3y : wc.cell? ⟨g, off + k * 4 + 3, none⟩ = some (.slice ac f.code.length cc) := rfn_cell hrd HA.out.2.1
    clear hrd hbl bw
    go_upto_region 21 with fail
    have z0x : wc.cell? ⟨R, 0, none⟩ = some (.slice (some ⟨g, off, none⟩) (k + 1) cap) := z0y
    have z3 : wc.cell? ⟨g, off + k * 4 + 3, none⟩ = some (.slice ac f.code.length cc) := f3y
    have hR4 := HR4.out
    have hfo := hR4.fns.own
    rw [HA.out.2.2.1] at hfo
    have gf : ∀ i, wc.frozen? ⟨g, i, none⟩ = false := fun i => hfo.free i
    have kA : Keep [] wc ((wc.alloc (.cells #[.int .i64 16, .int .i64 0] 47)).drew) := ((Keep.refl [] wc).alloc _).drew
    have hown := (hR4.fns.code k _ HA.out.2.1).keep kA (by simp)
    have hbs := hfo.keep kA (by simp)
    have hbk := hR4.blk.keep kA (by simp)
    have HX := Lib.hid (And.intro hown (And.intro (src_lit wc #[.int .i64 16, .int .i64 0] [.int .i64 16, .int .i64 0] 47 2 1 rfl rfl) (And.intro kA (And.intro hR4 (And.intro hbs (And.intro HBL.out hbk))))))
    have hcl : f.code.length < 256 := by omega
    have hgw : g < wc.heap.size := cell_lt z3
    have hRw : R < wc.heap.size := cell_lt z0x
    clear kA hown hbs hR4 hfo hbk z0y f3y
    go_wp2_with fail
    go_region_law (refine step_append_off rfl (.tmp 121) (.tmp 123) rfl Tryz.sts34 B (.slice ac f.code.length cc) f.code.length (f.code.flatMap inC) (by simp [Act.eval, Act.put]) HX.out.1 (.slice (some ⟨wc.heap.size, 0, none⟩) 1 1) 1 [.int .i64 16, .int .i64 0] (by simp [Act.eval, Act.put]) HX.out.2.1 (by simp [Value.oneCell']) (by unfold maxLen; omega) (by omega) (Nat.le_trans HX.out.2.2.2.1.base HX.out.2.2.1.size) ?_; intro v' w5 hown5 hk5 hat5; obtain ⟨a5, c5, rfl⟩ := hown5.shape; have hs5 := HX.out.2.2.2.2.1.keep hk5 (own_own HX.out.2.2.2.2.1 HX.out.1 (by decide)); have hb5 := HX.out.2.2.2.2.2.2.keep hk5 (own_apart HX.out.1 HX.out.2.2.2.2.2.2 (by decide)); have y0 : w5.cell? ⟨R, 0, none⟩ = some (.slice (some ⟨g, off, none⟩) (k + 1) cap) := hb5.cell 0; have y3 : w5.cell? ⟨g, off + k * 4 + 3, none⟩ = some (.slice ac f.code.length cc) := rkeep_fn HX.out.2.2.2.1 HA.out.2.1 HX.out.2.2.1 hk5; have yf : ∀ i, w5.frozen? ⟨g, i, none⟩ = false := fun i => hs5.free i; have G := Lib.hid (And.intro hown5 (And.intro hk5 hat5)); clear hown5 hk5 hat5 hs5 hb5)
    all_goals
      go_wp2
      go_ret
      exact rins_end (i := ⟨16, 0⟩) HX.out.2.2.2.2.2.1 HX.out.2.2.2.1 HA.out.2.1 HA.out.2.2.1 HX.out.2.2.1 G.out.2.1 G.out.1 G.out.2.2
end Go.Proofs.YtbdkmfcgnolihaaGreatDoor
