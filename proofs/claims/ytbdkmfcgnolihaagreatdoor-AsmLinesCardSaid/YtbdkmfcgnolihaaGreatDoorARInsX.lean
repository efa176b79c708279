/- asm: the reference's instruction, what is refused, and one without a number asm: the reference's instruction with a number -/
import Derived.Test.YtbdkmfcgnolihaaGreatDoorRows
import Derived.WalkKit
import Derived.WalkSpells
import Derived.WalkLawsBesides
import Derived.RegionTactic
import Derived.ChangeAlike
import Derived.BigQuiet
import Derived.Deep.QuietTactic
import Derived.StillTailTactics
import Derived.IntWalk
import Derived.Handy
import Derived.Lib.Hide
import Derived.Deep.AppendLies
import Derived.Deep.RegionWith
import Derived.Test.YtbdkmfcgnolihaaGreatDoorBase
import Derived.Test.YtbdkmfcgnolihaaGreatDoorTail
import Derived.Test.YtbdkmfcgnolihaaGreatDoorArgs
import Derived.Test.YtbdkmfcgnolihaaGreatDoorAppend
import Derived.Test.YtbdkmfcgnolihaaGreatDoorOffs
import Derived.Test.YtbdkmfcgnolihaaGreatDoorStructs
import Derived.Carry
import Derived.Deep.RegionHeld3
import Derived.BigRegion
import Derived.Maps.OwnSet
import Derived.Maps.Views
import Derived.Maps.StringElems
import Derived.Test.YtbdkmfcgnolihaaGreatDoorMaps2
import Derived.Deep.CutRange
import Derived.Deep.CutBlock
import Derived.Test.YtbdkmfcgnolihaaGreatDoorARfX
import Derived.Test.YtbdkmfcgnolihaaGreatDoorAWords
namespace Go.Proofs.YtbdkmfcgnolihaaGreatDoor
set_option linter.unusedSimpArgs false
set_option linter.unnecessarySimpa false
set_option linter.unusedVariables false
open Go.RowKit
set_option maxHeartbeats 6400000 in
set_option maxRecDepth 100000 in
theorem rins_noop {B R Bs : Nat} {r : AR} {fv av wv sv : Value} {qs : List (FN × Value)} {w : World} (no : Nat) (H : RfAt B R 0 r fv av wv qs w) (hr : ARok r) {a : BS} {rs : List BS} (hS : OwnsAt w Bs 9 1 sv (rs.length + 1) ((a :: rs).map fun p => .string (strB p))) (ho : opOf a = none) :
    Calls Tryz.prog 51 #[.pointer (some ⟨R, 0, none⟩), .int .i64 no, sv] w fun e w' => e = .returned (.bool false) ∧ Keep [] w w' := by
  obtain ⟨gs, offs, cs, hsv, hgs, t0⟩ := strs_at (ps := (a :: rs)) (i := 0) (p := a) hS rfl
  subst hsv
  rw [Nat.add_zero] at t0
  have HO := Lib.hid (show (opOf a).isSome = false from by rw [ho]; rfl)
  obtain ⟨aq, cq, hq⟩ := H.fns.own.shape
  subst hq
  have z0 : w.cell? ⟨R, 0, none⟩ = some (.slice aq qs.length cq) := H.blk.cell 0
  have hq32 : (qs.length : Int) ≤ 32 := by have := hr.few; rw [H.fs, List.length_map] at this; omega
  clear H hr hS ho
  go_enter Tryz.func51, Tryz.ntmps51
  go_wp2_with fail
  refine (rop_spec _ a).mono ?_
  rintro e w2 ⟨rfl, hk2⟩
  rw [HO.out]
  have HK := Lib.hid hk2
  clear hk2
  go_wp2
  go_ret
  exact ⟨rfl, HK.out⟩
set_option maxHeartbeats 6400000 in
set_option maxRecDepth 100000 in
theorem rins_nofn {B R Bs : Nat} {r : AR} {fv av wv sv : Value} {qs : List (FN × Value)} {w : World} (no : Nat) (H : RfAt B R 0 r fv av wv qs w) (hr : ARok r) {a : BS} {rs : List BS} (hS : OwnsAt w Bs 9 1 sv (rs.length + 1) ((a :: rs).map fun p => .string (strB p))) {op : Int} (ho : opOf a = some op) (hq0 : qs = []) :
    Calls Tryz.prog 51 #[.pointer (some ⟨R, 0, none⟩), .int .i64 no, sv] w fun e w' => e = .returned (.bool false) ∧ Keep [] w w' := by
  obtain ⟨gs, offs, cs, hsv, hgs, t0⟩ := strs_at (ps := (a :: rs)) (i := 0) (p := a) hS rfl
  subst hsv
  rw [Nat.add_zero] at t0
  have HO := Lib.hid (opOr_some ho)
  obtain ⟨aq, cq, hq⟩ := H.fns.own.shape
  subst hq
  subst hq0
  have z0 : w.cell? ⟨R, 0, none⟩ = some (.slice aq 0 cq) := H.blk.cell 0
  clear H hr hS ho
  go_enter Tryz.func51, Tryz.ntmps51
  go_wp2_with fail
  refine (rop_spec _ a).mono ?_
  rintro e w2 ⟨rfl, hk2⟩
  rw [HO.out.1, HO.out.2]
  have HK := Lib.hid hk2
  clear hk2
  go_wp2
  go_ret
  exact ⟨rfl, HK.out⟩
set_option maxHeartbeats 6400000 in
set_option maxRecDepth 100000 in
theorem rins_full {B R Bs : Nat} {r : AR} {fv av wv sv : Value} {qs : List (FN × Value)} {w : World} (no : Nat) (H : RfAt B R 0 r fv av wv qs w) (hr : ARok r) {a : BS} {rs : List BS} (hS : OwnsAt w Bs 9 1 sv (rs.length + 1) ((a :: rs).map fun p => .string (strB p))) {k : Nat} {f : FN} {cv : Value} (hk : qs[k]? = some (f, cv)) (hlast : qs.length = k + 1) {op : Int} (ho : opOf a = some op) (h256 : 256 ≤ f.code.length) :
    Calls Tryz.prog 51 #[.pointer (some ⟨R, 0, none⟩), .int .i64 no, sv] w fun e w' => e = .returned (.bool false) ∧ Keep [] w w' := by
  obtain ⟨gs, offs, cs, hsv, hgs, t0⟩ := strs_at (ps := (a :: rs)) (i := 0) (p := a) hS rfl
  subst hsv
  rw [Nat.add_zero] at t0
  have HO := Lib.hid (opOr_some ho)
  obtain ⟨ac, cc, hcv⟩ := (H.fns.code k _ hk).shape
  simp only at hcv
  subst hcv
  obtain ⟨g, off, cap, hv, hg, _, _, _, _, f3, _, hgB⟩ := H.fns.fn hk
  rw [hlast] at hv
  subst hv
  have z0 : w.cell? ⟨R, 0, none⟩ = some (.slice (some ⟨g, off, none⟩) (k + 1) cap) := H.blk.cell 0
  have hk32 : k < 32 := by have := hr.few; rw [H.fs, List.length_map, hlast] at this; omega
  have hk0 : (0 : Int) ≤ (k : Int) := by omega
  have hkI : (k : Int) < 32 := by omega
  have hkk : (k : Int) < (k : Int) + 1 := by omega
  have hkB : decide ((k : Int) < 0) = false := decide_eq_false (by omega)
  have hcI : decide ((256 : Int) ≤ (f.code.length : Int)) = true := decide_eq_true (by omega)
  clear H hr hS ho hk hlast hgB h256
  go_enter Tryz.func51, Tryz.ntmps51
  go_wp2_with fail
  refine (rop_spec _ a).mono ?_
  rintro e w2 ⟨rfl, hk2⟩
  rw [HO.out.1, HO.out.2]
  have z0a := cell_keep0 hk2 z0
  have f3a := cell_keep0 hk2 f3
  have HK := Lib.hid hk2
  clear hk2 z0 f3
  go_wp2
  go_ret
  exact ⟨rfl, HK.out⟩
set_option maxHeartbeats 6400000 in
set_option maxRecDepth 100000 in
theorem rins_many {B R Bs : Nat} {r : AR} {fv av wv sv : Value} {qs : List (FN × Value)} {w : World} (no : Nat) (H : RfAt B R 0 r fv av wv qs w) (hr : ARok r) {a : BS} {rs : List BS} (hS : OwnsAt w Bs 9 1 sv (rs.length + 1) ((a :: rs).map fun p => .string (strB p))) {k : Nat} {f : FN} {cv : Value} (hk : qs[k]? = some (f, cv)) (hlast : qs.length = k + 1) {op : Int} (ho : opOf a = some op) (h256 : f.code.length < 256) (hh : hasN op = false) (hn : rs.length ≠ 0) :
    Calls Tryz.prog 51 #[.pointer (some ⟨R, 0, none⟩), .int .i64 no, sv] w fun e w' => e = .returned (.bool false) ∧ Keep [] w w' := by
  obtain ⟨gs, offs, cs, hsv, hgs, t0⟩ := strs_at (ps := (a :: rs)) (i := 0) (p := a) hS rfl
  subst hsv
  rw [Nat.add_zero] at t0
  have HO := Lib.hid (opOr_some ho)
  obtain ⟨ac, cc, hcv⟩ := (H.fns.code k _ hk).shape
  simp only at hcv
  subst hcv
  obtain ⟨g, off, cap, hv, hg, _, _, _, _, f3, _, hgB⟩ := H.fns.fn hk
  rw [hlast] at hv
  subst hv
  have z0 : w.cell? ⟨R, 0, none⟩ = some (.slice (some ⟨g, off, none⟩) (k + 1) cap) := H.blk.cell 0
  have hk32 : k < 32 := by have := hr.few; rw [H.fs, List.length_map, hlast] at this; omega
  have hk0 : (0 : Int) ≤ (k : Int) := by omega
  have hkI : (k : Int) < 32 := by omega
  have hkk : (k : Int) < (k : Int) + 1 := by omega
  have hkB : decide ((k : Int) < 0) = false := decide_eq_false (by omega)
  have hcI : decide ((256 : Int) ≤ (f.code.length : Int)) = false := decide_eq_false (by omega)
  have hnB : ((((rs.length + 1 : Nat)) : Int) != 1) = true := by simp; omega
  clear H hr hS ho hk hlast hgB h256
  go_enter Tryz.func51, Tryz.ntmps51
  go_wp2_with fail
  refine (rop_spec _ a).mono ?_
  rintro e w2 ⟨rfl, hk2⟩
  rw [HO.out.1, HO.out.2]
  have z0a := cell_keep0 hk2 z0
  have f3a := cell_keep0 hk2 f3
  have H2 := Lib.hid hk2
  clear hk2 z0 f3 t0
  go_wp2_with fail
  refine (rhasN_spec _ op).mono ?_
  rintro e w3 ⟨rfl, rfl⟩
  rw [hh]
  have kw := (Keep.refl [] w2).alloc (.cells #[.int .i64 op, .int .i64 0] 47)
  have HK := Lib.hid (H2.out.trans kw (by simp))
  clear kw
  go_wp2
  go_ret
  exact ⟨rfl, HK.out⟩
set_option maxHeartbeats 6400000 in
set_option maxRecDepth 100000 in
theorem rins_few {B R Bs : Nat} {r : AR} {fv av wv sv : Value} {qs : List (FN × Value)} {w : World} (no : Nat) (H : RfAt B R 0 r fv av wv qs w) (hr : ARok r) {a : BS} {rs : List BS} (hS : OwnsAt w Bs 9 1 sv (rs.length + 1) ((a :: rs).map fun p => .string (strB p))) {k : Nat} {f : FN} {cv : Value} (hk : qs[k]? = some (f, cv)) (hlast : qs.length = k + 1) {op : Int} (ho : opOf a = some op) (h256 : f.code.length < 256) (hh : hasN op = true) (hn : rs.length ≠ 1) :
    Calls Tryz.prog 51 #[.pointer (some ⟨R, 0, none⟩), .int .i64 no, sv] w fun e w' => e = .returned (.bool false) ∧ Keep [] w w' := by
  obtain ⟨gs, offs, cs, hsv, hgs, t0⟩ := strs_at (ps := (a :: rs)) (i := 0) (p := a) hS rfl
  subst hsv
  rw [Nat.add_zero] at t0
  have HO := Lib.hid (opOr_some ho)
  obtain ⟨ac, cc, hcv⟩ := (H.fns.code k _ hk).shape
  simp only at hcv
  subst hcv
  obtain ⟨g, off, cap, hv, hg, _, _, _, _, f3, _, hgB⟩ := H.fns.fn hk
  rw [hlast] at hv
  subst hv
  have z0 : w.cell? ⟨R, 0, none⟩ = some (.slice (some ⟨g, off, none⟩) (k + 1) cap) := H.blk.cell 0
  have hk32 : k < 32 := by have := hr.few; rw [H.fs, List.length_map, hlast] at this; omega
  have hk0 : (0 : Int) ≤ (k : Int) := by omega
  have hkI : (k : Int) < 32 := by omega
  have hkk : (k : Int) < (k : Int) + 1 := by omega
  have hkB : decide ((k : Int) < 0) = false := decide_eq_false (by omega)
  have hcI : decide ((256 : Int) ≤ (f.code.length : Int)) = false := decide_eq_false (by omega)
  have hnB : ((((rs.length + 1 : Nat)) : Int) != 2) = true := by simp; omega
  clear H hr hS ho hk hlast hgB h256
  go_enter Tryz.func51, Tryz.ntmps51
  go_wp2_with fail
  refine (rop_spec _ a).mono ?_
  rintro e w2 ⟨rfl, hk2⟩
  rw [HO.out.1, HO.out.2]
  have z0a := cell_keep0 hk2 z0
  have f3a := cell_keep0 hk2 f3
  have H2 := Lib.hid hk2
  clear hk2 z0 f3 t0
  go_wp2_with fail
  refine (rhasN_spec _ op).mono ?_
  rintro e w3 ⟨rfl, rfl⟩
  rw [hh]
  have kw := (Keep.refl [] w2).alloc (.cells #[.int .i64 op, .int .i64 0] 47)
  have HK := Lib.hid (H2.out.trans kw (by simp))
  clear kw
  go_wp2
  go_ret
  exact ⟨rfl, HK.out⟩
set_option maxHeartbeats 6400000 in
set_option maxRecDepth 100000 in
theorem rins_plain {B R Bs : Nat} {r : AR} {fv av wv sv : Value} {qs : List (FN × Value)} {w : World} (no : Nat) (H : RfAt B R 0 r fv av wv qs w) (hr : ARok r) {a : BS} (hS : OwnsAt w Bs 9 1 sv 1 (([a] : List BS).map fun p => .string (strB p))) {k : Nat} {f : FN} {cv : Value} (hk : qs[k]? = some (f, cv)) (hlast : qs.length = k + 1) {op : Int} (ho : opOf a = some op) (h256 : f.code.length < 256) (hh : hasN op = false) :
    Calls Tryz.prog 51 #[.pointer (some ⟨R, 0, none⟩), .int .i64 no, sv] w fun e w' => e = .returned (.bool true) ∧ Below R w w' ∧ ∃ fv av wv ps, RfAt B R 0 { r with funcs := addI r.funcs ⟨op, 0⟩ } fv av wv ps w' := by
  obtain ⟨gs, offs, cs, hsv, hgs, t0⟩ := strs_at (ps := [a]) (i := 0) (p := a) hS rfl
  subst hsv
  rw [Nat.add_zero] at t0
  have HO := Lib.hid (opOr_some ho)
  obtain ⟨ac, cc, hcv⟩ := (H.fns.code k _ hk).shape
  simp only at hcv
  subst hcv
  obtain ⟨g, off, cap, hv, hg, _, _, _, _, f3, _, hgB⟩ := H.fns.fn hk
  rw [hlast] at hv
  subst hv
  have z0 : w.cell? ⟨R, 0, none⟩ = some (.slice (some ⟨g, off, none⟩) (k + 1) cap) := H.blk.cell 0
  have hk32 : k < 32 := by have := hr.few; rw [H.fs, List.length_map, hlast] at this; omega
  have hk0 : (0 : Int) ≤ (k : Int) := by omega
  have hkI : (k : Int) < 32 := by omega
  have hkk : (k : Int) < (k : Int) + 1 := by omega
  have hkB : decide ((k : Int) < 0) = false := decide_eq_false (by omega)
  have hcI : decide ((256 : Int) ≤ (f.code.length : Int)) = false := decide_eq_false (by omega)
  have HA := Lib.hid (And.intro H (And.intro hk (And.intro hlast hr)))
  clear H hr hS ho hk hlast hgB
  go_enter Tryz.func51, Tryz.ntmps51
  go_wp2_with fail
  refine (rop_spec _ a).mono ?_
  rintro e w2 ⟨rfl, hk2⟩
  rw [HO.out.1, HO.out.2]
  have z0a := cell_keep0 hk2 z0
  have f3a := cell_keep0 hk2 f3
  have H2 := Lib.hid hk2
  clear hk2 z0 f3 t0
  go_wp2_with fail
  refine (rhasN_spec _ op).mono ?_
  rintro e w3 ⟨rfl, rfl⟩
  rw [hh]
  go_upto_region 21 with fail
  have kw : Keep [] w2 (w2.alloc (.cells #[.int .i64 op, .int .i64 0] 47)) := (Keep.refl _ _).alloc _
  have bw : Blk (w2.alloc (.cells #[.int .i64 op, .int .i64 0] 47)) w2.heap.size 47 [.int .i64 op, .int .i64 0] := Blk.new' _ _ _ _ rfl
  have b0 := bw.cell 0
  have b1 := bw.cell 1
  simp only [List.getElem?_cons_zero, List.getElem?_cons_succ] at b0 b1
  have z0y := cell_keep0 kw z0a
  have f3y := cell_keep0 kw f3a
  have HK := Lib.hid (H2.out.trans kw (by simp))
  clear z0a f3a kw bw H2
  generalize w2.alloc (.cells #[.int .i64 op, .int .i64 0] 47) = w4 at *
  have HR4 := Lib.hid (HA.out.1.keep0 HK.out)
  have z0x : w4.cell? ⟨R, 0, none⟩ = some (.slice (some ⟨g, off, none⟩) (k + 1) cap) := z0y
  have z3 : w4.cell? ⟨g, off + k * 4 + 3, none⟩ = some (.slice ac f.code.length cc) := f3y
  have hR4 := HR4.out
  have hfo := hR4.fns.own
  rw [HA.out.2.2.1] at hfo
  have gf : ∀ i, w4.frozen? ⟨g, i, none⟩ = false := fun i => hfo.free i
  have kA : Keep [] w4 ((w4.alloc (.cells #[.int .i64 op, .int .i64 0] 47)).drew) := ((Keep.refl [] w4).alloc _).drew
  have hown := (hR4.fns.code k _ HA.out.2.1).keep kA (by simp)
  have hbs := hfo.keep kA (by simp)
  have hbk := hR4.blk.keep kA (by simp)
  have HX := Lib.hid (And.intro hown (And.intro (src_lit w4 #[.int .i64 op, .int .i64 0] [.int .i64 op, .int .i64 0] 47 2 1 rfl rfl) (And.intro kA (And.intro hR4 (And.intro hbs (And.intro (keep_below0 HK.out (Nat.le_trans (Nat.le_of_lt HA.out.1.lt) HA.out.1.base)) hbk))))))
  have hcl : f.code.length < 256 := by omega
  have hgw : g < w4.heap.size := cell_lt z3
  have hRw : R < w4.heap.size := cell_lt z0x
  clear kA hown hbs hR4 hfo hbk z0y f3y
  go_wp2_with fail
  go_region_law (refine step_append_off rfl (.tmp 121) (.tmp 123) rfl Tryz.sts34 B (.slice ac f.code.length cc) f.code.length (f.code.flatMap inC) (by simp [Act.eval, Act.put]) HX.out.1 (.slice (some ⟨w4.heap.size, 0, none⟩) 1 1) 1 [.int .i64 op, .int .i64 0] (by simp [Act.eval, Act.put]) HX.out.2.1 (by simp [Value.oneCell']) (by unfold maxLen; omega) (by omega) (Nat.le_trans HX.out.2.2.2.1.base HX.out.2.2.1.size) ?_; intro v' w5 hown5 hk5 hat5; obtain ⟨a5, c5, rfl⟩ := hown5.shape; have hs5 := HX.out.2.2.2.2.1.keep hk5 (own_own HX.out.2.2.2.2.1 HX.out.1 (by decide)); have hb5 := HX.out.2.2.2.2.2.2.keep hk5 (own_apart HX.out.1 HX.out.2.2.2.2.2.2 (by decide)); have y0 : w5.cell? ⟨R, 0, none⟩ = some (.slice (some ⟨g, off, none⟩) (k + 1) cap) := hb5.cell 0; have y3 : w5.cell? ⟨g, off + k * 4 + 3, none⟩ = some (.slice ac f.code.length cc) := rkeep_fn HX.out.2.2.2.1 HA.out.2.1 HX.out.2.2.1 hk5; have yf : ∀ i, w5.frozen? ⟨g, i, none⟩ = false := fun i => hs5.free i; have G := Lib.hid (And.intro hown5 (And.intro hk5 hat5)); clear hown5 hk5 hat5 hs5 hb5)
  all_goals
    go_wp2
    go_ret
    exact rins_end (i := ⟨op, 0⟩) HX.out.2.2.2.2.2.1 HX.out.2.2.2.1 HA.out.2.1 HA.out.2.2.1 HX.out.2.2.1 G.out.2.1 G.out.1 G.out.2.2
end Go.Proofs.YtbdkmfcgnolihaaGreatDoor
namespace Go.Proofs.YtbdkmfcgnolihaaGreatDoor
set_option linter.unusedSimpArgs false
set_option linter.unnecessarySimpa false
set_option linter.unusedVariables false
open Go.RowKit
set_option maxHeartbeats 6400000 in
set_option maxRecDepth 100000 in
theorem rins_numno {B R Bs : Nat} {r : AR} {fv av wv sv : Value} {qs : List (FN × Value)} {w : World} (no : Nat) (H : RfAt B R 0 r fv av wv qs w) (hr : ARok r) {a b : BS} (hS : OwnsAt w Bs 9 1 sv 2 (([a, b] : List BS).map fun p => .string (strB p))) {k : Nat} {f : FN} {cv : Value} (hk : qs[k]? = some (f, cv)) (hlast : qs.length = k + 1) {op : Int} (ho : opOf a = some op) (h256 : f.code.length < 256) (hh : hasN op = true) (h16 : op ≠ 16) (hb : b.length ≤ 1000000) (hn : readInt b = none) :
    Calls Tryz.prog 51 #[.pointer (some ⟨R, 0, none⟩), .int .i64 no, sv] w fun e w' => e = .returned (.bool false) ∧ Keep [] w w' := by
  obtain ⟨gs, offs, cs, hsv, hgs, t0⟩ := strs_at (ps := [a, b]) (i := 0) (p := a) hS rfl
  subst hsv
  rw [Nat.add_zero] at t0
  obtain ⟨gs', offs', cs', hsv', _, t1⟩ := strs_at (ps := [a, b]) (i := 1) (p := b) hS rfl
  injection hsv' with e1 e2 e3
  injection e1 with e1
  injection e1 with e1 e4
  subst e1 e4
  have HO := Lib.hid (opOr_some ho)
  obtain ⟨ac, cc, hcv⟩ := (H.fns.code k _ hk).shape
  simp only at hcv
  subst hcv
  obtain ⟨g, off, cap, hv, hg, _, _, _, _, f3, _, hgB⟩ := H.fns.fn hk
  rw [hlast] at hv
  subst hv
  have z0 : w.cell? ⟨R, 0, none⟩ = some (.slice (some ⟨g, off, none⟩) (k + 1) cap) := H.blk.cell 0
  have hk32 : k < 32 := by have := hr.few; rw [H.fs, List.length_map, hlast] at this; omega
  have hk0 : (0 : Int) ≤ (k : Int) := by omega
  have hkI : (k : Int) < 32 := by omega
  have hkk : (k : Int) < (k : Int) + 1 := by omega
  have hkB : decide ((k : Int) < 0) = false := decide_eq_false (by omega)
  have hcI : decide ((256 : Int) ≤ (f.code.length : Int)) = false := decide_eq_false (by omega)
  have h16B : (op == 16) = false := by simpa using h16
  have HN := Lib.hid hn
  have HB := Lib.hid hb
  have HA := Lib.hid (And.intro H (And.intro hk (And.intro hlast hr)))
  clear H hr hS ho hk hlast hgB hn hb h16
  go_enter Tryz.func51, Tryz.ntmps51
  go_wp2_with fail
  refine (rop_spec _ a).mono ?_
  rintro e w2 ⟨rfl, hk2⟩
  rw [HO.out.1, HO.out.2]
  have z0a := cell_keep0 hk2 z0
  have f3a := cell_keep0 hk2 f3
  have t1a := cell_keep0 hk2 t1
  have H2 := Lib.hid hk2
  clear hk2 z0 f3 t0 t1
  go_wp2_with fail
  refine (rhasN_spec _ op).mono ?_
  rintro e w3 ⟨rfl, rfl⟩
  rw [hh]
  go_upto_block 0 with fail
  have kw : Keep [] w2 (w2.alloc (.cells #[.int .i64 op, .int .i64 0] 47)) := (Keep.refl _ _).alloc _
  have bw : Blk (w2.alloc (.cells #[.int .i64 op, .int .i64 0] 47)) w2.heap.size 47 [.int .i64 op, .int .i64 0] := Blk.new' _ _ _ _ rfl
  have z0y := cell_keep0 kw z0a
  have f3y := cell_keep0 kw f3a
  have t1y := cell_keep0 kw t1a
  have HK := Lib.hid (H2.out.trans kw (by simp))
  have HBW := Lib.hid bw
  have hbx := Lib.hid H2.out.size
  have hbB := Lib.hid (Nat.le_trans HA.out.1.base H2.out.size)
  clear z0a f3a t1a kw bw H2
  generalize w2.alloc (.cells #[.int .i64 op, .int .i64 0] 47) = w4 at *
  generalize w2.heap.size = bx at *
  go_wp2_with fail
  refine (readInt_spec _ b HB.out).mono ?_
  rintro e w6 ⟨hm, rfl⟩
  rw [HN.out] at hm
  obtain rfl := hm
  go_wp2
  go_ret
  exact ⟨rfl, HK.out⟩
set_option maxHeartbeats 6400000 in
set_option maxRecDepth 100000 in
theorem rins_num {B R Bs : Nat} {r : AR} {fv av wv sv : Value} {qs : List (FN × Value)} {w : World} (no : Nat) (H : RfAt B R 0 r fv av wv qs w) (hr : ARok r) {a b : BS} (hS : OwnsAt w Bs 9 1 sv 2 (([a, b] : List BS).map fun p => .string (strB p))) {k : Nat} {f : FN} {cv : Value} (hk : qs[k]? = some (f, cv)) (hlast : qs.length = k + 1) {op : Int} (ho : opOf a = some op) (h256 : f.code.length < 256) (hh : hasN op = true) (h16 : op ≠ 16) (hb : b.length ≤ 1000000) {m : Int} (hn : readInt b = some m) :
    Calls Tryz.prog 51 #[.pointer (some ⟨R, 0, none⟩), .int .i64 no, sv] w fun e w' => e = .returned (.bool true) ∧ Below R w w' ∧ ∃ fv av wv ps, RfAt B R 0 { r with funcs := addI r.funcs ⟨op, m⟩ } fv av wv ps w' := by
  obtain ⟨gs, offs, cs, hsv, hgs, t0⟩ := strs_at (ps := [a, b]) (i := 0) (p := a) hS rfl
  subst hsv
  rw [Nat.add_zero] at t0
  obtain ⟨gs', offs', cs', hsv', _, t1⟩ := strs_at (ps := [a, b]) (i := 1) (p := b) hS rfl
  injection hsv' with e1 e2 e3
  injection e1 with e1
  injection e1 with e1 e4
  subst e1 e4
  have HO := Lib.hid (opOr_some ho)
  obtain ⟨ac, cc, hcv⟩ := (H.fns.code k _ hk).shape
  simp only at hcv
  subst hcv
  obtain ⟨g, off, cap, hv, hg, _, _, _, _, f3, _, hgB⟩ := H.fns.fn hk
  rw [hlast] at hv
  subst hv
  have z0 : w.cell? ⟨R, 0, none⟩ = some (.slice (some ⟨g, off, none⟩) (k + 1) cap) := H.blk.cell 0
  have hk32 : k < 32 := by have := hr.few; rw [H.fs, List.length_map, hlast] at this; omega
  have hk0 : (0 : Int) ≤ (k : Int) := by omega
  have hkI : (k : Int) < 32 := by omega
  have hkk : (k : Int) < (k : Int) + 1 := by omega
  have hkB : decide ((k : Int) < 0) = false := decide_eq_false (by omega)
  have hcI : decide ((256 : Int) ≤ (f.code.length : Int)) = false := decide_eq_false (by omega)
  have h16B : (op == 16) = false := by simpa using h16
  have HN := Lib.hid hn
  have HB := Lib.hid hb
  have HA := Lib.hid (And.intro H (And.intro hk (And.intro hlast hr)))
  clear H hr hS ho hk hlast hgB hn hb h16
  go_enter Tryz.func51, Tryz.ntmps51
  go_wp2_with fail
  refine (rop_spec _ a).mono ?_
  rintro e w2 ⟨rfl, hk2⟩
  rw [HO.out.1, HO.out.2]
  have z0a := cell_keep0 hk2 z0
  have f3a := cell_keep0 hk2 f3
  have t1a := cell_keep0 hk2 t1
  have H2 := Lib.hid hk2
  clear hk2 z0 f3 t0 t1
  go_wp2_with fail
  refine (rhasN_spec _ op).mono ?_
  rintro e w3 ⟨rfl, rfl⟩
  rw [hh]
  go_upto_block 0 with fail
  have kw : Keep [] w2 (w2.alloc (.cells #[.int .i64 op, .int .i64 0] 47)) := (Keep.refl _ _).alloc _
  have bw : Blk (w2.alloc (.cells #[.int .i64 op, .int .i64 0] 47)) w2.heap.size 47 [.int .i64 op, .int .i64 0] := Blk.new' _ _ _ _ rfl
  have z0y := cell_keep0 kw z0a
  have f3y := cell_keep0 kw f3a
  have t1y := cell_keep0 kw t1a
  have HK := Lib.hid (H2.out.trans kw (by simp))
  have HBW := Lib.hid bw
  have hbx := Lib.hid H2.out.size
  have hbB := Lib.hid (Nat.le_trans HA.out.1.base H2.out.size)
  clear z0a f3a t1a kw bw H2
  generalize w2.alloc (.cells #[.int .i64 op, .int .i64 0] 47) = w4 at *
  generalize w2.heap.size = bx at *
  go_wp2_with fail
  refine (readInt_spec _ b HB.out).mono ?_
  rintro e w6 ⟨hm, rfl⟩
  rw [HN.out] at hm
  obtain rfl := hm
  have b1 : w4.cell? ⟨bx, 1, none⟩ = some (.int .i64 0) := HBW.out.cell 1
  have bf : ∀ i, w4.frozen? ⟨bx, i, none⟩ = false := fun i => HBW.out.frozen i
  go_upto_region 21 with fail
  have kS : Keep [bx] w4 (w4.setCell ⟨bx, 1, none⟩ (.int .i64 m)) := (Keep.refl _ _).setCell (by simp) _
  have hb2 : Blk (w4.setCell ⟨bx, 1, none⟩ (.int .i64 m)) bx 47 [.int .i64 op, .int .i64 m] := HBW.out.set_ 1 _
  have HKS := Lib.hid (HK.out.trans kS (fun x hx => Or.inr (by rw [List.mem_singleton.1 hx]; exact hbx.out)))
  have HR4 := Lib.hid (HA.out.1.keep0 HKS.out)
  have HBL := Lib.hid (keep_below0 HKS.out (Nat.le_trans (Nat.le_of_lt HA.out.1.lt) HA.out.1.base))
  have c0 := hb2.cell 0
  have c1 := hb2.cell 1
  simp only [List.getElem?_cons_zero, List.getElem?_cons_succ] at c0 c1
  clear b1 bf kS hb2 z0y f3y t1y
  generalize w4.setCell ⟨bx, 1, none⟩ (.int .i64 m) = w7 at *
  have z0y : w7.cell? ⟨R, 0, none⟩ = some (.slice (some ⟨g, off, none⟩) (k + 1) cap) := HR4.out.blk.cell 0
  have f3y : w7.cell? ⟨g, off + k * 4 + 3, none⟩ = some (.slice ac f.code.length cc) := rfn_cell HR4.out HA.out.2.1
  have z0x : w7.cell? ⟨R, 0, none⟩ = some (.slice (some ⟨g, off, none⟩) (k + 1) cap) := z0y
  have z3 : w7.cell? ⟨g, off + k * 4 + 3, none⟩ = some (.slice ac f.code.length cc) := f3y
  have hR4 := HR4.out
  have hfo := hR4.fns.own
  rw [HA.out.2.2.1] at hfo
  have gf : ∀ i, w7.frozen? ⟨g, i, none⟩ = false := fun i => hfo.free i
  have kA : Keep [] w7 ((w7.alloc (.cells #[.int .i64 op, .int .i64 m] 47)).drew) := ((Keep.refl [] w7).alloc _).drew
  have hown := (hR4.fns.code k _ HA.out.2.1).keep kA (by simp)
  have hbs := hfo.keep kA (by simp)
  have hbk := hR4.blk.keep kA (by simp)
  have HX := Lib.hid (And.intro hown (And.intro (src_lit w7 #[.int .i64 op, .int .i64 m] [.int .i64 op, .int .i64 m] 47 2 1 rfl rfl) (And.intro kA (And.intro hR4 (And.intro hbs (And.intro HBL.out hbk))))))
  have hcl : f.code.length < 256 := by omega
  have hgw : g < w7.heap.size := cell_lt z3
  have hRw : R < w7.heap.size := cell_lt z0x
  clear kA hown hbs hR4 hfo hbk z0y f3y
  go_wp2_with fail
  go_region_law (refine step_append_off rfl (.tmp 121) (.tmp 123) rfl Tryz.sts34 B (.slice ac f.code.length cc) f.code.length (f.code.flatMap inC) (by simp [Act.eval, Act.put]) HX.out.1 (.slice (some ⟨w7.heap.size, 0, none⟩) 1 1) 1 [.int .i64 op, .int .i64 m] (by simp [Act.eval, Act.put]) HX.out.2.1 (by simp [Value.oneCell']) (by unfold maxLen; omega) (by omega) (Nat.le_trans HX.out.2.2.2.1.base HX.out.2.2.1.size) ?_; intro v' w5 hown5 hk5 hat5; obtain ⟨a5, c5, rfl⟩ := hown5.shape; have hs5 := HX.out.2.2.2.2.1.keep hk5 (own_own HX.out.2.2.2.2.1 HX.out.1 (by decide)); have hb5 := HX.out.2.2.2.2.2.2.keep hk5 (own_apart HX.out.1 HX.out.2.2.2.2.2.2 (by decide)); have y0 : w5.cell? ⟨R, 0, none⟩ = some (.slice (some ⟨g, off, none⟩) (k + 1) cap) := hb5.cell 0; have y3 : w5.cell? ⟨g, off + k * 4 + 3, none⟩ = some (.slice ac f.code.length cc) := rkeep_fn HX.out.2.2.2.1 HA.out.2.1 HX.out.2.2.1 hk5; have yf : ∀ i, w5.frozen? ⟨g, i, none⟩ = false := fun i => hs5.free i; have G := Lib.hid (And.intro hown5 (And.intro hk5 hat5)); clear hown5 hk5 hat5 hs5 hb5)
  all_goals
    go_wp2
    go_ret
    exact rins_end (i := ⟨op, m⟩) HX.out.2.2.2.2.2.1 HX.out.2.2.2.1 HA.out.2.1 HA.out.2.2.1 HX.out.2.2.1 G.out.2.1 G.out.1 G.out.2.2
end Go.Proofs.YtbdkmfcgnolihaaGreatDoor
