/- asm: which jobs can be written. -/
import Derived.Test.YtbdkmfcgnolihaaGreatDoorRows
import Derived.WalkKit
import Derived.WalkSpells
import Derived.WalkLawsBesides
import Derived.RegionTactic
import Derived.ChangeAlike
import Derived.BigQuiet
import Derived.Deep.QuietTactic
import Derived.StillTailTactics
import Derived.IntWalk
import Derived.Handy
import Derived.Lib.Hide
import Derived.Deep.AppendLies
import Derived.Deep.RegionWith
import Derived.Test.YtbdkmfcgnolihaaGreatDoorBase
import Derived.Test.YtbdkmfcgnolihaaGreatDoorTail
import Derived.Test.YtbdkmfcgnolihaaGreatDoorArgs
import Derived.Test.YtbdkmfcgnolihaaGreatDoorAppend
import Derived.Test.YtbdkmfcgnolihaaGreatDoorOffs
import Derived.Test.YtbdkmfcgnolihaaGreatDoorStructs
import Derived.Carry
import Derived.Deep.RegionHeld3
import Derived.BigRegion
import Derived.Maps.OwnSet
import Derived.Maps.Views
import Derived.Maps.StringElems
import Derived.Test.YtbdkmfcgnolihaaGreatDoorMaps2
import Derived.Deep.CutRange
import Derived.Deep.CutBlock
import Derived.Test.YtbdkmfcgnolihaaGreatDoorANames
import Derived.Test.YtbdkmfcgnolihaaGreatDoorAPl
import Derived.Test.YtbdkmfcgnolihaaGreatDoorASeen
namespace Go.Proofs.YtbdkmfcgnolihaaGreatDoor
set_option linter.unusedSimpArgs false
set_option linter.unnecessarySimpa false
set_option linter.unusedVariables false
open Go.RowKit
def jobC (fa : Option Addr) (fc : Nat) (aa : Option Addr) (ac : Nat) (j : JB) : List Value := [.slice fa j.funcs.length fc, .int .i64 j.main, .slice aa j.args.length ac, .int .i64 j.fuel, .int .i64 j.tasks]
structure JShort (j : JB) : Prop where
  funcs : j.funcs.length ≤ 1000000
  names : ∀ f ∈ j.funcs, f.name.length ≤ 1000000
  codes : ∀ f ∈ j.funcs, f.code.length ≤ 1000000
theorem plainFs_here {nf : Nat} {seen : List BS} {fs : List FN} {i : Nat} {f : FN} (h : fs[i]? = some f) : plainFs nf seen (fs.drop i) = (!seen.contains f.name && plainF nf f && plainFs nf (seen ++ [f.name]) (fs.drop (i + 1))) := by rw [drop_at h]; rfl
/-- in a round of the outer loop -/
structure PlIn (j : JB) (fa : Option Addr) (fc : Nat) (aa : Option Addr) (ac n : Nat) (seen : List BS) (w0 w : World) : Prop where
  blk : Blk w w0.heap.size 25 (jobC fa fc aa ac j)
  seen : SeenIn w (w0.heap.size + 1) n seen
  keep : Keep [] w0 w
theorem PlIn.keep0 {j : JB} {fa aa : Option Addr} {fc ac n : Nat} {seen : List BS} {w0 w w' : World} (h : PlIn j fa fc aa ac n seen w0 w) (k : Keep [] w w') : PlIn j fa fc aa ac n seen w0 w' := ⟨h.blk.keep k (by simp), h.seen.keep k (by simp), h.keep.trans k (by simp)⟩
set_option maxHeartbeats 12800000 in
set_option maxRecDepth 100000 in
theorem plainJ_loop {w : World} {jv : Value} {j : JB} (h : JobRd w jv j) (hs : JShort j) (h1 : j.funcs.length ≤ 32) (h2 : j.args.length ≤ 8) (h3 : 0 ≤ j.main) (h4 : j.main < j.funcs.length) :
    Calls Tryz.prog 14 #[jv] w (PlainPost (plainFs j.funcs.length [] j.funcs) w) := by
  have HJ := Lib.hid h
  obtain ⟨fa, fc, aa, ac, rfl, hf, ha⟩ := jobRd_cells h
  obtain ⟨R, hR⟩ : ∃ R, R = plainFs j.funcs.length [] j.funcs := ⟨_, rfl⟩
  rw [← hR]
  have HS := Lib.hid hs
  have HF := Lib.hid hf
  have hnI : (j.funcs.length : Int) ≤ 32 := by omega
  have haI : (j.args.length : Int) ≤ 8 := by omega
  have hmm := @run_makeMap Tryz.prog
  have H0 := Lib.hid (show PlIn j fa fc aa ac 0 [] w ((w.alloc (.cells #[.slice fa j.funcs.length fc, .int .i64 j.main, .slice aa j.args.length ac, .int .i64 j.fuel, .int .i64 j.tasks] 25)).alloc (.map #[] 0)) from by
    have e1 : (w.alloc (.cells #[.slice fa j.funcs.length fc, .int .i64 j.main, .slice aa j.args.length ac, .int .i64 j.fuel, .int .i64 j.tasks] 25)).heap.size = w.heap.size + 1 := by simp
    refine ⟨(Blk.new' _ _ _ _ rfl).alloc _, ?_, ((Keep.refl _ _).alloc _).alloc _⟩
    have := SeenIn.made (w.alloc (.cells #[.slice fa j.funcs.length fc, .int .i64 j.main, .slice aa j.args.length ac, .int .i64 j.fuel, .int .i64 j.tasks] 25))
    rw [e1] at this
    exact this)
  have HR := Lib.hid hR
  clear h hs hf ha hR h1 h2
  go_enter Tryz.func14, Tryz.ntmps14
  go_wp2_with fail
  go_loopw [5, 7, 35] (fun _ _ vi wr => ∃ i : Nat, i ≤ j.funcs.length ∧ vi = .int .i64 i ∧ PlIn j fa fc aa ac i ((j.funcs.take i).map FN.name) w wr ∧ plainFs j.funcs.length ((j.funcs.take i).map FN.name) (j.funcs.drop i) = R) (fun _ _ vi _ => j.funcs.length - (intOf vi).toNat)
  case atStart => exact ⟨0, Nat.zero_le _, rfl, H0.out, HR.out.symm⟩
  case round =>
    clear H0
    obtain ⟨i, hi, rfl, hp, hr⟩ := hrel
    by_cases hlt : i < j.funcs.length
    · have hltI : (i : Int) < (j.funcs.length : Int) := by omega
      have hiI : (i : Int) ≤ 32 := by omega
      obtain ⟨f, hfi⟩ := get_ex hlt
      have hmem := List.mem_of_getElem? hfi
      have hnm := HS.out.names f hmem
      have hcl := HS.out.codes f hmem
      obtain ⟨b, off, cv, hfa, hb, c0', c1', c2', c3', hcode⟩ := HF.out.at_ hfi
      have c0 := cell_keep0 hp.keep c0'
      have c1 := cell_keep0 hp.keep c1'
      have c2 := cell_keep0 hp.keep c2'
      have c3 := cell_keep0 hp.keep c3'
      clear c0' c1' c2' c3'
      subst hfa
      obtain ⟨ca, cc, rfl⟩ := hcode.shape
      rw [plainFs_here hfi] at hr
      have ht : ((j.funcs.take (i + 1)).map FN.name) = (j.funcs.take i).map FN.name ++ [f.name] := by rw [List.take_add_one, hfi, List.map_append]; rfl
      obtain ⟨sn, hsn⟩ : ∃ sn, sn = (j.funcs.take i).map FN.name := ⟨_, rfl⟩
      rw [← hsn] at hp hr ht
      have kb : Keep [] wr (wr.alloc (.cells #[.string (strB f.name), .int .i64 f.args, .int .i64 f.locals, .slice ca f.code.length cc] 36)) := (Keep.refl _ _).alloc _
      have bb : Blk (wr.alloc (.cells #[.string (strB f.name), .int .i64 f.args, .int .i64 f.locals, .slice ca f.code.length cc] 36)) wr.heap.size 36 [.string (strB f.name), .int .i64 f.args, .int .i64 f.locals, .slice ca f.code.length cc] := Blk.new' _ _ _ _ rfl
      have GA := Lib.hid (And.intro hp (And.intro kb (And.intro bb (And.intro hcode (And.intro hnm (And.intro hcl (And.intro hfi ht)))))))
      have HR2 := Lib.hid hr
      clear hp hr kb bb hcode hnm hmem hfi ht hb hsn
      go_wp2_with fail
      refine (named_spec _ f.name GA.out.2.2.2.2.1).mono ?_
      rintro e w2 ⟨rfl, hk2⟩
      have bb2 := GA.out.2.2.1.keep hk2 (by simp)
      have b0 : w2.cell? ⟨wr.heap.size, 0, none⟩ = some (.string (strB f.name)) := bb2.cell 0
      have b3 : w2.cell? ⟨wr.heap.size, 3, none⟩ = some (.slice ca f.code.length cc) := bb2.cell 3
      have H2 := Lib.hid (And.intro (GA.out.1.keep0 (GA.out.2.1.trans hk2 (by simp))) (And.intro (GA.out.2.1.trans hk2 (by simp)) bb2))
      clear hk2 bb2 c0 c1 c2 c3
      by_cases hn : nameL f.name = true
      · rw [hn]
        have hlk := H2.out.1.seen.look GA.out.2.2.2.2.1
        by_cases hse : sn.contains f.name = true
        · rw [hse] at hlk
          have HF2 := Lib.hid (show R = false by rw [← HR2.out, hse]; rfl)
          clear hn hse
          go_wp2
          go_ret
          exact plain_ret HF2.out H2.out.1.keep
        · have hse' : sn.contains f.name = false := by simpa using hse
          rw [hse'] at hlk
          by_cases h256 : f.code.length ≤ 256
          · have h256I : (f.code.length : Int) ≤ 256 := by omega
            obtain ⟨w3, hup, hs3, hk3⟩ := H2.out.1.seen.store GA.out.2.2.2.2.1 (by omega)
            have hb3 := H2.out.2.2.keep hk3 (by
              intro hx
              have h9 := List.mem_singleton.1 hx
              have := GA.out.1.seen.lt
              omega)
            have c30 : w3.cell? ⟨wr.heap.size, 0, none⟩ = some (.string (strB f.name)) := hb3.cell 0
            have c33 : w3.cell? ⟨wr.heap.size, 3, none⟩ = some (.slice ca f.code.length cc) := hb3.cell 3
            have H3 := Lib.hid (show PlIn j (some ⟨b, off, none⟩) fc aa ac (i + 1) (sn ++ [f.name]) w w3 from ⟨H2.out.1.blk.keep hk3 (by simp), hs3, H2.out.1.keep.trans hk3 (fun x hx => Or.inr (by rw [List.mem_singleton.1 hx]; omega))⟩)
            have HR3 := Lib.hid (show (f.code.all (plainI j.funcs.length) && plainFs j.funcs.length (sn ++ [f.name]) (j.funcs.drop (i + 1))) = R by rw [← HR2.out, hse']; unfold plainF; simp [hn, h256])
            have HC3 := Lib.hid (show CodeRd w3 (.slice ca f.code.length cc) f.code from GA.out.2.2.2.1.keep0 H3.out.keep)
            clear hn hse hse' hs3 hk3 hb3 HR2
            have hclI : (f.code.length : Int) ≤ 1000000 := by omega
            go_wp2_with fail
            go_loopw [7, 61] (fun _ vq wq => ∃ q : Nat, q ≤ f.code.length ∧ vq = .int .i64 q ∧ PlIn j (some ⟨b, off, none⟩) fc aa ac (i + 1) (sn ++ [f.name]) w wq ∧ Keep [] w3 wq ∧ ∀ (t : Nat) (x : IN), t < q → f.code[t]? = some x → plainI j.funcs.length x = true) (fun _ vq _ => f.code.length - (intOf vq).toNat)
            case atStart => exact ⟨0, Nat.zero_le _, rfl, H3.out, Keep.refl _ _, fun t x ht => absurd ht (by omega)⟩
            case round =>
              clear c30 c33
              obtain ⟨q, hq, rfl, hp4, hk4, hall⟩ := hrel
              by_cases hlq : q < f.code.length
              · have hlqI : (q : Int) < (f.code.length : Int) := by omega
                have hq0 : (0 : Int) ≤ (q : Int) := by omega
                obtain ⟨x, hx⟩ := get_ex hlq
                obtain ⟨g2, o2, hca, _, d0, d1⟩ := (HC3.out.keep0 hk4).at_ hx
                subst hca
                have zb := hp4.blk
                have z0 : wr.cell? ⟨w.heap.size, 0, none⟩ = some (.slice (some ⟨b, off, none⟩) j.funcs.length fc) := zb.cell 0
                have z1 : wr.cell? ⟨w.heap.size, 1, none⟩ = some (.int .i64 j.main) := zb.cell 1
                have z2 : wr.cell? ⟨w.heap.size, 2, none⟩ = some (.slice aa j.args.length ac) := zb.cell 2
                have z3 : wr.cell? ⟨w.heap.size, 3, none⟩ = some (.int .i64 j.fuel) := zb.cell 3
                have z4 : wr.cell? ⟨w.heap.size, 4, none⟩ = some (.int .i64 j.tasks) := zb.cell 4
                have hww : w.heap.size < wr.heap.size := zb.lt
                have kx : Keep [] wr (wr.alloc (.cells #[.int .i64 x.op, .int .i64 x.n] 47)) := (Keep.refl _ _).alloc _
                have G4 := Lib.hid (And.intro hp4 (And.intro hk4 (And.intro hall (And.intro hx kx))))
                have HP := Lib.hid (plain_spec (HJ.out.keep0 (hp4.keep.trans kx (by simp))) x HS.out.funcs)
                clear hp4 hk4 hall hx kx zb
                unfold inV at HP
                go_wp2_with fail
                refine HP.out.mono ?_
                rintro e w5 ⟨rfl, hk5⟩
                have H5 := Lib.hid (And.intro (G4.out.1.keep0 (G4.out.2.2.2.2.trans hk5 (by simp))) (G4.out.2.1.trans (G4.out.2.2.2.2.trans hk5 (by simp)) (by simp)))
                clear hk5 d0 d1 z0 z1 z2 z3 z4 HP
                by_cases hpl : plainI j.funcs.length x = true
                · rw [hpl]
                  have HA := Lib.hid (show ∀ (t : Nat) (y : IN), t < q + 1 → f.code[t]? = some y → plainI j.funcs.length y = true from fun t y ht hy => by
                    by_cases e : t = q
                    · subst e
                      rw [G4.out.2.2.2.1] at hy
                      cases hy
                      exact hpl
                    · exact G4.out.2.2.1 t y (by omega) hy)
                  clear hpl
                  go_wp2
                  go_roundw
                  case rel => exact ⟨q + 1, by omega, by go_num, H5.out.1, H5.out.2, HA.out⟩
                  case measure => simp [intOf]; omega
                · have hpl' : plainI j.funcs.length x = false := by simpa using hpl
                  rw [hpl']
                  have HF2 := Lib.hid (show R = false by
                    rw [← HR3.out]
                    have : f.code.all (plainI j.funcs.length) = false := by
                      rw [List.all_eq_false]
                      exact ⟨x, List.mem_of_getElem? G4.out.2.2.2.1, hpl⟩
                    rw [this]; rfl)
                  clear hpl hpl'
                  go_wp2
                  go_ret
                  exact plain_ret HF2.out H5.out.1.keep
              · obtain rfl : q = f.code.length := by omega
                have HX := Lib.hid (And.intro hp4 (show plainFs j.funcs.length (sn ++ [f.name]) (j.funcs.drop (i + 1)) = R by
                  rw [← HR3.out]
                  have : f.code.all (plainI j.funcs.length) = true := List.all_eq_true.2 (fun x hx => by
                    obtain ⟨t, ht⟩ := List.mem_iff_getElem?.1 hx
                    exact hall t x (get_lt ht) ht)
                  rw [this]; rfl))
                clear hp4 hk4 hall
                go_wp2
                go_roundw
                case rel => exact ⟨i + 1, by omega, by go_num, by rw [GA.out.2.2.2.2.2.2.2]; exact HX.out.1, by rw [GA.out.2.2.2.2.2.2.2]; exact HX.out.2⟩
                case measure => simp [intOf]; omega
          · have h256I : (256 : Int) < (f.code.length : Int) := by omega
            have HF2 := Lib.hid (show R = false by rw [← HR2.out]; unfold plainF; simp [h256])
            clear hn hse hse'
            go_wp2
            go_ret
            exact plain_ret HF2.out H2.out.1.keep
      · have hn' : nameL f.name = false := by simpa using hn
        rw [hn']
        have HF2 := Lib.hid (show R = false by rw [← HR2.out]; unfold plainF; simp [hn'])
        clear hn hn'
        go_wp2
        go_ret
        exact plain_ret HF2.out H2.out.1.keep
    · obtain rfl : i = j.funcs.length := by omega
      rw [List.drop_length] at hr
      have HX := Lib.hid (And.intro hp hr)
      clear hp hr
      go_wp2
      go_ret
      exact plain_ret HX.out.2.symm HX.out.1.keep
end Go.Proofs.YtbdkmfcgnolihaaGreatDoor
