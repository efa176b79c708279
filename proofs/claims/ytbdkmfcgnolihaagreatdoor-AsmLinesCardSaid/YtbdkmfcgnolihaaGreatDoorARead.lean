/- asm: Read. -/
import Derived.Test.YtbdkmfcgnolihaaGreatDoorRows
import Derived.WalkKit
import Derived.WalkSpells
import Derived.WalkLawsBesides
import Derived.RegionTactic
import Derived.ChangeAlike
import Derived.BigQuiet
import Derived.Deep.QuietTactic
import Derived.StillTailTactics
import Derived.IntWalk
import Derived.Handy
import Derived.Lib.Hide
import Derived.Deep.AppendLies
import Derived.Deep.RegionWith
import Derived.Test.YtbdkmfcgnolihaaGreatDoorBase
import Derived.Test.YtbdkmfcgnolihaaGreatDoorTail
import Derived.Test.YtbdkmfcgnolihaaGreatDoorArgs
import Derived.Test.YtbdkmfcgnolihaaGreatDoorAppend
import Derived.Test.YtbdkmfcgnolihaaGreatDoorOffs
import Derived.Test.YtbdkmfcgnolihaaGreatDoorStructs
import Derived.Carry
import Derived.Deep.RegionHeld3
import Derived.BigRegion
import Derived.Maps.OwnSet
import Derived.Maps.Views
import Derived.Maps.StringElems
import Derived.Test.YtbdkmfcgnolihaaGreatDoorMaps2
import Derived.Deep.CutRange
import Derived.Deep.CutBlock
import Derived.Test.YtbdkmfcgnolihaaGreatDoorANms
namespace Go.Proofs.YtbdkmfcgnolihaaGreatDoor
set_option linter.unusedSimpArgs false
set_option linter.unnecessarySimpa false
set_option linter.unusedVariables false
open Go.RowKit
theorem keep5 {w : World} {g : Nat} (x0 x1 x2 x3 x4 : Value) : Keep [g] w (((((w.setCell ⟨g, 0, none⟩ x0).setCell ⟨g, 1, none⟩ x1).setCell ⟨g, 2, none⟩ x2).setCell ⟨g, 3, none⟩ x3).setCell ⟨g, 4, none⟩ x4) :=
  (((((Keep.refl _ _).setCell (by simp) _).setCell (by simp) _).setCell (by simp) _).setCell (by simp) _).setCell (by simp) _
theorem set5 {w : World} {g : Nat} {t : TypeId} {a b c d e : Value} (H : Blk w g t [a, b, c, d, e]) (x0 x1 x2 x3 x4 : Value) :
    Blk (((((w.setCell ⟨g, 0, none⟩ x0).setCell ⟨g, 1, none⟩ x1).setCell ⟨g, 2, none⟩ x2).setCell ⟨g, 3, none⟩ x3).setCell ⟨g, 4, none⟩ x4) g t [x0, x1, x2, x3, x4] :=
  ((((H.set_ 0 x0).set_ 1 x1).set_ 2 x2).set_ 3 x3).set_ 4 x4
theorem FnsAt.low {B B' : Nat} {w : World} {lv : Value} {ps : List (FN × Value)} (h : FnsAt B w lv ps) (hB : B' ≤ B) : FnsAt B' w lv ps := ⟨h.own.low hB, fun k p hp => (h.code k p hp).low hB, h.apart⟩
def ReadPost (res : JR) (w : World) (e : Ending) (w' : World) : Prop := Keep [] w w' ∧ ∃ (fv av : Value) (ps : List (FN × Value)), e = .returned (.tuple #[.agg #[fv, .int .i64 res.job.main, av, .int .i64 res.job.fuel, .int .i64 res.job.tasks], .int .i64 res.line, .int .i64 res.err]) ∧ FnsAt w.heap.size w' fv ps ∧ res.job.funcs = ps.map Prod.fst ∧ OwnsAt w' w.heap.size 3 1 av res.job.args.length (res.job.args.map (.int .i64))
theorem ReadPost.job {res : JR} {w w' : World} {e : Ending} (h : ReadPost res w e w') : ∃ jv, e = .returned (.tuple #[jv, .int .i64 res.line, .int .i64 res.err]) ∧ JobRd w' jv res.job ∧ Keep [] w w' := by
  obtain ⟨hk, fv, av, ps, he, hf, hfs, ha⟩ := h
  exact ⟨_, he, ⟨fv, av, rfl, by rw [hfs]; exact hf.reads, ints_of_off ha⟩, hk⟩
theorem read_zero {res : JR} {w w' : World} {e : Ending} {l : Nat} {x : Int} (hres : res = ⟨JB0, l, x⟩) (hk : Keep [] w w') (he : e = .returned (.tuple #[.agg #[.slice none 0 0, .int .i64 0, .slice none 0 0, .int .i64 0, .int .i64 0], .int .i64 (l : Nat), .int .i64 x])) : ReadPost res w e w' := by
  subst hres
  exact ⟨hk, _, _, [], he, FnsAt.nil _ _, rfl, OwnsAt.nil _ _ _ _⟩
theorem read_job {w w3 w' : World} {e : Ending} {B R n : Nat} {rest : BS} {r : AR} {m : Int} {fv av wv : Value} {ps : List (FN × Value)} {res : JR} (hres : res = ⟨⟨r.funcs, m, r.args, r.fuel, r.tasks⟩, 0, 0⟩) (h : RdAt B R rest n m r fv av wv ps w3) (hB : w.heap.size ≤ B) (hk : Keep [] w w3) (hb : Blk w3 w.heap.size 25 [.slice none 0 0, .int .i64 0, .slice none 0 0, .int .i64 0, .int .i64 0] ∨ True) (k : Keep [w.heap.size] w3 w') (ht : ∃ cs, Blk w3 w.heap.size 25 cs) (he : e = .returned (.tuple #[.agg #[fv, .int .i64 m, av, .int .i64 r.fuel, .int .i64 r.tasks], .int .i64 0, .int .i64 0])) : ReadPost res w e w' := by
  subst hres
  obtain ⟨cs, ht⟩ := ht
  refine ⟨hk.trans k (fun x hx => Or.inr (by rw [List.mem_singleton.1 hx]; exact Nat.le_refl _)), fv, av, ps, he, (h.fns.blk ht (by decide) (by decide) k).low hB, h.fs, (h.args.keep k (fun g hg hx => own_apart h.args ht (by decide) (by rw [← List.mem_singleton.1 hx]; exact mem_ownD.2 hg))).low hB⟩
def zc5 : List Value := [.slice none 0 0, .int .i64 0, .slice none 0 0, .int .i64 0, .int .i64 0]
set_option maxHeartbeats 6400000 in
set_option maxRecDepth 100000 in
theorem read_spec {w : World} (hE : Env1 w) (bs : BS) (hl : bs.length ≤ 1000000000) : Calls Tryz.prog 16 #[.string (strB bs)] w (ReadPost (readJ bs) w) := by
  have es : (strB bs).size = bs.length := strB_size bs
  obtain ⟨res, hres⟩ : ∃ res, res = readJ bs := ⟨_, rfl⟩
  rw [← hres]
  have kA : Keep [] w (w.alloc (.cells #[.slice none 0 0, .int .i64 0, .slice none 0 0, .int .i64 0, .int .i64 0] 25)) := (Keep.refl _ _).alloc _
  have bA : Blk (w.alloc (.cells #[.slice none 0 0, .int .i64 0, .slice none 0 0, .int .i64 0, .int .i64 0] 25)) w.heap.size 25 [.slice none 0 0, .int .i64 0, .slice none 0 0, .int .i64 0, .int .i64 0] := Blk.new' _ _ _ _ rfl
  by_cases hlong : 131072 < bs.length
  · have hlI : (131072 : Int) < (bs.length : Int) := by omega
    have HR := Lib.hid (show res = ⟨JB0, 0, 3⟩ by rw [hres]; unfold readJ; rw [if_pos hlong])
    have HA := Lib.hid (And.intro kA bA)
    clear hE hl hres hlong kA bA
    go_enter Tryz.func16, Tryz.ntmps16
    go_wp2
    have d0 := HA.out.2.cell 0
    have d1 := HA.out.2.cell 1
    have d2 := HA.out.2.cell 2
    have d3 := HA.out.2.cell 3
    have d4 := HA.out.2.cell 4
    exact bodyPost_ret (v := .tuple #[.agg #[.slice none 0 0, .int .i64 0, .slice none 0 0, .int .i64 0, .int .i64 0], .int .i64 0, .int .i64 3]) (by simp [results, Tryz.results16, go_sem, d0, d1, d2, d3, d4]) rfl (read_zero HR.out HA.out.1 rfl)
  · have hlI : (bs.length : Int) ≤ 131072 := by omega
    have hl2 : bs.length ≤ 131072 := by omega
    have hrp : res = readP bs := by rw [hres]; unfold readJ; rw [if_neg hlong]
    clear hlong
    have kB : Keep [] w ((w.alloc (.cells #[.slice none 0 0, .int .i64 0, .slice none 0 0, .int .i64 0, .int .i64 0] 25)).alloc (.cells #[.string (strB bs), .int .i64 0, .slice none 0 0, .int .i64 0, .slice none 0 0, .int .i64 0, .int .i64 0, .slice none 0 0] 69)) := kA.alloc _
    have bB : Blk ((w.alloc (.cells #[.slice none 0 0, .int .i64 0, .slice none 0 0, .int .i64 0, .int .i64 0] 25)).alloc (.cells #[.string (strB bs), .int .i64 0, .slice none 0 0, .int .i64 0, .slice none 0 0, .int .i64 0, .int .i64 0, .slice none 0 0] 69)) w.heap.size 25 [.slice none 0 0, .int .i64 0, .slice none 0 0, .int .i64 0, .int .i64 0] := bA.alloc _
    have H0 : RdAt (w.heap.size + 2) (w.heap.size + 1) bs 0 0 AR0 (.slice none 0 0) (.slice none 0 0) (.slice none 0 0) [] ((w.alloc (.cells #[.slice none 0 0, .int .i64 0, .slice none 0 0, .int .i64 0, .int .i64 0] 25)).alloc (.cells #[.string (strB bs), .int .i64 0, .slice none 0 0, .int .i64 0, .slice none 0 0, .int .i64 0, .int .i64 0, .slice none 0 0] 69)) := by
      refine ⟨?_, FnsAt.nil _ _, rfl, OwnsAt.nil _ _ _ _, OwnsAt.nil _ _ _ _, by omega, by simp⟩
      have e1 : (w.alloc (.cells #[.slice none 0 0, .int .i64 0, .slice none 0 0, .int .i64 0, .int .i64 0] 25)).heap.size = w.heap.size + 1 := by simp
      have := Blk.new' (w.alloc (.cells #[.slice none 0 0, .int .i64 0, .slice none 0 0, .int .i64 0, .int .i64 0] 25)) 69 #[.string (strB bs), .int .i64 0, .slice none 0 0, .int .i64 0, .slice none 0 0, .int .i64 0, .int .i64 0, .slice none 0 0] _ rfl
      rw [e1] at this
      exact this
    have hER : EnvR (w.heap.size + 1) ((w.alloc (.cells #[.slice none 0 0, .int .i64 0, .slice none 0 0, .int .i64 0, .int .i64 0] 25)).alloc (.cells #[.string (strB bs), .int .i64 0, .slice none 0 0, .int .i64 0, .slice none 0 0, .int .i64 0, .int .i64 0, .slice none 0 0] 69)) := ⟨w, hE, by omega, kB.to_below⟩
    have HL := Lib.hid (lines_spec hER H0 hl2)
    have HB := Lib.hid (And.intro kB (And.intro bB hrp))
    clear hE hl hres hl2 kA bA kB bB H0 hER hrp
    go_enter Tryz.func16, Tryz.ntmps16
    go_wp2_with fail
    generalize (w.alloc (.cells #[.slice none 0 0, .int .i64 0, .slice none 0 0, .int .i64 0, .int .i64 0] 25)).alloc (.cells #[.string (strB bs), .int .i64 0, .slice none 0 0, .int .i64 0, .slice none 0 0, .int .i64 0, .int .i64 0, .slice none 0 0] 69) = w1 at *
    refine HL.out.mono ?_
    rintro e w2 ⟨hb2, hm⟩
    cases hrr : runR 1 (pieces 10 bs) AR0 with
    | error l =>
      rw [hrr] at hm
      obtain ⟨rfl, hc⟩ := hm
      have HR := Lib.hid (show res = ⟨JB0, l, 2⟩ by rw [HB.out.2.2]; unfold readP; rw [hrr])
      clear hrr
      have hblk := HB.out.2.1.below hb2 (by omega)
      have g0 : w2.cell? ⟨w.heap.size, 0, none⟩ = some (.slice none 0 0) := hblk.cell 0
      have g1 : w2.cell? ⟨w.heap.size, 1, none⟩ = some (.int .i64 0) := hblk.cell 1
      have g2 : w2.cell? ⟨w.heap.size, 2, none⟩ = some (.slice none 0 0) := hblk.cell 2
      have g3 : w2.cell? ⟨w.heap.size, 3, none⟩ = some (.int .i64 0) := hblk.cell 3
      have g4 : w2.cell? ⟨w.heap.size, 4, none⟩ = some (.int .i64 0) := hblk.cell 4
      have gf : ∀ i, w2.frozen? ⟨w.heap.size, i, none⟩ = false := fun i => hblk.frozen i
      have HX := Lib.hid (And.intro hblk (keep_of_below (below_tr HB.out.1.to_below (below_mono hb2 (Nat.le_succ _)))))
      clear hblk hb2
      go_upto_region 5 with fail
      go_wp2_with fail
      go_region
      all_goals
        go_wp2
        have D := set5 HX.out.1 (.slice none 0 0) (.int .i64 0) (.slice none 0 0) (.int .i64 0) (.int .i64 0)
        have k5 := keep5 (w := w2) (g := w.heap.size) (.slice none 0 0) (.int .i64 0) (.slice none 0 0) (.int .i64 0) (.int .i64 0)
        have d0 := D.cell 0
        have d1 := D.cell 1
        have d2 := D.cell 2
        have d3 := D.cell 3
        have d4 := D.cell 4
        exact bodyPost_ret (v := .tuple #[.agg #[.slice none 0 0, .int .i64 0, .slice none 0 0, .int .i64 0, .int .i64 0], .int .i64 l, .int .i64 2]) (by simp [results, Tryz.results16, go_sem, d0, d1, d2, d3, d4]) rfl (read_zero HR.out ((HX.out.2.trans k5 (fun x hx => Or.inr (by rw [List.mem_singleton.1 hx]; exact Nat.le_refl _))).drew) rfl)
    | ok r' =>
      rw [hrr] at hm
      obtain ⟨rfl, hok, hwl, rest, n, fv, av, wv, ps, hR⟩ := hm
      have HNM := Lib.hid (names_fn_spec hR hok (run_win _ _ _ _ hrr WIn0) (by omega))
      have HRR := Lib.hid hrr
      clear hok hwl hR hrr
      go_wp2_with fail
      refine HNM.out.mono ?_
      rintro e w3 ⟨hb3', hm3⟩
      have hb3 := below_tr hb2 hb3'
      clear hb2 hb3'
      cases hnn : namesR r'.wants r'.funcs 0 with
      | error l =>
        rw [hnn] at hm3
        obtain ⟨rfl, hc⟩ := hm3
        have HR := Lib.hid (show res = ⟨JB0, l, 2⟩ by rw [HB.out.2.2]; unfold readP; rw [HRR.out]; simp only [hnn])
        clear hnn
        have hblk := HB.out.2.1.below hb3 (by omega)
        have g0 : w3.cell? ⟨w.heap.size, 0, none⟩ = some (.slice none 0 0) := hblk.cell 0
        have g1 : w3.cell? ⟨w.heap.size, 1, none⟩ = some (.int .i64 0) := hblk.cell 1
        have g2 : w3.cell? ⟨w.heap.size, 2, none⟩ = some (.slice none 0 0) := hblk.cell 2
        have g3 : w3.cell? ⟨w.heap.size, 3, none⟩ = some (.int .i64 0) := hblk.cell 3
        have g4 : w3.cell? ⟨w.heap.size, 4, none⟩ = some (.int .i64 0) := hblk.cell 4
        have gf : ∀ i, w3.frozen? ⟨w.heap.size, i, none⟩ = false := fun i => hblk.frozen i
        have HX := Lib.hid (And.intro hblk (keep_of_below (below_tr HB.out.1.to_below (below_mono hb3 (Nat.le_succ _)))))
        clear hblk hb3
        go_upto_region 5 with fail
        go_wp2_with fail
        go_region
        all_goals
          go_wp2
          have D := set5 HX.out.1 (.slice none 0 0) (.int .i64 0) (.slice none 0 0) (.int .i64 0) (.int .i64 0)
          have k5 := keep5 (w := w3) (g := w.heap.size) (.slice none 0 0) (.int .i64 0) (.slice none 0 0) (.int .i64 0) (.int .i64 0)
          have d0 := D.cell 0
          have d1 := D.cell 1
          have d2 := D.cell 2
          have d3 := D.cell 3
          have d4 := D.cell 4
          exact bodyPost_ret (v := .tuple #[.agg #[.slice none 0 0, .int .i64 0, .slice none 0 0, .int .i64 0, .int .i64 0], .int .i64 l, .int .i64 2]) (by simp [results, Tryz.results16, go_sem, d0, d1, d2, d3, d4]) rfl (read_zero HR.out ((HX.out.2.trans k5 (fun x hx => Or.inr (by rw [List.mem_singleton.1 hx]; exact Nat.le_refl _))).drew) rfl)
      | ok fm =>
        obtain ⟨fs, m⟩ := fm
        rw [hnn] at hm3
        obtain ⟨rfl, fv3, av3, wv3, ps3, hR3⟩ := hm3
        have HR := Lib.hid (show res = ⟨⟨fs, m, r'.args, r'.fuel, r'.tasks⟩, 0, 0⟩ by rw [HB.out.2.2]; unfold readP; rw [HRR.out]; simp only [hnn])
        obtain ⟨fa, fc, hfv⟩ := hR3.fns.own.shape
        subst hfv
        obtain ⟨aa, ac, hav⟩ := hR3.args.shape
        simp only at hav
        subst hav
        have hblk := HB.out.2.1.below hb3 (by omega)
        have zb := hR3.blk
        have z2 : w3.cell? ⟨w.heap.size + 1, 2, none⟩ = some (.slice fa ps3.length fc) := zb.cell 2
        have z3 : w3.cell? ⟨w.heap.size + 1, 3, none⟩ = some (.int .i64 m) := zb.cell 3
        have z4 : w3.cell? ⟨w.heap.size + 1, 4, none⟩ = some (.slice aa r'.args.length ac) := zb.cell 4
        have z5 : w3.cell? ⟨w.heap.size + 1, 5, none⟩ = some (.int .i64 r'.fuel) := zb.cell 5
        have z6 : w3.cell? ⟨w.heap.size + 1, 6, none⟩ = some (.int .i64 r'.tasks) := zb.cell 6
        have g0 : w3.cell? ⟨w.heap.size, 0, none⟩ = some (.slice none 0 0) := hblk.cell 0
        have g1 : w3.cell? ⟨w.heap.size, 1, none⟩ = some (.int .i64 0) := hblk.cell 1
        have g2 : w3.cell? ⟨w.heap.size, 2, none⟩ = some (.slice none 0 0) := hblk.cell 2
        have g3 : w3.cell? ⟨w.heap.size, 3, none⟩ = some (.int .i64 0) := hblk.cell 3
        have g4 : w3.cell? ⟨w.heap.size, 4, none⟩ = some (.int .i64 0) := hblk.cell 4
        have gf : ∀ i, w3.frozen? ⟨w.heap.size, i, none⟩ = false := fun i => hblk.frozen i
        have HX := Lib.hid (And.intro hblk (And.intro (keep_of_below (below_tr HB.out.1.to_below (below_mono hb3 (Nat.le_succ _)))) hR3))
        clear hblk hb3 zb hR3 hnn
        go_wp2
        have D := set5 HX.out.1 (.slice fa ps3.length fc) (.int .i64 m) (.slice aa r'.args.length ac) (.int .i64 r'.fuel) (.int .i64 r'.tasks)
        have k5 := keep5 (w := w3) (g := w.heap.size) (.slice fa ps3.length fc) (.int .i64 m) (.slice aa r'.args.length ac) (.int .i64 r'.fuel) (.int .i64 r'.tasks)
        have d0 := D.cell 0
        have d1 := D.cell 1
        have d2 := D.cell 2
        have d3 := D.cell 3
        have d4 := D.cell 4
        exact bodyPost_ret (v := .tuple #[.agg #[.slice fa ps3.length fc, .int .i64 m, .slice aa r'.args.length ac, .int .i64 r'.fuel, .int .i64 r'.tasks], .int .i64 0, .int .i64 0]) (by simp [results, Tryz.results16, go_sem, d0, d1, d2, d3, d4]) rfl (read_job (r := { r' with funcs := fs }) HR.out HX.out.2.2 (by omega) HX.out.2.1 (Or.inr trivial) k5 ⟨_, HX.out.1⟩ rfl)
end Go.Proofs.YtbdkmfcgnolihaaGreatDoor
