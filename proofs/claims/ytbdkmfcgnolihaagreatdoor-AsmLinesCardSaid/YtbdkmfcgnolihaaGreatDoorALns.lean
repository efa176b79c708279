/- asm: all lines. -/
import Derived.Test.YtbdkmfcgnolihaaGreatDoorRows
import Derived.WalkKit
import Derived.WalkSpells
import Derived.WalkLawsBesides
import Derived.RegionTactic
import Derived.ChangeAlike
import Derived.BigQuiet
import Derived.Deep.QuietTactic
import Derived.StillTailTactics
import Derived.IntWalk
import Derived.Handy
import Derived.Lib.Hide
import Derived.Deep.AppendLies
import Derived.Deep.RegionWith
import Derived.Test.YtbdkmfcgnolihaaGreatDoorBase
import Derived.Test.YtbdkmfcgnolihaaGreatDoorTail
import Derived.Test.YtbdkmfcgnolihaaGreatDoorArgs
import Derived.Test.YtbdkmfcgnolihaaGreatDoorAppend
import Derived.Test.YtbdkmfcgnolihaaGreatDoorOffs
import Derived.Test.YtbdkmfcgnolihaaGreatDoorStructs
import Derived.Carry
import Derived.Deep.RegionHeld3
import Derived.BigRegion
import Derived.Maps.OwnSet
import Derived.Maps.Views
import Derived.Maps.StringElems
import Derived.Test.YtbdkmfcgnolihaaGreatDoorMaps2
import Derived.Deep.CutRange
import Derived.Deep.CutBlock
import Derived.Test.YtbdkmfcgnolihaaGreatDoorANext
namespace Go.Proofs.YtbdkmfcgnolihaaGreatDoor
set_option linter.unusedSimpArgs false
set_option linter.unnecessarySimpa false
set_option linter.unusedVariables false
open Go.RowKit
theorem lns_err {B R l : Nat} {res : Except Nat AR} {w w' : World} {e : Ending} (h : res = .error l) (he : e = .returned (.bool false)) (hb : Below R w w') (hc : w'.cell? ⟨R, 1, none⟩ = some (.int .i64 (l : Nat))) : LnsPost B R res w e w' := by subst h; exact ⟨hb, he, hc⟩
theorem runR_one (n : Nat) (p : BS) (r : AR) : runR n [p] r = .error n := rfl
theorem runR_bad {n : Nat} {p : BS} {ls : List BS} {r : AR} (h : lineR n p r = none) (hne : ¬ (3 ≤ n ∧ p = wEnd)) : runR n (p :: ls) r = .error n := by
  cases ls with
  | nil => rfl
  | cons l2 ls =>
    show (if 3 ≤ n ∧ p = wEnd then _ else _) = _
    rw [if_neg hne, h]
theorem glue_nil {q : BS} {qs : List BS} : glue 10 (q :: qs) = [] ↔ q :: qs = [[]] := by
  rw [glue_cons]
  cases q with
  | cons b q => simp
  | nil => cases qs <;> simp
theorem runR_end {n : Nat} {q : BS} {qs : List BS} {r : AR} (hn : 3 ≤ n) : runR n (wEnd :: q :: qs) r = if glue 10 (q :: qs) = [] then .ok r else .error (n + 1) := by
  show (if 3 ≤ n ∧ wEnd = wEnd then (if q :: qs = [[]] then _ else _) else _) = _
  rw [if_pos ⟨hn, rfl⟩]
  by_cases h : q :: qs = [[]]
  · rw [if_pos h, if_pos (glue_nil.2 h)]
  · rw [if_neg h, if_neg (fun h2 => h (glue_nil.1 h2))]
set_option maxHeartbeats 12800000 in
set_option maxRecDepth 100000 in
theorem lines_spec {B R : Nat} {rest : BS} {fv av wv : Value} {qs0 : List (FN × Value)} {w : World} (hE : EnvR R w) (H : RdAt B R rest 0 0 AR0 fv av wv qs0 w) (hl : rest.length ≤ 131072) :
    Calls Tryz.prog 33 #[.pointer (some ⟨R, 0, none⟩)] w (LnsPost B R (runR 1 (pieces 10 rest) AR0) w) := by
  obtain ⟨res, hres⟩ : ∃ res, res = runR 1 (pieces 10 rest) AR0 := ⟨_, rfl⟩
  rw [← hres]
  have z1 : w.cell? ⟨R, 1, none⟩ = some (.int .i64 0) := H.blk.cell 1
  have zf : ∀ i, w.frozen? ⟨R, i, none⟩ = false := fun i => H.blk.frozen i
  have HS := Lib.hid (show LinesAt B R res rest.length w (w.setCell ⟨R, 1, none⟩ (.int .i64 1)) from by
    have k : Keep [R] w (w.setCell ⟨R, 1, none⟩ (.int .i64 1)) := (Keep.refl _ _).setCell (by simp) _
    exact ⟨1, rest, AR0, fv, av, wv, qs0, H.cells k (H.blk.set_ 1 _) rfl rfl rfl, below_on H (Keep.refl _ _) k, AR0_ok, by omega, by simp [AR0], by omega, hres.symm⟩)
  have HE := Lib.hid hE
  have HLL := Lib.hid hl
  have hRR := Lib.hid (Nat.le_trans (Nat.le_of_lt H.lt) H.base)
  generalize rest.length = L0 at *
  clear hE H hl hres
  go_enter Tryz.func33, Tryz.ntmps33
  go_wp2_with fail
  go_loopw [3, 4, 5] (fun _ _ _ wr => LinesAt B R res L0 w wr) (fun _ _ _ wr => restLen R wr)
  case atStart => exact HS.out
  case round =>
    clear z1 zf HS
    obtain ⟨n, rest, r, fv, av, wv, ps, h1, h2, h3, h4, h5, h6, h7⟩ := hrel
    have hn1 : (1 : Int) ≤ (n : Int) := by omega
    have hnI : (n : Int) ≤ 200000 := by have := HLL.out; omega
    have hrl : rest.length ≤ 131072 := by have := HLL.out; omega
    have hwl : r.wants.length ≤ 1000000 := by have := HLL.out; omega
    have GA := Lib.hid (And.intro h1 (And.intro h2 (And.intro h3 (And.intro h4 (And.intro h5 (And.intro h6 h7))))))
    have HER := Lib.hid (HE.out.below h2)
    have HNX := Lib.hid (next_spec HER.out.env h1 hrl)
    obtain ⟨pcs, hpcs⟩ : ∃ pcs, pcs = pieces 10 rest := ⟨_, rfl⟩
    rw [← hpcs] at HNX
    match pcs, hpcs, HNX with
    | [], hpcs, _ => exact absurd hpcs.symm (pieces_ne 10 rest)
    | [p], hpcs, HNX =>
      have hres := Lib.hid (show res = .error n by rw [← h7, ← hpcs]; rfl)
      clear h1 h2 h3 h4 h5 h6 h7 hpcs hn1 hnI hrl hwl
      go_wp2_with fail
      refine HNX.out.mono ?_
      rintro e w1 ⟨s, rfl, hk⟩
      have hc := cell_keep0 hk (GA.out.1.blk.cell 1)
      have HK := Lib.hid (And.intro hc hk)
      clear hk hc
      go_wp2
      go_ret
      exact lns_err hres.out rfl (below_tr GA.out.2.1 (keep_below0 HK.out.2 (Nat.le_trans (Nat.le_of_lt GA.out.1.lt) GA.out.1.base))) HK.out.1
    | p :: q :: qs, hpcs, HNX =>
      have HP := Lib.hid (pieces_rest hpcs.symm)
      have GP := Lib.hid hpcs.symm
      have hpl : p.length ≤ 900000 := by have := HP.out.2; omega
      clear h1 h2 h3 h4 h5 h6 h7 hpcs hrl
      go_wp2_with fail
      refine HNX.out.mono ?_
      rintro e w1 ⟨rfl, hb1, hR1⟩
      have H1 := Lib.hid (And.intro hR1 (And.intro (below_tr GA.out.2.1 hb1) (HER.out.below hb1)))
      have zb := hR1.blk
      have z1 : w1.cell? ⟨R, 1, none⟩ = some (.int .i64 n) := zb.cell 1
      clear hb1 hR1 HNX zb
      by_cases hn1' : n = 1
      · have t1 : ((n : Int) == 1) = true := by simp; omega
        go_wp2_with fail
        refine (job_spec H1.out.2.2.env H1.out.1 p hpl).mono ?_
        intro e w2 h2
        have hlr : lineR n p r = jobR (pieces 32 p) r := by rw [hn1']; rfl
        rw [← hlr] at h2
        cases hr : lineR n p r with
        | none =>
          rw [hr] at h2
          obtain ⟨rfl, hk2⟩ := h2
          have hres := Lib.hid (show res = .error n by rw [← GA.out.2.2.2.2.2.2, GP.out]; exact runR_bad hr (fun h => by omega))
          have HK := Lib.hid (And.intro (cell_keep0 hk2 z1) hk2)
          clear hr hk2 z1
          go_wp2
          go_ret
          exact lns_err hres.out rfl (below_tr H1.out.2.1 (keep_below0 HK.out.2 (Nat.le_trans (Nat.le_of_lt H1.out.1.lt) H1.out.1.base))) HK.out.1
        | some r3 =>
          rw [hr] at h2
          obtain ⟨rfl, hb2, hR2⟩ := h2
          have HB2 := Lib.hid (below_tr H1.out.2.1 hb2)
          clear hb2 z1
          obtain ⟨fv3, av3, wv3, ps3, hR3⟩ := hR2
          have HR3 := Lib.hid hR3
          have hl3 := Lib.hid (line_ok hr GA.out.2.2.1)
          have zb3 := hR3.blk
          have z1' : w2.cell? ⟨R, 1, none⟩ = some (.int .i64 n) := zb3.cell 1
          have zf3 : ∀ i, w2.frozen? ⟨R, i, none⟩ = false := fun i => zb3.frozen i
          have HL := Lib.hid hr
          clear zb3 hR3
          go_wp2
          go_roundw
          case rel =>
            have k : Keep [R] w2 (w2.setCell ⟨R, 1, none⟩ (.int .i64 2)) := (Keep.refl _ _).setCell (by simp) _
            have e9 : ((n + 1 : Nat) : Int) = 2 := by omega
            refine ⟨n + 1, glue 10 (q :: qs), r3, fv3, av3, wv3, ps3, (by rw [e9]; exact HR3.out.cells k (HR3.out.blk.set_ 1 _) rfl rfl rfl), ?_, hl3.out.1, by omega, by have := hl3.out.2; have := GA.out.2.2.2.2.1; omega, by have := GA.out.2.2.2.2.2.1; have := HP.out.2; omega, ?_⟩
            · exact below_tr HB2.out (Keep.below (Below.refl _ _) k (Nat.le_trans (Nat.le_of_lt HR3.out.lt) HR3.out.base) (fun x hx => by rw [List.mem_singleton.1 hx]; exact Nat.le_refl _))
            · rw [HP.out.1, ← GA.out.2.2.2.2.2.2, GP.out]
              exact (runR_step (by simp) HL.out).symm
          case measure =>
            have e1 := restLen_at (HR3.out.cells (rest' := glue 10 (q :: qs)) (no' := 2) (mn' := 0) (r' := r3) ((Keep.refl _ _).setCell (p := ⟨R, 1, none⟩) (by simp) (.int .i64 2)) (HR3.out.blk.set_ 1 _) rfl rfl rfl)
            have e2 := restLen_at GA.out.1
            have := HP.out.2
            omega
      · have t1 : ((n : Int) == 1) = false := by simp; omega
        by_cases hn2' : n = 2
        · have t2 : ((n : Int) == 2) = true := by simp; omega
          go_wp2_with fail
          refine (main_spec H1.out.2.2.env H1.out.1 p hpl hwl).mono ?_
          intro e w2 h2
          have hlr : lineR n p r = mainR n (pieces 32 p) r := by rw [hn2']; rfl
          rw [← hlr] at h2
          cases hr : lineR n p r with
          | none =>
            rw [hr] at h2
            obtain ⟨rfl, hk2⟩ := h2
            have hres := Lib.hid (show res = .error n by rw [← GA.out.2.2.2.2.2.2, GP.out]; exact runR_bad hr (fun h => by omega))
            have HK := Lib.hid (And.intro (cell_keep0 hk2 z1) hk2)
            clear hr hk2 z1
            go_wp2
            go_ret
            exact lns_err hres.out rfl (below_tr H1.out.2.1 (keep_below0 HK.out.2 (Nat.le_trans (Nat.le_of_lt H1.out.1.lt) H1.out.1.base))) HK.out.1
          | some r3 =>
            rw [hr] at h2
            obtain ⟨rfl, hb2, hR2⟩ := h2
            have HB2 := Lib.hid (below_tr H1.out.2.1 hb2)
            clear hb2 z1
            obtain ⟨fv3, av3, wv3, ps3, hR3⟩ := hR2
            have HR3 := Lib.hid hR3
            have hl3 := Lib.hid (line_ok hr GA.out.2.2.1)
            have zb3 := hR3.blk
            have z1' : w2.cell? ⟨R, 1, none⟩ = some (.int .i64 n) := zb3.cell 1
            have zf3 : ∀ i, w2.frozen? ⟨R, i, none⟩ = false := fun i => zb3.frozen i
            have HL := Lib.hid hr
            clear zb3 hR3
            go_wp2
            go_roundw
            case rel =>
              have k : Keep [R] w2 (w2.setCell ⟨R, 1, none⟩ (.int .i64 3)) := (Keep.refl _ _).setCell (by simp) _
              have e9 : ((n + 1 : Nat) : Int) = 3 := by omega
              refine ⟨n + 1, glue 10 (q :: qs), r3, fv3, av3, wv3, ps3, (by rw [e9]; exact HR3.out.cells k (HR3.out.blk.set_ 1 _) rfl rfl rfl), ?_, hl3.out.1, by omega, by have := hl3.out.2; have := GA.out.2.2.2.2.1; omega, by have := GA.out.2.2.2.2.2.1; have := HP.out.2; omega, ?_⟩
              · exact below_tr HB2.out (Keep.below (Below.refl _ _) k (Nat.le_trans (Nat.le_of_lt HR3.out.lt) HR3.out.base) (fun x hx => by rw [List.mem_singleton.1 hx]; exact Nat.le_refl _))
              · rw [HP.out.1, ← GA.out.2.2.2.2.2.2, GP.out]
                exact (runR_step (by simp) HL.out).symm
            case measure =>
              have e1 := restLen_at (HR3.out.cells (rest' := glue 10 (q :: qs)) (no' := 3) (mn' := 0) (r' := r3) ((Keep.refl _ _).setCell (p := ⟨R, 1, none⟩) (by simp) (.int .i64 3)) (HR3.out.blk.set_ 1 _) rfl rfl rfl)
              have e2 := restLen_at GA.out.1
              have := HP.out.2
              omega
        · have t2 : ((n : Int) == 2) = false := by simp; omega
          have hn3 : 3 ≤ n := by omega
          go_wp2_with fail
          refine (body_spec hn3 H1.out.2.2.env H1.out.1 GA.out.2.2.1 p hpl hwl).mono ?_
          intro e w2 h2
          by_cases he : p = wEnd
          · unfold BodyPost at h2
            rw [if_pos he] at h2
            obtain ⟨rfl, hk2⟩ := h2
            have hR2 := H1.out.1.keep0 hk2
            have zb := hR2.blk
            have z0 : w2.cell? ⟨R, 0, none⟩ = some (.string (strB (glue 10 (q :: qs)))) := zb.cell 0
            have z1' : w2.cell? ⟨R, 1, none⟩ = some (.int .i64 n) := zb.cell 1
            have zf : ∀ i, w2.frozen? ⟨R, i, none⟩ = false := fun i => zb.frozen i
            have H2 := Lib.hid (And.intro hR2 (below_tr H1.out.2.1 (keep_below0 hk2 (Nat.le_trans (Nat.le_of_lt H1.out.1.lt) H1.out.1.base))))
            have hend := runR_end (q := q) (qs := qs) (r := r) hn3
            rw [← he, ← GP.out, GA.out.2.2.2.2.2.2] at hend
            have k : Keep [R] w2 (w2.setCell ⟨R, 1, none⟩ (.int .i64 ((n : Int) + 1))) := (Keep.refl _ _).setCell (by simp) _
            have H3 := Lib.hid (And.intro (hR2.cells k (rest' := glue 10 (q :: qs)) (no' := (n : Int) + 1) (mn' := 0) (r' := r) (zb.set_ 1 _) rfl rfl rfl) (below_tr H2.out.2 (Keep.below (Below.refl _ _) k (Nat.le_trans (Nat.le_of_lt hR2.lt) hR2.base) (fun x hx => by rw [List.mem_singleton.1 hx]; exact Nat.le_refl _))))
            by_cases hg : glue 10 (q :: qs) = []
            · have hem : (strB (glue 10 (q :: qs))).toList.isEmpty = true := by rw [hg, strB_toList]; rfl
              rw [if_pos hg] at hend
              have HR := Lib.hid hend
              clear hR2 zb z1 hk2 k hg hend he
              go_wp2
              go_ret
              refine ⟨H3.out.2, ?_⟩
              rw [HR.out]
              exact ⟨rfl, GA.out.2.2.1, by have := GA.out.2.2.2.2.1; have := GA.out.2.2.2.2.2.1; have := HLL.out; omega, glue 10 (q :: qs), n + 1, fv, av, wv, ps, H3.out.1⟩
            · have hem := strB_empty hg
              rw [if_neg hg] at hend
              have HR := Lib.hid hend
              clear hR2 zb z1 hk2 k hg hend he
              go_wp2
              go_ret
              exact lns_err HR.out rfl H3.out.2 (H3.out.1.blk.cell 1)
          · unfold BodyPost at h2
            rw [if_neg he] at h2
            cases hr : lineR n p r with
            | none =>
              rw [hr] at h2
              obtain ⟨rfl, hk2⟩ := h2
              have hres := Lib.hid (show res = .error n by rw [← GA.out.2.2.2.2.2.2, GP.out]; exact runR_bad hr (fun h => he h.2))
              have HK := Lib.hid (And.intro (cell_keep0 hk2 z1) hk2)
              clear hr hk2 z1
              go_wp2
              go_ret
              exact lns_err hres.out rfl (below_tr H1.out.2.1 (keep_below0 HK.out.2 (Nat.le_trans (Nat.le_of_lt H1.out.1.lt) H1.out.1.base))) HK.out.1
            | some r3 =>
              rw [hr] at h2
              obtain ⟨rfl, hb2, hR2⟩ := h2
              have HB2 := Lib.hid (below_tr H1.out.2.1 hb2)
              clear hb2 z1
              obtain ⟨fv3, av3, wv3, ps3, hR3⟩ := hR2
              have HR3 := Lib.hid hR3
              have hl3 := Lib.hid (line_ok hr GA.out.2.2.1)
              have zb3 := hR3.blk
              have z1' : w2.cell? ⟨R, 1, none⟩ = some (.int .i64 n) := zb3.cell 1
              have zf3 : ∀ i, w2.frozen? ⟨R, i, none⟩ = false := fun i => zb3.frozen i
              have HL := Lib.hid hr
              clear zb3 hR3
              go_wp2
              go_roundw
              case rel =>
                have k : Keep [R] w2 (w2.setCell ⟨R, 1, none⟩ (.int .i64 ((n : Int) + 1))) := (Keep.refl _ _).setCell (by simp) _
                have e9 : ((n + 1 : Nat) : Int) = ((n : Int) + 1) := by omega
                refine ⟨n + 1, glue 10 (q :: qs), r3, fv3, av3, wv3, ps3, (by rw [e9]; exact HR3.out.cells k (HR3.out.blk.set_ 1 _) rfl rfl rfl), ?_, hl3.out.1, by omega, by have := hl3.out.2; have := GA.out.2.2.2.2.1; omega, by have := GA.out.2.2.2.2.2.1; have := HP.out.2; omega, ?_⟩
                · exact below_tr HB2.out (Keep.below (Below.refl _ _) k (Nat.le_trans (Nat.le_of_lt HR3.out.lt) HR3.out.base) (fun x hx => by rw [List.mem_singleton.1 hx]; exact Nat.le_refl _))
                · rw [HP.out.1, ← GA.out.2.2.2.2.2.2, GP.out]
                  exact (runR_step (by simp) HL.out).symm
              case measure =>
                have e1 := restLen_at (HR3.out.cells (rest' := glue 10 (q :: qs)) (no' := ((n : Int) + 1)) (mn' := 0) (r' := r3) ((Keep.refl _ _).setCell (p := ⟨R, 1, none⟩) (by simp) (.int .i64 ((n : Int) + 1))) (HR3.out.blk.set_ 1 _) rfl rfl rfl)
                have e2 := restLen_at GA.out.1
                have := HP.out.2
                omega
end Go.Proofs.YtbdkmfcgnolihaaGreatDoor
