/- The reference's deques: Step. -/
import Derived.Test.YtkeaekckblpfjaaRows
import Derived.WalkKit
import Derived.WalkSpells
import Derived.WalkLawsBesides
import Derived.RegionTactic
import Derived.ChangeAlike
import Derived.BigQuiet
import Derived.Deep.QuietTactic
import Derived.StillTailTactics
import Derived.IntWalk
import Derived.Handy
import Derived.Lib.Hide
import Derived.Deep.AppendLies
import Derived.Deep.RegionWith
import Derived.Test.YtkeaekckblpfjaaBase
import Derived.Test.YtkeaekckblpfjaaTail
import Derived.Test.YtkeaekckblpfjaaRing
import Derived.Test.YtkeaekckblpfjaaGrown
import Derived.Test.YtkeaekckblpfjaaArgs
import Derived.Test.YtkeaekckblpfjaaAppend
import Derived.Test.YtkeaekckblpfjaaRingMore
import Derived.Test.YtkeaekckblpfjaaDeque
import Derived.Test.YtkeaekckblpfjaaDequePop
import Derived.Test.YtkeaekckblpfjaaDequeObj
import Derived.Test.YtkeaekckblpfjaaDequeStep
import Derived.Test.YtkeaekckblpfjaaDequeStep2
import Derived.Test.YtkeaekckblpfjaaDequeItems
import Derived.Test.YtkeaekckblpfjaaRefDeque
import Derived.Test.YtkeaekckblpfjaaRefDeque2
import Derived.Test.YtkeaekckblpfjaaRefDeque3
import Derived.Test.YtkeaekckblpfjaaRefDeque4
namespace Go.Proofs.Ytkeaekckblpfjaa
open Go.RowKit

theorem pushV {T B : Int} {ring : List Int} {c : DCall} {r : SR} (h : stepPush T B ring c = r) : r.v = 0 := by
  subst h
  unfold stepPush
  repeat' split
  all_goals rfl
set_option maxHeartbeats 8000000 in
set_option maxRecDepth 100000 in
theorem rstep_spec {w : World} {pd pr br : Nat} {q : DQ} (who : Int) (h : RDequeIn w pd pr br q) (hs : SmallAll q) (hwon : WonOk q) :
    Calls Try.prog 31 #[.pointer (some ⟨pd, 0, none⟩), .int .i64 who] w (RPost pd pr br w (.tuple #[.int .i64 (dqStep q who).2.1, .int .i64 (dqStep q who).2.2]) (dqStep q who).1) := by
  have hbs := fun (w' : World) (k : Nat) => rbusy_spec (w := w) (q := q) who h
  by_cases hb : busyB q who = true
  · have hw : 0 ≤ who ∧ who < 16 := by
      unfold busyB at hb
      rw [Bool.and_eq_true] at hb
      have := hb.1
      unfold isB at this
      simpa using this
    obtain ⟨n, rfl⟩ := Int.eq_ofNat_of_zero_le hw.1
    have hn : n < 16 := by omega
    have hl := h.clen
    cases ho : q.calls[n]? with
    | none => rw [List.getElem?_eq_none_iff] at ho; omega
    | some o =>
      cases o with
      | none => rw [rbusyB_none ho] at hb; cases hb
      | some c =>
        have hsm := hs c (List.mem_of_getElem? ho)
        obtain ⟨hsm, hst1, hst2⟩ := hsm
        have hk := h.kinds n c ho
        obtain ⟨r, hr⟩ : ∃ r, r = stepKind c.kind q.top q.bottom q.ring { c with step := c.step + 1 } := ⟨_, rfl⟩
        rw [dqStep_busy hn ho hr.symm]
        have hks := stepKind_same c.kind q.top q.bottom q.ring { c with step := c.step + 1 }
        rw [← hr] at hks
        have Hbs := Lib.hid (hbs w 0)
        rw [hb] at Hbs
        have c0 : w.cell? ⟨pd, 3 + n * 7, none⟩ = some (.int .i64 c.kind) := h.field ho (j := 0) (by omega)
        have c2 : w.cell? ⟨pd, 3 + n * 7 + 2, none⟩ = some (.int .i64 c.step) := h.field ho (j := 2) (by omega)
        have fr : ∀ i, w.frozen? ⟨pd, i, none⟩ = false := fun i => h.head.frozen i
        have h1 : ∀ k : Nat, RDequeIn ((w.drewN k).setCell ⟨pd, 3 + n * 7 + 2, none⟩ (.int .i64 (c.step + 1))) pd pr br ⟨q.top, q.bottom, q.ring, q.calls.set n (some { c with step := c.step + 1 })⟩ := fun k =>
          (h.drewN k).setC ho 2 (by omega) _ _ rfl rfl
        have hc1 : (q.calls.set n (some { c with step := c.step + 1 }))[n]? = some (some { c with step := c.step + 1 }) := List.getElem?_set_self (by omega)
        have hk1 : ∀ k : Nat, Keep [pd, br] w ((w.drewN k).setCell ⟨pd, 3 + n * 7 + 2, none⟩ (.int .i64 (c.step + 1))) := fun k => ((Keep.refl _ w).drewN k).setCell (by simp) _
        have ew : IntKind.i64.wrap (c.step + 1) = c.step + 1 := IntWalk.i64_in _ (by omega)
        have hwn : c.step + 1 = 4 → c.won = false := fun h => hwon n c ho (by omega)
        have hdone : ∀ (w2 : World) (pr' br' : Nat), RDequeIn w2 pd pr' br' (qset ⟨q.top, q.bottom, q.ring, q.calls.set n (some { c with step := c.step + 1 })⟩ n r) → RDequeIn w2 pd pr' br' ⟨r.top, r.bottom, r.ring, q.calls.set n (some r.c)⟩ := fun w2 pr' br' g => by
          unfold qset at g
          simp only [List.set_set] at g
          exact g
        have hcr : ∀ o : Option DCall, (q.calls.set n o)[n]? = some o := fun o => List.getElem?_set_self (by omega)
        have H1 := Lib.hid h1
        have HC1 := Lib.hid hc1
        have HK1 := Lib.hid hk1
        have HD := Lib.hid hdone
        have HCR := Lib.hid hcr
        have HWN := Lib.hid hwn
        have HKS := Lib.hid hks
        have HSM : Hid (SmallDQ q.top q.bottom { c with step := c.step + 1 }) := Lib.hid hsm
        have hn16 : (n : Int) < 16 := by omega
        clear h1 hc1 hk1 hdone hcr hwn hks h ho hs hwon hbs hsm hb hl hw hn
        rcases hk with k1 | k1 | k1
        · have hk : True := trivial
          have b1 : (c.kind == 1) = true := by simpa using k1
          have Hr := Lib.hid (show stepPush q.top q.bottom q.ring { c with step := c.step + 1 } = r by rw [hr]; unfold stepKind; rw [if_pos k1])
          clear k1 hr hk
          have hv0 := pushV Hr.out
          have HV := Lib.hid hv0
          clear hv0
          by_cases ha : r.a = 0
          · have ha' : (r.a != 0) = false := by simpa using ha
            rw [if_pos ha]
            clear ha
            rw [HV.out]
            go_enter Try.func31, Try.ntmps31
            go_wp2_with fail
            refine Hbs.out.mono ?_
            rintro e w1 ⟨rfl, k, rfl⟩
            go_wp2_with fail
            have hsp := rpush_spec (H1.out k) HC1.out HSM.out
            simp only [] at hsp
            rw [Hr.out] at hsp
            refine hsp.mono ?_
            rintro e w2 ⟨rfl, pr', br', q1, q2, q3, q4⟩
            have g1 := HD.out _ _ _ q1
            have g2 := (HK1.out k).trans q2 (by simp)
            clear q1 q2 hsp
            go_wp2
            go_ret2
            exact ⟨rfl, pr', br', g1, g2, by simpa using q3, by simpa using q4⟩
          · have ha' : (r.a != 0) = true := by simpa using ha
            rw [if_neg ha]
            clear ha
            rw [HV.out]
            go_enter Try.func31, Try.ntmps31
            go_wp2_with fail
            refine Hbs.out.mono ?_
            rintro e w1 ⟨rfl, k, rfl⟩
            go_wp2_with fail
            have hsp := rpush_spec (H1.out k) HC1.out HSM.out
            simp only [] at hsp
            rw [Hr.out] at hsp
            refine hsp.mono ?_
            rintro e w2 ⟨rfl, pr', br', q1, q2, q3, q4⟩
            have g1 := HD.out _ _ _ q1
            have g2 := (HK1.out k).trans q2 (by simp)
            have x0 : w2.cell? ⟨pd, 3 + n * 7, none⟩ = some (.int .i64 r.c.kind) := g1.field (HCR.out _) (j := 0) (by omega)
            have x1 : w2.cell? ⟨pd, 3 + n * 7 + 1, none⟩ = some (.int .i64 r.c.item) := g1.field (HCR.out _) (j := 1) (by omega)
            have x2 : w2.cell? ⟨pd, 3 + n * 7 + 2, none⟩ = some (.int .i64 r.c.step) := g1.field (HCR.out _) (j := 2) (by omega)
            have x3 : w2.cell? ⟨pd, 3 + n * 7 + 3, none⟩ = some (.int .i64 r.c.b) := g1.field (HCR.out _) (j := 3) (by omega)
            have x4 : w2.cell? ⟨pd, 3 + n * 7 + 4, none⟩ = some (.int .i64 r.c.t) := g1.field (HCR.out _) (j := 4) (by omega)
            have x5 : w2.cell? ⟨pd, 3 + n * 7 + 5, none⟩ = some (.int .i64 r.c.v) := g1.field (HCR.out _) (j := 5) (by omega)
            have x6 : w2.cell? ⟨pd, 3 + n * 7 + 6, none⟩ = some (.int .i64 (if r.c.won then 1 else 0)) := g1.field (HCR.out _) (j := 6) (by omega)
            have y : ∀ i, w2.frozen? ⟨pd, i, none⟩ = false := fun i => g1.head.frozen i
            have g3 := rhead_set7 g1.head (HCR.out _) none 0 0 0 0 0 0 0 rfl
            rw [List.set_set] at g3
            have g4 := ring7 (n := n) g1.ring g1.head (v0 := .int .i64 0) (v1 := .int .i64 0) (v2 := .int .i64 0) (v3 := .int .i64 0) (v4 := .int .i64 0) (v5 := .int .i64 0) (v6 := .int .i64 0)
            have g5 := kinds_set (n := n) (o := none) g1.kinds (by simp)
            simp only [List.set_set] at g5
            have g6 := g2.trans (keep7 w2 pd br (3 + n * 7) (3 + n * 7 + 1) (3 + n * 7 + 2) (3 + n * 7 + 3) (3 + n * 7 + 4) (3 + n * 7 + 5) (3 + n * 7 + 6) (.int .i64 0) (.int .i64 0) (.int .i64 0) (.int .i64 0) (.int .i64 0) (.int .i64 0) (.int .i64 0)) (by simp)
            have g7 := g1.clen
            have G : Hid (RPost pd pr br w (.tuple #[.int .i64 r.a, .int .i64 0]) ⟨r.top, r.bottom, r.ring, q.calls.set n none⟩ (.returned (.tuple #[.int .i64 r.a, .int .i64 0])) (((((((w2.setCell ⟨pd, 3 + n * 7, none⟩ (.int .i64 0)).setCell ⟨pd, 3 + n * 7 + 1, none⟩ (.int .i64 0)).setCell ⟨pd, 3 + n * 7 + 2, none⟩ (.int .i64 0)).setCell ⟨pd, 3 + n * 7 + 3, none⟩ (.int .i64 0)).setCell
                ⟨pd, 3 + n * 7 + 4, none⟩ (.int .i64 0)).setCell ⟨pd, 3 + n * 7 + 5, none⟩ (.int .i64 0)).setCell ⟨pd, 3 + n * 7 + 6, none⟩ (.int .i64 0))) :=
              Lib.hid ⟨rfl, pr', br', ⟨g3, g4, by simpa using g7, g5⟩, g6, by simpa using q3, by simpa using q4⟩
            clear q1 q2 hsp g1 g2 g3 g4 g5 g6 g7 q3 q4
            go_wp2
            go_ret2
            exact G.out
        · have hk : True := trivial
          have b1 : (c.kind == 1) = false := by simp; omega
          have b2 : (c.kind == 2) = true := by simpa using k1
          have Hr := Lib.hid (show stepPop q.top q.bottom q.ring { c with step := c.step + 1 } = r by rw [hr]; unfold stepKind; rw [if_neg (by omega), if_pos k1])
          clear k1 hr hk
          by_cases ha : r.a = 0
          · have ha' : (r.a != 0) = false := by simpa using ha
            rw [if_pos ha]
            clear ha
            go_enter Try.func31, Try.ntmps31
            go_wp2_with fail
            refine Hbs.out.mono ?_
            rintro e w1 ⟨rfl, k, rfl⟩
            go_wp2_with fail
            have hsp := rpop_spec (H1.out k) HC1.out HSM.out HWN.out
            simp only [] at hsp
            rw [Hr.out] at hsp
            refine hsp.mono ?_
            rintro e w2 ⟨rfl, pr', br', q1, q2, q3, q4⟩
            have g1 := HD.out _ _ _ q1
            have g2 := (HK1.out k).trans q2 (by simp)
            clear q1 q2 hsp
            go_wp2
            go_ret2
            exact ⟨rfl, pr', br', g1, g2, by simpa using q3, by simpa using q4⟩
          · have ha' : (r.a != 0) = true := by simpa using ha
            rw [if_neg ha]
            clear ha
            go_enter Try.func31, Try.ntmps31
            go_wp2_with fail
            refine Hbs.out.mono ?_
            rintro e w1 ⟨rfl, k, rfl⟩
            go_wp2_with fail
            have hsp := rpop_spec (H1.out k) HC1.out HSM.out HWN.out
            simp only [] at hsp
            rw [Hr.out] at hsp
            refine hsp.mono ?_
            rintro e w2 ⟨rfl, pr', br', q1, q2, q3, q4⟩
            have g1 := HD.out _ _ _ q1
            have g2 := (HK1.out k).trans q2 (by simp)
            have x0 : w2.cell? ⟨pd, 3 + n * 7, none⟩ = some (.int .i64 r.c.kind) := g1.field (HCR.out _) (j := 0) (by omega)
            have x1 : w2.cell? ⟨pd, 3 + n * 7 + 1, none⟩ = some (.int .i64 r.c.item) := g1.field (HCR.out _) (j := 1) (by omega)
            have x2 : w2.cell? ⟨pd, 3 + n * 7 + 2, none⟩ = some (.int .i64 r.c.step) := g1.field (HCR.out _) (j := 2) (by omega)
            have x3 : w2.cell? ⟨pd, 3 + n * 7 + 3, none⟩ = some (.int .i64 r.c.b) := g1.field (HCR.out _) (j := 3) (by omega)
            have x4 : w2.cell? ⟨pd, 3 + n * 7 + 4, none⟩ = some (.int .i64 r.c.t) := g1.field (HCR.out _) (j := 4) (by omega)
            have x5 : w2.cell? ⟨pd, 3 + n * 7 + 5, none⟩ = some (.int .i64 r.c.v) := g1.field (HCR.out _) (j := 5) (by omega)
            have x6 : w2.cell? ⟨pd, 3 + n * 7 + 6, none⟩ = some (.int .i64 (if r.c.won then 1 else 0)) := g1.field (HCR.out _) (j := 6) (by omega)
            have y : ∀ i, w2.frozen? ⟨pd, i, none⟩ = false := fun i => g1.head.frozen i
            have g3 := rhead_set7 g1.head (HCR.out _) none 0 0 0 0 0 0 0 rfl
            rw [List.set_set] at g3
            have g4 := ring7 (n := n) g1.ring g1.head (v0 := .int .i64 0) (v1 := .int .i64 0) (v2 := .int .i64 0) (v3 := .int .i64 0) (v4 := .int .i64 0) (v5 := .int .i64 0) (v6 := .int .i64 0)
            have g5 := kinds_set (n := n) (o := none) g1.kinds (by simp)
            simp only [List.set_set] at g5
            have g6 := g2.trans (keep7 w2 pd br (3 + n * 7) (3 + n * 7 + 1) (3 + n * 7 + 2) (3 + n * 7 + 3) (3 + n * 7 + 4) (3 + n * 7 + 5) (3 + n * 7 + 6) (.int .i64 0) (.int .i64 0) (.int .i64 0) (.int .i64 0) (.int .i64 0) (.int .i64 0) (.int .i64 0)) (by simp)
            have g7 := g1.clen
            have G : Hid (RPost pd pr br w (.tuple #[.int .i64 r.a, .int .i64 r.v]) ⟨r.top, r.bottom, r.ring, q.calls.set n none⟩ (.returned (.tuple #[.int .i64 r.a, .int .i64 r.v])) (((((((w2.setCell ⟨pd, 3 + n * 7, none⟩ (.int .i64 0)).setCell ⟨pd, 3 + n * 7 + 1, none⟩ (.int .i64 0)).setCell ⟨pd, 3 + n * 7 + 2, none⟩ (.int .i64 0)).setCell ⟨pd, 3 + n * 7 + 3, none⟩ (.int .i64 0)).setCell
                ⟨pd, 3 + n * 7 + 4, none⟩ (.int .i64 0)).setCell ⟨pd, 3 + n * 7 + 5, none⟩ (.int .i64 0)).setCell ⟨pd, 3 + n * 7 + 6, none⟩ (.int .i64 0))) :=
              Lib.hid ⟨rfl, pr', br', ⟨g3, g4, by simpa using g7, g5⟩, g6, by simpa using q3, by simpa using q4⟩
            clear q1 q2 hsp g1 g2 g3 g4 g5 g6 g7 q3 q4
            go_wp2
            go_ret2
            exact G.out
        · have hk : True := trivial
          have b1 : (c.kind == 1) = false := by simp; omega
          have b2 : (c.kind == 2) = false := by simp; omega
          have Hr := Lib.hid (show stepSteal q.top q.bottom q.ring { c with step := c.step + 1 } = r by rw [hr]; unfold stepKind; rw [if_neg (by omega), if_neg (by omega)])
          clear k1 hr hk
          by_cases ha : r.a = 0
          · have ha' : (r.a != 0) = false := by simpa using ha
            rw [if_pos ha]
            clear ha
            go_enter Try.func31, Try.ntmps31
            go_wp2_with fail
            refine Hbs.out.mono ?_
            rintro e w1 ⟨rfl, k, rfl⟩
            go_wp2_with fail
            have hsp := rsteal_spec (H1.out k) HC1.out HSM.out
            simp only [] at hsp
            rw [Hr.out] at hsp
            refine hsp.mono ?_
            rintro e w2 ⟨rfl, pr', br', q1, q2, q3, q4⟩
            have g1 := HD.out _ _ _ q1
            have g2 := (HK1.out k).trans q2 (by simp)
            clear q1 q2 hsp
            go_wp2
            go_ret2
            exact ⟨rfl, pr', br', g1, g2, by simpa using q3, by simpa using q4⟩
          · have ha' : (r.a != 0) = true := by simpa using ha
            rw [if_neg ha]
            clear ha
            go_enter Try.func31, Try.ntmps31
            go_wp2_with fail
            refine Hbs.out.mono ?_
            rintro e w1 ⟨rfl, k, rfl⟩
            go_wp2_with fail
            have hsp := rsteal_spec (H1.out k) HC1.out HSM.out
            simp only [] at hsp
            rw [Hr.out] at hsp
            refine hsp.mono ?_
            rintro e w2 ⟨rfl, pr', br', q1, q2, q3, q4⟩
            have g1 := HD.out _ _ _ q1
            have g2 := (HK1.out k).trans q2 (by simp)
            have x0 : w2.cell? ⟨pd, 3 + n * 7, none⟩ = some (.int .i64 r.c.kind) := g1.field (HCR.out _) (j := 0) (by omega)
            have x1 : w2.cell? ⟨pd, 3 + n * 7 + 1, none⟩ = some (.int .i64 r.c.item) := g1.field (HCR.out _) (j := 1) (by omega)
            have x2 : w2.cell? ⟨pd, 3 + n * 7 + 2, none⟩ = some (.int .i64 r.c.step) := g1.field (HCR.out _) (j := 2) (by omega)
            have x3 : w2.cell? ⟨pd, 3 + n * 7 + 3, none⟩ = some (.int .i64 r.c.b) := g1.field (HCR.out _) (j := 3) (by omega)
            have x4 : w2.cell? ⟨pd, 3 + n * 7 + 4, none⟩ = some (.int .i64 r.c.t) := g1.field (HCR.out _) (j := 4) (by omega)
            have x5 : w2.cell? ⟨pd, 3 + n * 7 + 5, none⟩ = some (.int .i64 r.c.v) := g1.field (HCR.out _) (j := 5) (by omega)
            have x6 : w2.cell? ⟨pd, 3 + n * 7 + 6, none⟩ = some (.int .i64 (if r.c.won then 1 else 0)) := g1.field (HCR.out _) (j := 6) (by omega)
            have y : ∀ i, w2.frozen? ⟨pd, i, none⟩ = false := fun i => g1.head.frozen i
            have g3 := rhead_set7 g1.head (HCR.out _) none 0 0 0 0 0 0 0 rfl
            rw [List.set_set] at g3
            have g4 := ring7 (n := n) g1.ring g1.head (v0 := .int .i64 0) (v1 := .int .i64 0) (v2 := .int .i64 0) (v3 := .int .i64 0) (v4 := .int .i64 0) (v5 := .int .i64 0) (v6 := .int .i64 0)
            have g5 := kinds_set (n := n) (o := none) g1.kinds (by simp)
            simp only [List.set_set] at g5
            have g6 := g2.trans (keep7 w2 pd br (3 + n * 7) (3 + n * 7 + 1) (3 + n * 7 + 2) (3 + n * 7 + 3) (3 + n * 7 + 4) (3 + n * 7 + 5) (3 + n * 7 + 6) (.int .i64 0) (.int .i64 0) (.int .i64 0) (.int .i64 0) (.int .i64 0) (.int .i64 0) (.int .i64 0)) (by simp)
            have g7 := g1.clen
            have G : Hid (RPost pd pr br w (.tuple #[.int .i64 r.a, .int .i64 r.v]) ⟨r.top, r.bottom, r.ring, q.calls.set n none⟩ (.returned (.tuple #[.int .i64 r.a, .int .i64 r.v])) (((((((w2.setCell ⟨pd, 3 + n * 7, none⟩ (.int .i64 0)).setCell ⟨pd, 3 + n * 7 + 1, none⟩ (.int .i64 0)).setCell ⟨pd, 3 + n * 7 + 2, none⟩ (.int .i64 0)).setCell ⟨pd, 3 + n * 7 + 3, none⟩ (.int .i64 0)).setCell
                ⟨pd, 3 + n * 7 + 4, none⟩ (.int .i64 0)).setCell ⟨pd, 3 + n * 7 + 5, none⟩ (.int .i64 0)).setCell ⟨pd, 3 + n * 7 + 6, none⟩ (.int .i64 0))) :=
              Lib.hid ⟨rfl, pr', br', ⟨g3, g4, by simpa using g7, g5⟩, g6, by simpa using q3, by simpa using q4⟩
            clear q1 q2 hsp g1 g2 g3 g4 g5 g6 g7 q3 q4
            go_wp2
            go_ret2
            exact G.out
  · have hb' : busyB q who = false := by simpa using hb
    rw [dqStep_idle hb']
    have Hbs := Lib.hid (hbs w 0)
    rw [hb'] at Hbs
    clear hb hb' hbs hs hwon
    go_enter Try.func31, Try.ntmps31
    go_wp2_with fail
    refine Hbs.out.mono ?_
    rintro e w1 ⟨rfl, k, rfl⟩
    go_wp2
    go_ret2
    exact ⟨rfl, pr, br, h.drewN k, (Keep.refl _ _).drewN k, Or.inl rfl, Or.inl rfl⟩
end Go.Proofs.Ytkeaekckblpfjaa
