/- Deques: through, alive, num. -/
import Derived.Test.YtkeaekckblpfjaaRows
import Derived.WalkKit
import Derived.WalkSpells
import Derived.WalkLawsBesides
import Derived.RegionTactic
import Derived.ChangeAlike
import Derived.BigQuiet
import Derived.Deep.QuietTactic
import Derived.StillTailTactics
import Derived.IntWalk
import Derived.Handy
import Derived.Lib.Hide
import Derived.Deep.AppendLies
import Derived.Deep.RegionWith
import Derived.Test.YtkeaekckblpfjaaBase
import Derived.Test.YtkeaekckblpfjaaTail
import Derived.Test.YtkeaekckblpfjaaRing
import Derived.Test.YtkeaekckblpfjaaGrown
import Derived.Test.YtkeaekckblpfjaaSizes
import Derived.Test.YtkeaekckblpfjaaArgs
import Derived.Test.YtkeaekckblpfjaaAppend
import Derived.Test.YtkeaekckblpfjaaRingMore
import Derived.Test.YtkeaekckblpfjaaDeque
import Derived.Test.YtkeaekckblpfjaaDequePop
import Derived.Test.YtkeaekckblpfjaaDequeObj
import Derived.Test.YtkeaekckblpfjaaDequeStep
import Derived.Test.YtkeaekckblpfjaaDequeStep2
import Derived.Test.YtkeaekckblpfjaaDequeItems
namespace Go.Proofs.Ytkeaekckblpfjaa
open Go.RowKit


/-! ### Bounds -/
structure Bd (n : Int) (q : DQ) : Prop where
  top1 : -n ≤ q.top
  top2 : q.top ≤ n
  bot1 : -n ≤ q.bottom
  bot2 : q.bottom ≤ n
  call : ∀ c, some c ∈ q.calls → -n ≤ c.b ∧ c.b ≤ n ∧ -n ≤ c.t ∧ c.t ≤ n ∧ 0 ≤ c.step ∧ c.step ≤ n
theorem Bd.mono {n m : Int} {q : DQ} (h : Bd n q) (hm : n ≤ m) : Bd m q := by
  obtain ⟨h1, h2, h3, h4, h5⟩ := h
  refine ⟨by omega, by omega, by omega, by omega, fun c hc => ?_⟩
  have := h5 c hc
  omega
theorem Bd.all {n : Int} {q : DQ} (h : Bd n q) (hn : n ≤ 1000000000) : SmallAll q := by
  obtain ⟨h1, h2, h3, h4, h5⟩ := h
  intro c hc
  have := h5 c hc
  unfold SmallDQ
  omega
theorem Bd.tb {n : Int} {q : DQ} (h : Bd n q) (hn : n ≤ 1000000000) : SmallTB q := by
  obtain ⟨h1, h2, h3, h4, h5⟩ := h
  unfold SmallTB
  omega
theorem Bd.new : Bd 0 dqNew := by
  refine ⟨by decide, by decide, by decide, by decide, fun c hc => ?_⟩
  simp [dqNew] at hc
theorem Bd.begin {n : Int} {q : DQ} (h : Bd n q) (hn : 0 ≤ n) (who kind item : Int) : Bd n (dqBegin q who kind item).1 := by
  unfold dqBegin
  split
  · exact h
  · split
    · exact h
    · refine ⟨h.top1, h.top2, h.bot1, h.bot2, fun c hc => ?_⟩
      rcases List.mem_or_eq_of_mem_set hc with h1 | h1
      · exact h.call c h1
      · cases h1
        simp only [newCall]
        omega
def SRBd (n : Int) (r : SR) : Prop := -n ≤ r.top ∧ r.top ≤ n ∧ -n ≤ r.bottom ∧ r.bottom ≤ n ∧ -n ≤ r.c.b ∧ r.c.b ≤ n ∧ -n ≤ r.c.t ∧ r.c.t ≤ n ∧ 0 ≤ r.c.step ∧ r.c.step ≤ n
theorem stepKind_bd {n : Int} {kind top bottom : Int} {ring : List Int} {c : DCall} (h1 : -n ≤ top) (h2 : top ≤ n) (h3 : -n ≤ bottom) (h4 : bottom ≤ n) (h5 : -n ≤ c.b ∧ c.b ≤ n ∧ -n ≤ c.t ∧ c.t ≤ n ∧ 0 ≤ c.step ∧ c.step ≤ n + 1) :
    SRBd (n + 1) (stepKind kind top bottom ring c) := by
  obtain ⟨g1, g2, g3, g4, g5, g6⟩ := h5
  have fin : ∀ r : SR, (-(n + 1) ≤ r.top ∧ r.top ≤ n + 1 ∧ -(n + 1) ≤ r.bottom ∧ r.bottom ≤ n + 1 ∧ -(n + 1) ≤ r.c.b ∧ r.c.b ≤ n + 1 ∧ -(n + 1) ≤ r.c.t ∧ r.c.t ≤ n + 1 ∧ 0 ≤ r.c.step ∧ r.c.step ≤ n + 1) → SRBd (n + 1) r := fun _ h => h
  unfold stepKind
  split
  · unfold stepPush
    repeat' split
    all_goals (apply fin; simp only; omega)
  · split
    · unfold stepPop
      repeat' split
      all_goals (apply fin; simp only; omega)
    · unfold stepSteal
      repeat' split
      all_goals (apply fin; simp only; omega)
theorem Bd.step {n : Int} {q : DQ} (h : Bd n q) (who : Int) : Bd (n + 1) (dqStep q who).1 := by
  unfold dqStep
  split
  · split
    · exact h.mono (by omega)
    · rename_i c hc
      have hmem : some c ∈ q.calls := by
        rw [List.getD_eq_getElem?_getD] at hc
        cases hx : q.calls[who.toNat]? with
        | none => rw [hx] at hc; cases hc
        | some y => rw [hx] at hc; simp at hc; subst hc; exact List.mem_of_getElem? hx
      have hb := h.call c hmem
      have hr := stepKind_bd (kind := c.kind) (ring := q.ring) (c := { c with step := c.step + 1 }) h.top1 h.top2 h.bot1 h.bot2 (by simp only; omega)
      obtain ⟨r1, r2, r3, r4, r5⟩ := hr
      refine ⟨r1, r2, r3, r4, fun c' hc' => ?_⟩
      rcases List.mem_or_eq_of_mem_set hc' with h1 | h1
      · have := h.call c' h1
        omega
      · split at h1
        · cases h1
          exact r5
        · cases h1
  · exact h.mono (by omega)

/-! ### through -/
def thGo (who : Int) : Nat → DQ → DQ × Int × Int
  | 0, q => (q, -2, 0)
  | k + 1, q => if (dqStep q who).2.1 = 0 then thGo who k (dqStep q who).1 else dqStep q who
def dqThrough (q : DQ) (who kind item : Int) : DQ × Int × Int :=
  if (dqBegin q who kind item).2 = 0 then thGo who 6 (dqBegin q who kind item).1 else ((dqBegin q who kind item).1, -1, 0)
/-- what the blocks of an object are later on -/
theorem reach_trans {F F1 F2 : List Nat} {w w1 w2 : World} (h1 : Keep F w w1) (f1 : ∀ x ∈ F1, x ∈ F ∨ w.heap.size ≤ x) (h2 : Keep F1 w1 w2) (f2 : ∀ x ∈ F2, x ∈ F1 ∨ w1.heap.size ≤ x) :
    Keep F w w2 ∧ ∀ x ∈ F2, x ∈ F ∨ w.heap.size ≤ x := by
  refine ⟨h1.trans h2 f1, fun x hx => ?_⟩
  rcases f2 x hx with h | h
  · exact f1 x h
  · have := h1.size
    exact Or.inr (by omega)
theorem num_spec (w : World) (e : Int) : Calls Try.prog 26 #[.int .i64 e] w fun r w' => r = .returned (.int .i64 e) ∧ w' = w := by
  go_enter Try.func26, Try.ntmps26
  go_wp2
  go_ret
  exact ⟨rfl, rfl⟩
set_option maxHeartbeats 4000000 in
theorem through_spec {w : World} {pd : Nat} {F : List Nat} {q : DQ} {n : Int} (who kind item : Int) (h : DequeAt w pd F q) (hb : Bd n q) (hn0 : 0 ≤ n) (hn : n ≤ 999999900) :
    Calls Try.prog 36 #[.pointer (some ⟨pd, 0, none⟩), .int .i64 who, .int .i64 kind, .int .i64 item] w
      (DqPost pd F w (.tuple #[.int .i64 (dqThrough q who kind item).2.1, .int .i64 (dqThrough q who kind item).2.2]) (dqThrough q who kind item).1) := by
  have hbb := hb.begin hn0 who kind item
  obtain ⟨q1, e1, hq1⟩ : ∃ q1 e1, dqBegin q who kind item = (q1, e1) := ⟨_, _, rfl⟩
  have hbg := fun (w : World) F (h : DequeAt w pd F q) => begin_spec who kind item h
  rw [hq1] at hbg hbb
  have Hbg := Lib.hid hbg
  by_cases he : e1 = 0
  · subst he
    have ht : dqThrough q who kind item = thGo who 6 q1 := by unfold dqThrough; rw [hq1, if_pos rfl]
    rw [ht]
    clear hbg ht hq1
    go_enter Try.func36, Try.ntmps36
    go_wp2_with fail
    refine (Hbg.out _ _ h).mono ?_
    rintro e w1 ⟨rfl, F1, h1, k1, f1⟩
    go_wp2_with fail
    refine (num_spec _ _).mono ?_
    rintro e w2 ⟨rfl, rfl⟩
    go_wp2_with fail
    clear Hbg h
    go_loopw [11] (fun v wr => ∃ (k : Nat) (qk : DQ) (F' : List Nat), k ≤ 6 ∧ v = .int .i64 k ∧ DequeAt wr pd F' qk ∧ Keep F w wr ∧ (∀ x ∈ F', x ∈ F ∨ w.heap.size ≤ x) ∧ thGo who (6 - k) qk = thGo who 6 q1 ∧ Bd (n + k) qk) (fun v _ => 6 - (intOf v).toNat)
    case atStart => exact ⟨0, q1, F1, by omega, rfl, h1, k1, f1, rfl, hbb.mono (by omega)⟩
    case round =>
      clear h1 k1 f1 hbb
      obtain ⟨k, qk, F', hk, rfl, hat, hkeep, hf, hth, hbk⟩ := hrel
      by_cases hlt : k < 6
      · obtain ⟨q2, a, v, hq2⟩ : ∃ q2 a v, dqStep qk who = (q2, a, v) := ⟨_, _, _, rfl⟩
        have hst := step_spec who hat (hbk.all (by omega))
        have hb2 := hbk.step who
        have hth2 : thGo who (6 - k) qk = if a = 0 then thGo who (6 - (k + 1)) q2 else (q2, a, v) := by
          rw [show 6 - k = (6 - (k + 1)) + 1 by omega, thGo, hq2]
        rw [hq2] at hst hb2
        rw [hth] at hth2
        clear hth hbk
        by_cases ha : a = 0
        · subst ha
          rw [if_pos rfl] at hth2
          go_wp2_with fail
          refine hst.mono ?_
          rintro e w2 ⟨rfl, F2, h2, k2, f2⟩
          obtain ⟨k3, f3⟩ := reach_trans hkeep hf k2 f2
          clear hst hat hkeep k2 f2
          go_wp2
          go_roundw
          case rel => exact ⟨k + 1, q2, F2, by omega, by go_num, h2, k3, f3, hth2.symm, hb2.mono (by omega)⟩
          case measure => simp [intOf]; omega
        · rw [if_neg ha] at hth2
          have ha' : (a != 0) = true := by simpa using ha
          rw [hth2]
          clear ha
          go_wp2_with fail
          refine hst.mono ?_
          rintro e w2 ⟨rfl, F2, h2, k2, f2⟩
          obtain ⟨k3, f3⟩ := reach_trans hkeep hf k2 f2
          clear hst hat hkeep k2 f2
          go_wp2
          go_ret2
          exact ⟨rfl, F2, h2, k3, f3⟩
      · have : k = 6 := by omega
        subst this
        have Hth := Lib.hid (show thGo who 6 q1 = (qk, -2, 0) from hth.symm)
        clear hth
        go_wp2
        go_ret2
        rw [Hth.out]
        exact ⟨rfl, F', hat, hkeep, hf⟩
  · have ht : dqThrough q who kind item = (q1, -1, 0) := by unfold dqThrough; rw [hq1, if_neg he]
    rw [ht]
    have he' : (e1 != 0) = true := by simpa using he
    clear hbg ht hq1 he
    go_enter Try.func36, Try.ntmps36
    go_wp2_with fail
    refine (Hbg.out _ _ h).mono ?_
    rintro e w1 ⟨rfl, F1, h1, k1, f1⟩
    go_wp2_with fail
    refine (num_spec _ _).mono ?_
    rintro e w2 ⟨rfl, rfl⟩
    go_wp2
    go_ret2
    exact ⟨rfl, F1, h1, k1, f1⟩

/-! ### alive -/
theorem through_eq {w : World} {pd : Nat} {F : List Nat} {q q' : DQ} {n : Int} (who kind item a v : Int) (hq : dqThrough q who kind item = (q', a, v)) (h : DequeAt w pd F q) (hb : Bd n q) (hn0 : 0 ≤ n) (hn : n ≤ 999999900) :
    Calls Try.prog 36 #[.pointer (some ⟨pd, 0, none⟩), .int .i64 who, .int .i64 kind, .int .i64 item] w
      (DqPost pd F w (.tuple #[.int .i64 a, .int .i64 v]) q') := by
  have := through_spec who kind item h hb hn0 hn
  rw [hq] at this
  exact this
theorem Bd.thGo {n : Int} {who : Int} : ∀ (k : Nat) {q : DQ}, Bd n q → Bd (n + k) (thGo who k q).1
  | 0, _, h => h.mono (by omega)
  | k + 1, q, h => by
    unfold Go.Proofs.Ytkeaekckblpfjaa.thGo
    split
    · exact (Bd.thGo k (h.step who)).mono (by omega)
    · exact (h.step who).mono (by omega)
theorem Bd.through {n : Int} {q : DQ} (h : Bd n q) (hn : 0 ≤ n) (who kind item : Int) : Bd (n + 6) (dqThrough q who kind item).1 := by
  unfold dqThrough
  split
  · exact (h.begin hn who kind item).thGo 6
  · exact (h.begin hn who kind item).mono (by omega)
set_option maxHeartbeats 4000000 in
theorem alive_spec (w : World) : Calls Try.prog 23 #[] w fun e w' => e = .returned (.bool true) ∧ Keep [] w w' := by
  have e1 : dqThrough dqNew 0 1 7 = ((dqThrough dqNew 0 1 7).1, 1, 0) := Prod.ext rfl (by decide)
  have e2 : dqThrough (dqThrough dqNew 0 1 7).1 1 3 0 = ((dqThrough (dqThrough dqNew 0 1 7).1 1 3 0).1, 2, 7) := Prod.ext rfl (by decide)
  have b1 : Bd 6 (dqThrough dqNew 0 1 7).1 := (Bd.new.through (by omega) 0 1 7).mono (by omega)
  generalize (dqThrough (dqThrough dqNew 0 1 7).1 1 3 0).1 = q2 at *
  generalize (dqThrough dqNew 0 1 7).1 = q1 at *
  have E1 := Lib.hid e1
  have E2 := Lib.hid e2
  clear e1 e2
  go_enter Try.func23, Try.ntmps23
  go_wp2_with fail
  refine (dqNew_spec _).mono ?_
  rintro e w1 ⟨pd, F, rfl, h1, f1, k1⟩
  go_wp2_with fail
  refine (through_eq 0 1 7 1 0 E1.out h1 Bd.new (by omega) (by omega)).mono ?_
  rintro e w2 ⟨rfl, F2, h2, k2, f2⟩
  obtain ⟨k3, f3⟩ := reach_trans (F := []) k1 (fun x hx => Or.inr (f1 x hx)) k2 f2
  go_wp2_with fail
  refine (through_eq 1 3 0 2 7 E2.out h2 b1 (by omega) (by omega)).mono ?_
  rintro e w3 ⟨rfl, F3, h3, k4, f4⟩
  obtain ⟨k5, f5⟩ := reach_trans k3 f3 k4 f4
  go_wp2
  go_ret
  exact ⟨rfl, k5⟩
end Go.Proofs.Ytkeaekckblpfjaa
