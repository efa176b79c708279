/- The law DequeCalls. -/
import Derived.Test.YtkeaekckblpfjaaRows
import Derived.WalkKit
import Derived.WalkSpells
import Derived.WalkLawsBesides
import Derived.RegionTactic
import Derived.ChangeAlike
import Derived.BigQuiet
import Derived.Deep.QuietTactic
import Derived.StillTailTactics
import Derived.IntWalk
import Derived.Handy
import Derived.Lib.Hide
import Derived.Deep.AppendLies
import Derived.Deep.RegionWith
import Derived.Test.YtkeaekckblpfjaaBase
import Derived.Test.YtkeaekckblpfjaaTail
import Derived.Test.YtkeaekckblpfjaaRing
import Derived.Test.YtkeaekckblpfjaaGrown
import Derived.Test.YtkeaekckblpfjaaSizes
import Derived.Test.YtkeaekckblpfjaaArgs
import Derived.Test.YtkeaekckblpfjaaAppend
import Derived.Test.YtkeaekckblpfjaaRingMore
import Derived.Test.YtkeaekckblpfjaaDeque
import Derived.Test.YtkeaekckblpfjaaDequePop
import Derived.Test.YtkeaekckblpfjaaDequeObj
import Derived.Test.YtkeaekckblpfjaaDequeStep
import Derived.Test.YtkeaekckblpfjaaDequeStep2
import Derived.Test.YtkeaekckblpfjaaDequeItems
import Derived.Test.YtkeaekckblpfjaaDequeThrough
namespace Go.Proofs.Ytkeaekckblpfjaa
open Go.RowKit


theorem new_idle (who : Int) : busyB dqNew who = false := by
  have h : dqNew.calls.getD who.toNat none = none := by
    show (List.replicate 16 (none : Option DCall)).getD who.toNat none = none
    rw [List.getD_eq_getElem?_getD, List.getElem?_replicate]
    split <;> rfl
  unfold busyB
  rw [h]
  simp
theorem busy_set {q : DQ} {who : Int} {c : DCall} (hi : isB who = true) (hl : q.calls.length = 16) (t b : Int) (r : List Int) : busyB ⟨t, b, r, q.calls.set who.toNat (some c)⟩ who = true := by
  have hw : 0 ≤ who ∧ who < 16 := by unfold isB at hi; simpa using hi
  unfold busyB
  rw [hi]
  simp [List.getD_eq_getElem?_getD, List.getElem?_set_self (show who.toNat < q.calls.length by omega)]
theorem first_step (kind item : Int) (t b : Int) (r : List Int) : ∃ t' b' r' c', stepKind kind t b r ⟨0, 0, 0, false, kind, item, 1⟩ = ⟨t', b', r', c', 0, 0⟩ := by
  unfold stepKind
  split
  · exact ⟨_, _, _, _, rfl⟩
  · split
    · exact ⟨_, _, _, _, rfl⟩
    · exact ⟨_, _, _, _, rfl⟩
theorem calls_ok (who call : Int) (hm : mayBegin who call = true) : ∃ q1 q2 q3, dqBegin dqNew who call 5 = (q1, 0) ∧ busyB q1 who = true ∧ dqStep q1 who = (q2, 0, 0) ∧ dqBegin q2 who call 6 = (q3, 31) := by
  have hi : isB who = true := by unfold mayBegin at hm; simp at hm; exact hm.1
  have hw : 0 ≤ who ∧ who < 16 := by unfold isB at hi; simpa using hi
  have hl : dqNew.calls.length = 16 := rfl
  have h1 : dqBegin dqNew who call 5 = (⟨0, 0, ringNew 4 [], dqNew.calls.set who.toNat (some (newCall call 5))⟩, 0) := by
    unfold dqBegin
    rw [if_neg (by simp [hm]), if_neg (by simp [new_idle])]
    rfl
  obtain ⟨t', b', r', c', hr⟩ := first_step call 5 0 0 (ringNew 4 [])
  have h2 : dqStep ⟨0, 0, ringNew 4 [], dqNew.calls.set who.toNat (some (newCall call 5))⟩ who = (⟨t', b', r', (dqNew.calls.set who.toNat (some (newCall call 5))).set who.toNat (some c')⟩, 0, 0) := by
    obtain ⟨n, rfl⟩ := Int.eq_ofNat_of_zero_le hw.1
    have h := dqStep_busy (q := ⟨0, 0, ringNew 4 [], dqNew.calls.set n (some (newCall call 5))⟩) (n := n) (c := newCall call 5) (by omega) (List.getElem?_set_self (by rw [hl]; omega)) hr
    exact h
  refine ⟨_, _, ⟨t', b', r', (dqNew.calls.set who.toNat (some (newCall call 5))).set who.toNat (some c')⟩, h1, busy_set hi hl _ _ _, h2, ?_⟩
  unfold dqBegin
  rw [if_neg (by simp [hm]), if_pos]
  exact busy_set (q := ⟨0, 0, [], dqNew.calls.set who.toNat (some (newCall call 5))⟩) hi (by simp [hl]) _ _ _
theorem calls_bad (who call : Int) (hm : mayBegin who call = false) : dqBegin dqNew who call 5 = (dqNew, 1) ∧ dqStep dqNew who = (dqNew, 0, 0) ∧ dqBegin dqNew who call 6 = (dqNew, 1) :=
  ⟨by unfold dqBegin; rw [if_pos hm], dqStep_idle (new_idle who), by unfold dqBegin; rw [if_pos hm]⟩
theorem begin_eq {w : World} {pd : Nat} {F : List Nat} {q q' : DQ} {e : Int} (who kind item : Int) (hq : dqBegin q who kind item = (q', e)) (h : DequeAt w pd F q) :
    Calls Try.prog 25 #[.pointer (some ⟨pd, 0, none⟩), .int .i64 who, .int .i64 kind, .int .i64 item] w (DqPost pd F w (.int .i64 e) q') := by
  have := begin_spec who kind item h
  rw [hq] at this
  exact this
theorem step_eq {w : World} {pd : Nat} {F : List Nat} {q q' : DQ} {a v : Int} (who : Int) (hq : dqStep q who = (q', a, v)) (h : DequeAt w pd F q) (hs : SmallAll q) :
    Calls Try.prog 28 #[.pointer (some ⟨pd, 0, none⟩), .int .i64 who] w (DqPost pd F w (.tuple #[.int .i64 a, .int .i64 v]) q') := by
  have := step_spec who h hs
  rw [hq] at this
  exact this
theorem busy_eq {w : World} {pd : Nat} {F : List Nat} {q : DQ} {b : Bool} (who : Int) (hb : busyB q who = b) (h : DequeAt w pd F q) :
    Calls Try.prog 27 #[.pointer (some ⟨pd, 0, none⟩), .int .i64 who] w fun e w' => e = .returned (.bool b) ∧ ∃ n, w' = w.drewN n := hb ▸ busy_spec who h
set_option maxHeartbeats 8000000 in
set_option maxRecDepth 100000 in
theorem dequeCalls_any (w : World) (who call : Int) : Calls Try.prog 6 #[.int .i64 who, .int .i64 call] w fun e w' => e = .returned (.bool true) ∧ Keep [] w w' := by
  by_cases hm : mayBegin who call = true
  · obtain ⟨q1, q2, q3, h1, h2, h3, h4⟩ := calls_ok who call hm
    have hb1 : Bd 0 q1 := by have := Bd.new.begin (by omega) who call 5; rwa [h1] at this
    have H1 := Lib.hid h1
    have H2 := Lib.hid h2
    have H3 := Lib.hid h3
    have H4 := Lib.hid h4
    have hc : (who = 0 ∧ call = 1) ∨ (who = 0 ∧ call = 2) ∨ (0 < who ∧ who < 16 ∧ call = 3 ∧ (who == 0) = false) := by
      unfold mayBegin isB at hm
      simp only [Bool.and_eq_true, decide_eq_true_eq] at hm
      obtain ⟨hw, hk⟩ := hm
      by_cases h0 : who = 0
      · rw [if_pos h0] at hk
        simp at hk
        omega
      · rw [if_neg h0] at hk
        simp at hk
        exact Or.inr (Or.inr ⟨by omega, hw.2, hk, by simpa using h0⟩)
    clear h1 h2 h3 h4 hm
    rcases hc with ⟨rfl, rfl⟩ | ⟨rfl, rfl⟩ | ⟨g1, g2, rfl, g3⟩
    all_goals
      go_enter Try.func6, Try.ntmps6
      go_wp2_with fail
      refine (alive_spec _).mono ?_
      rintro e w1 ⟨rfl, k1⟩
      go_wp2_with fail
      refine (dqNew_spec _).mono ?_
      rintro e w2 ⟨pd, F, rfl, a2, f2, k2⟩
      obtain ⟨k3, f3⟩ := reach_trans (F := []) (F1 := []) k1 (by simp) k2 (fun x hx => Or.inr (f2 x hx))
      go_wp2_with fail
      refine (begin_eq _ _ 5 H1.out a2).mono ?_
      rintro e w4 ⟨rfl, F4, a4, k4, f4⟩
      obtain ⟨k5, f5⟩ := reach_trans k3 f3 k4 f4
      clear k1 k2 a2 f2 k3 f3 k4 f4
      go_wp2_with fail
      refine (num_spec _ _).mono ?_
      rintro e w5 ⟨rfl, rfl⟩
      go_wp2_with fail
      refine (busy_eq _ H2.out a4).mono ?_
      rintro e w6 ⟨rfl, n6, rfl⟩
      go_wp2_with fail
      refine (step_eq _ H3.out (a4.drewN n6) (hb1.all (by omega))).mono ?_
      rintro e w7 ⟨rfl, F7, a7, k7, f7⟩
      obtain ⟨k8, f8⟩ := reach_trans (k5.drewN n6) f5 k7 f7
      go_wp2_with fail
      refine (begin_eq _ _ 6 H4.out a7).mono ?_
      rintro e w9 ⟨rfl, F9, a9, k9, f9⟩
      obtain ⟨k10, f10⟩ := reach_trans k8 f8 k9 f9
      go_wp2_with fail
      refine (num_spec _ _).mono ?_
      rintro e w10 ⟨rfl, rfl⟩
      go_wp2
      go_ret
      exact ⟨rfl, k10⟩
  · have hm' : mayBegin who call = false := by simpa using hm
    obtain ⟨h1, h3, h4⟩ := calls_bad who call hm'
    have h2 := new_idle who
    have H1 := Lib.hid h1
    have H2 := Lib.hid h2
    have H3 := Lib.hid h3
    have H4 := Lib.hid h4
    have hc : who < 0 ∨ (who = 0 ∧ (call == 1) = false ∧ (call == 2) = false) ∨ (0 < who ∧ who < 16 ∧ (call == 3) = false ∧ (who == 0) = false) ∨ (0 < who ∧ 16 ≤ who ∧ (who == 0) = false) := by
      unfold mayBegin isB at hm'
      rcases Int.lt_trichotomy who 0 with h | h | h
      · exact Or.inl h
      · subst h
        simp at hm'
        exact Or.inr (Or.inl ⟨rfl, by simpa using hm'.1, by simpa using hm'.2⟩)
      · by_cases h16 : who < 16
        · rw [if_neg (by omega)] at hm'
          have : decide (0 ≤ who ∧ who < 16) = true := by simp; omega
          rw [this] at hm'
          exact Or.inr (Or.inr (Or.inl ⟨h, h16, by simpa using hm', by simp; omega⟩))
        · exact Or.inr (Or.inr (Or.inr ⟨h, by omega, by simp; omega⟩))
    clear h1 h2 h3 h4 hm hm'
    rcases hc with g1 | ⟨rfl, g1, g2⟩ | ⟨g1, g2, g3, g4⟩ | ⟨g1, g2, g3⟩
    all_goals
      go_enter Try.func6, Try.ntmps6
      go_wp2_with fail
      refine (alive_spec _).mono ?_
      rintro e w1 ⟨rfl, k1⟩
      go_wp2_with fail
      refine (dqNew_spec _).mono ?_
      rintro e w2 ⟨pd, F, rfl, a2, f2, k2⟩
      obtain ⟨k3, f3⟩ := reach_trans (F := []) (F1 := []) k1 (by simp) k2 (fun x hx => Or.inr (f2 x hx))
      go_wp2_with fail
      refine (begin_eq _ _ 5 H1.out a2).mono ?_
      rintro e w4 ⟨rfl, F4, a4, k4, f4⟩
      obtain ⟨k5, f5⟩ := reach_trans k3 f3 k4 f4
      clear k1 k2 a2 f2 k3 f3 k4 f4
      go_wp2_with fail
      refine (num_spec _ _).mono ?_
      rintro e w5 ⟨rfl, rfl⟩
      go_wp2_with fail
      refine (busy_eq _ H2.out a4).mono ?_
      rintro e w6 ⟨rfl, n6, rfl⟩
      go_wp2_with fail
      refine (step_eq _ H3.out (a4.drewN n6) (Bd.new.all (by omega))).mono ?_
      rintro e w7 ⟨rfl, F7, a7, k7, f7⟩
      obtain ⟨k8, f8⟩ := reach_trans (k5.drewN n6) f5 k7 f7
      go_wp2_with fail
      refine (begin_eq _ _ 6 H4.out a7).mono ?_
      rintro e w9 ⟨rfl, F9, a9, k9, f9⟩
      obtain ⟨k10, f10⟩ := reach_trans k8 f8 k9 f9
      go_wp2_with fail
      refine (num_spec _ _).mono ?_
      rintro e w10 ⟨rfl, rfl⟩
      go_wp2_with fail
      refine (num_spec _ _).mono ?_
      rintro e w11 ⟨rfl, rfl⟩
      go_wp2
      go_ret
      exact ⟨rfl, k10⟩
theorem walk_dequeCalls (W : World) {who call : Int} (_ : (Lit.int .i64 who).wf = true) (_ : (Lit.int .i64 call).wf = true) :
    Calls Try.prog 6 #[.int .i64 who, .int .i64 call] W fun e w' => e = .returned (.bool true) ∧ Below W.heap.size W w' :=
  (dequeCalls_any W who call).mono fun _ _ ⟨he, hk⟩ => ⟨he, hk.to_below⟩
end Go.Proofs.Ytkeaekckblpfjaa
