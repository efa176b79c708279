/- Deques: the steps of a pop. -/
import Derived.Test.YtkeaekckblpfjaaRows
import Derived.Test.YtkeaekckblpfjaaBase
import Derived.WalkKit
import Derived.WalkSpells
import Derived.WalkLawsBesides
import Derived.RegionTactic
import Derived.ChangeAlike
import Derived.BigQuiet
import Derived.Deep.QuietTactic
import Derived.StillTailTactics
import Derived.IntWalk
import Derived.Handy
import Derived.Lib.Hide
import Derived.Test.YtkeaekckblpfjaaTail
import Derived.Test.YtkeaekckblpfjaaRing
import Derived.Test.YtkeaekckblpfjaaGrown
import Derived.Test.YtkeaekckblpfjaaSizes
import Derived.Test.YtkeaekckblpfjaaArgs
import Derived.Test.YtkeaekckblpfjaaRingMore
import Derived.Test.YtkeaekckblpfjaaDeque
import Derived.Deep.AppendLies
import Derived.Deep.RegionWith
namespace Go.Proofs.Ytkeaekckblpfjaa
open Go.RowKit






set_option maxHeartbeats 1000000 in
set_option maxRecDepth 100000 in
theorem pop_spec {w : World} {pd pc pr br : Nat} {rest : List Value} {top bottom : Int} {ring : List Int} {c : DCall} (hd : Blk w pd 67 (.int .i64 top :: .int .i64 bottom :: .pointer (some ⟨pr, 0, none⟩) :: rest))
    (hr : RingAt 62 w pr br ring) (hc : Blk w pc 71 (callCells c)) (hs : SmallDQ top bottom c) :
    Calls Try.prog 41 #[.pointer (some ⟨pd, 0, none⟩), .pointer (some ⟨pc, 0, none⟩)] w (StepPost pd pc pr br rest w (stepPop top bottom ring c)) := by
  obtain ⟨b, t, v, won, kind, item, step⟩ := c
  have n1 : pd ≠ pc := hd.ne_ hc (by decide)
  have n2 := n1.symm
  have d0 : w.cell? ⟨pd, 0, none⟩ = some (.int .i64 top) := hd.cell 0
  have d1 : w.cell? ⟨pd, 1, none⟩ = some (.int .i64 bottom) := hd.cell 1
  have d2 : w.cell? ⟨pd, 2, none⟩ = some (.pointer (some ⟨pr, 0, none⟩)) := hd.cell 2
  have df0 := hd.frozen 0
  have df1 := hd.frozen 1
  have c0 : w.cell? ⟨pc, 0, none⟩ = some (.int .i64 b) := hc.cell 0
  have c1 : w.cell? ⟨pc, 1, none⟩ = some (.int .i64 t) := hc.cell 1
  have c2 : w.cell? ⟨pc, 2, none⟩ = some (.int .i64 v) := hc.cell 2
  have c3 : w.cell? ⟨pc, 3, none⟩ = some (.bool won) := hc.cell 3
  have c6 : w.cell? ⟨pc, 6, none⟩ = some (.int .i64 step) := hc.cell 6
  have cf0 := hc.frozen 0
  have cf1 := hc.frozen 1
  have cf2 := hc.frozen 2
  have cf3 := hc.frozen 3
  obtain ⟨s1, s2, s3, s4, s5, s6, s7, s8⟩ := hs
  simp only at s5 s6 s7 s8
  have p1 : pr ≠ pc := hr.head.ne_ hc (by decide)
  have p2 : br ≠ pc := hr.body.ne_ hc (by decide)
  have p3 : pr ≠ pd := hr.head.ne_ hd (by decide)
  have p4 : br ≠ pd := hr.body.ne_ hd (by decide)
  by_cases h1 : step = 1
  · subst h1
    go_enter Try.func41, Try.ntmps41
    go_wp2
    go_ret2
    exact ⟨rfl, pr, br, (hd.far n1 _).set_ 1 _, (hr.far p1 p2 _).far p3 p4 _, (hc.set_ 0 _).far n2 _, ((Keep.refl _ _).setCell (by simp) _).setCell (by simp) _, Or.inl rfl, Or.inl rfl⟩
  · have e1 : (step == 1) = false := by simpa using h1
    by_cases h2 : step = 2
    · subst h2
      have hsim : stepPop top bottom ring ⟨b, t, v, won, kind, item, 2⟩ = if b < top then ⟨top, top, ring, ⟨b, top, v, won, kind, item, 2⟩, 3, 0⟩ else ⟨top, bottom, ring, ⟨b, top, v, won, kind, item, 2⟩, 0, 0⟩ := rfl
      rw [hsim]
      clear hsim e1 h1
      by_cases h3 : b < top
      · rw [if_pos h3]
        go_enter Try.func41, Try.ntmps41
        go_wp2
        go_quiet (fail)
        go_wp2
        go_ret2
        exact ⟨rfl, pr, br, ((hd.far n1 _).drewN _).set_ 1 _, ((hr.far p1 p2 _).drewN _).far p3 p4 _, ((hc.set_ 1 _).drewN _).far n2 _, (((Keep.refl _ _).setCell (by simp) _).drewN _).setCell (by simp) _, Or.inl rfl, Or.inl rfl⟩
      · rw [if_neg h3]
        go_enter Try.func41, Try.ntmps41
        go_wp2
        go_quiet (fail)
        go_wp2
        go_ret2
        exact ⟨rfl, pr, br, (hd.far n1 _).drewN _, (hr.far p1 p2 _).drewN _, (hc.set_ 1 _).drewN _, ((Keep.refl _ _).setCell (by simp) _).drewN _, Or.inl rfl, Or.inl rfl⟩
    · have e2 : (step == 2) = false := by simpa using h2
      by_cases h3 : step = 3
      · subst h3
        have hsim : stepPop top bottom ring ⟨b, t, v, won, kind, item, 3⟩ = if t < b then ⟨top, bottom, ring, ⟨b, t, ringGet ring b, won, kind, item, 3⟩, 2, ringGet ring b⟩ else ⟨top, bottom, ring, ⟨b, t, ringGet ring b, won, kind, item, 3⟩, 0, 0⟩ := rfl
        rw [hsim]
        clear hsim e1 h1 e2 h2
        by_cases h4 : t < b
        · rw [if_pos h4]
          go_enter Try.func41, Try.ntmps41
          go_wp2
          refine wp_region_quiet_tail 14 (by kernel_rfl) (by kernel_rfl) ?_
          simp only [List.take_succ_cons, List.take_zero, List.drop_succ_cons, List.drop_zero]
          repeat (go_big_quiet_step ((go_at_call 17; exact Calls.quiet_of (get_spec _ (hr.drewN _)))))
          refine quiet_tail_end ?_
          rintro _ ⟨nq, rfl⟩
          go_wp2
          go_quiet (fail)
          go_wp2
          go_quiet (fail)
          go_wp2
          go_ret2
          exact ⟨rfl, pr, br, (((hd.drewN _).far n1 _).drewN _).drewN _, (((hr.drewN _).far p1 p2 _).drewN _).drewN _, (((hc.drewN _).set_ 2 _).drewN _).drewN _, ((((Keep.refl _ _).drewN _).setCell (by simp) _).drewN _).drewN _, Or.inl rfl, Or.inl rfl⟩
        · rw [if_neg h4]
          go_enter Try.func41, Try.ntmps41
          go_wp2
          refine wp_region_quiet_tail 14 (by kernel_rfl) (by kernel_rfl) ?_
          simp only [List.take_succ_cons, List.take_zero, List.drop_succ_cons, List.drop_zero]
          repeat (go_big_quiet_step ((go_at_call 17; exact Calls.quiet_of (get_spec _ (hr.drewN _)))))
          refine quiet_tail_end ?_
          rintro _ ⟨nq, rfl⟩
          go_wp2
          go_quiet (fail)
          go_wp2
          go_ret2
          exact ⟨rfl, pr, br, ((hd.drewN _).far n1 _).drewN _, ((hr.drewN _).far p1 p2 _).drewN _, ((hc.drewN _).set_ 2 _).drewN _, (((Keep.refl _ _).drewN _).setCell (by simp) _).drewN _, Or.inl rfl, Or.inl rfl⟩
      · have e3 : (step == 3) = false := by simpa using h3
        by_cases h4 : step = 4
        · subst h4
          have hsim : stepPop top bottom ring ⟨b, t, v, won, kind, item, 4⟩ = if top = t then ⟨t + 1, bottom, ring, ⟨b, t, v, true, kind, item, 4⟩, 0, 0⟩ else ⟨top, bottom, ring, ⟨b, t, v, false, kind, item, 4⟩, 0, 0⟩ := rfl
          rw [hsim]
          clear hsim e1 h1 e2 h2 e3 h3
          by_cases h5 : top = t
          · rw [if_pos h5]
            subst h5
            go_enter Try.func41, Try.ntmps41
            go_wp2
            refine wp_region_quiet_tail 14 (by kernel_rfl) (by kernel_rfl) ?_
            simp only [List.take_succ_cons, List.take_zero, List.drop_succ_cons, List.drop_zero]
            repeat (go_big_quiet_step (fail))
            refine quiet_tail_end ?_
            rintro _ ⟨nq, rfl⟩
            go_wp2
            go_ret2
            exact ⟨rfl, pr, br, ((hd.far n1 _).set_ 0 _).drewN _, ((hr.far p1 p2 _).far p3 p4 _).drewN _, ((hc.set_ 3 _).far n2 _).drewN _, (((Keep.refl _ _).setCell (by simp) _).setCell (by simp) _).drewN _, Or.inl rfl, Or.inl rfl⟩
          · rw [if_neg h5]
            have e5 : (top == t) = false := by simpa using h5
            clear h5
            go_enter Try.func41, Try.ntmps41
            go_wp2
            refine wp_region_quiet_tail 14 (by kernel_rfl) (by kernel_rfl) ?_
            simp only [List.take_succ_cons, List.take_zero, List.drop_succ_cons, List.drop_zero]
            repeat (go_big_quiet_step (fail))
            refine quiet_tail_end ?_
            rintro _ ⟨nq, rfl⟩
            go_wp2
            go_ret2
            exact ⟨rfl, pr, br, (hd.far n1 _).drewN _, (hr.far p1 p2 _).drewN _, (hc.set_ 3 _).drewN _, ((Keep.refl _ _).setCell (by simp) _).drewN _, Or.inl rfl, Or.inl rfl⟩
        · have e4 : (step == 4) = false := by simpa using h4
          have hsim : stepPop top bottom ring ⟨b, t, v, won, kind, item, step⟩ = if won = true then ⟨top, t + 1, ring, ⟨b, t, v, won, kind, item, step⟩, 2, v⟩ else ⟨top, t + 1, ring, ⟨b, t, v, won, kind, item, step⟩, 3, 0⟩ := by
            unfold stepPop
            rw [if_neg h1, if_neg h2, if_neg h3, if_neg h4]
          rw [hsim]
          clear hsim h1 h2 h3 h4
          cases won with
          | true =>
            rw [if_pos rfl]
            go_enter Try.func41, Try.ntmps41
            go_wp2
            go_quiet (fail)
            go_wp2
            go_ret2
            exact ⟨rfl, pr, br, (hd.set_ 1 _).drewN _, (hr.far p3 p4 _).drewN _, (hc.far n2 _).drewN _, ((Keep.refl _ _).setCell (by simp) _).drewN _, Or.inl rfl, Or.inl rfl⟩
          | false =>
            rw [if_neg (by decide)]
            go_enter Try.func41, Try.ntmps41
            go_wp2
            go_ret2
            exact ⟨rfl, pr, br, hd.set_ 1 _, hr.far p3 p4 _, hc.far n2 _, (Keep.refl _ _).setCell (by simp) _, Or.inl rfl, Or.inl rfl⟩
end Go.Proofs.Ytkeaekckblpfjaa
