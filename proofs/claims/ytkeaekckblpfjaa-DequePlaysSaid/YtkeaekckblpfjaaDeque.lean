/- Deques: what they are, and the steps of a call (the program's push, pop, steal). -/
import Derived.Test.YtkeaekckblpfjaaRows
import Derived.Test.YtkeaekckblpfjaaBase
import Derived.WalkKit
import Derived.WalkSpells
import Derived.WalkLawsBesides
import Derived.RegionTactic
import Derived.ChangeAlike
import Derived.BigQuiet
import Derived.Deep.QuietTactic
import Derived.StillTailTactics
import Derived.IntWalk
import Derived.Handy
import Derived.Lib.Hide
import Derived.Test.YtkeaekckblpfjaaTail
import Derived.Test.YtkeaekckblpfjaaRing
import Derived.Test.YtkeaekckblpfjaaGrown
import Derived.Test.YtkeaekckblpfjaaSizes
import Derived.Test.YtkeaekckblpfjaaArgs
import Derived.Test.YtkeaekckblpfjaaRingMore
import Derived.Deep.AppendLies
import Derived.Deep.RegionWith
namespace Go.Proofs.Ytkeaekckblpfjaa
open Go.RowKit





/-! ### What a deque is, in plain words -/
structure DCall where
  b : Int
  t : Int
  v : Int
  won : Bool
  kind : Int
  item : Int
  step : Int
structure SR where
  top : Int
  bottom : Int
  ring : List Int
  c : DCall
  a : Int
  v : Int
def stepPush (top bottom : Int) (ring : List Int) (c : DCall) : SR :=
  if c.step = 1 then ⟨top, bottom, ring, { c with b := bottom }, 0, 0⟩
  else if c.step = 2 then ⟨top, bottom, if (ring.length : Int) - 1 ≤ c.b - top then ringGrown ring top c.b else ring, { c with t := top }, 0, 0⟩
  else if c.step = 3 then ⟨top, bottom, ringPut ring c.b c.item, c, 0, 0⟩
  else ⟨top, c.b + 1, ring, c, 1, 0⟩
def stepPop (top bottom : Int) (ring : List Int) (c : DCall) : SR :=
  if c.step = 1 then ⟨top, bottom - 1, ring, { c with b := bottom - 1 }, 0, 0⟩
  else if c.step = 2 then (if c.b < top then ⟨top, top, ring, { c with t := top }, 3, 0⟩ else ⟨top, bottom, ring, { c with t := top }, 0, 0⟩)
  else if c.step = 3 then (if c.t < c.b then ⟨top, bottom, ring, { c with v := ringGet ring c.b }, 2, ringGet ring c.b⟩ else ⟨top, bottom, ring, { c with v := ringGet ring c.b }, 0, 0⟩)
  else if c.step = 4 then (if top = c.t then ⟨c.t + 1, bottom, ring, { c with won := true }, 0, 0⟩ else ⟨top, bottom, ring, { c with won := false }, 0, 0⟩)
  else if c.won = true then ⟨top, c.t + 1, ring, c, 2, c.v⟩ else ⟨top, c.t + 1, ring, c, 3, 0⟩
def stepSteal (top bottom : Int) (ring : List Int) (c : DCall) : SR :=
  if c.step = 1 then ⟨top, bottom, ring, { c with t := top }, 0, 0⟩
  else if c.step = 2 then (if bottom - c.t < 1 then ⟨top, bottom, ring, { c with b := bottom }, 3, 0⟩ else ⟨top, bottom, ring, { c with b := bottom }, 0, 0⟩)
  else if c.step = 3 then ⟨top, bottom, ring, { c with v := ringGet ring c.t }, 0, 0⟩
  else if top = c.t then ⟨c.t + 1, bottom, ring, c, 2, c.v⟩ else ⟨top, bottom, ring, c, 4, 0⟩
def callCells (c : DCall) : List Value := [.int .i64 c.b, .int .i64 c.t, .int .i64 c.v, .bool c.won, .int .i64 c.kind, .int .i64 c.item, .int .i64 c.step]
/-- the numbers lie in a range where nothing wraps -/
def SmallDQ (top bottom : Int) (c : DCall) : Prop :=
  -1000000000 ≤ top ∧ top ≤ 1000000000 ∧ -1000000000 ≤ bottom ∧ bottom ≤ 1000000000 ∧ -1000000000 ≤ c.b ∧ c.b ≤ 1000000000 ∧ -1000000000 ≤ c.t ∧ c.t ≤ 1000000000
/-- what a step leaves: the deque's block (its first three cells, the others as they were), its ring, the call's block -/
def StepPost (pd pc pr br : Nat) (rest : List Value) (w : World) (r : SR) (e : Ending) (w' : World) : Prop :=
  e = .returned (.tuple #[.int .i64 r.a, .int .i64 r.v]) ∧ ∃ pr' br', Blk w' pd 67 (.int .i64 r.top :: .int .i64 r.bottom :: .pointer (some ⟨pr', 0, none⟩) :: rest) ∧ RingAt 62 w' pr' br' r.ring ∧ Blk w' pc 71 (callCells r.c) ∧ Keep [pd, pc, br] w w' ∧ (br' = br ∨ w.heap.size ≤ br') ∧ (pr' = pr ∨ w.heap.size ≤ pr')

set_option maxHeartbeats 1000000 in
theorem steal_spec {w : World} {pd pc pr br : Nat} {rest : List Value} {top bottom : Int} {ring : List Int} {c : DCall} (hd : Blk w pd 67 (.int .i64 top :: .int .i64 bottom :: .pointer (some ⟨pr, 0, none⟩) :: rest))
    (hr : RingAt 62 w pr br ring) (hc : Blk w pc 71 (callCells c)) (hs : SmallDQ top bottom c) :
    Calls Try.prog 39 #[.pointer (some ⟨pd, 0, none⟩), .pointer (some ⟨pc, 0, none⟩)] w (StepPost pd pc pr br rest w (stepSteal top bottom ring c)) := by
  obtain ⟨b, t, v, won, kind, item, step⟩ := c
  have n1 : pd ≠ pc := hd.ne_ hc (by decide)
  have n2 := n1.symm
  have d0 : w.cell? ⟨pd, 0, none⟩ = some (.int .i64 top) := hd.cell 0
  have d1 : w.cell? ⟨pd, 1, none⟩ = some (.int .i64 bottom) := hd.cell 1
  have d2 : w.cell? ⟨pd, 2, none⟩ = some (.pointer (some ⟨pr, 0, none⟩)) := hd.cell 2
  have df0 := hd.frozen 0
  have c0 : w.cell? ⟨pc, 0, none⟩ = some (.int .i64 b) := hc.cell 0
  have c1 : w.cell? ⟨pc, 1, none⟩ = some (.int .i64 t) := hc.cell 1
  have c2 : w.cell? ⟨pc, 2, none⟩ = some (.int .i64 v) := hc.cell 2
  have c6 : w.cell? ⟨pc, 6, none⟩ = some (.int .i64 step) := hc.cell 6
  have cf0 := hc.frozen 0
  have cf1 := hc.frozen 1
  have cf2 := hc.frozen 2
  obtain ⟨s1, s2, s3, s4, s5, s6, s7, s8⟩ := hs
  simp only at s5 s6 s7 s8
  have p1 : pr ≠ pc := hr.head.ne_ hc (by decide)
  have p2 : br ≠ pc := hr.body.ne_ hc (by decide)
  have p3 : pr ≠ pd := hr.head.ne_ hd (by decide)
  have p4 : br ≠ pd := hr.body.ne_ hd (by decide)
  by_cases h1 : step = 1
  · subst h1
    go_enter Try.func39, Try.ntmps39
    go_wp2
    go_ret2
    exact ⟨rfl, pr, br, hd.far n1 _, hr.far p1 p2 _, hc.set_ 1 _, (Keep.refl _ _).setCell (by simp) _, Or.inl rfl, Or.inl rfl⟩
  · have e1 : (step == 1) = false := by simpa using h1
    by_cases h2 : step = 2
    · subst h2
      have hsim : stepSteal top bottom ring ⟨b, t, v, won, kind, item, 2⟩ = if bottom - t < 1 then ⟨top, bottom, ring, ⟨bottom, t, v, won, kind, item, 2⟩, 3, 0⟩ else ⟨top, bottom, ring, ⟨bottom, t, v, won, kind, item, 2⟩, 0, 0⟩ := rfl
      rw [hsim]
      have hw : IntKind.i64.wrap (bottom - t) = bottom - t := IntWalk.i64_in _ (by omega)
      clear hsim e1 h1
      by_cases h3 : bottom - t < 1
      · rw [if_pos h3]
        go_enter Try.func39, Try.ntmps39
        go_wp2
        go_quiet (fail)
        go_wp2
        go_ret2
        exact ⟨rfl, pr, br, (hd.far n1 _).drewN _, (hr.far p1 p2 _).drewN _, (hc.set_ 0 _).drewN _, ((Keep.refl _ _).setCell (by simp) _).drewN _, Or.inl rfl, Or.inl rfl⟩
      · rw [if_neg h3]
        go_enter Try.func39, Try.ntmps39
        go_wp2
        go_quiet (fail)
        go_wp2
        go_ret2
        exact ⟨rfl, pr, br, (hd.far n1 _).drewN _, (hr.far p1 p2 _).drewN _, (hc.set_ 0 _).drewN _, ((Keep.refl _ _).setCell (by simp) _).drewN _, Or.inl rfl, Or.inl rfl⟩
    · have e2 : (step == 2) = false := by simpa using h2
      by_cases h3 : step = 3
      · subst h3
        have hsim : stepSteal top bottom ring ⟨b, t, v, won, kind, item, 3⟩ = ⟨top, bottom, ring, ⟨b, t, ringGet ring t, won, kind, item, 3⟩, 0, 0⟩ := rfl
        rw [hsim]
        clear hsim e1 h1 e2 h2
        go_enter Try.func39, Try.ntmps39
        go_wp2
        refine wp_region_quiet_tail 14 (by kernel_rfl) (by kernel_rfl) ?_
        simp only [List.take_succ_cons, List.take_zero, List.drop_succ_cons, List.drop_zero]
        repeat (go_big_quiet_step ((go_at_call 17; exact Calls.quiet_of (get_spec _ (hr.drewN _)))))
        refine quiet_tail_end ?_
        rintro _ ⟨nq, rfl⟩
        go_wp2
        go_ret2
        exact ⟨rfl, pr, br, (hd.far n1 _).drewN _, (hr.far p1 p2 _).drewN _, (hc.set_ 2 _).drewN _, ((Keep.refl _ _).setCell (by simp) _).drewN _, Or.inl rfl, Or.inl rfl⟩
      · have e3 : (step == 3) = false := by simpa using h3
        have hsim : stepSteal top bottom ring ⟨b, t, v, won, kind, item, step⟩ = if top = t then ⟨t + 1, bottom, ring, ⟨b, t, v, won, kind, item, step⟩, 2, v⟩ else ⟨top, bottom, ring, ⟨b, t, v, won, kind, item, step⟩, 4, 0⟩ := by
          unfold stepSteal
          rw [if_neg h1, if_neg h2, if_neg h3]
        rw [hsim]
        clear hsim h1 h2 h3
        by_cases h4 : top = t
        · rw [if_pos h4]
          subst h4
          go_enter Try.func39, Try.ntmps39
          go_wp2
          go_quiet (fail)
          go_wp2
          go_quiet (fail)
          go_wp2
          go_ret2
          exact ⟨rfl, pr, br, ((hd.drewN _).set_ 0 _).drewN _, ((hr.drewN _).far p3 p4 _).drewN _, ((hc.drewN _).far n2 _).drewN _, (((Keep.refl _ _).drewN _).setCell (by simp) _).drewN _, Or.inl rfl, Or.inl rfl⟩
        · rw [if_neg h4]
          have e4 : (top == t) = false := by simpa using h4
          clear h4
          go_enter Try.func39, Try.ntmps39
          go_wp2
          go_quiet (fail)
          go_wp2
          go_ret2
          exact ⟨rfl, pr, br, hd.drewN _, hr.drewN _, hc.drewN _, (Keep.refl _ _).drewN _, Or.inl rfl, Or.inl rfl⟩
set_option maxHeartbeats 1000000 in
theorem push_spec {w : World} {pd pc pr br : Nat} {rest : List Value} {top bottom : Int} {ring : List Int} {c : DCall} (hd : Blk w pd 67 (.int .i64 top :: .int .i64 bottom :: .pointer (some ⟨pr, 0, none⟩) :: rest))
    (hr : RingAt 62 w pr br ring) (hc : Blk w pc 71 (callCells c)) (hs : SmallDQ top bottom c) :
    Calls Try.prog 40 #[.pointer (some ⟨pd, 0, none⟩), .pointer (some ⟨pc, 0, none⟩)] w (StepPost pd pc pr br rest w (stepPush top bottom ring c)) := by
  obtain ⟨b, t, v, won, kind, item, step⟩ := c
  have n1 : pd ≠ pc := hd.ne_ hc (by decide)
  have n2 := n1.symm
  have d0 : w.cell? ⟨pd, 0, none⟩ = some (.int .i64 top) := hd.cell 0
  have d1 : w.cell? ⟨pd, 1, none⟩ = some (.int .i64 bottom) := hd.cell 1
  have d2 : w.cell? ⟨pd, 2, none⟩ = some (.pointer (some ⟨pr, 0, none⟩)) := hd.cell 2
  have df0 := hd.frozen 1
  have c0 : w.cell? ⟨pc, 0, none⟩ = some (.int .i64 b) := hc.cell 0
  have c1 : w.cell? ⟨pc, 1, none⟩ = some (.int .i64 t) := hc.cell 1
  have c5 : w.cell? ⟨pc, 5, none⟩ = some (.int .i64 item) := hc.cell 5
  have c6 : w.cell? ⟨pc, 6, none⟩ = some (.int .i64 step) := hc.cell 6
  have cf0 := hc.frozen 0
  have cf1 := hc.frozen 1
  obtain ⟨s1, s2, s3, s4, s5, s6, s7, s8⟩ := hs
  simp only at s5 s6 s7 s8
  have p1 : pr ≠ pc := hr.head.ne_ hc (by decide)
  have p2 : br ≠ pc := hr.body.ne_ hc (by decide)
  have p3 : pr ≠ pd := hr.head.ne_ hd (by decide)
  have p4 : br ≠ pd := hr.body.ne_ hd (by decide)
  have hlen : (ring.length : Int) ≤ 65536 := by have := hr.p2.le; omega
  by_cases h1 : step = 1
  · subst h1
    go_enter Try.func40, Try.ntmps40
    go_wp2
    go_ret2
    exact ⟨rfl, pr, br, hd.far n1 _, hr.far p1 p2 _, hc.set_ 0 _, (Keep.refl _ _).setCell (by simp) _, Or.inl rfl, Or.inl rfl⟩
  · have e1 : (step == 1) = false := by simpa using h1
    by_cases h2 : step = 2
    · subst h2
      have hsim : stepPush top bottom ring ⟨b, t, v, won, kind, item, 2⟩ = ⟨top, bottom, if (ring.length : Int) - 1 ≤ b - top then ringGrown ring top b else ring, ⟨b, top, v, won, kind, item, 2⟩, 0, 0⟩ := rfl
      rw [hsim]
      have hw : IntKind.i64.wrap (b - top) = b - top := IntWalk.i64_in _ (by omega)
      have hw2 : IntKind.i64.wrap ((ring.length : Int) - 1) = (ring.length : Int) - 1 := IntWalk.i64_in _ (by omega)
      clear hsim e1 h1
      have hd' := hd.far (p := ⟨pc, 1, none⟩) n1 (.int .i64 top)
      have hr' := hr.far (q := ⟨pc, 1, none⟩) p1 p2 (.int .i64 top)
      have hc' := hc.set_ 1 (.int .i64 top)
      by_cases h3 : (ring.length : Int) - 1 ≤ b - top
      · rw [if_pos h3]
        go_enter Try.func40, Try.ntmps40
        go_wp2
        go_quiet ((go_at_call 15; exact Calls.quiet_of (size_spec (hr'.drewN _))))
        go_wp2
        go_region_with (go_at_call 20; go_must (refine (grown_spec top b (hr'.drewN _) (by omega) (by omega)).mono ?_; rintro e w3 ⟨p', b', rfl, hp', hb', hr3, hk3⟩; have hd3 := (hd'.drewN _).keep hk3 (by simp); have q0 : w3.cell? ⟨pd, 2, none⟩ = some (.pointer (some ⟨pr, 0, none⟩)) := hd3.cell 2; have q1 := hd3.frozen 2))
        all_goals
          go_wp2
          go_ret2
          have hc3 := (hc'.drewN _).keep hk3 (by simp)
          exact ⟨rfl, p', b', hd3.set_ 2 _, hr3.far (by show p' ≠ pd; have := hd.lt; simp only [World.heap_drewN, World.size_setCell] at hp'; omega) (by show b' ≠ pd; have := hd.lt; simp only [World.heap_drewN, World.size_setCell] at hb'; omega) _, hc3.far n2 _,
            ((((Keep.refl _ _).setCell (by simp) _).drewN _).trans hk3 (by simp)).setCell (by simp) _, Or.inr (by simp only [World.heap_drewN, World.size_setCell] at hb'; exact hb'), Or.inr (by simp only [World.heap_drewN, World.size_setCell] at hp'; exact hp')⟩
      · rw [if_neg h3]
        go_enter Try.func40, Try.ntmps40
        go_wp2
        go_quiet ((go_at_call 15; exact Calls.quiet_of (size_spec (hr'.drewN _))))
        go_wp2
        go_ret2
        exact ⟨rfl, pr, br, hd'.drewN _, hr'.drewN _, hc'.drewN _, ((Keep.refl _ _).setCell (by simp) _).drewN _, Or.inl rfl, Or.inl rfl⟩
    · have e2 : (step == 2) = false := by simpa using h2
      by_cases h3 : step = 3
      · subst h3
        have hsim : stepPush top bottom ring ⟨b, t, v, won, kind, item, 3⟩ = ⟨top, bottom, ringPut ring b item, ⟨b, t, v, won, kind, item, 3⟩, 0, 0⟩ := rfl
        rw [hsim]
        clear hsim e1 h1 e2 h2
        go_enter Try.func40, Try.ntmps40
        go_wp2
        refine wp_region_quiet_tail 13 (by kernel_rfl) (by kernel_rfl) ?_
        simp only [List.take_succ_cons, List.take_zero, List.drop_succ_cons, List.drop_zero]
        repeat (go_big_quiet_step (fail))
        refine quiet_tail_end ?_
        rintro _ ⟨nq, rfl⟩
        go_wp2_with fail
        refine (put_spec _ _ (hr.drewN _)).mono ?_
        rintro e w3 ⟨rfl, hr3, hk3⟩
        have hd3 := (hd.drewN nq).keep hk3 (by simpa using p4.symm)
        have hc3 := (hc.drewN nq).keep hk3 (by simpa using p2.symm)
        have hk4 : Keep [pd, pc, br] w w3 := ((Keep.refl _ _).drewN nq).trans hk3 (by simp)
        go_wp2
        go_ret2
        exact ⟨rfl, pr, br, hd3, hr3, hc3, hk4, Or.inl rfl, Or.inl rfl⟩
      · have e3 : (step == 3) = false := by simpa using h3
        have hsim : stepPush top bottom ring ⟨b, t, v, won, kind, item, step⟩ = ⟨top, b + 1, ring, ⟨b, t, v, won, kind, item, step⟩, 1, 0⟩ := by
          unfold stepPush
          rw [if_neg h1, if_neg h2, if_neg h3]
        rw [hsim]
        clear hsim h1 h2 h3
        go_enter Try.func40, Try.ntmps40
        go_wp2
        go_ret2
        exact ⟨rfl, pr, br, hd.set_ 1 _, hr.far p3 p4 _, hc.far n2 _, (Keep.refl _ _).setCell (by simp) _, Or.inl rfl, Or.inl rfl⟩
end Go.Proofs.Ytkeaekckblpfjaa
