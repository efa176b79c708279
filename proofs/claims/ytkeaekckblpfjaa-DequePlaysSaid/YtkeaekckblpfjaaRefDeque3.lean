/- The reference's deques: pop, steal. -/
import Derived.Test.YtkeaekckblpfjaaRows
import Derived.WalkKit
import Derived.WalkSpells
import Derived.WalkLawsBesides
import Derived.RegionTactic
import Derived.ChangeAlike
import Derived.BigQuiet
import Derived.Deep.QuietTactic
import Derived.StillTailTactics
import Derived.IntWalk
import Derived.Handy
import Derived.Lib.Hide
import Derived.Deep.AppendLies
import Derived.Deep.RegionWith
import Derived.Test.YtkeaekckblpfjaaBase
import Derived.Test.YtkeaekckblpfjaaTail
import Derived.Test.YtkeaekckblpfjaaRing
import Derived.Test.YtkeaekckblpfjaaGrown
import Derived.Test.YtkeaekckblpfjaaArgs
import Derived.Test.YtkeaekckblpfjaaAppend
import Derived.Test.YtkeaekckblpfjaaRingMore
import Derived.Test.YtkeaekckblpfjaaDeque
import Derived.Test.YtkeaekckblpfjaaDequePop
import Derived.Test.YtkeaekckblpfjaaDequeObj
import Derived.Test.YtkeaekckblpfjaaDequeStep
import Derived.Test.YtkeaekckblpfjaaDequeStep2
import Derived.Test.YtkeaekckblpfjaaDequeItems
import Derived.Test.YtkeaekckblpfjaaRefDeque
import Derived.Test.YtkeaekckblpfjaaRefDeque2
namespace Go.Proofs.Ytkeaekckblpfjaa
open Go.RowKit

set_option maxHeartbeats 4000000 in
set_option maxRecDepth 100000 in
theorem rpop_spec {w : World} {pd pr br n : Nat} {q : DQ} {c : DCall} (h : RDequeIn w pd pr br q) (hc : q.calls[n]? = some (some c)) (hs : SmallDQ q.top q.bottom c) (hwon : c.step = 4 → c.won = false) :
    Calls Try.prog 43 #[.pointer (some ⟨pd, 0, none⟩), .pointer (some ⟨pd, 3 + n * 7, none⟩)] w (RPost pd pr br w (.tuple #[.int .i64 (stepPop q.top q.bottom q.ring c).a, .int .i64 (stepPop q.top q.bottom q.ring c).v]) (qset q n (stepPop q.top q.bottom q.ring c))) := by
  obtain ⟨top, bottom, ring, l⟩ := q
  obtain ⟨b, t, v, won, kind, item, step⟩ := c
  simp only at hc hs hwon
  have d0 : w.cell? ⟨pd, 0, none⟩ = some (.int .i64 top) := h.head.cell 0
  have d1 : w.cell? ⟨pd, 1, none⟩ = some (.int .i64 bottom) := h.head.cell 1
  have d2 : w.cell? ⟨pd, 2, none⟩ = some (.pointer (some ⟨pr, 0, none⟩)) := h.head.cell 2
  have c2 : w.cell? ⟨pd, 3 + n * 7 + 2, none⟩ = some (.int .i64 step) := h.field hc (j := 2) (by omega)
  have c3 : w.cell? ⟨pd, 3 + n * 7 + 3, none⟩ = some (.int .i64 b) := h.field hc (j := 3) (by omega)
  have c4 : w.cell? ⟨pd, 3 + n * 7 + 4, none⟩ = some (.int .i64 t) := h.field hc (j := 4) (by omega)
  have c5 : w.cell? ⟨pd, 3 + n * 7 + 5, none⟩ = some (.int .i64 v) := h.field hc (j := 5) (by omega)
  have c6 : w.cell? ⟨pd, 3 + n * 7 + 6, none⟩ = some (.int .i64 (if won then 1 else 0)) := h.field hc (j := 6) (by omega)
  have fr : ∀ i, w.frozen? ⟨pd, i, none⟩ = false := fun i => h.head.frozen i
  obtain ⟨s1, s2, s3, s4, s5, s6, s7, s8⟩ := hs
  simp only at s1 s2 s3 s4 s5 s6 s7 s8
  have H := Lib.hid h
  have Hc := Lib.hid hc
  clear h hc
  have lsame := Lib.hid (lset_same Hc.out)
  by_cases h1 : step = 1
  · subst h1
    clear hwon c6
    go_enter Try.func43, Try.ntmps43
    go_wp2
    go_ret2
    exact ⟨rfl, pr, br, (H.out.setC Hc.out 3 (by omega) (bottom - 1) ⟨bottom - 1, t, v, won, kind, item, 1⟩ rfl rfl).setBot (bottom - 1), ((Keep.refl _ _).setCell (by simp) _).setCell (by simp) _, Or.inl rfl, Or.inl rfl⟩
  · have e1 : (step == 1) = false := by simpa using h1
    by_cases h2 : step = 2
    · subst h2
      have hsim : stepPop top bottom ring ⟨b, t, v, won, kind, item, 2⟩ = if b < top then ⟨top, top, ring, ⟨b, top, v, won, kind, item, 2⟩, 3, 0⟩ else ⟨top, bottom, ring, ⟨b, top, v, won, kind, item, 2⟩, 0, 0⟩ := rfl
      rw [hsim]
      have h' := Lib.hid (H.out.setC Hc.out 4 (by omega) top ⟨b, top, v, won, kind, item, 2⟩ rfl rfl)
      clear hsim e1 h1 hwon c6
      by_cases h3 : b < top
      · rw [if_pos h3]
        go_enter Try.func43, Try.ntmps43
        go_wp2
        go_quiet (fail)
        go_wp2
        go_ret2
        exact ⟨rfl, pr, br, (h'.out.drewN _).setBot _, (((Keep.refl _ _).setCell (by simp) _).drewN _).setCell (by simp) _, Or.inl rfl, Or.inl rfl⟩
      · rw [if_neg h3]
        go_enter Try.func43, Try.ntmps43
        go_wp2
        go_quiet (fail)
        go_wp2
        go_ret2
        exact ⟨rfl, pr, br, h'.out.drewN _, ((Keep.refl _ _).setCell (by simp) _).drewN _, Or.inl rfl, Or.inl rfl⟩
    · have e2 : (step == 2) = false := by simpa using h2
      by_cases h3 : step = 3
      · subst h3
        have hsim : stepPop top bottom ring ⟨b, t, v, won, kind, item, 3⟩ = if t < b then ⟨top, bottom, ring, ⟨b, t, ringGet ring b, won, kind, item, 3⟩, 2, ringGet ring b⟩ else ⟨top, bottom, ring, ⟨b, t, ringGet ring b, won, kind, item, 3⟩, 0, 0⟩ := rfl
        rw [hsim]
        have hr3 := H.out.ring
        have h' := fun nq => (H.out.drewN nq).setC Hc.out 5 (by omega) (ringGet ring b) ⟨b, t, ringGet ring b, won, kind, item, 3⟩ rfl rfl
        have H' := Lib.hid h'
        clear hsim e1 h1 e2 h2 hwon c6 h'
        by_cases h4 : t < b
        · rw [if_pos h4]
          go_enter Try.func43, Try.ntmps43
          go_wp2
          refine wp_region_quiet_tail 12 (by kernel_rfl) (by kernel_rfl) ?_
          simp only [List.take_succ_cons, List.take_zero, List.drop_succ_cons, List.drop_zero]
          repeat (go_big_quiet_step ((go_at_call 22; exact Calls.quiet_of (rget_spec _ (hr3.drewN _)))))
          refine quiet_tail_end ?_
          rintro _ ⟨nq, rfl⟩
          go_wp2
          go_quiet (fail)
          go_wp2
          go_quiet (fail)
          go_wp2
          go_ret2
          exact ⟨rfl, pr, br, ((H'.out _).drewN _).drewN _, ((((Keep.refl _ _).drewN _).setCell (by simp) _).drewN _).drewN _, Or.inl rfl, Or.inl rfl⟩
        · rw [if_neg h4]
          go_enter Try.func43, Try.ntmps43
          go_wp2
          refine wp_region_quiet_tail 12 (by kernel_rfl) (by kernel_rfl) ?_
          simp only [List.take_succ_cons, List.take_zero, List.drop_succ_cons, List.drop_zero]
          repeat (go_big_quiet_step ((go_at_call 22; exact Calls.quiet_of (rget_spec _ (hr3.drewN _)))))
          refine quiet_tail_end ?_
          rintro _ ⟨nq, rfl⟩
          go_wp2
          go_quiet (fail)
          go_wp2
          go_ret2
          exact ⟨rfl, pr, br, (H'.out _).drewN _, (((Keep.refl _ _).drewN _).setCell (by simp) _).drewN _, Or.inl rfl, Or.inl rfl⟩
      · have e3 : (step == 3) = false := by simpa using h3
        by_cases h4 : step = 4
        · subst h4
          obtain rfl := hwon rfl
          have hsim : stepPop top bottom ring ⟨b, t, v, false, kind, item, 4⟩ = if top = t then ⟨t + 1, bottom, ring, ⟨b, t, v, true, kind, item, 4⟩, 0, 0⟩ else ⟨top, bottom, ring, ⟨b, t, v, false, kind, item, 4⟩, 0, 0⟩ := rfl
          rw [hsim]
          clear hsim e1 h1 e2 h2 e3 h3 hwon
          by_cases h5 : top = t
          · rw [if_pos h5]
            subst h5
            go_enter Try.func43, Try.ntmps43
            go_wp2
            go_quiet (fail)
            go_wp2
            go_ret2
            exact ⟨rfl, pr, br, ((H.out.drewN _).setTop _).setC Hc.out 6 (by omega) 1 _ rfl rfl, (((Keep.refl _ _).drewN _).setCell (by simp) _).setCell (by simp) _, Or.inl rfl, Or.inl rfl⟩
          · rw [if_neg h5]
            have e5 : (top == t) = false := by simpa using h5
            unfold qset
            rw [show l.set n (some ⟨b, t, v, false, kind, item, 4⟩) = l from lsame.out]
            clear h5
            go_enter Try.func43, Try.ntmps43
            go_wp2
            go_quiet (fail)
            go_wp2
            go_ret2
            exact ⟨rfl, pr, br, H.out.drewN _, (Keep.refl _ _).drewN _, Or.inl rfl, Or.inl rfl⟩
        · have e4 : (step == 4) = false := by simpa using h4
          have hsim : stepPop top bottom ring ⟨b, t, v, won, kind, item, step⟩ = if won = true then ⟨top, t + 1, ring, ⟨b, t, v, won, kind, item, step⟩, 2, v⟩ else ⟨top, t + 1, ring, ⟨b, t, v, won, kind, item, step⟩, 3, 0⟩ := by
            unfold stepPop
            rw [if_neg h1, if_neg h2, if_neg h3, if_neg h4]
          rw [hsim]
          clear hsim h1 h2 h3 h4 hwon
          unfold qset
          cases won with
          | true =>
            rw [if_pos rfl]
            have c6' : w.cell? ⟨pd, 3 + n * 7 + 6, none⟩ = some (.int .i64 1) := c6
            rw [show l.set n (some ⟨b, t, v, true, kind, item, step⟩) = l from lsame.out]
            clear c6
            go_enter Try.func43, Try.ntmps43
            go_wp2
            go_quiet (fail)
            go_wp2
            go_ret2
            exact ⟨rfl, pr, br, (H.out.setBot _).drewN _, ((Keep.refl _ _).setCell (by simp) _).drewN _, Or.inl rfl, Or.inl rfl⟩
          | false =>
            rw [if_neg (by decide)]
            have c6' : w.cell? ⟨pd, 3 + n * 7 + 6, none⟩ = some (.int .i64 0) := c6
            rw [show l.set n (some ⟨b, t, v, false, kind, item, step⟩) = l from lsame.out]
            clear c6
            go_enter Try.func43, Try.ntmps43
            go_wp2
            go_ret2
            exact ⟨rfl, pr, br, H.out.setBot _, (Keep.refl _ _).setCell (by simp) _, Or.inl rfl, Or.inl rfl⟩
set_option maxHeartbeats 4000000 in
set_option maxRecDepth 100000 in
theorem rsteal_spec {w : World} {pd pr br n : Nat} {q : DQ} {c : DCall} (h : RDequeIn w pd pr br q) (hc : q.calls[n]? = some (some c)) (hs : SmallDQ q.top q.bottom c) :
    Calls Try.prog 44 #[.pointer (some ⟨pd, 0, none⟩), .pointer (some ⟨pd, 3 + n * 7, none⟩)] w (RPost pd pr br w (.tuple #[.int .i64 (stepSteal q.top q.bottom q.ring c).a, .int .i64 (stepSteal q.top q.bottom q.ring c).v]) (qset q n (stepSteal q.top q.bottom q.ring c))) := by
  obtain ⟨top, bottom, ring, l⟩ := q
  obtain ⟨b, t, v, won, kind, item, step⟩ := c
  simp only at hc hs
  have d0 : w.cell? ⟨pd, 0, none⟩ = some (.int .i64 top) := h.head.cell 0
  have d1 : w.cell? ⟨pd, 1, none⟩ = some (.int .i64 bottom) := h.head.cell 1
  have d2 : w.cell? ⟨pd, 2, none⟩ = some (.pointer (some ⟨pr, 0, none⟩)) := h.head.cell 2
  have c2 : w.cell? ⟨pd, 3 + n * 7 + 2, none⟩ = some (.int .i64 step) := h.field hc (j := 2) (by omega)
  have c3 : w.cell? ⟨pd, 3 + n * 7 + 3, none⟩ = some (.int .i64 b) := h.field hc (j := 3) (by omega)
  have c4 : w.cell? ⟨pd, 3 + n * 7 + 4, none⟩ = some (.int .i64 t) := h.field hc (j := 4) (by omega)
  have c5 : w.cell? ⟨pd, 3 + n * 7 + 5, none⟩ = some (.int .i64 v) := h.field hc (j := 5) (by omega)
  have fr : ∀ i, w.frozen? ⟨pd, i, none⟩ = false := fun i => h.head.frozen i
  obtain ⟨s1, s2, s3, s4, s5, s6, s7, s8⟩ := hs
  simp only at s1 s2 s3 s4 s5 s6 s7 s8
  have H := Lib.hid h
  have Hc := Lib.hid hc
  clear h hc
  have lsame := Lib.hid (lset_same Hc.out)
  by_cases h1 : step = 1
  · subst h1
    go_enter Try.func44, Try.ntmps44
    go_wp2
    go_ret2
    exact ⟨rfl, pr, br, H.out.setC Hc.out 4 (by omega) top _ rfl rfl, (Keep.refl _ _).setCell (by simp) _, Or.inl rfl, Or.inl rfl⟩
  · have e1 : (step == 1) = false := by simpa using h1
    by_cases h2 : step = 2
    · subst h2
      have hsim : stepSteal top bottom ring ⟨b, t, v, won, kind, item, 2⟩ = if bottom - t < 1 then ⟨top, bottom, ring, ⟨bottom, t, v, won, kind, item, 2⟩, 3, 0⟩ else ⟨top, bottom, ring, ⟨bottom, t, v, won, kind, item, 2⟩, 0, 0⟩ := rfl
      rw [hsim]
      have h' := Lib.hid (H.out.setC Hc.out 3 (by omega) bottom ⟨bottom, t, v, won, kind, item, 2⟩ rfl rfl)
      have hw : IntKind.i64.wrap (bottom - t) = bottom - t := IntWalk.i64_in _ (by omega)
      clear hsim e1 h1
      by_cases h3 : bottom - t < 1
      · rw [if_pos h3]
        go_enter Try.func44, Try.ntmps44
        go_wp2
        go_quiet (fail)
        go_wp2
        go_ret2
        exact ⟨rfl, pr, br, h'.out.drewN _, ((Keep.refl _ _).setCell (by simp) _).drewN _, Or.inl rfl, Or.inl rfl⟩
      · rw [if_neg h3]
        go_enter Try.func44, Try.ntmps44
        go_wp2
        go_quiet (fail)
        go_wp2
        go_ret2
        exact ⟨rfl, pr, br, h'.out.drewN _, ((Keep.refl _ _).setCell (by simp) _).drewN _, Or.inl rfl, Or.inl rfl⟩
    · have e2 : (step == 2) = false := by simpa using h2
      by_cases h3 : step = 3
      · subst h3
        have hsim : stepSteal top bottom ring ⟨b, t, v, won, kind, item, 3⟩ = ⟨top, bottom, ring, ⟨b, t, ringGet ring t, won, kind, item, 3⟩, 0, 0⟩ := rfl
        rw [hsim]
        have hr3 := H.out.ring
        have h' := fun nq => (H.out.drewN nq).setC Hc.out 5 (by omega) (ringGet ring t) ⟨b, t, ringGet ring t, won, kind, item, 3⟩ rfl rfl
        have H' := Lib.hid h'
        clear hsim e1 h1 e2 h2 h'
        go_enter Try.func44, Try.ntmps44
        go_wp2
        refine wp_region_quiet_tail 12 (by kernel_rfl) (by kernel_rfl) ?_
        simp only [List.take_succ_cons, List.take_zero, List.drop_succ_cons, List.drop_zero]
        repeat (go_big_quiet_step ((go_at_call 22; exact Calls.quiet_of (rget_spec _ (hr3.drewN _)))))
        refine quiet_tail_end ?_
        rintro _ ⟨nq, rfl⟩
        go_wp2
        go_ret2
        exact ⟨rfl, pr, br, H'.out _, ((Keep.refl _ _).drewN _).setCell (by simp) _, Or.inl rfl, Or.inl rfl⟩
      · have e3 : (step == 3) = false := by simpa using h3
        have hsim : stepSteal top bottom ring ⟨b, t, v, won, kind, item, step⟩ = if top = t then ⟨t + 1, bottom, ring, ⟨b, t, v, won, kind, item, step⟩, 2, v⟩ else ⟨top, bottom, ring, ⟨b, t, v, won, kind, item, step⟩, 4, 0⟩ := by
          unfold stepSteal
          rw [if_neg h1, if_neg h2, if_neg h3]
        rw [hsim]
        clear hsim h1 h2 h3
        unfold qset
        by_cases h5 : top = t
        · rw [if_pos h5]
          subst h5
          rw [show l.set n (some ⟨b, top, v, won, kind, item, step⟩) = l from lsame.out]
          go_enter Try.func44, Try.ntmps44
          go_wp2
          go_quiet (fail)
          go_wp2
          go_quiet (fail)
          go_wp2
          go_ret2
          exact ⟨rfl, pr, br, ((H.out.drewN _).setTop _).drewN _, (((Keep.refl _ _).drewN _).setCell (by simp) _).drewN _, Or.inl rfl, Or.inl rfl⟩
        · rw [if_neg h5]
          have e5 : (top == t) = false := by simpa using h5
          have e6 : (top != t) = true := by simpa using h5
          rw [show l.set n (some ⟨b, t, v, won, kind, item, step⟩) = l from lsame.out]
          clear h5
          go_enter Try.func44, Try.ntmps44
          go_wp2
          go_quiet (fail)
          go_wp2
          go_ret2
          exact ⟨rfl, pr, br, H.out.drewN _, (Keep.refl _ _).drewN _, Or.inl rfl, Or.inl rfl⟩
end Go.Proofs.Ytkeaekckblpfjaa
