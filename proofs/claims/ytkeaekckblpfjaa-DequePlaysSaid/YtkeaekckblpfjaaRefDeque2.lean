/- The reference's deques: NewDeque, push, pop, steal. -/
import Derived.Test.YtkeaekckblpfjaaRows
import Derived.WalkKit
import Derived.WalkSpells
import Derived.WalkLawsBesides
import Derived.RegionTactic
import Derived.ChangeAlike
import Derived.BigQuiet
import Derived.Deep.QuietTactic
import Derived.StillTailTactics
import Derived.IntWalk
import Derived.Handy
import Derived.Lib.Hide
import Derived.Deep.AppendLies
import Derived.Deep.RegionWith
import Derived.Test.YtkeaekckblpfjaaBase
import Derived.Test.YtkeaekckblpfjaaTail
import Derived.Test.YtkeaekckblpfjaaRing
import Derived.Test.YtkeaekckblpfjaaGrown
import Derived.Test.YtkeaekckblpfjaaArgs
import Derived.Test.YtkeaekckblpfjaaAppend
import Derived.Test.YtkeaekckblpfjaaRingMore
import Derived.Test.YtkeaekckblpfjaaDeque
import Derived.Test.YtkeaekckblpfjaaDequePop
import Derived.Test.YtkeaekckblpfjaaDequeObj
import Derived.Test.YtkeaekckblpfjaaDequeStep
import Derived.Test.YtkeaekckblpfjaaDequeStep2
import Derived.Test.YtkeaekckblpfjaaDequeItems
import Derived.Test.YtkeaekckblpfjaaRefDeque
namespace Go.Proofs.Ytkeaekckblpfjaa
open Go.RowKit

def qset (q : DQ) (n : Nat) (r : SR) : DQ := ⟨r.top, r.bottom, r.ring, q.calls.set n (some r.c)⟩
theorem lset_same {α : Type} {l : List α} {n : Nat} {a : α} (h : l[n]? = some a) : l.set n a = l := by
  apply List.ext_getElem?
  intro i
  by_cases hi : n = i
  · subst hi
    have hn : n < l.length := by
      rcases Nat.lt_or_ge n l.length with h' | h'
      · exact h'
      · rw [List.getElem?_eq_none h'] at h; cases h
    rw [List.getElem?_set_self hn, h]
  · rw [List.getElem?_set_ne hi]
section
variable {w : World} {pd pr br n : Nat} {T B : Int} {ring : List Int} {l : List (Option DCall)} {c : DCall}
theorem RDequeIn.setC (h : RDequeIn w pd pr br ⟨T, B, ring, l⟩) (hc : l[n]? = some (some c)) (j : Nat) (hj : j < 7) (x : Int) (c' : DCall) (hr : rcall (some c') = (rcall (some c)).set j x) (hk : c'.kind = c.kind) :
    RDequeIn (w.setCell ⟨pd, 3 + n * 7 + j, none⟩ (.int .i64 x)) pd pr br ⟨T, B, ring, l.set n (some c')⟩ :=
  ⟨rhead_set h.head hc j hj x hr, h.ring.far (h.ring.head.ne_ h.head (by decide)) (h.ring.body.ne_ h.head (by decide)) _, by simpa using h.clen, kinds_set h.kinds (fun d hd => by cases hd; rw [hk]; exact h.kinds n c hc)⟩
theorem RDequeIn.setTop (h : RDequeIn w pd pr br ⟨T, B, ring, l⟩) (x : Int) : RDequeIn (w.setCell ⟨pd, 0, none⟩ (.int .i64 x)) pd pr br ⟨x, B, ring, l⟩ :=
  ⟨rhead_top h.head x, h.ring.far (h.ring.head.ne_ h.head (by decide)) (h.ring.body.ne_ h.head (by decide)) _, h.clen, h.kinds⟩
theorem RDequeIn.setBot (h : RDequeIn w pd pr br ⟨T, B, ring, l⟩) (x : Int) : RDequeIn (w.setCell ⟨pd, 1, none⟩ (.int .i64 x)) pd pr br ⟨T, x, ring, l⟩ :=
  ⟨rhead_bot h.head x, h.ring.far (h.ring.head.ne_ h.head (by decide)) (h.ring.body.ne_ h.head (by decide)) _, h.clen, h.kinds⟩
theorem RDequeIn.setRing (h : RDequeIn w pd pr br ⟨T, B, ring, l⟩) {pr' br' : Nat} {ring' : List Int} (hr : RingAt 36 w pr' br' ring') : RDequeIn (w.setCell ⟨pd, 2, none⟩ (.pointer (some ⟨pr', 0, none⟩))) pd pr' br' ⟨T, B, ring', l⟩ :=
  ⟨rhead_ring h.head pr', hr.far (hr.head.ne_ h.head (by decide)) (hr.body.ne_ h.head (by decide)) _, h.clen, h.kinds⟩
theorem RDequeIn.ring_ (h : RDequeIn w pd pr br ⟨T, B, ring, l⟩) {w' : World} {ring' : List Int} (hk : Keep [br] w w') (hr : RingAt 36 w' pr br ring') : RDequeIn w' pd pr br ⟨T, B, ring', l⟩ :=
  ⟨h.head.keep hk (by simpa using (h.ring.body.ne_ h.head (by decide)).symm), hr, h.clen, h.kinds⟩
end
/-! ### NewDeque -/
/-- the zero of the reference's deque -/
def rzero : Array Value := (.int .i64 0 :: .int .i64 0 :: .pointer none :: List.replicate 112 (.int .i64 0)).toArray
def NewRDQ (w : World) (e : Ending) (w' : World) : Prop := ∃ pd pr br, e = .returned (.pointer (some ⟨pd, 0, none⟩)) ∧ RDequeIn w' pd pr br dqNew ∧ w.heap.size ≤ pd ∧ w.heap.size ≤ pr ∧ w.heap.size ≤ br ∧ Keep [] w w'
set_option maxHeartbeats 4000000 in
set_option maxRecDepth 100000 in
theorem rnewDeque_spec (w : World) : Calls Try.prog 29 #[] w (NewRDQ w) := by
  have hz : ∀ w, (zeroValue 77).run Try.prog w = .ok (.agg rzero) w := fun _ => by kernel_rfl
  have hz2 : ¬ rzero.size < 3 := by decide
  have h18 := rnew_spec w 4 (.slice none 0 0) [] (IntsOf.nil w) (by simp)
  have H18 := Lib.hid h18
  clear h18
  go_enter Try.func29, Try.ntmps29
  go_wp2_with fail
  refine H18.out.mono ?_
  rintro e w1 ⟨p, b, rfl, hp, hb, hr, hk⟩
  go_wp2
  go_ret
  have hblk : Blk (w1.alloc (.cells (rzero.setIfInBounds 2 (.pointer (some ⟨p, 0, none⟩))) 77)) w1.heap.size 77 (rhead p dqNew) := Blk.new' _ _ _ _ rfl
  refine ⟨w1.heap.size, p, b, rfl, ⟨hblk, hr.alloc _, rfl, ?_⟩, by have := hk.size; omega, hp, hb, hk.alloc _⟩
  intro n c hc
  have h : (List.replicate 16 (none : Option DCall))[n]? = some (some c) := hc
  rw [List.getElem?_replicate] at h
  split at h <;> cases h
/-! ### push -/
set_option maxHeartbeats 4000000 in
theorem rpush_spec {w : World} {pd pr br n : Nat} {q : DQ} {c : DCall} (h : RDequeIn w pd pr br q) (hc : q.calls[n]? = some (some c)) (hs : SmallDQ q.top q.bottom c) :
    Calls Try.prog 42 #[.pointer (some ⟨pd, 0, none⟩), .pointer (some ⟨pd, 3 + n * 7, none⟩)] w (RPost pd pr br w (.int .i64 (stepPush q.top q.bottom q.ring c).a) (qset q n (stepPush q.top q.bottom q.ring c))) := by
  obtain ⟨top, bottom, ring, l⟩ := q
  obtain ⟨b, t, v, won, kind, item, step⟩ := c
  simp only at hc hs
  have d0 : w.cell? ⟨pd, 0, none⟩ = some (.int .i64 top) := h.head.cell 0
  have d1 : w.cell? ⟨pd, 1, none⟩ = some (.int .i64 bottom) := h.head.cell 1
  have d2 : w.cell? ⟨pd, 2, none⟩ = some (.pointer (some ⟨pr, 0, none⟩)) := h.head.cell 2
  have c1 : w.cell? ⟨pd, 3 + n * 7 + 1, none⟩ = some (.int .i64 item) := h.field hc (j := 1) (by omega)
  have c2 : w.cell? ⟨pd, 3 + n * 7 + 2, none⟩ = some (.int .i64 step) := h.field hc (j := 2) (by omega)
  have c3 : w.cell? ⟨pd, 3 + n * 7 + 3, none⟩ = some (.int .i64 b) := h.field hc (j := 3) (by omega)
  have c4 : w.cell? ⟨pd, 3 + n * 7 + 4, none⟩ = some (.int .i64 t) := h.field hc (j := 4) (by omega)
  have fr : ∀ i, w.frozen? ⟨pd, i, none⟩ = false := fun i => h.head.frozen i
  obtain ⟨s1, s2, s3, s4, s5, s6, s7, s8⟩ := hs
  simp only at s1 s2 s3 s4 s5 s6 s7 s8
  have hlen : (ring.length : Int) ≤ 65536 := by have := h.ring.p2.le; simp only at this; omega
  have hrc := h.ring.cell
  simp only at hrc
  have H := Lib.hid h
  have Hc := Lib.hid hc
  clear h hc
  by_cases h1 : step = 1
  · subst h1
    go_enter Try.func42, Try.ntmps42
    go_wp2
    go_ret
    exact ⟨rfl, pr, br, H.out.setC Hc.out 3 (by omega) _ _ rfl rfl, (Keep.refl _ _).setCell (by simp) _, Or.inl rfl, Or.inl rfl⟩
  · have e1 : (step == 1) = false := by simpa using h1
    by_cases h2 : step = 2
    · subst h2
      have hsim : stepPush top bottom ring ⟨b, t, v, won, kind, item, 2⟩ = ⟨top, bottom, if (ring.length : Int) - 1 ≤ b - top then ringGrown ring top b else ring, ⟨b, top, v, won, kind, item, 2⟩, 0, 0⟩ := rfl
      rw [hsim]
      have hw : IntKind.i64.wrap (b - top) = b - top := IntWalk.i64_in _ (by omega)
      have hw2 : IntKind.i64.wrap ((ring.length : Int) - 1) = (ring.length : Int) - 1 := IntWalk.i64_in _ (by omega)
      clear hsim e1 h1
      have h' := H.out.setC Hc.out 4 (by omega) top ⟨b, top, v, won, kind, item, 2⟩ rfl rfl
      have p2 : pr ≠ pd := H.out.ring.head.ne_ H.out.head (by decide)
      by_cases h3 : (ring.length : Int) - 1 ≤ b - top
      · rw [if_pos h3]
        have H' := Lib.hid h'
        have hr3 := h'.ring
        clear h'
        go_enter Try.func42, Try.ntmps42
        go_wp2
        go_quiet (fail)
        go_wp2
        go_region_with (go_at_call 21; go_must (refine (rgrown_spec top b (hr3.drewN _) (by omega) (by omega)).mono ?_; rintro e w3 ⟨p', b', rfl, hp', hb', hr3', hk3⟩; have q0 : w3.cell? ⟨pd, 2, none⟩ = some (.pointer (some ⟨pr, 0, none⟩)) := ((H'.out.head.drewN _).keep hk3 (by simp)).cell 2; have q1 : w3.frozen? ⟨pd, 2, none⟩ = false := ((H'.out.head.drewN _).keep hk3 (by simp)).frozen 2))
        all_goals
          go_wp2
          go_ret
          have h3' := (H'.out.drewN _).keep hk3 (by simp) (by simp) (by simp)
          exact ⟨rfl, p', b', h3'.setRing hr3', ((((Keep.refl _ _).setCell (by simp) _).drewN _).trans hk3 (by simp)).setCell (by simp) _, Or.inr (by simp only [World.heap_drewN, World.size_setCell] at hp'; exact hp'), Or.inr (by simp only [World.heap_drewN, World.size_setCell] at hb'; exact hb')⟩
      · rw [if_neg h3]
        go_enter Try.func42, Try.ntmps42
        go_wp2
        go_quiet (fail)
        go_wp2
        go_ret
        exact ⟨rfl, pr, br, h'.drewN _, ((Keep.refl _ _).setCell (by simp) _).drewN _, Or.inl rfl, Or.inl rfl⟩
    · have e2 : (step == 2) = false := by simpa using h2
      by_cases h3 : step = 3
      · subst h3
        have hsim : stepPush top bottom ring ⟨b, t, v, won, kind, item, 3⟩ = ⟨top, bottom, ringPut ring b item, ⟨b, t, v, won, kind, item, 3⟩, 0, 0⟩ := rfl
        rw [hsim]
        clear hsim e1 h1 e2 h2
        unfold qset
        rw [show l.set n (some ⟨b, t, v, won, kind, item, 3⟩) = l from lset_same Hc.out]
        have hr3 := H.out.ring
        go_enter Try.func42, Try.ntmps42
        go_wp2
        refine wp_region_quiet_tail 12 (by kernel_rfl) (by kernel_rfl) ?_
        simp only [List.take_succ_cons, List.take_zero, List.drop_succ_cons, List.drop_zero]
        repeat (go_big_quiet_step (fail))
        refine quiet_tail_end ?_
        rintro _ ⟨nq, rfl⟩
        go_wp2_with fail
        refine (rput_spec _ _ (hr3.drewN _)).mono ?_
        rintro e w3 ⟨rfl, hr4, hk3⟩
        go_wp2
        go_ret
        exact ⟨rfl, pr, br, (H.out.drewN nq).ring_ hk3 hr4, ((Keep.refl _ _).drewN nq).trans hk3 (by simp), Or.inl rfl, Or.inl rfl⟩
      · have e3 : (step == 3) = false := by simpa using h3
        have hsim : stepPush top bottom ring ⟨b, t, v, won, kind, item, step⟩ = ⟨top, b + 1, ring, ⟨b, t, v, won, kind, item, step⟩, 1, 0⟩ := by
          unfold stepPush
          rw [if_neg h1, if_neg h2, if_neg h3]
        rw [hsim]
        clear hsim h1 h2 h3
        unfold qset
        rw [show l.set n (some ⟨b, t, v, won, kind, item, step⟩) = l from lset_same Hc.out]
        go_enter Try.func42, Try.ntmps42
        go_wp2
        go_ret
        exact ⟨rfl, pr, br, H.out.setBot _, (Keep.refl _ _).setCell (by simp) _, Or.inl rfl, Or.inl rfl⟩
end Go.Proofs.Ytkeaekckblpfjaa
