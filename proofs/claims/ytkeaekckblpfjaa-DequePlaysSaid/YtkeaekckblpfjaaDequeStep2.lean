/- Deques: Step. -/
import Derived.Test.YtkeaekckblpfjaaRows
import Derived.WalkKit
import Derived.WalkSpells
import Derived.WalkLawsBesides
import Derived.RegionTactic
import Derived.ChangeAlike
import Derived.BigQuiet
import Derived.Deep.QuietTactic
import Derived.StillTailTactics
import Derived.IntWalk
import Derived.Handy
import Derived.Lib.Hide
import Derived.Deep.AppendLies
import Derived.Deep.RegionWith
import Derived.Test.YtkeaekckblpfjaaBase
import Derived.Test.YtkeaekckblpfjaaTail
import Derived.Test.YtkeaekckblpfjaaRing
import Derived.Test.YtkeaekckblpfjaaGrown
import Derived.Test.YtkeaekckblpfjaaArgs
import Derived.Test.YtkeaekckblpfjaaAppend
import Derived.Test.YtkeaekckblpfjaaRingMore
import Derived.Test.YtkeaekckblpfjaaDeque
import Derived.Test.YtkeaekckblpfjaaDequePop
import Derived.Test.YtkeaekckblpfjaaDequeObj
import Derived.Test.YtkeaekckblpfjaaDequeStep
namespace Go.Proofs.Ytkeaekckblpfjaa
open Go.RowKit


theorem DequeIn.block {w : World} {pd pr br : Nat} {pcs : List (Option Nat)} {q : DQ} (hd : DequeIn w pd pr br pcs q) {i g : Nat} (hg : pcs[i]? = some (some g)) : ∃ c, Blk w g 71 (callCells c) := by
  have hl := hd.len
  have hcl := hd.clen
  have hil : i < pcs.length := by
    rcases Nat.lt_or_ge i pcs.length with h | h
    · exact h
    · rw [List.getElem?_eq_none h] at hg; cases hg
  have h2 := hd.calls i _ _ hg (List.getElem?_eq_getElem (by omega))
  cases hcc : q.calls[i]'(by omega) with
  | none => rw [hcc] at h2; exact h2.elim
  | some c => rw [hcc] at h2; exact ⟨c, h2⟩
theorem set_same {α : Type} (l : List α) {n : Nat} {a : α} (h : l[n]? = some a) : l.set n a = l := by
  apply List.ext_getElem?
  intro i
  by_cases hi : n = i
  · subst hi
    have hlt : n < l.length := by
      rcases Nat.lt_or_ge n l.length with h' | h'
      · exact h'
      · rw [List.getElem?_eq_none h'] at h; cases h
    rw [List.getElem?_set_self hlt, h]
  · rw [List.getElem?_set_ne hi]
/-- what a step leaves, taken into the object -/
theorem step_fin {w w1 : World} {pd pr br pr' br' g n : Nat} {pcs : List (Option Nat)} {q : DQ} {r : SR} (hd : DequeIn w pd pr br pcs q) (hn : n < 16) (ho : pcs[n]? = some (some g))
    (head : Blk w1 pd 67 (.int .i64 r.top :: .int .i64 r.bottom :: .pointer (some ⟨pr', 0, none⟩) :: pcs.map ptrV)) (hring : RingAt 62 w1 pr' br' r.ring) (hcall : Blk w1 g 71 (callCells r.c))
    (hk : Keep [pd, g, br] w w1) (hb : br' = br ∨ w.heap.size ≤ br') (hp : pr' = pr ∨ w.heap.size ≤ pr') :
    (DqPost pd (foot pd pr br pcs) w (.tuple #[.int .i64 r.a, .int .i64 r.v]) ⟨r.top, r.bottom, r.ring, q.calls.set n (some r.c)⟩ (.returned (.tuple #[.int .i64 r.a, .int .i64 r.v])) w1) ∧
    (DqPost pd (foot pd pr br pcs) w (.tuple #[.int .i64 r.a, .int .i64 r.v]) ⟨r.top, r.bottom, r.ring, q.calls.set n none⟩ (.returned (.tuple #[.int .i64 r.a, .int .i64 r.v])) (w1.setCell ⟨pd, 3 + n, none⟩ (.pointer none))) := by
  have hgf : g ∈ foot pd pr br pcs := mem_foot ho
  have hkF : Keep (foot pd pr br pcs) w w1 := hk.mono (fun x hx => by
    simp at hx
    rcases hx with rfl | rfl | rfl
    · exact Or.inl (by simp [foot])
    · exact Or.inl hgf
    · exact Or.inl (by simp [foot]))
  have hS : ∀ i g', i ≠ n → pcs[i]? = some (some g') → g' ∉ [pd, g, br] := by
    intro i g' hi hg'
    obtain ⟨c', hc'⟩ := hd.block hg'
    have n1 := hc'.ne_ hd.head (by decide)
    have n2 := hc'.ne_ hd.ring.body (by decide)
    have n3 : g' ≠ g := fun h => hi (hd.inj i n g (h ▸ hg') ho)
    simp [n1, n2, n3]
  have ft : ∀ (o : Option Nat), (o = some g ∨ o = none) → ∀ x ∈ foot pd pr' br' (pcs.set n o), x ∈ foot pd pr br pcs ∨ w.heap.size ≤ x := by
    intro o ho' x hx
    rcases mem_foot_set (pr := pr) (br := br) hx with rfl | rfl | rfl | h | h
    · exact Or.inl (by simp [foot])
    · rcases hp with rfl | h
      · exact Or.inl (by simp [foot])
      · exact Or.inr h
    · rcases hb with rfl | h
      · exact Or.inl (by simp [foot])
      · exact Or.inr h
    · rcases ho' with rfl | rfl
      · cases h; exact Or.inl hgf
      · cases h
    · exact Or.inl h
  constructor
  · refine ⟨rfl, foot pd pr' br' (pcs.set n (some g)), ⟨pr', br', _, hd.setCall (o := some g) (c := some r.c) hn hk hS (by rw [set_same pcs ho]; exact head) hring hcall ?_, rfl⟩, hkF, ft _ (Or.inl rfl)⟩
    intro g' h j hj
    cases h
    exact hd.inj j n g hj ho
  · have hset := head.set_ (3 + n) (ptrV none)
    rw [set_head] at hset
    have t1 : pr' ≠ pd := hring.head.ne_ head (by decide)
    have t2 : br' ≠ pd := hring.body.ne_ head (by decide)
    refine ⟨rfl, foot pd pr' br' (pcs.set n none), ⟨pr', br', _, hd.setCall hn (hk.setCell (p := ⟨pd, 3 + n, none⟩) (by simp) (.pointer none)) hS hset (hring.far t1 t2 _) trivial ?_, rfl⟩, hkF.setCell (Or.inl (by simp [foot])) _, ft _ (Or.inr rfl)⟩
    intro g' h
    cases h
theorem dqStep_busy {q : DQ} {n : Nat} {c : DCall} (hn : n < 16) (hc : q.calls[n]? = some (some c)) {r : SR} (hr : stepKind c.kind q.top q.bottom q.ring { c with step := c.step + 1 } = r) :
    dqStep q n = (⟨r.top, r.bottom, r.ring, q.calls.set n (if r.a = 0 then some r.c else none)⟩, r.a, r.v) := by
  unfold dqStep
  rw [if_pos (isB_true hn)]
  simp only [List.getD_eq_getElem?_getD, Int.toNat_natCast, hc, Option.getD_some]
  subst hr
  rfl
theorem dqStep_idle {q : DQ} {who : Int} (h : busyB q who = false) : dqStep q who = (q, 0, 0) := by
  unfold dqStep
  by_cases hi : isB who = true
  · rw [if_pos hi]
    unfold busyB at h
    rw [hi] at h
    cases hc : q.calls.getD who.toNat none with
    | none => rfl
    | some c => rw [hc] at h; simp at h
  · rw [if_neg hi]
/-- the numbers of a call, and the deque's, lie in a range where nothing wraps -/
def SmallAll (q : DQ) : Prop := ∀ c, some c ∈ q.calls → SmallDQ q.top q.bottom c ∧ -1000000000 ≤ c.step ∧ c.step ≤ 1000000000
set_option maxHeartbeats 4000000 in
theorem step_spec {w : World} {pd : Nat} {F : List Nat} {q : DQ} (who : Int) (h : DequeAt w pd F q) (hs : SmallAll q) :
    Calls Try.prog 28 #[.pointer (some ⟨pd, 0, none⟩), .int .i64 who] w (DqPost pd F w (.tuple #[.int .i64 (dqStep q who).2.1, .int .i64 (dqStep q who).2.2]) (dqStep q who).1) := by
  have hbusy := busy_spec who h
  by_cases hb : busyB q who = false
  · rw [hb] at hbusy
    have h0 := hbusy
    have Hb := Lib.hid h0
    rw [dqStep_idle hb]
    clear hbusy h0 hb
    go_enter Try.func28, Try.ntmps28
    go_wp2_with fail
    refine Hb.out.mono ?_
    rintro e w1 ⟨rfl, k, rfl⟩
    go_wp2
    go_ret2
    exact (h.drewN _).post ((Keep.refl _ _).drewN _)
  · have hb' : busyB q who = true := by simpa using hb
    rw [hb'] at hbusy
    have h0 := hbusy
    have Hb := Lib.hid h0
    clear hbusy h0
    have hi : isB who = true := by unfold busyB at hb'; simp at hb'; exact hb'.1
    have hw : 0 ≤ who ∧ who < 16 := by unfold isB at hi; simpa using hi
    obtain ⟨h0, h1⟩ := hw
    obtain ⟨n, rfl⟩ := Int.eq_ofNat_of_zero_le h0
    have hn : n < 16 := by omega
    obtain ⟨pr, br, pcs, hd, rfl⟩ := h
    obtain ⟨o, c, ho, hc, hat, hcell⟩ := hd.callCell hn
    cases c with
    | none => unfold busyB at hb'; simp [hc] at hb'
    | some c =>
      cases o with
      | none => exact hat.elim
      | some g =>
        have hat' : Blk w g 71 (callCells c) := hat
        have hcell' : w.cell? ⟨pd, 3 + n, none⟩ = some (.pointer (some ⟨g, 0, none⟩)) := hcell
        obtain ⟨hsm, hst1, hst2⟩ := hs c (List.mem_of_getElem? hc)
        obtain ⟨r, hr⟩ : ∃ r, r = stepKind c.kind q.top q.bottom q.ring { c with step := c.step + 1 } := ⟨_, rfl⟩
        rw [dqStep_busy hn hc hr.symm]
        have hne : g ≠ pd := hat'.ne_ hd.head (by decide)
        have t1 : pr ≠ g := fun h => (hat'.ne_ hd.ring.head (by decide)) h.symm
        have t2 : br ≠ g := fun h => (hat'.ne_ hd.ring.body (by decide)) h.symm
        -- the world behind the busy call, and behind the store of the step
        have z2 : w.cell? ⟨g, 6, none⟩ = some (.int .i64 c.step) := hat'.cell 6
        have z3 := hat'.frozen 6
        have z4 : w.cell? ⟨g, 4, none⟩ = some (.int .i64 c.kind) := hat'.cell 4
        have step2 : ∀ k : Nat, Blk ((w.drewN k).setCell ⟨g, 6, none⟩ (.int .i64 (c.step + 1))) g 71 (callCells { c with step := c.step + 1 }) ∧
            Blk ((w.drewN k).setCell ⟨g, 6, none⟩ (.int .i64 (c.step + 1))) pd 67 (.int .i64 q.top :: .int .i64 q.bottom :: .pointer (some ⟨pr, 0, none⟩) :: pcs.map ptrV) ∧
            RingAt 62 ((w.drewN k).setCell ⟨g, 6, none⟩ (.int .i64 (c.step + 1))) pr br q.ring ∧ Keep [pd, g, br] w ((w.drewN k).setCell ⟨g, 6, none⟩ (.int .i64 (c.step + 1))) ∧
            SmallDQ q.top q.bottom { c with step := c.step + 1 } := by
          intro k
          refine ⟨(hat'.drewN k).set_ 6 _, (hd.head.drewN k).far (by simpa using fun h => hne h.symm) _, (hd.ring.drewN k).far t1 t2 _, ((Keep.refl _ w).drewN k).setCell (by simp) _, hsm⟩
        have Fin := Lib.hid (fun (w1 : World) (pr' br' : Nat) => step_fin (w := w) (w1 := w1) (pr' := pr') (br' := br') (r := r) hd hn ho)
        have Step2 := Lib.hid step2
        have ew : IntKind.i64.wrap (c.step + 1) = c.step + 1 := IntWalk.i64_in _ (by omega)
        have hmf : ∀ (fn : Fn) (first cap : Array Value) (w : World), (Instr.makeFunc fn first cap).run Try.prog w = .ok (.func fn first cap) w := fun _ _ _ _ => rfl
        have Hl := Lib.hid hd.len
        have Hne := Lib.hid hne
        clear hcell hat hat' hsm hst1 hst2 hd ho hc hs hi hb hb' step2 t1 t2 hne
        by_cases ha : r.a = 0
        · have ha' : (r.a != 0) = false := by simpa using ha
          rw [if_pos ha]
          clear ha
          by_cases k1 : c.kind = 1
          · have Hr := Lib.hid (show stepPush q.top q.bottom q.ring { c with step := c.step + 1 } = r by rw [hr]; unfold stepKind; rw [if_pos k1])
            have b1 : (c.kind == 1) = true := by simpa using k1
            clear k1 hr
            go_enter Try.func28, Try.ntmps28
            go_wp2_with fail
            refine Hb.out.mono ?_
            rintro e w1 ⟨rfl, k, rfl⟩
            go_wp2_with fail
            obtain ⟨y1, y2, y3, y4, y5⟩ := Step2.out k
            have hsp := push_spec y2 y3 y1 y5
            rw [Hr.out] at hsp
            refine hsp.mono ?_
            rintro e w2 ⟨rfl, pr', br', q1, q2, q3, q4, q5, q6⟩
            have hfin := Fin.out w2 pr' br' q1 q2 q3 (y4.trans q4 (by simp)) (by simpa using q5) (by simpa using q6)
            have f1 := q1.frozen (3 + n)
            have f2 : ∃ v, w2.cell? ⟨pd, 3 + n, none⟩ = some v := by
              rw [q1.cell]
              exact ⟨_, List.getElem?_eq_getElem (by have := Hl.out; simp; omega)⟩
            obtain ⟨f2v, f2⟩ := f2
            clear y1 y2 y3 y4 y5 q1 q2 q3 q4 q5 q6 z2 z3 z4 hcell' hsp
            go_wp2
            go_ret2
            exact hfin.1
          · have b1 : (c.kind == 1) = false := by simpa using k1
            by_cases k2 : c.kind = 2
            · have Hr := Lib.hid (show stepPop q.top q.bottom q.ring { c with step := c.step + 1 } = r by rw [hr]; unfold stepKind; rw [if_neg k1, if_pos k2])
              have b2 : (c.kind == 2) = true := by simpa using k2
              clear k1 k2 hr
              go_enter Try.func28, Try.ntmps28
              go_wp2_with fail
              refine Hb.out.mono ?_
              rintro e w1 ⟨rfl, k, rfl⟩
              go_wp2_with fail
              obtain ⟨y1, y2, y3, y4, y5⟩ := Step2.out k
              have hsp := pop_spec y2 y3 y1 y5
              rw [Hr.out] at hsp
              refine hsp.mono ?_
              rintro e w2 ⟨rfl, pr', br', q1, q2, q3, q4, q5, q6⟩
              have hfin := Fin.out w2 pr' br' q1 q2 q3 (y4.trans q4 (by simp)) (by simpa using q5) (by simpa using q6)
              have f1 := q1.frozen (3 + n)
              have f2 : ∃ v, w2.cell? ⟨pd, 3 + n, none⟩ = some v := by
                rw [q1.cell]
                exact ⟨_, List.getElem?_eq_getElem (by have := Hl.out; simp; omega)⟩
              obtain ⟨f2v, f2⟩ := f2
              clear y1 y2 y3 y4 y5 q1 q2 q3 q4 q5 q6 z2 z3 z4 hcell' hsp
              go_wp2
              go_ret2
              exact hfin.1
            · have b2 : (c.kind == 2) = false := by simpa using k2
              have Hr := Lib.hid (show stepSteal q.top q.bottom q.ring { c with step := c.step + 1 } = r by rw [hr]; unfold stepKind; rw [if_neg k1, if_neg k2])
              clear k1 k2 hr
              go_enter Try.func28, Try.ntmps28
              go_wp2_with fail
              refine Hb.out.mono ?_
              rintro e w1 ⟨rfl, k, rfl⟩
              go_wp2_with fail
              obtain ⟨y1, y2, y3, y4, y5⟩ := Step2.out k
              have hsp := steal_spec y2 y3 y1 y5
              rw [Hr.out] at hsp
              refine hsp.mono ?_
              rintro e w2 ⟨rfl, pr', br', q1, q2, q3, q4, q5, q6⟩
              have hfin := Fin.out w2 pr' br' q1 q2 q3 (y4.trans q4 (by simp)) (by simpa using q5) (by simpa using q6)
              have f1 := q1.frozen (3 + n)
              have f2 : ∃ v, w2.cell? ⟨pd, 3 + n, none⟩ = some v := by
                rw [q1.cell]
                exact ⟨_, List.getElem?_eq_getElem (by have := Hl.out; simp; omega)⟩
              obtain ⟨f2v, f2⟩ := f2
              clear y1 y2 y3 y4 y5 q1 q2 q3 q4 q5 q6 z2 z3 z4 hcell' hsp
              go_wp2
              go_ret2
              exact hfin.1
        · have ha' : (r.a != 0) = true := by simpa using ha
          rw [if_neg ha]
          clear ha
          by_cases k1 : c.kind = 1
          · have Hr := Lib.hid (show stepPush q.top q.bottom q.ring { c with step := c.step + 1 } = r by rw [hr]; unfold stepKind; rw [if_pos k1])
            have b1 : (c.kind == 1) = true := by simpa using k1
            clear k1 hr
            go_enter Try.func28, Try.ntmps28
            go_wp2_with fail
            refine Hb.out.mono ?_
            rintro e w1 ⟨rfl, k, rfl⟩
            go_wp2_with fail
            obtain ⟨y1, y2, y3, y4, y5⟩ := Step2.out k
            have hsp := push_spec y2 y3 y1 y5
            rw [Hr.out] at hsp
            refine hsp.mono ?_
            rintro e w2 ⟨rfl, pr', br', q1, q2, q3, q4, q5, q6⟩
            have hfin := Fin.out w2 pr' br' q1 q2 q3 (y4.trans q4 (by simp)) (by simpa using q5) (by simpa using q6)
            have f1 := q1.frozen (3 + n)
            have f2 : ∃ v, w2.cell? ⟨pd, 3 + n, none⟩ = some v := by
              rw [q1.cell]
              exact ⟨_, List.getElem?_eq_getElem (by have := Hl.out; simp; omega)⟩
            obtain ⟨f2v, f2⟩ := f2
            clear y1 y2 y3 y4 y5 q1 q2 q3 q4 q5 q6 z2 z3 z4 hcell' hsp
            go_wp2
            go_ret2
            exact hfin.2
          · have b1 : (c.kind == 1) = false := by simpa using k1
            by_cases k2 : c.kind = 2
            · have Hr := Lib.hid (show stepPop q.top q.bottom q.ring { c with step := c.step + 1 } = r by rw [hr]; unfold stepKind; rw [if_neg k1, if_pos k2])
              have b2 : (c.kind == 2) = true := by simpa using k2
              clear k1 k2 hr
              go_enter Try.func28, Try.ntmps28
              go_wp2_with fail
              refine Hb.out.mono ?_
              rintro e w1 ⟨rfl, k, rfl⟩
              go_wp2_with fail
              obtain ⟨y1, y2, y3, y4, y5⟩ := Step2.out k
              have hsp := pop_spec y2 y3 y1 y5
              rw [Hr.out] at hsp
              refine hsp.mono ?_
              rintro e w2 ⟨rfl, pr', br', q1, q2, q3, q4, q5, q6⟩
              have hfin := Fin.out w2 pr' br' q1 q2 q3 (y4.trans q4 (by simp)) (by simpa using q5) (by simpa using q6)
              have f1 := q1.frozen (3 + n)
              have f2 : ∃ v, w2.cell? ⟨pd, 3 + n, none⟩ = some v := by
                rw [q1.cell]
                exact ⟨_, List.getElem?_eq_getElem (by have := Hl.out; simp; omega)⟩
              obtain ⟨f2v, f2⟩ := f2
              clear y1 y2 y3 y4 y5 q1 q2 q3 q4 q5 q6 z2 z3 z4 hcell' hsp
              go_wp2
              go_ret2
              exact hfin.2
            · have b2 : (c.kind == 2) = false := by simpa using k2
              have Hr := Lib.hid (show stepSteal q.top q.bottom q.ring { c with step := c.step + 1 } = r by rw [hr]; unfold stepKind; rw [if_neg k1, if_neg k2])
              clear k1 k2 hr
              go_enter Try.func28, Try.ntmps28
              go_wp2_with fail
              refine Hb.out.mono ?_
              rintro e w1 ⟨rfl, k, rfl⟩
              go_wp2_with fail
              obtain ⟨y1, y2, y3, y4, y5⟩ := Step2.out k
              have hsp := steal_spec y2 y3 y1 y5
              rw [Hr.out] at hsp
              refine hsp.mono ?_
              rintro e w2 ⟨rfl, pr', br', q1, q2, q3, q4, q5, q6⟩
              have hfin := Fin.out w2 pr' br' q1 q2 q3 (y4.trans q4 (by simp)) (by simpa using q5) (by simpa using q6)
              have f1 := q1.frozen (3 + n)
              have f2 : ∃ v, w2.cell? ⟨pd, 3 + n, none⟩ = some v := by
                rw [q1.cell]
                exact ⟨_, List.getElem?_eq_getElem (by have := Hl.out; simp; omega)⟩
              obtain ⟨f2v, f2⟩ := f2
              clear y1 y2 y3 y4 y5 q1 q2 q3 q4 q5 q6 z2 z3 z4 hcell' hsp
              go_wp2
              go_ret2
              exact hfin.2
end Go.Proofs.Ytkeaekckblpfjaa
