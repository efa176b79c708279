/- Deques as objects: New, Begin, Step. -/
import Derived.Test.YtkeaekckblpfjaaRows
import Derived.WalkKit
import Derived.WalkSpells
import Derived.WalkLawsBesides
import Derived.RegionTactic
import Derived.ChangeAlike
import Derived.BigQuiet
import Derived.Deep.QuietTactic
import Derived.StillTailTactics
import Derived.IntWalk
import Derived.Handy
import Derived.Lib.Hide
import Derived.Deep.AppendLies
import Derived.Deep.RegionWith
import Derived.Test.YtkeaekckblpfjaaBase
import Derived.Test.YtkeaekckblpfjaaTail
import Derived.Test.YtkeaekckblpfjaaRing
import Derived.Test.YtkeaekckblpfjaaGrown
import Derived.Test.YtkeaekckblpfjaaArgs
import Derived.Test.YtkeaekckblpfjaaAppend
import Derived.Test.YtkeaekckblpfjaaRingMore
import Derived.Test.YtkeaekckblpfjaaDeque
import Derived.Test.YtkeaekckblpfjaaDequePop
import Derived.Test.YtkeaekckblpfjaaDequeObj
namespace Go.Proofs.Ytkeaekckblpfjaa
open Go.RowKit


/-! ### Plain -/
def newCall (kind item : Int) : DCall := ⟨0, 0, 0, false, kind, item, 0⟩
def mayBegin (who kind : Int) : Bool := isB who && (if who = 0 then decide (kind = 1 ∨ kind = 2) else decide (kind = 3))
def dqNew : DQ := ⟨0, 0, ringNew 4 [], List.replicate 16 none⟩
def dqBegin (q : DQ) (who kind item : Int) : DQ × Int :=
  if mayBegin who kind = false then (q, 1) else if busyB q who = true then (q, 31) else (⟨q.top, q.bottom, q.ring, q.calls.set who.toNat (some (newCall kind item))⟩, 0)
def stepKind (kind : Int) (top bottom : Int) (ring : List Int) (c : DCall) : SR :=
  if kind = 1 then stepPush top bottom ring c else if kind = 2 then stepPop top bottom ring c else stepSteal top bottom ring c
def dqStep (q : DQ) (who : Int) : DQ × Int × Int :=
  if isB who = true then
    match q.calls.getD who.toNat none with
    | none => (q, 0, 0)
    | some c =>
      let r := stepKind c.kind q.top q.bottom q.ring { c with step := c.step + 1 }
      (⟨r.top, r.bottom, r.ring, q.calls.set who.toNat (if r.a = 0 then some r.c else none)⟩, r.a, r.v)
  else (q, 0, 0)

/-! ### The object, a call set -/
theorem set_head (a b c : Value) (pcs : List (Option Nat)) (n : Nat) (o : Option Nat) :
    (a :: b :: c :: pcs.map ptrV).set (3 + n) (ptrV o) = a :: b :: c :: (pcs.set n o).map ptrV := by
  rw [show 3 + n = n + 1 + 1 + 1 by omega]
  simp [List.set_cons_succ, List.map_set]
theorem DequeIn.setCall {w w' : World} {pd pr br pr' br' n : Nat} {pcs : List (Option Nat)} {q : DQ} {S : List Nat} {top bottom : Int} {ring : List Int} {o : Option Nat} {c : Option DCall}
    (h : DequeIn w pd pr br pcs q) (hn : n < 16) (hk : Keep S w w') (hS : ∀ i g, i ≠ n → pcs[i]? = some (some g) → g ∉ S)
    (head : Blk w' pd 67 (.int .i64 top :: .int .i64 bottom :: .pointer (some ⟨pr', 0, none⟩) :: (pcs.set n o).map ptrV))
    (hring : RingAt 62 w' pr' br' ring) (hcall : CallAt w' o c) (hnew : ∀ g, o = some g → ∀ j, pcs[j]? = some (some g) → j = n) :
    DequeIn w' pd pr' br' (pcs.set n o) ⟨top, bottom, ring, q.calls.set n c⟩ := by
  have hl := h.len
  have hcl := h.clen
  refine ⟨head, hring, by simpa using hl, by simpa using hcl, ?_, ?_⟩
  · intro i o' c' ho hc
    by_cases hi : n = i
    · subst hi
      rw [List.getElem?_set_self (by omega)] at ho hc
      cases ho
      cases hc
      exact hcall
    · rw [List.getElem?_set_ne hi] at ho hc
      exact (h.calls i o' c' ho hc).keep hk (fun g hg => hS i g (fun h => hi h.symm) (by rw [ho, hg]))
  · intro i j g hi hj
    by_cases h1 : n = i
    · subst h1
      by_cases h2 : n = j
      · exact h2
      · rw [List.getElem?_set_self (by omega)] at hi
        rw [List.getElem?_set_ne h2] at hj
        cases hi
        exact (hnew g rfl j hj).symm
    · rw [List.getElem?_set_ne h1] at hi
      by_cases h2 : n = j
      · subst h2
        rw [List.getElem?_set_self (by omega)] at hj
        cases hj
        exact hnew g rfl i hi
      · rw [List.getElem?_set_ne h2] at hj
        exact h.inj i j g hi hj
theorem mem_foot_set {pd pr br pr' br' n x : Nat} {pcs : List (Option Nat)} {o : Option Nat} (h : x ∈ foot pd pr' br' (pcs.set n o)) :
    x = pd ∨ x = pr' ∨ x = br' ∨ o = some x ∨ x ∈ foot pd pr br pcs := by
  simp only [foot, List.mem_cons, List.mem_filterMap] at h
  rcases h with h | h | h | ⟨a, ha, hx⟩
  · exact Or.inl h
  · exact Or.inr (Or.inl h)
  · exact Or.inr (Or.inr (Or.inl h))
  · simp at hx
    subst hx
    rcases List.mem_or_eq_of_mem_set ha with h | h
    · refine Or.inr (Or.inr (Or.inr (Or.inr ?_)))
      simp only [foot, List.mem_cons, List.mem_filterMap]
      exact Or.inr (Or.inr (Or.inr ⟨some x, h, rfl⟩))
    · exact Or.inr (Or.inr (Or.inr (Or.inl h.symm)))

/-! ### New -/
def NewDQ (w : World) (e : Ending) (w' : World) : Prop :=
  ∃ pd F, e = .returned (.pointer (some ⟨pd, 0, none⟩)) ∧ DequeAt w' pd F dqNew ∧ (∀ x ∈ F, w.heap.size ≤ x) ∧ Keep [] w w'
theorem nones : (List.replicate 16 (none : Option Nat)).map ptrV = List.replicate 16 (.pointer none) := rfl
set_option maxHeartbeats 1000000 in
theorem dqNew_spec (w : World) : Calls Try.prog 24 #[] w (NewDQ w) := by
  have h14 := new_spec w 4 (.slice none 0 0) [] (IntsOf.nil w) (by simp)
  have H14 := Lib.hid h14
  clear h14
  go_enter Try.func24, Try.ntmps24
  go_wp2_with fail
  refine H14.out.mono ?_
  rintro e w1 ⟨p, b, rfl, hp, hb, hr, hk⟩
  go_wp2
  go_ret
  have hblk : Blk (w1.alloc (.cells (.int .i64 0 :: .int .i64 0 :: .pointer (some ⟨p, 0, none⟩) :: (List.replicate 16 (none : Option Nat)).map ptrV).toArray 67)) w1.heap.size 67 _ := Blk.new _ _ _
  refine ⟨w1.heap.size, foot w1.heap.size p b (List.replicate 16 none), rfl, ⟨p, b, List.replicate 16 none, ⟨hblk, hr.alloc _, rfl, rfl, ?_, ?_⟩, rfl⟩, ?_, hk.alloc _⟩
  · intro i o c ho hc
    have h1 := List.getElem?_replicate (n := 16) (a := (none : Option Nat)) (i := i)
    have h2 := List.getElem?_replicate (n := 16) (a := (none : Option DCall)) (i := i)
    by_cases hi : i < 16
    · rw [if_pos hi] at h1 h2
      rw [h1] at ho
      have hc' : (List.replicate 16 (none : Option DCall))[i]? = some c := hc
      rw [h2] at hc'
      cases ho
      cases hc'
      trivial
    · rw [h1, if_neg hi] at ho
      cases ho
  · intro i j g hi hj
    rw [List.getElem?_replicate] at hi
    split at hi <;> cases hi
  · intro x hx
    have := hk.size
    have : x = w1.heap.size ∨ x = p ∨ x = b := by simpa [foot] using hx
    rcases this with rfl | rfl | rfl <;> omega

/-! ### Begin -/
theorem DequeAt.post {w w' : World} {pd : Nat} {F : List Nat} {q : DQ} {v : Value} (h : DequeAt w' pd F q) (hk : Keep F w w') : DqPost pd F w v q (.returned v) w' := ⟨rfl, F, h, hk, fun _ hx => Or.inl hx⟩
/-- the call's one place is free, or it is taken -/
theorem begin_bad {q : DQ} {who kind item : Int} (h : mayBegin who kind = false) : dqBegin q who kind item = (q, 1) := by unfold dqBegin; rw [if_pos h]
set_option maxHeartbeats 4000000 in
theorem begin_spec {w : World} {pd : Nat} {F : List Nat} {q : DQ} (who kind item : Int) (h : DequeAt w pd F q) :
    Calls Try.prog 25 #[.pointer (some ⟨pd, 0, none⟩), .int .i64 who, .int .i64 kind, .int .i64 item] w (DqPost pd F w (.int .i64 (dqBegin q who kind item).2) (dqBegin q who kind item).1) := by
  have his := fun w => is_spec w who
  by_cases hm : mayBegin who kind = false
  · rw [begin_bad hm]
    by_cases hi : isB who = true
    · rw [hi] at his
      have His := Lib.hid his
      have hw : 0 ≤ who ∧ who < 16 := by unfold isB at hi; simpa using hi
      by_cases h0 : who = 0
      · subst h0
        have hkind : ¬ (kind = 1 ∨ kind = 2) := by unfold mayBegin at hm; rw [hi] at hm; simpa using hm
        have k1 : (kind != 1) = true := by simp; omega
        have k2 : (kind != 2) = true := by simp; omega
        clear his hi hm hkind hw
        go_enter Try.func25, Try.ntmps25
        go_wp2_with fail
        refine (His.out _).mono ?_
        rintro e w1 ⟨rfl, k, rfl⟩
        go_wp2
        go_ret
        exact (h.drewN _).post ((Keep.refl _ _).drewN _)
      · have hkind : ¬ (kind = 3) := by unfold mayBegin at hm; rw [hi, if_neg h0] at hm; simpa using hm
        have k1 : (kind != 3) = true := by simp; omega
        have k2 : (who == 0) = false := by simp; omega
        have k3 : 0 < who := by omega
        clear his hi hm hkind hw h0
        go_enter Try.func25, Try.ntmps25
        go_wp2_with fail
        refine (His.out _).mono ?_
        rintro e w1 ⟨rfl, k, rfl⟩
        go_wp2
        go_ret
        exact (h.drewN _).post ((Keep.refl _ _).drewN _)
    · have hi' : isB who = false := by simpa using hi
      rw [hi'] at his
      have His := Lib.hid his
      clear his hi hi' hm
      go_enter Try.func25, Try.ntmps25
      go_wp2_with fail
      refine (His.out _).mono ?_
      rintro e w1 ⟨rfl, k, rfl⟩
      go_wp2
      go_ret
      exact (h.drewN _).post ((Keep.refl _ _).drewN _)
  · have hm' : mayBegin who kind = true := by simpa using hm
    have hi : isB who = true := by unfold mayBegin at hm'; simp at hm'; exact hm'.1
    rw [hi] at his
    have His := Lib.hid his
    have hw : 0 ≤ who ∧ who < 16 := by unfold isB at hi; simpa using hi
    obtain ⟨h0, h1⟩ := hw
    obtain ⟨n, rfl⟩ := Int.eq_ofNat_of_zero_le h0
    have hn : n < 16 := by omega
    obtain ⟨pr, br, pcs, hd, rfl⟩ := h
    obtain ⟨o, c, ho, hc, hat, hcell⟩ := hd.callCell hn
    have hb : busyB q n = c.isSome := by unfold busyB; rw [isB_true hn]; simp [hc]
    have hkk : ((n : Int) = 0 ∧ (kind = 1 ∨ kind = 2)) ∨ ((n : Int) ≠ 0 ∧ kind = 3) := by
      unfold mayBegin at hm'
      rw [hi] at hm'
      by_cases h0 : (n : Int) = 0
      · rw [if_pos h0] at hm'
        exact Or.inl ⟨h0, by simpa using hm'⟩
      · rw [if_neg h0] at hm'
        exact Or.inr ⟨h0, by simpa using hm'⟩
    cases o with
    | some g =>
      cases c with
      | none => exact hat.elim
      | some c =>
        have hv : dqBegin q n kind item = (q, 31) := by unfold dqBegin; rw [if_neg hm, if_pos (by rw [hb]; rfl)]
        rw [hv]
        have hcell' : w.cell? ⟨pd, 3 + n, none⟩ = some (.pointer (some ⟨g, 0, none⟩)) := hcell
        clear hcell hm hm' hi his hb hv ho hc hat h0 h1
        rcases hkk with ⟨h0, rfl | rfl⟩ | ⟨h0, rfl⟩
        · obtain rfl : n = 0 := by omega
          go_enter Try.func25, Try.ntmps25
          go_wp2_with fail
          refine (His.out _).mono ?_
          rintro e w1 ⟨rfl, k, rfl⟩
          go_wp2
          go_ret
          exact DequeAt.post (F := foot pd pr br pcs) ⟨pr, br, pcs, hd.keep (S := []) ((Keep.refl _ _).drewN _) (by simp), rfl⟩ ((Keep.refl _ _).drewN _)
        · obtain rfl : n = 0 := by omega
          go_enter Try.func25, Try.ntmps25
          go_wp2_with fail
          refine (His.out _).mono ?_
          rintro e w1 ⟨rfl, k, rfl⟩
          go_wp2
          go_ret
          exact DequeAt.post (F := foot pd pr br pcs) ⟨pr, br, pcs, hd.keep (S := []) ((Keep.refl _ _).drewN _) (by simp), rfl⟩ ((Keep.refl _ _).drewN _)
        · have hz : ((n : Int) == 0) = false := by simpa using h0
          have hpos : 0 < n := by omega
          clear h0
          go_enter Try.func25, Try.ntmps25
          go_wp2_with fail
          refine (His.out _).mono ?_
          rintro e w1 ⟨rfl, k, rfl⟩
          go_wp2
          go_ret
          exact DequeAt.post (F := foot pd pr br pcs) ⟨pr, br, pcs, hd.keep (S := []) ((Keep.refl _ _).drewN _) (by simp), rfl⟩ ((Keep.refl _ _).drewN _)
    | none =>
      cases c with
      | some c => exact hat.elim
      | none =>
        have hv : dqBegin q n kind item = (⟨q.top, q.bottom, q.ring, q.calls.set n (some (newCall kind item))⟩, 0) := by unfold dqBegin; rw [if_neg hm, if_neg (by rw [hb]; decide)]; rfl
        rw [hv]
        have hcell' : w.cell? ⟨pd, 3 + n, none⟩ = some (.pointer none) := hcell
        have fin : ∀ k : Nat, DqPost pd (foot pd pr br pcs) w (.int .i64 0) ⟨q.top, q.bottom, q.ring, q.calls.set n (some (newCall kind item))⟩ (.returned (.int .i64 0)) ((((w.drewN k).alloc (.cells (callCells (newCall kind item)).toArray 71)).setCell ⟨pd, 3 + n, none⟩ (ptrV (some w.heap.size)))) := by
          intro k
          have hd2 := hd.keep (S := []) (((Keep.refl _ w).drewN k).alloc (.cells (callCells (newCall kind item)).toArray 71)) (by simp)
          have hne : w.heap.size ≠ pd := by have := hd.head.lt; omega
          have hset := hd2.head.set_ (3 + n) (ptrV (some w.heap.size))
          rw [set_head] at hset
          have t1 : pr ≠ pd := hd.ring.head.ne_ hd.head (by decide)
          have t2 : br ≠ pd := hd.ring.body.ne_ hd.head (by decide)
          have hcb : Blk ((w.drewN k).alloc (.cells (callCells (newCall kind item)).toArray 71)) w.heap.size 71 (callCells (newCall kind item)) := Blk.new (w.drewN k) _ _
          have hlt : ∀ x ∈ foot pd pr br pcs, x < w.heap.size := (show DequeAt w pd _ q from ⟨pr, br, pcs, hd, rfl⟩).lt
          refine ⟨rfl, foot pd pr br (pcs.set n (some w.heap.size)), ⟨pr, br, _, hd2.setCall hn ((Keep.refl [pd] _).setCell (by simp) _) ?_ hset (hd2.ring.far t1 t2 _) (hcb.far hne _) ?_, rfl⟩, (((Keep.refl _ w).drewN k).alloc _).setCell (Or.inl (by simp [foot])) _, ?_⟩
          · intro i g hi hg
            have hg71 : ∃ c, Blk w g 71 (callCells c) := by
              have hl := hd.len
              have hcl := hd.clen
              have hil : i < pcs.length := by
                rcases Nat.lt_or_ge i pcs.length with h | h
                · exact h
                · rw [List.getElem?_eq_none h] at hg; cases hg
              have h2 := hd.calls i _ _ hg (List.getElem?_eq_getElem (by omega))
              cases hcc : q.calls[i]'(by omega) with
              | none => rw [hcc] at h2; exact h2.elim
              | some c => rw [hcc] at h2; exact ⟨c, h2⟩
            obtain ⟨cc, hcc⟩ := hg71
            have := hcc.ne_ hd.head (by decide)
            simpa using this
          · intro g hg j hj
            cases hg
            have := hlt _ (mem_foot hj)
            omega
          · intro x hx
            rcases mem_foot_set (pr := pr) (br := br) hx with rfl | rfl | rfl | h | h
            · exact Or.inl (by simp [foot])
            · exact Or.inl (by simp [foot])
            · exact Or.inl (by simp [foot])
            · cases h; exact Or.inr (Nat.le_refl _)
            · exact Or.inl h
        have fz : ∀ k : Nat, ((w.drewN k).alloc (.cells #[.int .i64 0, .int .i64 0, .int .i64 0, .bool false, .int .i64 kind, .int .i64 item, .int .i64 0] 71)).frozen? ⟨pd, 3 + n, none⟩ = false ∧ ((w.drewN k).alloc (.cells #[.int .i64 0, .int .i64 0, .int .i64 0, .bool false, .int .i64 kind, .int .i64 item, .int .i64 0] 71)).cell? ⟨pd, 3 + n, none⟩ = some (.pointer none) := by
          intro k
          have hd2 := hd.head.keep (S := []) (((Keep.refl _ w).drewN k).alloc (.cells #[.int .i64 0, .int .i64 0, .int .i64 0, .bool false, .int .i64 kind, .int .i64 item, .int .i64 0] 71)) (by simp)
          refine ⟨hd2.frozen _, ?_⟩
          rw [hd2.cell, ← hd.head.cell]
          exact hcell'
        have Fz := Lib.hid fz
        have Fin := Lib.hid fin
        have hlt := hd.head.lt
        clear fin fz hcell hm hm' hi his hb hv ho hc hat h0 h1 hd
        rcases hkk with ⟨h0, rfl | rfl⟩ | ⟨h0, rfl⟩
        · obtain rfl : n = 0 := by omega
          go_enter Try.func25, Try.ntmps25
          go_wp2_with fail
          refine (His.out _).mono ?_
          rintro e w1 ⟨rfl, k, rfl⟩
          obtain ⟨z1, z2⟩ := Fz.out k
          have z3 : ((w.drewN k).alloc (.cells #[.int .i64 0, .int .i64 0, .int .i64 0, .bool false, .int .i64 1, .int .i64 item, .int .i64 0] 71)).frozen? ⟨pd, 3, none⟩ = false := z1
          have z4 : ((w.drewN k).alloc (.cells #[.int .i64 0, .int .i64 0, .int .i64 0, .bool false, .int .i64 1, .int .i64 item, .int .i64 0] 71)).cell? ⟨pd, 3, none⟩ = some (.pointer none) := z2
          go_wp2
          go_ret
          exact Fin.out k
        · obtain rfl : n = 0 := by omega
          go_enter Try.func25, Try.ntmps25
          go_wp2_with fail
          refine (His.out _).mono ?_
          rintro e w1 ⟨rfl, k, rfl⟩
          obtain ⟨z1, z2⟩ := Fz.out k
          have z3 : ((w.drewN k).alloc (.cells #[.int .i64 0, .int .i64 0, .int .i64 0, .bool false, .int .i64 2, .int .i64 item, .int .i64 0] 71)).frozen? ⟨pd, 3, none⟩ = false := z1
          have z4 : ((w.drewN k).alloc (.cells #[.int .i64 0, .int .i64 0, .int .i64 0, .bool false, .int .i64 2, .int .i64 item, .int .i64 0] 71)).cell? ⟨pd, 3, none⟩ = some (.pointer none) := z2
          go_wp2
          go_ret
          exact Fin.out k
        · have hz : ((n : Int) == 0) = false := by simpa using h0
          have hpos : 0 < n := by omega
          clear h0
          go_enter Try.func25, Try.ntmps25
          go_wp2_with fail
          refine (His.out _).mono ?_
          rintro e w1 ⟨rfl, k, rfl⟩
          obtain ⟨z1, z2⟩ := Fz.out k
          go_wp2
          go_ret
          exact Fin.out k
end Go.Proofs.Ytkeaekckblpfjaa
