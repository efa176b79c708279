/- FairRounds: the walk. -/
import Derived.Test.YtndpbkhpllmhmaaDoorRows
import Derived.WalkKit
import Derived.WalkSpells
import Derived.WalkLawsBesides
import Derived.RegionTactic
import Derived.ChangeAlike
import Derived.BigQuiet
import Derived.Deep.QuietTactic
import Derived.StillTailTactics
import Derived.IntWalk
import Derived.Handy
import Derived.Lib.Hide
import Derived.Deep.AppendLies
import Derived.Deep.RegionWith
import Derived.Test.YtndpbkhpllmhmaaDoorBase
import Derived.Test.YtndpbkhpllmhmaaDoorTail
import Derived.Test.YtndpbkhpllmhmaaDoorArgs
import Derived.Test.YtndpbkhpllmhmaaDoorAppend
import Derived.Test.YtndpbkhpllmhmaaDoorOffs
import Derived.Test.YtndpbkhpllmhmaaDoorStructs
import Derived.Test.YtndpbkhpllmhmaaDoorShelf
import Derived.Carry
import Derived.Deep.RegionHeld3
import Derived.BigRegion
import Derived.Maps.OwnSet
import Derived.Maps.Views
import Derived.Maps.StringElems
import Derived.Test.YtndpbkhpllmhmaaDoorMaps2
import Derived.Test.YtndpbkhpllmhmaaDoorFWords
import Derived.Test.YtndpbkhpllmhmaaDoorFEnv
import Derived.Test.YtndpbkhpllmhmaaDoorFPlain
import Derived.Test.YtndpbkhpllmhmaaDoorFSteps
import Derived.Test.YtndpbkhpllmhmaaDoorFMaps
import Derived.Test.YtndpbkhpllmhmaaDoorFClosure
import Derived.Test.YtndpbkhpllmhmaaDoorRPrint
import Derived.Test.YtndpbkhpllmhmaaDoorFFair
import Derived.Test.YtndpbkhpllmhmaaDoorFBadPlain
import Derived.Test.YtndpbkhpllmhmaaDoorFRoundsPlain
import Derived.Test.YtndpbkhpllmhmaaDoorFWordsLaw
namespace Go.Proofs.YtndpbkhpllmhmaaDoor
open Go.RowKit
theorem Tryd.sts24 : SliceTy Tryd.prog 24 3 (.int .i64 0) 1 8 := ⟨Tryd.underlying24, by kernel_rfl, by kernel_rfl, by decide⟩
theorem src_one {w : World} (s : ST) : SrcOf (w.alloc (.cells #[.int .i64 s.kind, .int .i64 s.node, .int .i64 s.k, .int .i64 s.bit] 38)) (.slice (some ⟨w.heap.size, 0, none⟩) 1 1) 4 1 (stC s) := by
  have hb : Blk (w.alloc (.cells #[.int .i64 s.kind, .int .i64 s.node, .int .i64 s.k, .int .i64 s.bit] 38)) w.heap.size 38 (stC s) := Blk.new' _ _ _ _ rfl
  refine ⟨_, _, rfl, rfl, fun _ => ⟨_, rfl, fun j u hu => ?_⟩⟩
  rw [add_none, Nat.zero_add]
  exact (hb.cell j).trans hu
theorem src_int {w : World} (n : Int) : SrcOf (w.alloc (.cells #[.int .i64 n] 3)) (.slice (some ⟨w.heap.size, 0, none⟩) 1 1) 1 1 [.int .i64 n] := by
  have hb : Blk (w.alloc (.cells #[.int .i64 n] 3)) w.heap.size 3 [.int .i64 n] := Blk.new' _ _ _ _ rfl
  refine ⟨_, _, rfl, rfl, fun _ => ⟨_, rfl, fun j u hu => ?_⟩⟩
  rw [add_none, Nat.zero_add]
  exact (hb.cell j).trans hu
theorem own_mem {v : Value} {x : Nat} : x ∈ ownBlocks v ↔ v.ownBlock = some x := by simp [ownBlocks]
def Apart (v u : Value) : Prop := ∀ x, v.ownBlock = some x → u.ownBlock ≠ some x
theorem Apart.next {v v' u : Value} {z : Nat} (h : Apart v u) (hv : v'.ownBlock = v.ownBlock ∨ v'.ownBlock = some z) (hu : ∀ x, u.ownBlock = some x → x < z) : Apart v' u := by
  intro x hx hux
  rcases hv with hv | hv
  · exact h x (by rw [← hv]; exact hx) hux
  · rw [hv] at hx
    cases hx
    exact absurd (hu _ hux) (Nat.lt_irrefl _)
theorem Apart.symm {v u : Value} (h : Apart v u) : Apart u v := fun x hx hv => h x hv hx
def kAt (r n m : Nat) : Nat := if r = 0 then n else m
theorem kAt_zero {r n m : Nat} (h : r = 0) : kAt r n m = n := if_pos h
theorem kAt_pos {r n m : Nat} (h : ¬ r = 0) : kAt r n m = m := if_neg h
theorem kAt_same (r n : Nat) : kAt r n n = n := by unfold kAt; split <;> rfl
def nsL (k : Nat) : List Int := (List.range k).map (fun n : Nat => (n : Int))
theorem nsL_succ (k : Nat) : nsL (k + 1) = nsL k ++ [(k : Int)] := by
  unfold nsL
  rw [List.range_succ, List.map_append]
  rfl
theorem nsL_len (k : Nat) : (nsL k).length = k := by simp [nsL]
/-- what the law has made so far -/
structure RdSt (B : Nat) (v6 v7 : Value) (l : List ST) (k : Nat) (w w' : World) : Prop where
  l : OwnsAt w' B 38 4 v6 l.length (l.flatMap stC)
  a : OwnsAt w' B 3 1 v7 k ((nsL k).map (.int .i64))
  ap : Apart v6 v7
  k : Keep [] w w'
  hB : B = w.heap.size
theorem RdSt.addS {B : Nat} {v6 v7 v' : Value} {l : List ST} {k : Nat} {w wr w7 : World} {o : Obj} (h : RdSt B v6 v7 l k w wr) (s : ST) (ho : OwnsAt w7 B 38 4 v' (l.length + 1) (l.flatMap stC ++ stC s)) (hk : Keep (ownBlocks v6) (wr.alloc o) w7)
    (hb : v'.ownBlock = v6.ownBlock ∨ v'.ownBlock = some (wr.heap.size + 1)) : RdSt B v' v7 (l ++ [s]) k w w7 := by
  have ka : Keep [] wr (wr.alloc o) := (Keep.refl _ _).alloc _
  have ha := h.a.keep ka (by simp)
  refine ⟨by rw [List.length_append, List.flatMap_append]; simpa using ho, ha.keep hk (fun g hg hm => h.ap g (own_mem.1 hm) hg), h.ap.next hb (fun x hx => by rw [← alloc_size wr o]; exact (ha.lt x hx).2), (h.k.trans ka (by simp)).trans hk (fun x hx => Or.inr ?_), h.hB⟩
  have := (h.l.lt x (own_mem.1 hx)).1
  rw [h.hB] at this
  exact this
theorem RdSt.addA {B : Nat} {v6 v7 v' : Value} {l : List ST} {k : Nat} {w wr w7 : World} {o : Obj} (h : RdSt B v6 v7 l k w wr) (ho : OwnsAt w7 B 3 1 v' (k + 1) ((nsL k).map (.int .i64) ++ [.int .i64 k])) (hk : Keep (ownBlocks v7) (wr.alloc o) w7)
    (hb : v'.ownBlock = v7.ownBlock ∨ v'.ownBlock = some (wr.heap.size + 1)) : RdSt B v6 v' l (k + 1) w w7 := by
  have ka : Keep [] wr (wr.alloc o) := (Keep.refl _ _).alloc _
  have hl := h.l.keep ka (by simp)
  refine ⟨hl.keep hk (fun g hg hm => h.ap g hg (own_mem.1 hm)), by rw [nsL_succ, List.map_append]; exact ho, (h.ap.symm.next hb (fun x hx => by rw [← alloc_size wr o]; exact (hl.lt x hx).2)).symm, (h.k.trans ka (by simp)).trans hk (fun x hx => Or.inr ?_), h.hB⟩
  have := (h.a.lt x (own_mem.1 hx)).1
  rw [h.hB] at this
  exact this
set_option maxHeartbeats 6400000 in
set_option maxRecDepth 100000 in
theorem rounds_walk {w : World} (hE : Env w) {m R : Nat} (hm1 : 1 ≤ m) (hm2 : m ≤ 16) (hR1 : 2 ≤ R) (hR2 : R ≤ 20) : Calls Tryd.prog 7 #[.int .i64 m, .int .i64 R] w fun e w' => e = .returned (.bool true) ∧ Keep [] w w' := by
  have HE := Lib.hid hE
  have HM := Lib.hid (And.intro hm1 (And.intro hm2 (And.intro hR1 hR2)))
  have i1 : (1 : Int) ≤ (m : Int) := by omega
  have i2 : (m : Int) ≤ 16 := by omega
  have i3 : (2 : Int) ≤ (R : Int) := by omega
  have i4 : (R : Int) ≤ 20 := by omega
  clear hE hm1 hm2 hR1 hR2
  go_enter Tryd.func7, Tryd.ntmps7
  go_wp2_with fail
  refine (alive_spec HE.out).mono ?_
  rintro e w1 ⟨rfl, hk1⟩
  have K1 := Lib.hid hk1
  clear hk1
  go_wp2_with fail
  go_loopw [6, 7, 8, 9] (fun v6 v7 v8 _ wr => ∃ r : Nat, r ≤ R ∧ v8 = .int .i64 r ∧ RdSt w1.heap.size v6 v7 (roundsL m r) (kAt r 0 m) w1 wr) (fun _ _ v _ _ => R - (intOf v).toNat)
  case atStart => exact ⟨0, by omega, rfl, ⟨OwnsAt.nil _ _ _ _, by rw [kAt_zero rfl]; exact OwnsAt.nil _ _ _ _, (fun x hx => by cases hx), Keep.refl _ _, rfl⟩⟩
  case round =>
    obtain ⟨r, hr, rfl, hst⟩ := hrel
    have hlen := rounds_len m r
    have hbd : r * (m + 1) ≤ 20 * 17 := Nat.mul_le_mul (by have := HM.out.2.2.2; omega) (by have := HM.out.2.1; omega)
    by_cases hlt : r < R
    · have hltI : (r : Int) < (R : Int) := by omega
      have Hs := Lib.hid (And.intro hst (And.intro hlt (And.intro hlen hbd)))
      clear hst hlt hlen hbd hr
      go_wp2_with fail
      go_loopw [6, 7, 9] (fun v6 v7 v9 wx => ∃ n : Nat, n ≤ m ∧ v9 = .int .i64 n ∧ RdSt w1.heap.size v6 v7 (roundsL m r ++ (List.range n).map workL) (kAt r n m) w1 wx) (fun _ _ v _ => m - (intOf v).toNat)
      case atStart => exact ⟨0, by omega, rfl, by simpa using Hs.out.1⟩
      case round =>
        obtain ⟨n, hn, rfl, hst⟩ := hrel
        have hll : (roundsL m r ++ (List.range n).map workL).length ≤ 400 := by
          rw [List.length_append, Hs.out.2.2.1, List.length_map, List.length_range]
          have := Hs.out.2.2.2
          have := HM.out.2.1
          omega
        have hkk : kAt r n m ≤ 16 := by have := HM.out.2.1; unfold kAt; split <;> omega
        obtain ⟨a6, c6, rfl⟩ := hst.l.shape
        obtain ⟨a7, c7, rfl⟩ := hst.a.shape
        have hnI : (n : Int) ≤ 16 := by have := HM.out.2.1; omega
        by_cases hnm : n < m
        · have hnmI : (n : Int) < (m : Int) := by omega
          have Hn := Lib.hid (And.intro hst hnm)
          have el : roundsL m r ++ (List.range (n + 1)).map workL = (roundsL m r ++ (List.range n).map workL) ++ [workL n] := by
            rw [List.range_succ, List.map_append, List.append_assoc]
            rfl
          have EL := Lib.hid el
          clear hst hnm hn el
          generalize roundsL m r ++ (List.range n).map workL = ll at *
          generalize hkq : kAt r n m = kk at *
          have Ho6 := Lib.hid (Hn.out.1.l.keep ((Keep.refl [] wr).alloc (.cells #[.int .i64 1, .int .i64 n, .int .i64 0, .int .i64 0] 38)) (by simp))
          have Hz : Hid (w1.heap.size ≤ (wr.alloc (.cells #[.int .i64 1, .int .i64 n, .int .i64 0, .int .i64 0] 38)).heap.size) := Lib.hid (Hn.out.1.k.alloc _).size
          go_wp2_with (at_builtin; refine wpList_append_off rfl _ _ rfl Tryd.sts35 w1.heap.size (.slice a6 ll.length c6) ll.length _ rfl Ho6.out _ 1 (stC (workL n)) rfl (src_one (workL n)) (by simp [stC, Value.oneCell']) (by unfold maxLen; omega) (by omega) Hz.out ?_)
          intro v8 w7 ho7 hk7 hb7
          have S7 := Lib.hid (Hn.out.1.addS (workL n) ho7 hk7 hb7)
          clear ho7 hk7 hb7 Ho6 Hz
          obtain ⟨a8, c8, rfl⟩ := S7.out.l.shape
          by_cases hr0 : r = 0
          · have hr0b : ((r : Int) == 0) = true := by simpa using hr0
            rw [kAt_zero hr0] at hkq
            subst hkq
            have Hr0 := Lib.hid hr0
            clear hr0
            have Ho6 := Lib.hid (S7.out.a.keep ((Keep.refl [] w7).alloc (.cells #[.int .i64 n] 3)) (by simp))
            have Hz : Hid (w1.heap.size ≤ (w7.alloc (.cells #[.int .i64 n] 3)).heap.size) := Lib.hid (S7.out.k.alloc _).size
            go_wp2_with (at_builtin; refine wpList_append_off rfl _ _ rfl Tryd.sts24 w1.heap.size (.slice a7 n c7) n _ rfl Ho6.out _ 1 [.int .i64 n] rfl (src_int n) (by simp [Value.oneCell']) (by unfold maxLen; omega) (by omega) Hz.out ?_)
            intro v9 w9 ho9 hk9 hb9
            have S9 := Lib.hid (S7.out.addA ho9 hk9 hb9)
            clear ho9 hk9 hb9 Ho6 Hz
            go_wp2
            go_roundw
            case rel => exact ⟨n + 1, by have := Hn.out.2; omega, by go_num, by rw [EL.out, kAt_zero Hr0.out]; have h9 := S9.out; rw [List.length_append] at h9; exact h9⟩
            case measure => simp [intOf]; have := Hn.out.2; omega
          · have hr0b : ((r : Int) == 0) = false := by simpa using hr0
            have hr0c : ¬ (r : Int) = 0 := by omega
            have Hr0 := Lib.hid (And.intro hr0 hkq)
            clear hr0 hkq
            go_wp2
            go_roundw
            case rel =>
              refine ⟨n + 1, by have := Hn.out.2; omega, by go_num, ?_⟩
              rw [EL.out, kAt_pos Hr0.out.1]
              have hq := Hr0.out.2
              rw [kAt_pos Hr0.out.1] at hq
              rw [hq]
              exact S7.out
            case measure => simp [intOf]; have := Hn.out.2; omega
        · obtain rfl : n = m := by omega
          have el : roundsL n (r + 1) = (roundsL n r ++ (List.range n).map workL) ++ [tickS] := by
            rw [rounds_succ]
            unfold roundL
            rw [List.append_assoc]
          have EL := Lib.hid el
          have Hn := Lib.hid hst
          have hkq : kAt r n n = n := kAt_same r n
          rw [hkq] at hst hkk
          have Hn := Lib.hid hst
          clear hst hnm hn el hkq
          generalize roundsL n r ++ (List.range n).map workL = ll at *
          have Ho6 := Lib.hid (Hn.out.l.keep ((Keep.refl [] wr).alloc (.cells #[.int .i64 2, .int .i64 0, .int .i64 0, .int .i64 0] 38)) (by simp))
          have Hz : Hid (w1.heap.size ≤ (wr.alloc (.cells #[.int .i64 2, .int .i64 0, .int .i64 0, .int .i64 0] 38)).heap.size) := Lib.hid (Hn.out.k.alloc _).size
          go_wp2_with (at_builtin; refine wpList_append_off rfl _ _ rfl Tryd.sts35 w1.heap.size (.slice a6 ll.length c6) ll.length _ rfl Ho6.out _ 1 (stC tickS) rfl (src_one tickS) (by simp [stC, Value.oneCell']) (by unfold maxLen; omega) (by omega) Hz.out ?_)
          intro v8 w7 ho7 hk7 hb7
          have S7 := Lib.hid (Hn.out.addS tickS ho7 hk7 hb7)
          clear ho7 hk7 hb7 Ho6 Hz
          obtain ⟨a8, c8, rfl⟩ := S7.out.l.shape
          go_wp2
          go_roundw
          case rel => exact ⟨r + 1, by have := Hs.out.2.1; omega, by go_num, by rw [EL.out, kAt_pos (Nat.succ_ne_zero r)]; have h9 := S7.out; rw [kAt_same]; exact h9⟩
          case measure => simp [intOf]; have := Hs.out.2.1; omega
    · obtain rfl : r = R := by omega
      have hr2 := HM.out.2.2.1
      obtain ⟨a6, c6, rfl⟩ := hst.l.shape
      have hkm : kAt r 0 m = m := kAt_pos (by omega)
      rw [hkm] at hst
      obtain ⟨a7, c7, rfl⟩ := hst.a.shape
      have hl := StepsAt.of_own hst.l
      have hu : IntsOf wr (.slice a7 m c7) (nsL m) := ints_of_off (by rw [nsL_len]; exact hst.a)
      have hkw := K1.out.trans hst.k (by simp)
      have hin := rounds_kind (m := m) (R := r) (by have := HM.out.2.1; omega)
      have hll : (roundsL m r).length ≤ 1000 := by rw [hlen]; omega
      have hwf : ∀ x ∈ nsL m, (Lit.int .i64 x).wf = true := by
        intro x hx
        obtain ⟨q, hq, rfl⟩ := List.mem_map.1 hx
        have := List.mem_range.1 hq
        exact wf_in64 ⟨by omega, by omega⟩
      have hnl : (nsL m).length ≤ 1000 := by rw [nsL_len]; have := HM.out.2.1; omega
      obtain ⟨hg1, hg2⟩ := gap_all m (by have := HM.out.2.1; omega) r (by have := HM.out.2.2.2; omega) HM.out.1 hr2
      have D := Lib.hid (And.intro hl (And.intro hu (And.intro hkw (And.intro hin (And.intro hll (And.intro hwf (And.intro hnl (And.intro hg1 hg2))))))))
      have F1 := Lib.hid (fair_true hl hin hu hnl hwf hll (win := (m : Int) + 1) (by omega) (by omega) (fun j hj hw => by have := rounds_fair (m := m) (R := r) j hj hw; exact this))
      have hwr : IntKind.i64.wrap ((m : Int) + 1) = (m : Int) + 1 := IntWalk.i64_in _ (by omega)
      clear hst hl hu hkw hin hll hwf hnl hg1 hg2 hkm hlt hr hlen hbd
      go_wp2_with fail
      refine F1.out.mono ?_
      rintro e w2 ⟨rfl, hk2⟩
      have K2 := Lib.hid hk2
      have F2 := Lib.hid (fair_false (D.out.1.keep0 hk2) D.out.2.2.2.1 (D.out.2.1.keep0 hk2) D.out.2.2.2.2.2.2.1 D.out.2.2.2.2.2.1 D.out.2.2.2.2.1 (win := (m : Int)) (by omega) (by omega) (rounds_first HM.out.1 hr2))
      clear hk2 F1
      go_wp2_with fail
      refine F2.out.mono ?_
      rintro e w3 ⟨rfl, hk3⟩
      have K3 := Lib.hid (K2.out.trans hk3 (by simp))
      clear hk3 F2 K2
      go_wp2_with fail
      refine (gap_spec (D.out.1.keep0 K3.out) 0 (by have := D.out.2.2.2.2.1; omega)).mono ?_
      rintro e w4 ⟨rfl, hk4⟩
      rw [D.out.2.2.2.2.2.2.2.1]
      have K4 := Lib.hid (K3.out.trans hk4 (by simp))
      clear hk4 K3
      go_wp2_with fail
      refine (gap_spec (D.out.1.keep0 K4.out) (-1) (by have := D.out.2.2.2.2.1; omega)).mono ?_
      rintro e w5 ⟨rfl, hk5⟩
      rw [D.out.2.2.2.2.2.2.2.2]
      have K5 := Lib.hid ((D.out.2.2.1.trans K4.out (by simp)).trans hk5 (by simp))
      clear hk5 K4
      go_wp2
      go_ret
      exact ⟨rfl, K5.out⟩
theorem rounds_none {w : World} (hE : Env w) (m R : Int) (h : (m < 1 ∨ 16 < m) ∨ (R < 2 ∨ 20 < R)) : Calls Tryd.prog 7 #[.int .i64 m, .int .i64 R] w fun e w' => e = .returned (.bool true) ∧ Keep [] w w' := by
  have HE := Lib.hid hE
  clear hE
  by_cases h1 : m < 1
  · have d1 : decide (m < 1) = true := decide_eq_true h1
    clear h
    go_enter Tryd.func7, Tryd.ntmps7
    go_wp2_with fail
    refine (alive_spec HE.out).mono ?_
    rintro e w1 ⟨rfl, hk1⟩
    have K1 := Lib.hid hk1
    clear hk1
    go_wp2
    go_ret
    exact ⟨rfl, K1.out⟩
  by_cases h2 : 16 < m
  · have d1 : 1 ≤ m := by omega
    clear h
    go_enter Tryd.func7, Tryd.ntmps7
    go_wp2_with fail
    refine (alive_spec HE.out).mono ?_
    rintro e w1 ⟨rfl, hk1⟩
    have K1 := Lib.hid hk1
    clear hk1
    go_wp2
    go_ret
    exact ⟨rfl, K1.out⟩
  by_cases h3 : R < 2
  · have d1 : 1 ≤ m := by omega
    have d2 : m ≤ 16 := by omega
    clear h
    go_enter Tryd.func7, Tryd.ntmps7
    go_wp2_with fail
    refine (alive_spec HE.out).mono ?_
    rintro e w1 ⟨rfl, hk1⟩
    have K1 := Lib.hid hk1
    clear hk1
    go_wp2
    go_ret
    exact ⟨rfl, K1.out⟩
  · have d1 : 1 ≤ m := by omega
    have d2 : m ≤ 16 := by omega
    have d3 : 2 ≤ R := by omega
    have d4 : 20 < R := by omega
    clear h
    go_enter Tryd.func7, Tryd.ntmps7
    go_wp2_with fail
    refine (alive_spec HE.out).mono ?_
    rintro e w1 ⟨rfl, hk1⟩
    have K1 := Lib.hid hk1
    clear hk1
    go_wp2
    go_ret
    exact ⟨rfl, K1.out⟩
theorem walk_fairRounds {m R : Int} (W : World) (hE : Env W) (_ha : (Lit.int .i64 m).wf = true) (_hb : (Lit.int .i64 R).wf = true) : Calls Tryd.prog 7 #[.int .i64 m, .int .i64 R] W fun e w' => e = .returned (.bool true) ∧ Below W.heap.size W w' := by
  suffices h : Calls Tryd.prog 7 #[.int .i64 m, .int .i64 R] W fun e w' => e = .returned (.bool true) ∧ Keep [] W w' from h.mono fun e w' ⟨h1, h2⟩ => ⟨h1, h2.to_below⟩
  by_cases h : (m < 1 ∨ 16 < m) ∨ (R < 2 ∨ 20 < R)
  · exact rounds_none hE m R h
  · obtain ⟨m', rfl⟩ : ∃ m' : Nat, m = m' := ⟨m.toNat, by omega⟩
    obtain ⟨R', rfl⟩ : ∃ R' : Nat, R = R' := ⟨R.toNat, by omega⟩
    exact rounds_walk hE (by omega) (by omega) (by omega) (by omega)
end Go.Proofs.YtndpbkhpllmhmaaDoor
