/- The law DequeLast. -/
import Derived.Test.YtkeaekckblpfjaaRows
import Derived.WalkKit
import Derived.WalkSpells
import Derived.WalkLawsBesides
import Derived.RegionTactic
import Derived.ChangeAlike
import Derived.BigQuiet
import Derived.Deep.QuietTactic
import Derived.StillTailTactics
import Derived.IntWalk
import Derived.Handy
import Derived.Lib.Hide
import Derived.Deep.AppendLies
import Derived.Deep.RegionWith
import Derived.Test.YtkeaekckblpfjaaDequeRow
import Derived.Test.YtkeaekckblpfjaaSame
import Derived.Test.YtkeaekckblpfjaaOffs
import Derived.Test.YtkeaekckblpfjaaAloneLaw
import Derived.Test.YtkeaekckblpfjaaChaseUse
namespace Go.Proofs.Ytkeaekckblpfjaa
open Go.RowKit

/-- how many of the numbers from L on, below i, are multiples of m -/
def mults (m L i : Nat) : Nat := (i + m - 1) / m - (L + m - 1) / m
theorem mults_succ {m L i : Nat} (h1 : 2 ≤ m) (h2 : m ≤ 16) (hL : L ≤ i) : mults m L (i + 1) = mults m L i + (if i % m = 0 then 1 else 0) := by
  have hm : m = 2 ∨ m = 3 ∨ m = 4 ∨ m = 5 ∨ m = 6 ∨ m = 7 ∨ m = 8 ∨ m = 9 ∨ m = 10 ∨ m = 11 ∨ m = 12 ∨ m = 13 ∨ m = 14 ∨ m = 15 ∨ m = 16 := by omega
  unfold mults
  rcases hm with rfl | rfl | rfl | rfl | rfl | rfl | rfl | rfl | rfl | rfl | rfl | rfl | rfl | rfl | rfl <;> split <;> omega
theorem mults_self (m L : Nat) : mults m L L = 0 := by unfold mults; omega
theorem mults_end {m L : Nat} (h1 : 2 ≤ m) (h2 : m ≤ 16) : 5 ≤ mults m L (L + 100) := by
  have hm : m = 2 ∨ m = 3 ∨ m = 4 ∨ m = 5 ∨ m = 6 ∨ m = 7 ∨ m = 8 ∨ m = 9 ∨ m = 10 ∨ m = 11 ∨ m = 12 ∨ m = 13 ∨ m = 14 ∨ m = 15 ∨ m = 16 := by omega
  unfold mults
  rcases hm with rfl | rfl | rfl | rfl | rfl | rfl | rfl | rfl | rfl | rfl | rfl | rfl | rfl | rfl | rfl <;> omega
theorem LastQ.len {q : DQ} {tk : List Int} (h : LastQ q tk) : q.calls.length = 16 := by obtain ⟨C, hi, _⟩ := h; exact hi.len
theorem LastQ.atLeast0 {q : DQ} {tk : List Int} (h : LastQ q tk) : AtLeast q 0 0 := by obtain ⟨C, hi, _⟩ := h; exact hi.atLeast0 0
theorem atLeast_next {q q' : DQ} {a v : Int} {m L i : Nat} (h : AtLeast q 0 (mults m L i)) (hl : q.calls.length = 16) (h1 : 2 ≤ m) (h2 : m ≤ 16) (hL : L ≤ i) (hq : dqStep q ((i % m : Nat) : Int) = (q', a, v)) : AtLeast q' 0 (mults m L (i + 1)) := by
  have hlt : i % m < 16 := by have := Nat.mod_lt i (show 0 < m by omega); omega
  have hs := h.step hlt hl
  rw [hq] at hs
  rw [mults_succ h1 h2 hL]
  refine hs.mono ?_
  by_cases h0 : i % m = 0
  · rw [if_pos h0, if_pos h0.symm]; omega
  · rw [if_neg h0, if_neg (fun e => h0 e.symm)]; omega
set_option maxHeartbeats 8000000 in
set_option maxRecDepth 100000 in
theorem dequeLast_any (w : World) (n : Int) (v : Value) (ys : List Int) (hv : IntsOf w v ys) : Calls Try.prog 10 #[.int .i64 n, v] w fun e w' => e = .returned (.bool true) ∧ Keep [] w w' := by
  obtain ⟨a, c, rfl⟩ := hv.shape
  by_cases hin : (1 ≤ n ∧ n ≤ 15) ∧ ys.length ≤ 200
  · obtain ⟨⟨g1, g2⟩, g3⟩ := hin
    obtain ⟨N, rfl⟩ := Int.eq_ofNat_of_zero_le (show 0 ≤ n by omega)
    have Hv := Lib.hid hv
    clear hv
    obtain ⟨q1, q2, s1, s2, s3, s4, s5⟩ := LastQ.start
    have S1 := Lib.hid s1
    have S2 := Lib.hid s2
    clear s1 s2
    go_enter Try.func10, Try.ntmps10
    go_wp2_with fail
    refine (alive_spec _).mono ?_
    rintro e w1 ⟨rfl, k1⟩
    go_wp2_with fail
    refine (dqNew_spec _).mono ?_
    rintro e w2 ⟨pd, F, rfl, a2, f2, k2⟩
    obtain ⟨k3, f3⟩ := reach_trans (F := []) (F1 := []) k1 (by simp) k2 (fun x hx => Or.inr (f2 x hx))
    clear k1 f2 k2
    go_wp2_with fail
    refine (through_eq 0 1 5 1 0 S1.out a2 Bd.new (by omega) (by omega)).mono ?_
    rintro e w4 ⟨rfl, F4, a4, k4, f4⟩
    obtain ⟨k5, f5⟩ := reach_trans k3 f3 k4 f4
    clear k3 f3 k4 f4 a2
    go_wp2_with fail
    refine (begin_eq 0 2 0 S2.out a4).mono ?_
    rintro e w6 ⟨rfl, F6, a6, k6, f6⟩
    obtain ⟨k7, f7⟩ := reach_trans k5 f5 k6 f6
    clear k5 f5 k6 f6 a4
    go_wp2_with fail
    go_loopw [7] (fun v7 wr => ∃ (k : Nat) (q : DQ) (F' : List Nat), 1 ≤ k ∧ k ≤ N + 1 ∧ v7 = .int .i64 k ∧ DequeAt wr pd F' q ∧ Keep [] w wr ∧ (∀ x ∈ F', x ∈ ([] : List Nat) ∨ w.heap.size ≤ x) ∧ LastQ q [] ∧ Bd 10 q) (fun v _ => N + 1 - (intOf v).toNat)
    case atStart => exact ⟨1, q2, F6, by omega, by omega, rfl, a6, k7, f7, s3, s5⟩
    case round =>
      clear a6 k7 f7 s3 s5
      obtain ⟨k, q, F', hk1, hk, rfl, a8, k8, f8, hq, hb⟩ := hrel
      by_cases hlt : k ≤ N
      · obtain ⟨q', e1, he1⟩ : ∃ q' e1, dqBegin q k 3 0 = (q', e1) := ⟨_, _, rfl⟩
        have hq' := hq.begin3 he1
        have hb' := hb.begin (by omega) k 3 0
        rw [he1] at hb'
        have E1 := Lib.hid he1
        clear he1 hq
        go_wp2_with fail
        refine (begin_eq _ 3 0 E1.out a8).mono ?_
        rintro e w9 ⟨rfl, F9, a9, k9, f9⟩
        obtain ⟨k10, f10⟩ := reach_trans k8 f8 k9 f9
        clear a8 k8 f8 k9 f9
        go_wp2
        go_roundw
        case rel => exact ⟨k + 1, q', F9, by omega, by omega, by go_num, a9, k10, f10, hq', hb'⟩
        case measure => simp [intOf]; omega
      · go_wp2_with fail
        go_loopw [8, 9, 10] (fun v8 v9 v10 wr => ∃ (i : Nat) (tk : List Int) (q : DQ) (F' : List Nat), i ≤ ys.length + 100 ∧ v8 = .int .i64 tk.length ∧ v9 = .int .i64 i ∧ DequeAt wr pd F' q ∧ Keep [] w wr ∧ (∀ x ∈ F', x ∈ ([] : List Nat) ∨ w.heap.size ≤ x) ∧ LastQ q tk ∧ Bd (10 + i) q ∧
          tk.length ≤ i ∧ (ys.length ≤ i → AtLeast q 0 (mults (N + 1) ys.length i))) (fun _ v _ _ => ys.length + 100 - (intOf v).toNat)
        case atStart => exact ⟨0, [], q, F', by omega, rfl, rfl, a8, k8, f8, hq, hb, by simp, fun h => by have : ys.length = 0 := by omega
                                                                                                          rw [this, mults_self]; exact hq.atLeast0⟩
        case round =>
          clear a8 k8 f8 hq hb
          obtain ⟨i, tk, q, F', hi, rfl, rfl, a8, k8, f8, hq, hb, htk, hal⟩ := hrel
          by_cases hlt : i < ys.length
          · obtain ⟨ba, offa, rfl, hba, hca⟩ := (Hv.out.keep0 k8).at_ hlt
            have hcell := hca i _ (List.getElem?_eq_getElem hlt)
            clear hca
            obtain ⟨x, hx⟩ : ∃ x, x = (bits BinOp.and IntKind.i64 ys[i] 127).tmod ((N : Int) + 1) := ⟨_, rfl⟩
            obtain ⟨q', a', v', hq1⟩ : ∃ q' a' v', dqStep q x = (q', a', v') := ⟨_, _, _, rfl⟩
            obtain ⟨hs1, hs2⟩ := hq.step hq1
            have hb' := hb.step x
            rw [hq1] at hb'
            have E1 := Lib.hid hq1
            have Hx := Lib.hid hx
            clear hq1 hx hal hq
            by_cases ha : a' = 2
            · subst ha
              obtain ⟨rfl, hq'⟩ := hs1 rfl
              have hz : i + 1 = ys.length → mults (N + 1) ys.length (i + 1) = 0 := fun h => by rw [h, mults_self]
              have Hz := Lib.hid hz
              clear hs1 hs2 hz
              go_wp2_with fail
              rw [← Hx.out]
              refine (step_eq _ E1.out a8 (hb.all (by omega))).mono ?_
              rintro e w9 ⟨rfl, F9, a9, k9, f9⟩
              obtain ⟨k10, f10⟩ := reach_trans k8 f8 k9 f9
              clear a8 k8 f8 k9 f9 hcell
              go_wp2
              go_roundw
              case rel => exact ⟨i + 1, tk ++ [5], q', F9, by omega, by simp, by go_num, a9, k10, f10, hq', hb'.mono (by omega), by simp; omega, fun h => by rw [Hz.out (by omega)]; exact hq'.atLeast0⟩
              case measure => simp [intOf]; omega
            · have hq' := hs2 ha
              have ha' : (a' == 2) = false := by simpa using ha
              have hz : i + 1 = ys.length → mults (N + 1) ys.length (i + 1) = 0 := fun h => by rw [h, mults_self]
              have Hz := Lib.hid hz
              clear hs1 hs2 hz ha
              go_wp2_with fail
              rw [← Hx.out]
              refine (step_eq _ E1.out a8 (hb.all (by omega))).mono ?_
              rintro e w9 ⟨rfl, F9, a9, k9, f9⟩
              obtain ⟨k10, f10⟩ := reach_trans k8 f8 k9 f9
              clear a8 k8 f8 k9 f9 hcell
              go_wp2
              go_roundw
              case rel => exact ⟨i + 1, tk, q', F9, by omega, rfl, by go_num, a9, k10, f10, hq', hb'.mono (by omega), by omega, fun h => by rw [Hz.out (by omega)]; exact hq'.atLeast0⟩
              case measure => simp [intOf]; omega
          · by_cases hlt2 : i < ys.length + 100
            · obtain ⟨x, hx⟩ : ∃ x : Int, x = (i : Int) % ((N : Int) + 1) := ⟨_, rfl⟩
              obtain ⟨q', a', v', hq1⟩ : ∃ q' a' v', dqStep q x = (q', a', v') := ⟨_, _, _, rfl⟩
              obtain ⟨hs1, hs2⟩ := hq.step hq1
              have hb' := hb.step x
              rw [hq1] at hb'
              have hnext : AtLeast q' 0 (mults (N + 1) ys.length (i + 1)) :=
                atLeast_next (hal (by omega)) hq.len (by omega) (by omega) (by omega) (by rw [show ((i % (N + 1) : Nat) : Int) = x by rw [hx]; simp]; exact hq1)
              have E1 := Lib.hid hq1
              have Hx := Lib.hid hx
              clear hq1 hx hal hq
              by_cases ha : a' = 2
              · subst ha
                obtain ⟨rfl, hq'⟩ := hs1 rfl
                clear hs1 hs2
                go_wp2_with fail
                rw [← Hx.out]
                refine (step_eq _ E1.out a8 (hb.all (by omega))).mono ?_
                rintro e w9 ⟨rfl, F9, a9, k9, f9⟩
                obtain ⟨k10, f10⟩ := reach_trans k8 f8 k9 f9
                clear a8 k8 f8 k9 f9
                go_wp2
                go_roundw
                case rel => exact ⟨i + 1, tk ++ [5], q', F9, by omega, by simp, by go_num, a9, k10, f10, hq', hb'.mono (by omega), by simp; omega, fun _ => hnext⟩
                case measure => simp [intOf]; omega
              · have hq' := hs2 ha
                have ha' : (a' == 2) = false := by simpa using ha
                clear hs1 hs2 ha
                go_wp2_with fail
                rw [← Hx.out]
                refine (step_eq _ E1.out a8 (hb.all (by omega))).mono ?_
                rintro e w9 ⟨rfl, F9, a9, k9, f9⟩
                obtain ⟨k10, f10⟩ := reach_trans k8 f8 k9 f9
                clear a8 k8 f8 k9 f9
                go_wp2
                go_roundw
                case rel => exact ⟨i + 1, tk, q', F9, by omega, rfl, by go_num, a9, k10, f10, hq', hb'.mono (by omega), by omega, fun _ => hnext⟩
                case measure => simp [intOf]; omega
            · have hie : i = ys.length + 100 := by omega
              have h5 := hal (by omega)
              rw [hie] at h5
              obtain ⟨hl1, hit⟩ := hq.fin (h5.mono (by have := mults_end (m := N + 1) (L := ys.length) (by omega) (by omega); omega))
              obtain ⟨x, rfl⟩ := List.length_eq_one_iff.1 hl1
              have hs := items_spec a8 (hb.tb (by omega))
              rw [hit] at hs
              have Hs := Lib.hid hs
              clear hie h5 hl1 hit hs hal
              go_wp2_with fail
              refine Hs.out.mono ?_
              rintro e w9 ⟨v9, rfl, hown9, k9⟩
              obtain ⟨a9, c9, rfl⟩ := own_shape hown9
              go_wp2
              go_ret
              exact ⟨rfl, k8.trans k9 (by simp)⟩
  · have hc : n < 1 ∨ (1 ≤ n ∧ 15 < n) ∨ ((1 ≤ n ∧ n ≤ 15) ∧ 200 < ys.length) := by omega
    clear hin
    go_enter Try.func10, Try.ntmps10
    go_wp2_with fail
    refine (alive_spec _).mono ?_
    rintro e w1 ⟨rfl, hk1⟩
    rcases hc with h | ⟨h, h'⟩ | ⟨⟨h, h'⟩, h2⟩
    all_goals (go_wp2; go_ret; exact ⟨rfl, hk1⟩)
theorem walk_dequeLast {H : Type} {enc : TypeId × Value → H} (W : World) {n : Int} {v1 : Value} {d1 : DataW H} {p1 : List MemPlace} {base : Nat} (_ : (Lit.int .i64 n).wf = true)
    (o1 : Value.okWide Try.prog W .any base 29 v1) (h1 : DataW.Trod enc Try.prog W 0 (fun _ => true) true 29 v1 d1 p1) :
    Calls Try.prog 10 #[.int .i64 n, v1] W fun e w' => e = .returned (.bool true) ∧ Below W.heap.size W w' := by
  obtain ⟨ys, hys, _⟩ := ints_open Try.underlying29 Try.underlying3 (by kernel_rfl) o1 h1
  exact (dequeLast_any W n v1 ys hys).mono fun _ _ ⟨he, hk⟩ => ⟨he, hk.to_below⟩
end Go.Proofs.Ytkeaekckblpfjaa
