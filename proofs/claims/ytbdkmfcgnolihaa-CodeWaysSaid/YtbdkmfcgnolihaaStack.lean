/- HasN, Pops, Pushes: the program's and the reference's. -/
import Derived.Test.YtbdkmfcgnolihaaRows
import Derived.WalkKit
import Derived.WalkSpells
import Derived.WalkLawsBesides
import Derived.RegionTactic
import Derived.ChangeAlike
import Derived.BigQuiet
import Derived.Deep.QuietTactic
import Derived.StillTailTactics
import Derived.IntWalk
import Derived.Handy
import Derived.Lib.Hide
import Derived.Deep.AppendLies
import Derived.Deep.RegionWith
import Derived.Test.YtbdkmfcgnolihaaBase
import Derived.Test.YtbdkmfcgnolihaaTail
import Derived.Test.YtbdkmfcgnolihaaArgs
import Derived.Test.YtbdkmfcgnolihaaAppend
import Derived.Test.YtbdkmfcgnolihaaWords
import Derived.Test.YtbdkmfcgnolihaaWordsLaw
namespace Go.Proofs.Ytbdkmfcgnolihaa
open Go.RowKit


/-- the functions' Args, as the slice of functions has them -/
def FuncsOf (w : World) (v : Value) (fa : List Int) : Prop :=
  ∃ a c, v = .slice a fa.length c ∧ (fa ≠ [] → ∃ b off, a = some ⟨b, off, none⟩ ∧ b < w.heap.size ∧ ∀ (k : Nat) (x : Int), fa[k]? = some x → w.cell? ⟨b, off + k * 4 + 1, none⟩ = some (.int .i64 x))
theorem FuncsOf.keep0 {w w' : World} {v : Value} {fa : List Int} (h : FuncsOf w v fa) (hk : Keep [] w w') : FuncsOf w' v fa := by
  obtain ⟨a, c, rfl, h⟩ := h
  refine ⟨a, c, rfl, fun hy => ?_⟩
  obtain ⟨b, off, rfl, hb, hc⟩ := h hy
  exact ⟨b, off, rfl, Nat.lt_of_lt_of_le hb hk.size, fun k x hx => (hk.cell hb (by simp)).trans (hc k x hx)⟩
theorem FuncsOf.at_ {w : World} {fa : List Int} {av : Option Addr} {n cv : Nat} (h : FuncsOf w (.slice av n cv) fa) {k : Nat} (hk : k < fa.length) :
    ∃ b off, av = some ⟨b, off, none⟩ ∧ b < w.heap.size ∧ w.cell? ⟨b, off + k * 4 + 1, none⟩ = some (.int .i64 fa[k]) := by
  obtain ⟨a, c, hv, h⟩ := h
  obtain ⟨b, off, rfl, hb, hc⟩ := h (by intro h; subst h; simp at hk)
  injection hv with h1 h2 h3
  exact ⟨b, off, h1, hb, hc k _ (List.getElem?_eq_getElem hk)⟩
theorem FuncsOf.shape {w : World} {v : Value} {fa : List Int} (h : FuncsOf w v fa) : ∃ a c, v = .slice a fa.length c := by
  obtain ⟨a, c, hv, _⟩ := h
  exact ⟨a, c, hv⟩
theorem op_cases (op : Int) (h : 1 ≤ op ∧ op ≤ 19) : op = 1 ∨ op = 2 ∨ op = 3 ∨ op = 4 ∨ op = 5 ∨ op = 6 ∨ op = 7 ∨ op = 8 ∨ op = 9 ∨ op = 10 ∨ op = 11 ∨ op = 12 ∨ op = 13 ∨ op = 14 ∨ op = 15 ∨ op = 16 ∨ op = 17 ∨ op = 18 ∨ op = 19 := by omega
/-- no instruction's number -/
def NoOp (op : Int) : Prop := ¬ (1 ≤ op ∧ op ≤ 19)
def hasN (op : Int) : Bool := decide (op = 1 ∨ op = 5 ∨ op = 6 ∨ op = 14 ∨ op = 15 ∨ op = 16)
def pushesOf (op : Int) : Int := if op = 1 ∨ op = 5 ∨ (7 ≤ op ∧ op ≤ 13) ∨ op = 16 ∨ op = 17 then 1 else if op = 3 ∨ op = 4 then 2 else 0
def popsOf (op n : Int) (fa : List Int) : Int :=
  if op = 2 ∨ op = 3 ∨ op = 6 ∨ op = 15 ∨ op = 17 ∨ op = 18 ∨ op = 19 then 1 else if op = 4 ∨ (7 ≤ op ∧ op ≤ 13) then 2 else if op = 16 ∧ 0 ≤ n ∧ n < fa.length then fa.getD n.toNat 0 else 0
set_option maxHeartbeats 4000000 in
theorem hasN_spec (w : World) (op : Int) : Calls Try.prog 16 #[.int .i64 op] w fun e w' => e = .returned (.bool (hasN op)) ∧ w = w' := by
  by_cases hr : NoOp op
  · have hv : hasN op = false := by unfold NoOp at hr; unfold hasN; simp; omega
    rw [hv]
    have b1 : (op == 1) = false := by unfold NoOp at hr; simp; omega
    have b2 : (op == 2) = false := by unfold NoOp at hr; simp; omega
    have b3 : (op == 3) = false := by unfold NoOp at hr; simp; omega
    have b4 : (op == 4) = false := by unfold NoOp at hr; simp; omega
    have b5 : (op == 5) = false := by unfold NoOp at hr; simp; omega
    have b6 : (op == 6) = false := by unfold NoOp at hr; simp; omega
    have b7 : (op == 7) = false := by unfold NoOp at hr; simp; omega
    have b8 : (op == 8) = false := by unfold NoOp at hr; simp; omega
    have b9 : (op == 9) = false := by unfold NoOp at hr; simp; omega
    have b10 : (op == 10) = false := by unfold NoOp at hr; simp; omega
    have b11 : (op == 11) = false := by unfold NoOp at hr; simp; omega
    have b12 : (op == 12) = false := by unfold NoOp at hr; simp; omega
    have b13 : (op == 13) = false := by unfold NoOp at hr; simp; omega
    have b14 : (op == 14) = false := by unfold NoOp at hr; simp; omega
    have b15 : (op == 15) = false := by unfold NoOp at hr; simp; omega
    have b16 : (op == 16) = false := by unfold NoOp at hr; simp; omega
    have b17 : (op == 17) = false := by unfold NoOp at hr; simp; omega
    have b18 : (op == 18) = false := by unfold NoOp at hr; simp; omega
    have b19 : (op == 19) = false := by unfold NoOp at hr; simp; omega
    clear hr hv
    go_enter Try.func16, Try.ntmps16
    go_wp2
    go_ret
    exact ⟨rfl, rfl⟩
  · rcases op_cases op (Classical.not_not.1 hr) with rfl | rfl | rfl | rfl | rfl | rfl | rfl | rfl | rfl | rfl | rfl | rfl | rfl | rfl | rfl | rfl | rfl | rfl | rfl
    all_goals
      clear hr
      go_enter Try.func16, Try.ntmps16
      go_wp2
      go_ret
      exact ⟨rfl, rfl⟩
set_option maxHeartbeats 4000000 in
theorem rhasN_spec (w : World) (op : Int) : Calls Try.prog 17 #[.int .i64 op] w fun e w' => e = .returned (.bool (hasN op)) ∧ w = w' := by
  by_cases hr : NoOp op
  · have hv : hasN op = false := by unfold NoOp at hr; unfold hasN; simp; omega
    rw [hv]
    have b1 : (op == 1) = false := by unfold NoOp at hr; simp; omega
    have b2 : (op == 2) = false := by unfold NoOp at hr; simp; omega
    have b3 : (op == 3) = false := by unfold NoOp at hr; simp; omega
    have b4 : (op == 4) = false := by unfold NoOp at hr; simp; omega
    have b5 : (op == 5) = false := by unfold NoOp at hr; simp; omega
    have b6 : (op == 6) = false := by unfold NoOp at hr; simp; omega
    have b7 : (op == 7) = false := by unfold NoOp at hr; simp; omega
    have b8 : (op == 8) = false := by unfold NoOp at hr; simp; omega
    have b9 : (op == 9) = false := by unfold NoOp at hr; simp; omega
    have b10 : (op == 10) = false := by unfold NoOp at hr; simp; omega
    have b11 : (op == 11) = false := by unfold NoOp at hr; simp; omega
    have b12 : (op == 12) = false := by unfold NoOp at hr; simp; omega
    have b13 : (op == 13) = false := by unfold NoOp at hr; simp; omega
    have b14 : (op == 14) = false := by unfold NoOp at hr; simp; omega
    have b15 : (op == 15) = false := by unfold NoOp at hr; simp; omega
    have b16 : (op == 16) = false := by unfold NoOp at hr; simp; omega
    have b17 : (op == 17) = false := by unfold NoOp at hr; simp; omega
    have b18 : (op == 18) = false := by unfold NoOp at hr; simp; omega
    have b19 : (op == 19) = false := by unfold NoOp at hr; simp; omega
    clear hr hv
    go_enter Try.func17, Try.ntmps17
    go_wp2
    go_ret
    exact ⟨rfl, rfl⟩
  · rcases op_cases op (Classical.not_not.1 hr) with rfl | rfl | rfl | rfl | rfl | rfl | rfl | rfl | rfl | rfl | rfl | rfl | rfl | rfl | rfl | rfl | rfl | rfl | rfl
    all_goals
      clear hr
      go_enter Try.func17, Try.ntmps17
      go_wp2
      go_ret
      exact ⟨rfl, rfl⟩
set_option maxHeartbeats 4000000 in
theorem pushes_spec (w : World) (op n : Int) : Calls Try.prog 11 #[.agg #[.int .i64 op, .int .i64 n]] w fun e w' => e = .returned (.int .i64 (pushesOf op)) ∧ Keep [] w w' := by
  by_cases hr : NoOp op
  · have hv : pushesOf op = 0 := by unfold NoOp at hr; unfold pushesOf; rw [if_neg (by omega), if_neg (by omega)]
    rw [hv]
    have b1 : (op == 1) = false := by unfold NoOp at hr; simp; omega
    have b2 : (op == 2) = false := by unfold NoOp at hr; simp; omega
    have b3 : (op == 3) = false := by unfold NoOp at hr; simp; omega
    have b4 : (op == 4) = false := by unfold NoOp at hr; simp; omega
    have b5 : (op == 5) = false := by unfold NoOp at hr; simp; omega
    have b6 : (op == 6) = false := by unfold NoOp at hr; simp; omega
    have b7 : (op == 7) = false := by unfold NoOp at hr; simp; omega
    have b8 : (op == 8) = false := by unfold NoOp at hr; simp; omega
    have b9 : (op == 9) = false := by unfold NoOp at hr; simp; omega
    have b10 : (op == 10) = false := by unfold NoOp at hr; simp; omega
    have b11 : (op == 11) = false := by unfold NoOp at hr; simp; omega
    have b12 : (op == 12) = false := by unfold NoOp at hr; simp; omega
    have b13 : (op == 13) = false := by unfold NoOp at hr; simp; omega
    have b14 : (op == 14) = false := by unfold NoOp at hr; simp; omega
    have b15 : (op == 15) = false := by unfold NoOp at hr; simp; omega
    have b16 : (op == 16) = false := by unfold NoOp at hr; simp; omega
    have b17 : (op == 17) = false := by unfold NoOp at hr; simp; omega
    have b18 : (op == 18) = false := by unfold NoOp at hr; simp; omega
    have b19 : (op == 19) = false := by unfold NoOp at hr; simp; omega
    have c1 : op < 1 ∨ 19 < op := by unfold NoOp at hr; omega
    clear hr hv
    rcases c1 with c1 | c1
    all_goals
      go_enter Try.func11, Try.ntmps11
      go_wp2
      go_ret
      exact ⟨rfl, (Keep.refl _ _).alloc _⟩
  · rcases op_cases op (Classical.not_not.1 hr) with rfl | rfl | rfl | rfl | rfl | rfl | rfl | rfl | rfl | rfl | rfl | rfl | rfl | rfl | rfl | rfl | rfl | rfl | rfl
    all_goals
      clear hr
      go_enter Try.func11, Try.ntmps11
      go_wp2
      go_ret
      exact ⟨rfl, (Keep.refl _ _).alloc _⟩
set_option maxHeartbeats 4000000 in
theorem rpushes_spec (w : World) (op n : Int) : Calls Try.prog 19 #[.agg #[.int .i64 op, .int .i64 n]] w fun e w' => e = .returned (.int .i64 (pushesOf op)) ∧ Keep [] w w' := by
  by_cases hr : NoOp op
  · have hv : pushesOf op = 0 := by unfold NoOp at hr; unfold pushesOf; rw [if_neg (by omega), if_neg (by omega)]
    rw [hv]
    have b1 : (op == 1) = false := by unfold NoOp at hr; simp; omega
    have b2 : (op == 2) = false := by unfold NoOp at hr; simp; omega
    have b3 : (op == 3) = false := by unfold NoOp at hr; simp; omega
    have b4 : (op == 4) = false := by unfold NoOp at hr; simp; omega
    have b5 : (op == 5) = false := by unfold NoOp at hr; simp; omega
    have b6 : (op == 6) = false := by unfold NoOp at hr; simp; omega
    have b7 : (op == 7) = false := by unfold NoOp at hr; simp; omega
    have b8 : (op == 8) = false := by unfold NoOp at hr; simp; omega
    have b9 : (op == 9) = false := by unfold NoOp at hr; simp; omega
    have b10 : (op == 10) = false := by unfold NoOp at hr; simp; omega
    have b11 : (op == 11) = false := by unfold NoOp at hr; simp; omega
    have b12 : (op == 12) = false := by unfold NoOp at hr; simp; omega
    have b13 : (op == 13) = false := by unfold NoOp at hr; simp; omega
    have b14 : (op == 14) = false := by unfold NoOp at hr; simp; omega
    have b15 : (op == 15) = false := by unfold NoOp at hr; simp; omega
    have b16 : (op == 16) = false := by unfold NoOp at hr; simp; omega
    have b17 : (op == 17) = false := by unfold NoOp at hr; simp; omega
    have b18 : (op == 18) = false := by unfold NoOp at hr; simp; omega
    have b19 : (op == 19) = false := by unfold NoOp at hr; simp; omega
    have c1 : op < 1 ∨ 19 < op := by unfold NoOp at hr; omega
    clear hr hv
    rcases c1 with c1 | c1
    all_goals
      go_enter Try.func19, Try.ntmps19
      go_wp2
      go_ret
      exact ⟨rfl, (Keep.refl _ _).alloc _⟩
  · rcases op_cases op (Classical.not_not.1 hr) with rfl | rfl | rfl | rfl | rfl | rfl | rfl | rfl | rfl | rfl | rfl | rfl | rfl | rfl | rfl | rfl | rfl | rfl | rfl
    all_goals
      clear hr
      go_enter Try.func19, Try.ntmps19
      go_wp2
      go_ret
      exact ⟨rfl, (Keep.refl _ _).alloc _⟩
set_option maxHeartbeats 8000000 in
theorem pops_spec (w : World) (op n : Int) (v : Value) (fa : List Int) (hf : FuncsOf w v fa) : Calls Try.prog 10 #[.agg #[.int .i64 op, .int .i64 n], v] w fun e w' => e = .returned (.int .i64 (popsOf op n fa)) ∧ Keep [] w w' := by
  have Hf := Lib.hid hf
  obtain ⟨a, c, rfl⟩ := hf.shape
  clear hf
  by_cases hr : NoOp op
  · have hv : popsOf op n fa = 0 := by unfold NoOp at hr; unfold popsOf; rw [if_neg (by omega), if_neg (by omega), if_neg (by omega)]
    rw [hv]
    have b1 : (op == 1) = false := by unfold NoOp at hr; simp; omega
    have b2 : (op == 2) = false := by unfold NoOp at hr; simp; omega
    have b3 : (op == 3) = false := by unfold NoOp at hr; simp; omega
    have b4 : (op == 4) = false := by unfold NoOp at hr; simp; omega
    have b5 : (op == 5) = false := by unfold NoOp at hr; simp; omega
    have b6 : (op == 6) = false := by unfold NoOp at hr; simp; omega
    have b7 : (op == 7) = false := by unfold NoOp at hr; simp; omega
    have b8 : (op == 8) = false := by unfold NoOp at hr; simp; omega
    have b9 : (op == 9) = false := by unfold NoOp at hr; simp; omega
    have b10 : (op == 10) = false := by unfold NoOp at hr; simp; omega
    have b11 : (op == 11) = false := by unfold NoOp at hr; simp; omega
    have b12 : (op == 12) = false := by unfold NoOp at hr; simp; omega
    have b13 : (op == 13) = false := by unfold NoOp at hr; simp; omega
    have b14 : (op == 14) = false := by unfold NoOp at hr; simp; omega
    have b15 : (op == 15) = false := by unfold NoOp at hr; simp; omega
    have b16 : (op == 16) = false := by unfold NoOp at hr; simp; omega
    have b17 : (op == 17) = false := by unfold NoOp at hr; simp; omega
    have b18 : (op == 18) = false := by unfold NoOp at hr; simp; omega
    have b19 : (op == 19) = false := by unfold NoOp at hr; simp; omega
    have c1 : op < 1 ∨ 19 < op := by unfold NoOp at hr; omega
    clear hr hv
    rcases c1 with c1 | c1
    all_goals
      go_enter Try.func10, Try.ntmps10
      go_wp2
      go_ret
      exact ⟨rfl, (Keep.refl _ _).alloc _⟩
  · by_cases h16 : op = 16
    · subst h16
      by_cases hn : 0 ≤ n ∧ n < fa.length
      · obtain ⟨h0, h1⟩ := hn
        obtain ⟨k, rfl⟩ := Int.eq_ofNat_of_zero_le h0
        have hk : k < fa.length := by omega
        obtain ⟨b, off, rfl, _, hc⟩ := Hf.out.at_ hk
        have hv : popsOf 16 k fa = fa[k] := by
          unfold popsOf
          rw [if_neg (by decide), if_neg (by decide), if_pos ⟨rfl, h0, h1⟩]
          simp [List.getElem?_eq_getElem hk]
        obtain ⟨x, hx⟩ : ∃ x, x = fa[k] := ⟨_, rfl⟩
        rw [← hx] at hc hv
        have Hv := Lib.hid hv
        clear hv hx hr
        go_enter Try.func10, Try.ntmps10
        go_wp2
        go_ret
        exact ⟨ret_int Hv.out.symm, (Keep.refl _ _).alloc _⟩
      · have hv : popsOf 16 n fa = 0 := by unfold popsOf; rw [if_neg (by decide), if_neg (by decide), if_neg (fun h => hn h.2)]
        rw [hv]
        clear hr hv
        by_cases h0 : n < 0
        · go_enter Try.func10, Try.ntmps10
          go_wp2
          go_ret
          exact ⟨rfl, (Keep.refl _ _).alloc _⟩
        · have h1 : (fa.length : Int) ≤ n := by omega
          clear hn
          go_enter Try.func10, Try.ntmps10
          go_wp2
          go_ret
          exact ⟨rfl, (Keep.refl _ _).alloc _⟩
    · have hv : popsOf op n fa = popsOf op 0 [] := by unfold popsOf; rw [if_neg (c := op = 16 ∧ _) (fun h => h16 h.1), if_neg (c := op = 16 ∧ _) (fun h => h16 h.1)]
      rw [hv]
      rcases op_cases op (Classical.not_not.1 hr) with rfl | rfl | rfl | rfl | rfl | rfl | rfl | rfl | rfl | rfl | rfl | rfl | rfl | rfl | rfl | rfl | rfl | rfl | rfl
      all_goals (first | (exact absurd rfl h16) | (clear hr hv h16; go_enter Try.func10, Try.ntmps10; go_wp2; go_ret; exact ⟨rfl, (Keep.refl _ _).alloc _⟩))
set_option maxHeartbeats 8000000 in
theorem rpops_spec (w : World) (op n : Int) (v : Value) (fa : List Int) (hf : FuncsOf w v fa) : Calls Try.prog 18 #[.agg #[.int .i64 op, .int .i64 n], v] w fun e w' => e = .returned (.int .i64 (popsOf op n fa)) ∧ Keep [] w w' := by
  have Hf := Lib.hid hf
  obtain ⟨a, c, rfl⟩ := hf.shape
  clear hf
  by_cases hr : NoOp op
  · have hv : popsOf op n fa = 0 := by unfold NoOp at hr; unfold popsOf; rw [if_neg (by omega), if_neg (by omega), if_neg (by omega)]
    rw [hv]
    have b1 : (op == 1) = false := by unfold NoOp at hr; simp; omega
    have b2 : (op == 2) = false := by unfold NoOp at hr; simp; omega
    have b3 : (op == 3) = false := by unfold NoOp at hr; simp; omega
    have b4 : (op == 4) = false := by unfold NoOp at hr; simp; omega
    have b5 : (op == 5) = false := by unfold NoOp at hr; simp; omega
    have b6 : (op == 6) = false := by unfold NoOp at hr; simp; omega
    have b7 : (op == 7) = false := by unfold NoOp at hr; simp; omega
    have b8 : (op == 8) = false := by unfold NoOp at hr; simp; omega
    have b9 : (op == 9) = false := by unfold NoOp at hr; simp; omega
    have b10 : (op == 10) = false := by unfold NoOp at hr; simp; omega
    have b11 : (op == 11) = false := by unfold NoOp at hr; simp; omega
    have b12 : (op == 12) = false := by unfold NoOp at hr; simp; omega
    have b13 : (op == 13) = false := by unfold NoOp at hr; simp; omega
    have b14 : (op == 14) = false := by unfold NoOp at hr; simp; omega
    have b15 : (op == 15) = false := by unfold NoOp at hr; simp; omega
    have b16 : (op == 16) = false := by unfold NoOp at hr; simp; omega
    have b17 : (op == 17) = false := by unfold NoOp at hr; simp; omega
    have b18 : (op == 18) = false := by unfold NoOp at hr; simp; omega
    have b19 : (op == 19) = false := by unfold NoOp at hr; simp; omega
    have c1 : op < 1 ∨ 19 < op := by unfold NoOp at hr; omega
    clear hr hv
    rcases c1 with c1 | c1
    all_goals
      go_enter Try.func18, Try.ntmps18
      go_wp2
      go_ret
      exact ⟨rfl, (Keep.refl _ _).alloc _⟩
  · by_cases h16 : op = 16
    · subst h16
      by_cases hn : 0 ≤ n ∧ n < fa.length
      · obtain ⟨h0, h1⟩ := hn
        obtain ⟨k, rfl⟩ := Int.eq_ofNat_of_zero_le h0
        have hk : k < fa.length := by omega
        obtain ⟨b, off, rfl, _, hc⟩ := Hf.out.at_ hk
        have hv : popsOf 16 k fa = fa[k] := by
          unfold popsOf
          rw [if_neg (by decide), if_neg (by decide), if_pos ⟨rfl, h0, h1⟩]
          simp [List.getElem?_eq_getElem hk]
        obtain ⟨x, hx⟩ : ∃ x, x = fa[k] := ⟨_, rfl⟩
        rw [← hx] at hc hv
        have Hv := Lib.hid hv
        clear hv hx hr
        go_enter Try.func18, Try.ntmps18
        go_wp2
        go_ret
        exact ⟨ret_int Hv.out.symm, (Keep.refl _ _).alloc _⟩
      · have hv : popsOf 16 n fa = 0 := by unfold popsOf; rw [if_neg (by decide), if_neg (by decide), if_neg (fun h => hn h.2)]
        rw [hv]
        clear hr hv
        by_cases h0 : n < 0
        · go_enter Try.func18, Try.ntmps18
          go_wp2
          go_ret
          exact ⟨rfl, (Keep.refl _ _).alloc _⟩
        · have h1 : (fa.length : Int) ≤ n := by omega
          clear hn
          go_enter Try.func18, Try.ntmps18
          go_wp2
          go_ret
          exact ⟨rfl, (Keep.refl _ _).alloc _⟩
    · have hv : popsOf op n fa = popsOf op 0 [] := by unfold popsOf; rw [if_neg (c := op = 16 ∧ _) (fun h => h16 h.1), if_neg (c := op = 16 ∧ _) (fun h => h16 h.1)]
      rw [hv]
      rcases op_cases op (Classical.not_not.1 hr) with rfl | rfl | rfl | rfl | rfl | rfl | rfl | rfl | rfl | rfl | rfl | rfl | rfl | rfl | rfl | rfl | rfl | rfl | rfl
      all_goals (first | (exact absurd rfl h16) | (clear hr hv h16; go_enter Try.func18, Try.ntmps18; go_wp2; go_ret; exact ⟨rfl, (Keep.refl _ _).alloc _⟩))
end Go.Proofs.Ytbdkmfcgnolihaa
