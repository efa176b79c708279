/- Next, SameInts, alive, and the law CodeWords. -/
import Derived.Test.YtbdkmfcgnolihaaRows
import Derived.WalkKit
import Derived.WalkSpells
import Derived.WalkLawsBesides
import Derived.RegionTactic
import Derived.ChangeAlike
import Derived.BigQuiet
import Derived.Deep.QuietTactic
import Derived.StillTailTactics
import Derived.IntWalk
import Derived.Handy
import Derived.Lib.Hide
import Derived.Deep.AppendLies
import Derived.Deep.RegionWith
import Derived.Test.YtbdkmfcgnolihaaBase
import Derived.Test.YtbdkmfcgnolihaaTail
import Derived.Test.YtbdkmfcgnolihaaArgs
import Derived.Test.YtbdkmfcgnolihaaAppend
import Derived.Test.YtbdkmfcgnolihaaWords
namespace Go.Proofs.Ytbdkmfcgnolihaa
open Go.RowKit

/-! ### plain -/
theorem notEmpty {s : ByteArray} (h : s ≠ ⟨#[]⟩) : s.toList.isEmpty = false := by
  rw [ByteArray.toList_eq]
  refine Classical.byContradiction fun e => h ?_
  cases s
  simp at e
  rw [e]
theorem nameOf_out (a : Int) (h : ¬ (1 ≤ a ∧ a ≤ 19)) : nameOf a = ⟨#[]⟩ := by
  unfold nameOf
  by_cases h0 : 0 ≤ a ∧ a < 20
  · obtain rfl : a = 0 := by omega
    rfl
  · rw [if_neg h0]
theorem idxOf_empty : idxOf ⟨#[]⟩ = 0 := by decide
theorem words_fin : ∀ n : Nat, n < 20 → 1 ≤ n → idxOf (nameOf n) = n ∧ nameOf n ≠ ⟨#[]⟩ := by decide
theorem idxOf_nameOf (a : Int) (h : 1 ≤ a ∧ a ≤ 19) : idxOf (nameOf a) = a ∧ nameOf a ≠ ⟨#[]⟩ := by
  obtain ⟨n, rfl⟩ := Int.eq_ofNat_of_zero_le (show 0 ≤ a by omega)
  exact words_fin n (by omega) (by omega)
theorem nameOf_inj (a b : Int) (h : 1 ≤ a ∧ a ≤ 19) (he : nameOf a = nameOf b) : a = b := by
  have h1 := idxOf_nameOf a h
  by_cases hb : 1 ≤ b ∧ b ≤ 19
  · have h2 := idxOf_nameOf b hb
    rw [← h1.1, ← h2.1, he]
  · rw [nameOf_out b hb] at he
    exact absurd he h1.2
/-- where an instruction goes on -/
def nextOf (op n at_ : Int) : List Int :=
  if op = 14 then [n] else if op = 15 ∧ n ≠ at_ + 1 then [at_ + 1, n] else if 1 ≤ op ∧ op ≤ 17 then [at_ + 1] else []
/-- 'it answers a slice of its own that reads l' -/
def OwnPost (l : List Int) (w : World) (e : Ending) (w' : World) : Prop :=
  ∃ v, e = .returned v ∧ w'.ownsRow w.heap.size 3 1 v l.length (l.map (.int .i64)) ∧ Keep [] w w'
theorem own_lit {w0 w : World} (l : List Int) (hk : Keep [] w0 w) (cs : Array Value) (hcs : cs = (l.map (Value.int .i64)).toArray) (hl : l.length ≤ 1000) :
    (w.alloc (.cells cs 3)).ownsRow w0.heap.size 3 1 (.slice (some ⟨w.heap.size, 0, none⟩) l.length l.length) l.length (l.map (.int .i64)) := by
  subst hcs
  have := World.ownsRow_lit (base := w0.heap.size) (e := 3) (size := 1) w (l.map (Value.int .i64)).toArray l.length hk.size (by unfold maxLen; omega) (by simp)
  simpa using this
theorem own_post (l : List Int) {w w1 W' : World} {v : Value} (hk : Keep [] w w1) (g : Nat) (hg : g = w1.heap.size) (hv : v = .slice (some ⟨g, 0, none⟩) l.length l.length) (hW : W' = w1.alloc (.cells (l.map (Value.int .i64)).toArray 3)) (hl : l.length ≤ 1000) :
    OwnPost l w (.returned v) W' := by
  subst hg hv hW
  exact ⟨_, rfl, own_lit l hk _ rfl hl, hk.alloc _⟩
theorem nil_post {w w1 : World} (hk : Keep [] w w1) : OwnPost [] w (.returned (.slice none 0 0)) w1 := ⟨_, rfl, World.ownsRow_nil _ _ _ _, hk⟩

/-! ### Next -/
set_option maxHeartbeats 1000000 in
theorem next_spec (w : World) (op n at_ : Int) (h1 : -9223372036854775808 ≤ at_) (h2 : at_ ≤ 9223372036854775806) :
    Calls Try.prog 9 #[.agg #[.int .i64 op, .int .i64 n], .int .i64 at_] w (OwnPost (nextOf op n at_) w) := by
  by_cases c1 : op = 14
  · subst c1
    have e : nextOf 14 n at_ = [n] := rfl
    rw [e]
    go_enter Try.func9, Try.ntmps9
    go_wp2_with fail
    go_ret
    exact own_post [n] ((Keep.refl _ w).alloc _) (w.heap.size + 1) (by simp) rfl rfl (by simp)
  · have b1 : (op == 14) = false := by simpa using c1
    by_cases c2 : op = 15 ∧ n ≠ at_ + 1
    · obtain ⟨rfl, c2⟩ := c2
      have e : nextOf 15 n at_ = [at_ + 1, n] := by unfold nextOf; rw [if_neg (by decide), if_pos ⟨rfl, c2⟩]
      rw [e]
      have b2 : (n != at_ + 1) = true := by simpa using c2
      clear c2 e
      go_enter Try.func9, Try.ntmps9
      go_wp2_with fail
      go_ret
      exact own_post [at_ + 1, n] ((Keep.refl _ w).alloc _) (w.heap.size + 1) (by simp) rfl rfl (by simp)
    · by_cases c3 : 1 ≤ op ∧ op ≤ 17
      · have e : nextOf op n at_ = [at_ + 1] := by unfold nextOf; rw [if_neg c1, if_neg c2, if_pos c3]
        rw [e]
        have hn := notEmpty (idxOf_nameOf op (by omega)).2
        have Hn := Lib.hid hn
        have b3 : (op == 18) = false := by simp; omega
        have b4 : (op == 19) = false := by simp; omega
        clear hn e c1
        by_cases c4 : op = 15
        · subst c4
          obtain rfl : n = at_ + 1 := by
            refine Classical.byContradiction fun h => c2 ⟨rfl, h⟩
          clear c2 b1 b3 b4 c3
          go_enter Try.func9, Try.ntmps9
          go_wp2_with fail
          refine (name_spec _ _).mono ?_
          rintro e w1 ⟨rfl, hk⟩
          have hn := Hn.out
          have hk' : Keep [] w w1 := ((Keep.refl _ _).alloc _).trans hk (by simp)
          go_wp2
          go_ret
          exact own_post [at_ + 1] hk' _ rfl rfl rfl (by simp)
        · have b5 : (op == 15) = false := by simpa using c4
          clear c2 c4 c3
          go_enter Try.func9, Try.ntmps9
          go_wp2_with fail
          refine (name_spec _ _).mono ?_
          rintro e w1 ⟨rfl, hk⟩
          have hn := Hn.out
          have hk' : Keep [] w w1 := ((Keep.refl _ _).alloc _).trans hk (by simp)
          go_wp2
          go_ret
          exact own_post [at_ + 1] hk' _ rfl rfl rfl (by simp)
      · have c5 : op ≠ 15 := by omega
        have e : nextOf op n at_ = [] := by unfold nextOf; rw [if_neg c1, if_neg (fun h => c5 h.1), if_neg c3]
        rw [e]
        have b5 : (op == 15) = false := by simpa using c5
        by_cases c6 : op = 18
        · subst c6
          clear c1 c2 c3 c5 e
          go_enter Try.func9, Try.ntmps9
          go_wp2_with fail
          go_ret
          exact nil_post ((Keep.refl _ _).alloc _)
        · have b6 : (op == 18) = false := by simpa using c6
          by_cases c7 : op = 19
          · subst c7
            clear c1 c2 c3 c5 c6 e
            go_enter Try.func9, Try.ntmps9
            go_wp2_with fail
            go_ret
            exact nil_post ((Keep.refl _ _).alloc _)
          · have b7 : (op == 19) = false := by simpa using c7
            have hn := nameOf_out op (by omega)
            have Hn := Lib.hid hn
            clear c1 c2 c3 c5 c6 c7 hn e
            go_enter Try.func9, Try.ntmps9
            go_wp2_with fail
            refine (name_spec _ _).mono ?_
            rintro e w1 ⟨rfl, hk⟩
            rw [Hn.out]
            have hk' : Keep [] w w1 := ((Keep.refl _ _).alloc _).trans hk (by simp)
            go_wp2
            go_ret
            exact nil_post hk'

/-! ### SameInts -/
def sameB (a b : List Int) : Bool := decide (a = b)
set_option maxHeartbeats 1000000 in
theorem same_spec (w : World) (v u : Value) (a b : List Int) (ha : IntsOf w v a) (hb : IntsOf w u b) (hl : a.length ≤ 1000000000) :
    Calls Try.prog 12 #[v, u] w fun e w' => e = .returned (.bool (sameB a b)) ∧ ∃ n, w' = w.drewN n := by
  have Ha := Lib.hid ha
  have Hb := Lib.hid hb
  obtain ⟨av, cv, rfl⟩ := ha.shape
  obtain ⟨bv, dv, rfl⟩ := hb.shape
  clear ha hb
  by_cases hne : a.length = b.length
  · have hb0 : ((a.length : Int) != (b.length : Int)) = false := by simp [hne]
    go_enter Try.func12, Try.ntmps12
    go_wp2
    go_loopw [5] (fun v wr => ∃ (k n : Nat), k ≤ a.length ∧ v = .int .i64 k ∧ wr = w.drewN n ∧ ∀ j : Nat, j < k → a[j]? = b[j]?) (fun v _ => a.length - (intOf v).toNat)
    case atStart => exact ⟨0, 0, by omega, rfl, rfl, fun j hj => absurd hj (by omega)⟩
    case round =>
      obtain ⟨k, n, hk, rfl, rfl, hsame⟩ := hrel
      have Hs := Lib.hid hsame
      clear hsame
      by_cases hlt : k < a.length
      · have hltb : k < b.length := by omega
        have hltb' : (k : Int) < (b.length : Int) := by omega
        have Hne := Lib.hid hne
        clear hne
        obtain ⟨x, hx⟩ : ∃ x, a[k]? = some x := ⟨_, List.getElem?_eq_getElem hlt⟩
        obtain ⟨y, hy⟩ : ∃ y, b[k]? = some y := ⟨_, List.getElem?_eq_getElem hltb⟩
        obtain ⟨ba, oa, rfl, _, hca⟩ := Ha.out.at_ hlt
        obtain ⟨bb, ob, rfl, _, hcb⟩ := Hb.out.at_ hltb
        have c1 := hca k x hx
        have c2 := hcb k y hy
        have Hx := Lib.hid hx
        have Hy := Lib.hid hy
        clear hx hy hca hcb
        by_cases hxy : x = y
        · subst hxy
          have hq : (x != x) = false := by simp
          go_wp2
          go_quiet (fail)
          go_wp2
          go_roundw
          case rel =>
            refine ⟨k + 1, _, by omega, by go_num, rfl, fun j hj => ?_⟩
            by_cases hjk : j = k
            · subst hjk; rw [Hx.out, Hy.out]
            · exact Hs.out j (by omega)
          case measure => simp [intOf]; omega
        · have hq : (x != y) = true := by simpa using hxy
          have hf : sameB a b = false := decide_eq_false (fun h => hxy (by have := Hx.out; rw [h, Hy.out] at this; injection this with this; exact this.symm))
          have Hf := Lib.hid hf
          clear hxy hf
          go_wp2
          go_quiet (fail)
          go_wp2
          go_ret
          exact ⟨ret_bool Hf.out.symm, _, World.drewN_drewN _ _ _⟩
      · obtain rfl : k = a.length := by omega
        have ht : sameB a b = true := decide_eq_true (List.ext_getElem? fun j => by
          by_cases hj : j < a.length
          · exact Hs.out j hj
          · rw [List.getElem?_eq_none (by omega), List.getElem?_eq_none (by omega)])
        have Ht := Lib.hid ht
        clear ht hne
        go_wp2
        go_ret
        exact ⟨ret_bool Ht.out.symm, _, rfl⟩
  · have hb0 : ((a.length : Int) != (b.length : Int)) = true := by
      simp
      omega
    have hf : sameB a b = false := decide_eq_false (fun h => hne (by rw [h]))
    rw [hf]
    clear hne
    go_enter Try.func12, Try.ntmps12
    go_wp2
    go_ret
    exact ⟨rfl, 0, rfl⟩
theorem alive3 (w : World) : Calls Try.prog 6 #[] w fun e w' => e = .returned (.bool true) ∧ Keep [] w w' := by
  have h2 : sameB [5, 9] [5, 9] = true := by decide
  have H2 := Lib.hid h2
  clear h2
  go_enter Try.func6, Try.ntmps6
  go_wp2_with fail
  refine (next_spec _ 15 9 4 (by omega) (by omega)).mono ?_
  rintro e w1 ⟨v, rfl, hown, hk⟩
  rw [show nextOf 15 9 4 = [5, 9] from rfl] at hown
  have hi := (ints_of_own hown).keep0 ((Keep.refl [] w1).alloc (.cells #[.int .i64 5, .int .i64 9] 3))
  have hj : IntsOf (w1.alloc (.cells #[.int .i64 5, .int .i64 9] 3)) (.slice (some ⟨w1.heap.size, 0, none⟩) 2 2) [5, 9] := ints_of_own (own_lit [5, 9] (Keep.refl [] w1) _ rfl (by simp))
  have Hi := Lib.hid hi
  have Hj := Lib.hid hj
  clear hi hj hown
  go_wp2_with fail
  refine (same_spec _ _ _ _ _ Hi.out Hj.out (by simp)).mono ?_
  rintro e w2 ⟨rfl, n, rfl⟩
  rw [H2.out]
  go_wp2
  go_ret
  exact ⟨rfl, (hk.alloc _).drewN _⟩
set_option maxHeartbeats 1000000 in
theorem walk_codeWords (w : World) {a b : Int} (_ : (Lit.int .i64 a).wf = true) (_ : (Lit.int .i64 b).wf = true) :
    Calls Try.prog 3 #[.int .i64 a, .int .i64 b] w fun e w' => e = .returned (.bool true) ∧ Below w.heap.size w w' := by
  by_cases h : 1 ≤ a ∧ a ≤ 19
  · obtain ⟨i1, i2⟩ := idxOf_nameOf a h
    have hno : opNo (nameOf a) = a := by unfold opNo; rw [i1, if_neg (by omega)]
    have hok : decide (1 ≤ idxOf (nameOf a)) = true := by rw [i1]; simp; omega
    have hem := notEmpty i2
    have hs := fun w => op_spec w (nameOf a)
    rw [hno, hok] at hs
    have Hs := Lib.hid hs
    have g1 : decide ((1 : Int) ≤ a) = true := by simp; omega
    have g2 : decide (a ≤ (19 : Int)) = true := by simp; omega
    have g3 : (a != a) = false := by simp
    have hq : ((nameOf a).toList == (nameOf b).toList) = (a == b) := by
      by_cases hab : a = b
      · subst hab; simp
      · rw [toList_ne (fun e => hab (nameOf_inj a b h e))]
        simp [hab]
    clear hs i1 i2 hno hok h
    go_enter Try.func3, Try.ntmps3
    go_wp2_with fail
    refine (alive3 _).mono ?_
    rintro e w1 ⟨rfl, hk1⟩
    go_wp2_with fail
    refine (name_spec _ _).mono ?_
    rintro e w2 ⟨rfl, hk2⟩
    go_wp2_with fail
    refine (name_spec _ _).mono ?_
    rintro e w3 ⟨rfl, hk3⟩
    go_wp2_with fail
    refine (Hs.out _).mono ?_
    rintro e w4 ⟨rfl, hk4⟩
    have hk5 := ((hk1.trans hk2 (by simp)).trans hk3 (by simp)).trans hk4 (by simp)
    go_wp2
    go_ret
    exact ⟨by simp, hk5.to_below⟩
  · have i0 := nameOf_out a h
    have hno : opNo ⟨#[]⟩ = 0 := by decide
    have hok : decide (1 ≤ idxOf ⟨#[]⟩) = false := by decide
    have hs := fun w => op_spec w ⟨#[]⟩
    rw [hno, hok] at hs
    have Hs := Lib.hid hs
    have I0 := Lib.hid i0
    clear hs hno hok i0
    by_cases h1 : a < 1
    all_goals
      go_enter Try.func3, Try.ntmps3
      go_wp2_with fail
      refine (alive3 _).mono ?_
      rintro e w1 ⟨rfl, hk1⟩
      go_wp2_with fail
      refine (name_spec _ _).mono ?_
      rintro e w2 ⟨rfl, hk2⟩
      rw [I0.out]
      go_wp2_with fail
      refine (name_spec _ _).mono ?_
      rintro e w3 ⟨rfl, hk3⟩
      go_wp2_with fail
      refine (Hs.out _).mono ?_
      rintro e w4 ⟨rfl, hk4⟩
      have hk5 := ((hk1.trans hk2 (by simp)).trans hk3 (by simp)).trans hk4 (by simp)
      go_wp2
      go_ret
      exact ⟨rfl, hk5.to_below⟩
end Go.Proofs.Ytbdkmfcgnolihaa
