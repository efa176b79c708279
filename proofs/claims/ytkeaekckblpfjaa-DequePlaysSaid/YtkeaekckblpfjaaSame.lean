/- SameInts. -/
import Derived.Test.YtkeaekckblpfjaaRows
import Derived.WalkKit
import Derived.WalkSpells
import Derived.WalkLawsBesides
import Derived.RegionTactic
import Derived.ChangeAlike
import Derived.BigQuiet
import Derived.Deep.QuietTactic
import Derived.StillTailTactics
import Derived.IntWalk
import Derived.Handy
import Derived.Lib.Hide
import Derived.Deep.AppendLies
import Derived.Deep.RegionWith
import Derived.Test.YtkeaekckblpfjaaBase
import Derived.Test.YtkeaekckblpfjaaTail
import Derived.Test.YtkeaekckblpfjaaRing
import Derived.Test.YtkeaekckblpfjaaGrown
import Derived.Test.YtkeaekckblpfjaaSizes
import Derived.Test.YtkeaekckblpfjaaArgs
import Derived.Test.YtkeaekckblpfjaaAppend
import Derived.Test.YtkeaekckblpfjaaRingMore
namespace Go.Proofs.Ytkeaekckblpfjaa
open Go.RowKit

theorem IntsOf.at_ {w : World} {ys : List Int} {av : Option Addr} {n cv : Nat} (h : IntsOf w (.slice av n cv) ys) {k : Nat} (hk : k < ys.length) :
    ∃ b off, av = some ⟨b, off, none⟩ ∧ b < w.heap.size ∧ ∀ (j : Nat) (x : Int), ys[j]? = some x → w.cell? ⟨b, off + j, none⟩ = some (.int .i64 x) := by
  obtain ⟨a, c, hv, h⟩ := h
  obtain ⟨b, off, rfl, hb, hc⟩ := h (by intro h; subst h; simp at hk)
  injection hv with h1 h2 h3
  exact ⟨b, off, h1, hb, hc⟩
theorem IntsOf.shape {w : World} {v : Value} {ys : List Int} (h : IntsOf w v ys) : ∃ a c, v = .slice a ys.length c := by
  obtain ⟨a, c, hv, _⟩ := h
  exact ⟨a, c, hv⟩

theorem ret_bool {a b : Bool} (h : a = b) : Ending.returned (.bool a) = .returned (.bool b) := by rw [h]
def sameB (a b : List Int) : Bool := decide (a = b)
set_option maxHeartbeats 1000000 in
theorem same_spec (w : World) (v u : Value) (a b : List Int) (ha : IntsOf w v a) (hb : IntsOf w u b) (hl : a.length ≤ 1000000000) :
    Calls Try.prog 33 #[v, u] w fun e w' => e = .returned (.bool (sameB a b)) ∧ ∃ n, w' = w.drewN n := by
  have Ha := Lib.hid ha
  have Hb := Lib.hid hb
  obtain ⟨av, cv, rfl⟩ := ha.shape
  obtain ⟨bv, dv, rfl⟩ := hb.shape
  clear ha hb
  by_cases hne : a.length = b.length
  · have hb0 : ((a.length : Int) != (b.length : Int)) = false := by simp [hne]
    go_enter Try.func33, Try.ntmps33
    go_wp2
    go_loopw [5] (fun v wr => ∃ (k n : Nat), k ≤ a.length ∧ v = .int .i64 k ∧ wr = w.drewN n ∧ ∀ j : Nat, j < k → a[j]? = b[j]?) (fun v _ => a.length - (intOf v).toNat)
    case atStart => exact ⟨0, 0, by omega, rfl, rfl, fun j hj => absurd hj (by omega)⟩
    case round =>
      obtain ⟨k, n, hk, rfl, rfl, hsame⟩ := hrel
      have Hs := Lib.hid hsame
      clear hsame
      by_cases hlt : k < a.length
      · have hltb : k < b.length := by omega
        have hltb' : (k : Int) < (b.length : Int) := by omega
        have Hne := Lib.hid hne
        clear hne
        obtain ⟨x, hx⟩ : ∃ x, a[k]? = some x := ⟨_, List.getElem?_eq_getElem hlt⟩
        obtain ⟨y, hy⟩ : ∃ y, b[k]? = some y := ⟨_, List.getElem?_eq_getElem hltb⟩
        obtain ⟨ba, oa, rfl, _, hca⟩ := Ha.out.at_ hlt
        obtain ⟨bb, ob, rfl, _, hcb⟩ := Hb.out.at_ hltb
        have c1 := hca k x hx
        have c2 := hcb k y hy
        have Hx := Lib.hid hx
        have Hy := Lib.hid hy
        clear hx hy hca hcb
        by_cases hxy : x = y
        · subst hxy
          have hq : (x != x) = false := by simp
          go_wp2
          go_quiet (fail)
          go_wp2
          go_roundw
          case rel =>
            refine ⟨k + 1, _, by omega, by go_num, rfl, fun j hj => ?_⟩
            by_cases hjk : j = k
            · subst hjk; rw [Hx.out, Hy.out]
            · exact Hs.out j (by omega)
          case measure => simp [intOf]; omega
        · have hq : (x != y) = true := by simpa using hxy
          have hf : sameB a b = false := decide_eq_false (fun h => hxy (by have := Hx.out; rw [h, Hy.out] at this; injection this with this; exact this.symm))
          have Hf := Lib.hid hf
          clear hxy hf
          go_wp2
          go_quiet (fail)
          go_wp2
          go_ret
          exact ⟨ret_bool Hf.out.symm, _, World.drewN_drewN _ _ _⟩
      · obtain rfl : k = a.length := by omega
        have ht : sameB a b = true := decide_eq_true (List.ext_getElem? fun j => by
          by_cases hj : j < a.length
          · exact Hs.out j hj
          · rw [List.getElem?_eq_none (by omega), List.getElem?_eq_none (by omega)])
        have Ht := Lib.hid ht
        clear ht hne
        go_wp2
        go_ret
        exact ⟨ret_bool Ht.out.symm, _, rfl⟩
  · have hb0 : ((a.length : Int) != (b.length : Int)) = true := by
      simp
      omega
    have hf : sameB a b = false := decide_eq_false (fun h => hne (by rw [h]))
    rw [hf]
    clear hne
    go_enter Try.func33, Try.ntmps33
    go_wp2
    go_ret
    exact ⟨rfl, 0, rfl⟩
theorem same_true (w : World) (v u : Value) (a : List Int) (ha : IntsOf w v a) (hb : IntsOf w u a) (hl : a.length ≤ 1000000000) :
    Calls Try.prog 33 #[v, u] w fun e w' => e = .returned (.bool true) ∧ ∃ n, w' = w.drewN n := by
  have h := same_spec w v u a a ha hb hl
  rwa [show sameB a a = true from decide_eq_true rfl] at h
end Go.Proofs.Ytkeaekckblpfjaa
