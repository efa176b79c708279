/- The instructions' words: names, Name, Op, slices.Index. -/
import Derived.Test.YtbdkmfcgnolihaaRows
import Derived.WalkKit
import Derived.WalkSpells
import Derived.WalkLawsBesides
import Derived.RegionTactic
import Derived.ChangeAlike
import Derived.BigQuiet
import Derived.Deep.QuietTactic
import Derived.StillTailTactics
import Derived.IntWalk
import Derived.Handy
import Derived.Lib.Hide
import Derived.Deep.AppendLies
import Derived.Deep.RegionWith
import Derived.Test.YtbdkmfcgnolihaaBase
import Derived.Test.YtbdkmfcgnolihaaTail
import Derived.Test.YtbdkmfcgnolihaaArgs
import Derived.Test.YtbdkmfcgnolihaaAppend
namespace Go.Proofs.Ytbdkmfcgnolihaa
open Go.RowKit

/-- the words, by their numbers -/
def opNames : List ByteArray := [⟨#[]⟩, ⟨#[112, 117, 115, 104]⟩, ⟨#[112, 111, 112]⟩, ⟨#[100, 117, 112]⟩, ⟨#[115, 119, 97, 112]⟩, ⟨#[108, 111, 97, 100]⟩, ⟨#[115, 116, 111, 114, 101]⟩, ⟨#[97, 100, 100]⟩, ⟨#[115, 117, 98]⟩, ⟨#[109, 117, 108]⟩, ⟨#[100, 105, 118]⟩, ⟨#[109, 111, 100]⟩, ⟨#[108, 116]⟩, ⟨#[101, 113]⟩, ⟨#[106, 117, 109, 112]⟩, ⟨#[122, 101, 114, 111]⟩, ⟨#[115, 112, 97, 119, 110]⟩, ⟨#[97, 119, 97, 105, 116]⟩, ⟨#[114, 101, 116]⟩, ⟨#[102, 97, 105, 108]⟩]
def NamesPost (w : World) (e : Ending) (w' : World) : Prop := e = .returned (.slice (some ⟨w.heap.size, 0, none⟩) 20 20) ∧ Blk w' w.heap.size 9 (opNames.map .string) ∧ Keep [] w w'
set_option maxHeartbeats 400000 in
theorem names_spec (w : World) : Calls Try.prog 20 #[] w (NamesPost w) := by
  go_enter Try.func20, Try.ntmps20
  go_wp2
  go_ret
  exact ⟨rfl, Blk.new' w 9 _ (opNames.map .string) rfl, (Keep.refl _ _).alloc _⟩
def nameOf (op : Int) : ByteArray := if 0 ≤ op ∧ op < 20 then opNames.getD op.toNat ⟨#[]⟩ else ⟨#[]⟩
set_option maxHeartbeats 400000 in
theorem name_spec (w : World) (op : Int) : Calls Try.prog 7 #[.int .i64 op] w fun e w' => e = .returned (.string (nameOf op)) ∧ Keep [] w w' := by
  by_cases h : 0 ≤ op ∧ op < 20
  · obtain ⟨h0, h1⟩ := h
    obtain ⟨n, rfl⟩ := Int.eq_ofNat_of_zero_le h0
    have hn : n < 20 := by omega
    obtain ⟨s, hs⟩ : ∃ s, opNames[n]? = some s := ⟨_, List.getElem?_eq_getElem (by simpa [opNames] using hn)⟩
    have hname : nameOf n = s := by
      unfold nameOf
      rw [if_pos ⟨h0, h1⟩]
      simp [hs]
    rw [hname]
    clear hname
    go_enter Try.func7, Try.ntmps7
    go_wp2_with fail
    refine (names_spec _).mono ?_
    rintro e w1 ⟨rfl, hb, hk⟩
    have hc : w1.cell? ⟨w.heap.size, n, none⟩ = some (.string s) := by
      rw [hb.cell]
      simp [List.getElem?_map, hs]
    clear hs hb
    go_wp2
    go_ret
    exact ⟨rfl, hk⟩
  · have hname : nameOf op = ⟨#[]⟩ := by
      unfold nameOf
      rw [if_neg h]
    rw [hname]
    clear hname
    by_cases h0 : op < 0
    all_goals
      go_enter Try.func7, Try.ntmps7
      go_wp2_with fail
      refine (names_spec _).mono ?_
      rintro e w1 ⟨rfl, hb, hk⟩
      clear hb
      go_wp2
      go_ret
      exact ⟨rfl, hk⟩
/-- where a word stands first, -1 for nowhere -/
def idxOf (s : ByteArray) : Int := if opNames.findIdx (fun y => decide (y = s)) < 20 then (opNames.findIdx (fun y => decide (y = s)) : Int) else -1
/-- the number of a word, 0 for none -/
def opOf (s : ByteArray) : Nat := if opNames.findIdx (fun y => decide (y = s)) < 20 then opNames.findIdx (fun y => decide (y = s)) else 0
theorem toList_ne {s x : ByteArray} (h : s ≠ x) : (s.toList == x.toList) = false := by
  rw [ByteArray.toList_eq, ByteArray.toList_eq]
  refine beq_eq_false_iff_ne.2 fun e => h ?_
  cases s
  cases x
  simp at e
  rw [e]
theorem opNames_len : opNames.length = 20 := rfl
set_option maxHeartbeats 400000 in
theorem index_spec (w : World) (g : Nat) (s : ByteArray) (hb : Blk w g 9 (opNames.map .string)) :
    Calls Try.prog 21 #[.slice (some ⟨g, 0, none⟩) 20 20, .string s] w fun e w' => e = .returned (.int .i64 (idxOf s)) ∧ w' = w := by
  go_enter Try.func21, Try.ntmps21
  go_wp2
  go_loop [8] (fun v => ∃ k : Nat, k ≤ 20 ∧ v = .int .i64 k ∧ ∀ (j : Nat) (x : ByteArray), j < k → opNames[j]? = some x → x ≠ s) (fun v => 20 - (intOf v).toNat)
  case atStart => exact ⟨0, by omega, rfl, fun j x hj => absurd hj (by omega)⟩
  case round =>
    obtain ⟨k, hk, rfl, hne⟩ := hrel
    have Hne := Lib.hid hne
    clear hne
    by_cases hlt : k < 20
    · obtain ⟨x, hx⟩ : ∃ x, opNames[k]? = some x := ⟨_, List.getElem?_eq_getElem (by simpa [opNames] using hlt)⟩
      have hc : w.cell? ⟨g, k, none⟩ = some (.string x) := by
        rw [hb.cell]
        simp [List.getElem?_map, hx]
      have Hx := Lib.hid hx
      clear hx hb
      by_cases he : s = x
      · subst he
        go_wp2
        go_ret
        refine ⟨ret_int ?_, rfl⟩
        have h1 : opNames.findIdx (fun y => decide (y = s)) = k := by
          refine (List.findIdx_eq (by rw [opNames_len]; exact hlt)).2 ⟨?_, fun j hj => ?_⟩
          · have := Hx.out
            rw [List.getElem?_eq_getElem (by rw [opNames_len]; exact hlt)] at this
            injection this with this
            simp [this]
          · exact decide_eq_false (Hne.out j _ hj (List.getElem?_eq_getElem (by rw [opNames_len]; omega)))
        unfold idxOf
        rw [h1, if_pos hlt]
      · have hbd := toList_ne he
        have hne2 : ∀ (j : Nat) (y : ByteArray), j < k + 1 → opNames[j]? = some y → y ≠ s := by
          intro j y hj hy
          by_cases hjk : j = k
          · subst hjk
            rw [Hx.out] at hy
            injection hy with hy
            subst hy
            exact fun e => he e.symm
          · exact Hne.out j y (by omega) hy
        have Hne2 := Lib.hid hne2
        clear hne2 he
        go_wp2
        go_round
        case rel => exact ⟨k + 1, by omega, by go_num, Hne2.out⟩
        case measure => simp [intOf]; omega
    · obtain rfl : k = 20 := by omega
      go_wp2
      go_ret
      refine ⟨ret_int ?_, rfl⟩
      have h1 : opNames.findIdx (fun y => decide (y = s)) = opNames.length := by
        refine List.findIdx_eq_length.2 fun x hx => ?_
        obtain ⟨j, hj, rfl⟩ := List.mem_iff_getElem.1 hx
        exact decide_eq_false (Hne.out j _ (by rw [opNames_len] at hj; exact hj) (List.getElem?_eq_getElem hj))
      unfold idxOf
      rw [h1, opNames_len]
      rfl
/-- the number of a word, 0 for none -/
def opNo (s : ByteArray) : Int := if idxOf s < 1 then 0 else idxOf s
set_option maxHeartbeats 400000 in
theorem op_spec (w : World) (s : ByteArray) : Calls Try.prog 8 #[.string s] w fun e w' => e = .returned (.tuple #[.int .i64 (opNo s), .bool (decide (1 ≤ idxOf s))]) ∧ Keep [] w w' := by
  by_cases h : idxOf s < 1
  · have h1 : opNo s = 0 := by unfold opNo; rw [if_pos h]
    have h2 : decide (1 ≤ idxOf s) = false := by simp; omega
    rw [h1, h2]
    go_enter Try.func8, Try.ntmps8
    go_wp2_with fail
    refine (names_spec _).mono ?_
    rintro e w1 ⟨rfl, hb, hk⟩
    go_wp2_with fail
    refine (index_spec _ _ _ hb).mono ?_
    rintro e w2 ⟨rfl, rfl⟩
    clear hb h1 h2
    go_wp2
    go_ret2
    exact ⟨rfl, hk⟩
  · have h1 : opNo s = idxOf s := by unfold opNo; rw [if_neg h]
    have h2 : decide (1 ≤ idxOf s) = true := by simp; omega
    rw [h1, h2]
    go_enter Try.func8, Try.ntmps8
    go_wp2_with fail
    refine (names_spec _).mono ?_
    rintro e w1 ⟨rfl, hb, hk⟩
    go_wp2_with fail
    refine (index_spec _ _ _ hb).mono ?_
    rintro e w2 ⟨rfl, rfl⟩
    clear hb h1 h2
    go_wp2
    go_ret2
    exact ⟨rfl, hk⟩
end Go.Proofs.Ytbdkmfcgnolihaa
