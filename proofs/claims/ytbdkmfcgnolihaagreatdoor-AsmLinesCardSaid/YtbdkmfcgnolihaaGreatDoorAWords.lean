/- asm: the instructions' words, the program's and the reference's. -/
import Derived.Test.YtbdkmfcgnolihaaGreatDoorRows
import Derived.WalkKit
import Derived.WalkSpells
import Derived.WalkLawsBesides
import Derived.RegionTactic
import Derived.ChangeAlike
import Derived.BigQuiet
import Derived.Deep.QuietTactic
import Derived.StillTailTactics
import Derived.IntWalk
import Derived.Handy
import Derived.Lib.Hide
import Derived.Deep.AppendLies
import Derived.Deep.RegionWith
import Derived.Test.YtbdkmfcgnolihaaGreatDoorBase
import Derived.Test.YtbdkmfcgnolihaaGreatDoorTail
import Derived.Test.YtbdkmfcgnolihaaGreatDoorArgs
import Derived.Test.YtbdkmfcgnolihaaGreatDoorAppend
import Derived.Test.YtbdkmfcgnolihaaGreatDoorOffs
import Derived.Test.YtbdkmfcgnolihaaGreatDoorStructs
import Derived.Carry
import Derived.Deep.RegionHeld3
import Derived.BigRegion
import Derived.Maps.OwnSet
import Derived.Maps.Views
import Derived.Maps.StringElems
import Derived.Test.YtbdkmfcgnolihaaGreatDoorMaps2
import Derived.Test.YtbdkmfcgnolihaaGreatDoorAPlain2
namespace Go.Proofs.YtbdkmfcgnolihaaGreatDoor
set_option linter.unusedSimpArgs false
set_option linter.unnecessarySimpa false
set_option linter.unusedVariables false
open Go.RowKit
def allW : List BS := [] :: opW
theorem allW_len : allW.length = 20 := rfl
def cellsW : List Value := allW.map fun p => .string (strB p)
def NamesPost (w : World) (e : Ending) (w' : World) : Prop := e = .returned (.slice (some ⟨w.heap.size, 0, none⟩) 20 20) ∧ Blk w' w.heap.size 9 cellsW ∧ Keep [] w w'
set_option maxHeartbeats 400000 in
theorem names_spec (w : World) : Calls Tryz.prog 55 #[] w (NamesPost w) := by
  go_enter Tryz.func55, Tryz.ntmps55
  go_wp2
  go_ret
  exact ⟨rfl, Blk.new' w 9 _ cellsW rfl, (Keep.refl _ _).alloc _⟩
theorem opName_at {k : Nat} {s : BS} (h : allW[k]? = some s) : opName (k : Int) = s := by
  rcases k with _ | k
  · cases h; rfl
  · have h2 : opW[k]? = some s := h
    have hl := (List.getElem?_eq_some_iff.1 h2).1
    rw [opW_len] at hl
    unfold opName
    rw [if_neg (by omega), show ((k + 1 : Nat) : Int).toNat - 1 = k by omega, List.getD_eq_getElem?_getD, h2]
    rfl
theorem opName_out {op : Int} (h : op < 1 ∨ 19 < op) : opName op = [] := by unfold opName; rw [if_pos h]
theorem cellsW_at {k : Nat} {s : BS} (h : allW[k]? = some s) : cellsW[k]? = some (.string (strB s)) := by
  unfold cellsW
  rw [List.getElem?_map, h]
  rfl
set_option maxHeartbeats 400000 in
theorem name_spec (w : World) (op : Int) : Calls Tryz.prog 40 #[.int .i64 op] w fun e w' => e = .returned (.string (strB (opName op))) ∧ Keep [] w w' := by
  by_cases h : 0 ≤ op ∧ op < 20
  · obtain ⟨h0, h1⟩ := h
    obtain ⟨n, rfl⟩ := Int.eq_ofNat_of_zero_le h0
    have hn : n < 20 := by omega
    obtain ⟨s, hs⟩ : ∃ s, allW[n]? = some s := ⟨_, List.getElem?_eq_getElem (by rw [allW_len]; exact hn)⟩
    rw [opName_at hs]
    go_enter Tryz.func40, Tryz.ntmps40
    go_wp2_with fail
    refine (names_spec _).mono ?_
    rintro e w1 ⟨rfl, hb, hk⟩
    have hc : w1.cell? ⟨w.heap.size, n, none⟩ = some (.string (strB s)) := by
      rw [hb.cell]
      exact cellsW_at hs
    clear hs hb
    go_wp2
    go_ret
    exact ⟨rfl, hk⟩
  · rw [opName_out (by omega)]
    by_cases h0 : op < 0
    all_goals
      go_enter Tryz.func40, Tryz.ntmps40
      go_wp2_with fail
      refine (names_spec _).mono ?_
      rintro e w1 ⟨rfl, hb, hk⟩
      clear hb
      go_wp2
      go_ret
      exact ⟨rfl, hk⟩
set_option maxHeartbeats 4000000 in
theorem rname_spec (w : World) (op : Int) : Calls Tryz.prog 31 #[.int .i64 op] w fun e w' => e = .returned (.string (strB (opName op))) ∧ Keep [] w w' := by
  by_cases h : 1 ≤ op ∧ op < 20
  · obtain ⟨h0, h1⟩ := h
    obtain ⟨n, rfl⟩ := Int.eq_ofNat_of_zero_le (by omega : 0 ≤ op)
    have hn : n < 20 := by omega
    obtain ⟨s, hs⟩ : ∃ s, allW[n]? = some s := ⟨_, List.getElem?_eq_getElem (by rw [allW_len]; exact hn)⟩
    rw [opName_at hs]
    have hc : ∀ (cs : Array Value) (os : Nat), cs = cellsW.toArray → (w.alloc (.cells cs 9)).cell? ⟨w.heap.size, n, none⟩ = some (.string (strB s)) := by
      intro cs os e
      rw [(Blk.new' w 9 cs cellsW e).cell]
      exact cellsW_at hs
    have hc' := hc _ 0 rfl
    clear hc
    have e : cellsW.toArray = #[.string ⟨#[]⟩, .string ⟨#[112, 117, 115, 104]⟩, .string ⟨#[112, 111, 112]⟩, .string ⟨#[100, 117, 112]⟩, .string ⟨#[115, 119, 97, 112]⟩, .string ⟨#[108, 111, 97, 100]⟩, .string ⟨#[115, 116, 111, 114, 101]⟩, .string ⟨#[97, 100, 100]⟩, .string ⟨#[115, 117, 98]⟩, .string ⟨#[109, 117, 108]⟩, .string ⟨#[100, 105, 118]⟩, .string ⟨#[109, 111, 100]⟩, .string ⟨#[108, 116]⟩, .string ⟨#[101, 113]⟩, .string ⟨#[106, 117, 109, 112]⟩, .string ⟨#[122, 101, 114, 111]⟩, .string ⟨#[115, 112, 97, 119, 110]⟩, .string ⟨#[97, 119, 97, 105, 116]⟩, .string ⟨#[114, 101, 116]⟩, .string ⟨#[102, 97, 105, 108]⟩] := rfl
    rw [e] at hc'
    clear hs e
    go_enter Tryz.func31, Tryz.ntmps31
    go_wp2
    go_ret
    exact ⟨rfl, (Keep.refl _ _).alloc _⟩
  · rw [opName_out (by omega)]
    by_cases h0 : op < 1
    all_goals
      go_enter Tryz.func31, Tryz.ntmps31
      go_wp2
      go_ret
      exact ⟨rfl, (Keep.refl _ _).alloc _⟩
theorem hasN_no {op : Int} (h : ¬(op = 1 ∨ op = 5 ∨ op = 6 ∨ op = 14 ∨ op = 15 ∨ op = 16)) : hasN op = false := by unfold hasN; exact decide_eq_false h
set_option maxHeartbeats 1600000 in
theorem hasN_spec (w : World) (op : Int) : Calls Tryz.prog 41 #[.int .i64 op] w fun e w' => e = .returned (.bool (hasN op)) ∧ w' = w := by
  by_cases h : op = 1 ∨ op = 5 ∨ op = 6 ∨ op = 14 ∨ op = 15 ∨ op = 16
  · rcases h with rfl | rfl | rfl | rfl | rfl | rfl
    all_goals
      go_enter Tryz.func41, Tryz.ntmps41
      go_wp2
      go_ret
      exact ⟨rfl, rfl⟩
  · rw [hasN_no h]
    have h1 : (op == 1) = false := by simp; omega
    have h2 : (op == 5) = false := by simp; omega
    have h3 : (op == 6) = false := by simp; omega
    have h4 : (op == 14) = false := by simp; omega
    have h5 : (op == 15) = false := by simp; omega
    have h6 : (op == 16) = false := by simp; omega
    clear h
    go_enter Tryz.func41, Tryz.ntmps41
    go_wp2
    go_ret
    exact ⟨rfl, rfl⟩
set_option maxHeartbeats 1600000 in
theorem rhasN_spec (w : World) (op : Int) : Calls Tryz.prog 32 #[.int .i64 op] w fun e w' => e = .returned (.bool (hasN op)) ∧ w' = w := by
  by_cases h : op = 1 ∨ op = 5 ∨ op = 6 ∨ op = 14 ∨ op = 15 ∨ op = 16
  · rcases h with rfl | rfl | rfl | rfl | rfl | rfl
    all_goals
      go_enter Tryz.func32, Tryz.ntmps32
      go_wp2
      go_ret
      exact ⟨rfl, rfl⟩
  · rw [hasN_no h]
    have h1 : (op == 1) = false := by simp; omega
    have h2 : (op == 5) = false := by simp; omega
    have h3 : (op == 6) = false := by simp; omega
    have h4 : (op == 14) = false := by simp; omega
    have h5 : (op == 15) = false := by simp; omega
    have h6 : (op == 16) = false := by simp; omega
    clear h
    go_enter Tryz.func32, Tryz.ntmps32
    go_wp2
    go_ret
    exact ⟨rfl, rfl⟩
theorem strB_ne {s x : BS} (h : s ≠ x) : ((strB s).toList == (strB x).toList) = false := by
  rw [strB_toList, strB_toList]
  exact beq_eq_false_iff_ne.2 h
/-- where a word stands first among all of them -/
def idxW (s : BS) : Int := if s = [] then 0 else match opOf s with | some k => k | none => -1
theorem opOf_none {s : BS} (h : ∀ k : Nat, k < 19 → opW[k]? ≠ some s) : opOf s = none := by
  unfold opOf
  rw [List.findIdx?_eq_none_iff.2]
  · rfl
  · intro x hx
    obtain ⟨k, hk, e⟩ := List.mem_iff_getElem.1 hx
    have := h k hk
    rw [List.getElem?_eq_getElem hk, e] at this
    simpa using this
theorem opOf_at {s : BS} {k : Nat} (h : opW[k]? = some s) : opOf s = some ((k + 1 : Nat) : Int) := by
  have hl := (List.getElem?_eq_some_iff.1 h).1
  have h1 : opName ((k + 1 : Nat) : Int) = s := opName_at (k := k + 1) h
  rw [← h1]
  refine opOf_name ?_
  rw [h1]
  exact (opW_ok _ (List.mem_of_getElem? h)).1
set_option maxHeartbeats 400000 in
theorem index_spec (w : World) (g : Nat) (s : BS) (hb : Blk w g 9 cellsW) :
    Calls Tryz.prog 95 #[.slice (some ⟨g, 0, none⟩) 20 20, .string (strB s)] w fun e w' => e = .returned (.int .i64 (idxW s)) ∧ w' = w := by
  go_enter Tryz.func95, Tryz.ntmps95
  go_wp2
  go_loop [8] (fun v => ∃ k : Nat, k ≤ 20 ∧ v = .int .i64 k ∧ ∀ (j : Nat) (x : BS), j < k → allW[j]? = some x → x ≠ s) (fun v => 20 - (intOf v).toNat)
  case atStart => exact ⟨0, by omega, rfl, fun j x hj => absurd hj (by omega)⟩
  case round =>
    obtain ⟨k, hk, rfl, hne⟩ := hrel
    have Hne := Lib.hid hne
    clear hne
    by_cases hlt : k < 20
    · obtain ⟨x, hx⟩ : ∃ x, allW[k]? = some x := ⟨_, List.getElem?_eq_getElem (by rw [allW_len]; exact hlt)⟩
      have hc : w.cell? ⟨g, k, none⟩ = some (.string (strB x)) := by
        rw [hb.cell]
        exact cellsW_at hx
      have Hx := Lib.hid hx
      clear hx hb
      by_cases he : s = x
      · subst he
        go_wp2
        go_ret
        refine ⟨ret_int ?_, rfl⟩
        unfold idxW
        rcases k with _ | k
        · have := Hx.out
          cases this
          rfl
        · have h2 : opW[k]? = some s := Hx.out
          rw [if_neg (opW_ok _ (List.mem_of_getElem? h2)).1, opOf_at h2]
      · have hbd := strB_ne he
        have hne2 : ∀ (j : Nat) (y : BS), j < k + 1 → allW[j]? = some y → y ≠ s := by
          intro j y hj hy
          by_cases hjk : j = k
          · subst hjk
            rw [Hx.out] at hy
            injection hy with hy
            subst hy
            exact fun e => he e.symm
          · exact Hne.out j y (by omega) hy
        have Hne2 := Lib.hid hne2
        clear hne2 he
        go_wp2
        go_round
        case rel => exact ⟨k + 1, by omega, by go_num, Hne2.out⟩
        case measure => simp [intOf]; omega
    · obtain rfl : k = 20 := by omega
      go_wp2
      go_ret
      refine ⟨ret_int ?_, rfl⟩
      unfold idxW
      rw [if_neg (fun e => Hne.out 0 [] (by omega) rfl e.symm), opOf_none]
      intro k hk e
      exact Hne.out (k + 1) s (by omega) e rfl
def opOr (s : BS) : Int := (opOf s).getD 0
set_option maxHeartbeats 400000 in
theorem op_spec (w : World) (s : BS) : Calls Tryz.prog 82 #[.string (strB s)] w fun e w' => e = .returned (.tuple #[.int .i64 (opOr s), .bool (opOf s).isSome]) ∧ Keep [] w w' := by
  obtain ⟨N, hN⟩ : ∃ N, N = opOr s := ⟨_, rfl⟩
  obtain ⟨B, hB⟩ : ∃ B, B = (opOf s).isSome := ⟨_, rfl⟩
  obtain ⟨I, hI⟩ : ∃ I, I = idxW s := ⟨_, rfl⟩
  have hc : (I < 1 ∧ N = 0 ∧ B = false) ∨ (1 ≤ I ∧ N = I ∧ B = true) := by
    rw [hN, hB, hI]
    unfold idxW opOr
    by_cases he : s = []
    · subst he; exact Or.inl ⟨by simp, by decide, by decide⟩
    · rw [if_neg he]
      cases h : opOf s with
      | none => exact Or.inl ⟨by simp, rfl, rfl⟩
      | some k => exact Or.inr ⟨(opOf_some h).1, rfl, rfl⟩
  rw [← hN, ← hB]
  clear hN hB
  have HI := Lib.hid hI
  clear hI
  rcases hc with ⟨h1, rfl, rfl⟩ | ⟨h1, rfl, rfl⟩
  all_goals
    go_enter Tryz.func82, Tryz.ntmps82
    go_wp2_with fail
    refine (names_spec _).mono ?_
    rintro e w1 ⟨rfl, hb, hk⟩
    go_wp2_with fail
    refine (index_spec _ _ _ hb).mono ?_
    rintro e w2 ⟨rfl, rfl⟩
    rw [← HI.out]
    clear hb
    go_wp2
    go_ret2
    exact ⟨rfl, hk⟩
set_option maxHeartbeats 1000000 in
theorem rop_spec (w : World) (s : BS) : Calls Tryz.prog 69 #[.string (strB s)] w fun e w' => e = .returned (.tuple #[.int .i64 (opOr s), .bool (opOf s).isSome]) ∧ Keep [] w w' := by
  obtain ⟨N, hN⟩ : ∃ N, N = opOr s := ⟨_, rfl⟩
  obtain ⟨B, hB⟩ : ∃ B, B = (opOf s).isSome := ⟨_, rfl⟩
  rw [← hN, ← hB]
  have HN := Lib.hid hN
  have HB := Lib.hid hB
  clear hN hB
  go_enter Tryz.func69, Tryz.ntmps69
  go_wp2
  go_loopw [4] (fun v wr => ∃ k : Nat, k ≤ 19 ∧ v = .int .i64 ((k : Int) + 1) ∧ (∀ j : Nat, j < k → opW[j]? ≠ some s) ∧ Keep [] w wr) (fun v _ => 20 - (intOf v).toNat)
  case atStart => exact ⟨0, by omega, rfl, fun j h2 => absurd h2 (by omega), Keep.refl _ _⟩
  case round =>
    obtain ⟨k, hk2, rfl, hne, hkeep⟩ := hrel
    have Hne := Lib.hid hne
    clear hne
    by_cases hlt : k < 19
    · have hltI : (k : Int) < 19 := by omega
      have hk0 : (0 : Int) ≤ (k : Int) := by omega
      obtain ⟨x, hx⟩ : ∃ x, opW[k]? = some x := ⟨_, List.getElem?_eq_getElem (by rw [opW_len]; exact hlt)⟩
      have hnm : opName ((k : Int) + 1) = x := opName_at (k := k + 1) hx
      have Hx := Lib.hid hx
      clear hx
      by_cases he : x = s
      · subst he
        have h1 := opOf_at Hx.out
        have h2 : N = (k : Int) + 1 := by rw [HN.out]; unfold opOr; rw [h1]; simp
        have h3 : B = true := by rw [HB.out, h1]; rfl
        subst h3 h2
        clear h1
        go_wp2_with fail
        refine (rname_spec _ _).mono ?_
        rintro e w1 ⟨rfl, hk⟩
        rw [hnm]
        go_wp2
        go_ret2
        exact ⟨rfl, hkeep.trans hk (by simp)⟩
      · have hb := strB_ne he
        have hne2 : ∀ j : Nat, j < k + 1 → opW[j]? ≠ some s := fun j h2 => by
          by_cases hjk : j = k
          · subst hjk; rw [Hx.out]; exact fun e => he (Option.some.inj e)
          · exact Hne.out j (by omega)
        have Hne2 := Lib.hid hne2
        clear hne2 he
        go_wp2_with fail
        refine (rname_spec _ _).mono ?_
        rintro e w1 ⟨rfl, hk⟩
        rw [hnm]
        have hkeep' := hkeep.trans hk (by simp)
        clear hkeep hk
        go_wp2
        go_roundw
        case rel => exact ⟨k + 1, by omega, by go_num, Hne2.out, hkeep'⟩
        case measure => simp [intOf]; omega
    · obtain rfl : k = 19 := by omega
      have h1 := opOf_none Hne.out
      have h2 : N = 0 := by rw [HN.out]; unfold opOr; rw [h1]; rfl
      have h3 : B = false := by rw [HB.out, h1]; rfl
      subst h3 h2
      clear h1
      go_wp2
      go_ret2
      exact ⟨rfl, hkeep⟩
end Go.Proofs.YtbdkmfcgnolihaaGreatDoor
