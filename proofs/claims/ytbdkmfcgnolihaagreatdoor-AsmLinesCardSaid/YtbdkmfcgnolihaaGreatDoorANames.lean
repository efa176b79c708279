/- asm: which names a function may have, the program's and the reference's. -/
import Derived.Test.YtbdkmfcgnolihaaGreatDoorRows
import Derived.WalkKit
import Derived.WalkSpells
import Derived.WalkLawsBesides
import Derived.RegionTactic
import Derived.ChangeAlike
import Derived.BigQuiet
import Derived.Deep.QuietTactic
import Derived.StillTailTactics
import Derived.IntWalk
import Derived.Handy
import Derived.Lib.Hide
import Derived.Deep.AppendLies
import Derived.Deep.RegionWith
import Derived.Test.YtbdkmfcgnolihaaGreatDoorBase
import Derived.Test.YtbdkmfcgnolihaaGreatDoorTail
import Derived.Test.YtbdkmfcgnolihaaGreatDoorArgs
import Derived.Test.YtbdkmfcgnolihaaGreatDoorAppend
import Derived.Test.YtbdkmfcgnolihaaGreatDoorOffs
import Derived.Test.YtbdkmfcgnolihaaGreatDoorStructs
import Derived.Carry
import Derived.Deep.RegionHeld3
import Derived.BigRegion
import Derived.Maps.OwnSet
import Derived.Maps.Views
import Derived.Maps.StringElems
import Derived.Test.YtbdkmfcgnolihaaGreatDoorMaps2
import Derived.Shelf.Strings.SlTrimAscii
import Derived.Test.YtbdkmfcgnolihaaGreatDoorShelf
import Derived.Test.YtbdkmfcgnolihaaGreatDoorFEnv
import Derived.Test.YtbdkmfcgnolihaaGreatDoorAWords
namespace Go.Proofs.YtbdkmfcgnolihaaGreatDoor
set_option linter.unusedSimpArgs false
set_option linter.unnecessarySimpa false
set_option linter.unusedVariables false
open Go.RowKit
theorem nameL_iff (s : BS) : nameL s = true ↔ s ≠ [] ∧ s.length ≤ 20 ∧ ∀ (i : Nat) (x : UInt8), s[i]? = some x → nameC (i == 0) x = true := by
  cases s with
  | nil => simp [nameL]
  | cons b r =>
    unfold nameL
    rw [Bool.and_eq_true, Bool.and_eq_true, decide_eq_true_eq, List.all_eq_true]
    constructor
    · rintro ⟨⟨h1, h2⟩, h3⟩
      refine ⟨by simp, by simp; omega, fun i x hx => ?_⟩
      rcases i with _ | i
      · cases hx; exact h1
      · exact h2 x (List.mem_of_getElem? hx)
    · rintro ⟨_, h2, h3⟩
      refine ⟨⟨h3 0 b rfl, fun x hx => ?_⟩, by simp at h2; omega⟩
      obtain ⟨i, hi⟩ := List.mem_iff_getElem?.1 hx
      exact h3 (i + 1) x hi
theorem strB_at {d : BS} {i : Nat} (h : i < (strB d).size) : (strB d)[i]'h = d[i]'(by rw [strB_size] at h; exact h) := by
  simp [strB, ByteArray.getElem_eq_getElem_data]
theorem strB_empty {bs : BS} (h : bs ≠ []) : (strB bs).toList.isEmpty = false := by
  rw [strB_toList]
  obtain ⟨x, xs, e⟩ := List.exists_cons_of_ne_nil h
  rw [e]; rfl
def cutC : BS := [97, 98, 99, 100, 101, 102, 103, 104, 105, 106, 107, 108, 109, 110, 111, 112, 113, 114, 115, 116, 117, 118, 119, 120, 121, 122, 48, 49, 50, 51, 52, 53, 54, 55, 56, 57]
set_option maxRecDepth 100000 in
theorem cutC_iff (b : UInt8) : cutC.contains b = true ↔ nameC false b = true := by
  have h : ∀ n : Fin 256, (cutC.contains (UInt8.ofNat n.val)) = nameC false (UInt8.ofNat n.val) := by decide
  have := h ⟨b.toNat, b.toNat_lt⟩
  simp only [UInt8.ofNat_toNat] at this
  rw [this]
theorem dropWhile_nil {α : Type} (p : α → Bool) (l : List α) : l.dropWhile p = [] ↔ ∀ x ∈ l, p x = true := by
  induction l with
  | nil => simp
  | cons a l ih =>
    by_cases h : p a = true
    · rw [List.dropWhile_cons_of_pos h, ih]; simp [h]
    · rw [List.dropWhile_cons_of_neg h]; simp [h]
theorem dropWhile_head {α : Type} (p : α → Bool) (l : List α) {a : α} {r : List α} (h : l.dropWhile p = a :: r) : p a = false := by
  induction l with
  | nil => cases h
  | cons b l ih =>
    by_cases hb : p b = true
    · rw [List.dropWhile_cons_of_pos hb] at h; exact ih h
    · rw [List.dropWhile_cons_of_neg hb] at h
      cases h
      simpa using hb
theorem trimS_nil (l cs : BS) : Lib.trimS l cs = [] ↔ ∀ x ∈ l, cs.contains x = true := by
  unfold Lib.trimS Lib.trimLeftS Lib.trimRightS
  rw [dropWhile_nil]
  constructor
  · intro h
    have h2 : (l.reverse.dropWhile (cs.contains ·)) = [] := by
      cases hd : l.reverse.dropWhile (cs.contains ·) with
      | nil => rfl
      | cons a r =>
        have h3 := h a (by rw [hd]; simp)
        have h4 := dropWhile_head (fun x => cs.contains x) l.reverse hd
        rw [h3] at h4
        cases h4
    rw [dropWhile_nil] at h2
    exact fun x hx => h2 x (by simpa using hx)
  · intro h
    have h2 : (l.reverse.dropWhile (cs.contains ·)) = [] := (dropWhile_nil _ _).2 (fun x hx => h x (by simpa using hx))
    rw [h2]
    simp
theorem trim_spec (w : World) (bs : BS) (hl : bs.length ≤ 1000000) : Calls Tryz.prog 42 #[.string (strB bs), .string (strB cutC)] w fun e w' => e = .returned (.string (strB (Lib.trimS bs cutC))) ∧ Keep [] w w' := by
  have h := Any.strings_Trim_laid Tryz.lays160 (by kernel_rfl) (strB bs) (strB cutC) w (by rw [strB_size]; omega) (by decide) (ascii_of_all (by decide))
  rw [strB_data, strB_data] at h
  exact h.mono fun e w' ⟨h1, h2⟩ => ⟨h1, keep_of_below h2⟩
set_option maxHeartbeats 1600000 in
theorem named_spec (w : World) (bs : BS) (hl : bs.length ≤ 1000000) : Calls Tryz.prog 29 #[.string (strB bs)] w fun e w' => e = .returned (.bool (nameL bs)) ∧ Keep [] w w' := by
  have es : (strB bs).size = bs.length := strB_size bs
  by_cases h0 : bs = []
  · subst h0
    clear hl es
    have es : (strB ([] : BS)) = ⟨#[]⟩ := rfl
    rw [es]
    go_enter Tryz.func29, Tryz.ntmps29
    go_wp2
    go_ret
    exact ⟨rfl, Keep.refl _ _⟩
  · have hem := strB_empty h0
    by_cases h20 : 20 < bs.length
    · have hf : nameL bs = false := by
        cases h : nameL bs with
        | false => rfl
        | true => have := nameL_len h; omega
      have h20I : (20 : Int) < (bs.length : Int) := by omega
      rw [hf]
      clear h20 hf h0 hl
      go_enter Tryz.func29, Tryz.ntmps29
      go_wp2
      go_ret
      exact ⟨rfl, Keep.refl _ _⟩
    · have hlen : bs.length ≤ 20 := by omega
      have h20I : (bs.length : Int) ≤ 20 := by omega
      have hpos : (0 : Int) < (bs.length : Int) := by
        have := List.length_pos_iff.2 h0; omega
      obtain ⟨x, r, e⟩ := List.exists_cons_of_ne_nil h0
      have hget : ∀ h, ((strB bs)[0]'h) = x := fun h => by rw [strB_at]; simp [e]
      have HE := Lib.hid e
      clear e
      by_cases hx : 97 ≤ x.toNat ∧ x.toNat ≤ 122
      · have i1 : (97 : Int) ≤ (x.toNat : Int) := by omega
        have i2 : (x.toNat : Int) ≤ 122 := by omega
        have hv : nameL bs = decide (Lib.trimS bs cutC = []) := by
          rw [Bool.eq_iff_iff, decide_eq_true_eq, trimS_nil, nameL_iff]
          constructor
          · rintro ⟨_, _, h3⟩ b hb
            obtain ⟨i, hi⟩ := List.mem_iff_getElem?.1 hb
            rw [cutC_iff]
            have := h3 i b hi
            unfold nameC at this ⊢
            simp at this ⊢
            omega
          · intro h3
            refine ⟨h0, hlen, fun i b hb => ?_⟩
            rcases i with _ | i
            · rw [HE.out] at hb
              cases hb
              unfold nameC
              simp
              omega
            · exact (cutC_iff b).1 (h3 b (List.mem_of_getElem? hb))
        rw [hv]
        have HL := Lib.hid hl
        clear h20 hlen hx hv hl
        by_cases ht : Lib.trimS bs cutC = []
        · rw [decide_eq_true ht]
          have HT := Lib.hid ht
          clear ht
          go_enter Tryz.func29, Tryz.ntmps29
          go_wp2_with fail
          refine (trim_spec _ bs HL.out).mono ?_
          rintro e w2 ⟨rfl, hk⟩
          rw [HT.out, show strB ([] : BS) = ⟨#[]⟩ from rfl]
          go_wp2
          go_ret
          exact ⟨rfl, hk⟩
        · have hne := strB_empty ht
          rw [decide_eq_false ht]
          clear ht
          go_enter Tryz.func29, Tryz.ntmps29
          go_wp2_with fail
          refine (trim_spec _ bs HL.out).mono ?_
          rintro e w2 ⟨rfl, hk⟩
          go_wp2
          go_ret
          exact ⟨rfl, hk⟩
      · have hf : nameL bs = false := by
          cases h : nameL bs with
          | false => rfl
          | true =>
            rw [HE.out] at h
            unfold nameL nameC at h
            simp at h
            omega
        rw [hf]
        by_cases hlo : x.toNat < 97
        · have i1 : (x.toNat : Int) < 97 := by omega
          clear h20 hlen hx hf hl hlo h0
          go_enter Tryz.func29, Tryz.ntmps29
          go_wp2
          go_ret
          exact ⟨rfl, Keep.refl _ _⟩
        · have i1 : (97 : Int) ≤ (x.toNat : Int) := by omega
          have i2 : (122 : Int) < (x.toNat : Int) := by omega
          clear h20 hlen hx hf hl hlo h0
          go_enter Tryz.func29, Tryz.ntmps29
          go_wp2
          go_ret
          exact ⟨rfl, Keep.refl _ _⟩
set_option maxHeartbeats 1600000 in
theorem rgoodName_spec (w : World) (bs : BS) (hl : bs.length ≤ 1000000) : Calls Tryz.prog 23 #[.string (strB bs)] w fun e w' => e = .returned (.bool (nameL bs)) ∧ w' = w := by
  have es : (strB bs).size = bs.length := strB_size bs
  have hlI : (bs.length : Int) ≤ 1000000 := by omega
  obtain ⟨R, hR⟩ : ∃ R, R = nameL bs := ⟨_, rfl⟩
  rw [← hR]
  have HR := Lib.hid hR
  clear hR
  go_enter Tryz.func23, Tryz.ntmps23
  go_wp2
  go_loopw [3, 4] (fun v _ wr => w = wr ∧ ∃ i : Nat, i ≤ bs.length ∧ i ≤ 21 ∧ v = .int .i64 i ∧ ∀ (j : Nat) (x : UInt8), j < i → bs[j]? = some x → nameC (j == 0) x = true) (fun v _ _ => bs.length - (intOf v).toNat)
  case atStart => exact ⟨rfl, 0, by omega, by omega, rfl, fun j x hj => absurd hj (by omega)⟩
  case round =>
    obtain ⟨rfl, i, hi, hi21, rfl, hall⟩ := hrel
    have Hall := Lib.hid hall
    clear hall
    by_cases hlt : i < bs.length
    · have hltI : (i : Int) < (bs.length : Int) := by omega
      by_cases h20 : i ≤ 20
      · have hiI : (i : Int) ≤ 20 := by omega
        have hi0 : (0 : Int) ≤ (i : Int) := by omega
        obtain ⟨x, hx⟩ : ∃ x, bs[i]? = some x := ⟨_, List.getElem?_eq_getElem hlt⟩
        have hget : ∀ h, ((strB bs)[i]'h) = x := fun h => by rw [strB_at]; exact (List.getElem?_eq_some_iff.1 hx).2
        have hnext : nameC (i == 0) x = true → ∀ (j : Nat) (y : UInt8), j < i + 1 → bs[j]? = some y → nameC (j == 0) y = true := by
          intro hc j y hj hy
          by_cases e : j = i
          · subst e; rw [hx] at hy; cases hy; exact hc
          · exact Hall.out j y (by omega) hy
        have hbad : nameC (i == 0) x = false → R = false := by
          intro hc
          rw [HR.out]
          cases h : nameL bs with
          | false => rfl
          | true => rw [((nameL_iff bs).1 h).2.2 i x hx] at hc; cases hc
        by_cases h1 : 97 ≤ x.toNat ∧ x.toNat ≤ 122
        · have i1 : (97 : Int) ≤ (x.toNat : Int) := by omega
          have i2 : (x.toNat : Int) ≤ 122 := by omega
          have Hn := Lib.hid (hnext (by unfold nameC; simp; omega))
          clear hi h1 hx hnext hbad
          go_wp2
          go_roundw
          case rel => exact ⟨trivial, i + 1, by omega, by omega, by go_num, Hn.out⟩
          case measure => simp [intOf]; omega
        · by_cases hd : 0 < i ∧ 48 ≤ x.toNat ∧ x.toNat ≤ 57
          · have i0 : (0 : Int) < (i : Int) := by omega
            have i1 : (48 : Int) ≤ (x.toNat : Int) := by omega
            have i2 : (x.toNat : Int) ≤ 57 := by omega
            have i3 : (x.toNat : Int) < 97 := by omega
            have Hn := Lib.hid (hnext (by unfold nameC; simp; omega))
            clear hi h1 hx hd hnext hbad
            go_wp2
            go_roundw
            case rel => exact ⟨trivial, i + 1, by omega, by omega, by go_num, Hn.out⟩
            case measure => simp [intOf]; omega
          · obtain rfl : R = false := hbad (by
              unfold nameC
              rw [Bool.eq_false_iff]
              intro hc
              simp at hc
              omega)
            clear hi hx hnext hbad Hall
            by_cases h97 : x.toNat < 97
            · have i3 : (x.toNat : Int) < 97 := by omega
              by_cases hz : i = 0
              · subst hz
                clear h1 hd
                go_wp2
                go_ret
                exact ⟨rfl, rfl⟩
              · have i0 : (0 : Int) < (i : Int) := by omega
                by_cases h48 : x.toNat < 48
                · have i4 : (x.toNat : Int) < 48 := by omega
                  clear h1 hd
                  go_wp2
                  go_ret
                  exact ⟨rfl, rfl⟩
                · have i4 : (48 : Int) ≤ (x.toNat : Int) := by omega
                  have i5 : decide ((x.toNat : Int) ≤ 57) = false := by simp; omega
                  clear h1 hd
                  go_wp2
                  go_ret
                  exact ⟨rfl, rfl⟩
            · have i3 : (97 : Int) ≤ (x.toNat : Int) := by omega
              have i4 : decide ((x.toNat : Int) ≤ 122) = false := by simp; omega
              have i5 : (48 : Int) ≤ (x.toNat : Int) := by omega
              have i6 : decide ((x.toNat : Int) ≤ 57) = false := by simp; omega
              clear h1 hd
              by_cases hz : i = 0
              · subst hz
                go_wp2
                go_ret
                exact ⟨rfl, rfl⟩
              · have i0 : (0 : Int) < (i : Int) := by omega
                go_wp2
                go_ret
                exact ⟨rfl, rfl⟩
      · obtain rfl : i = 21 := by omega
        obtain rfl : R = false := by
          rw [HR.out]
          cases h : nameL bs with
          | false => rfl
          | true => have := nameL_len h; omega
        have h20I : (20 : Int) < (bs.length : Int) := by omega
        have hem := strB_empty (bs := bs) (by rintro rfl; simp at hlt)
        have h20D : decide ((bs.length : Int) ≤ 20) = false := by simp; omega
        clear hi
        go_wp2
        go_ret
        exact ⟨rfl, rfl⟩
    · obtain rfl : i = bs.length := by omega
      by_cases h0 : bs = []
      · subst h0
        obtain rfl : R = false := HR.out
        have he : (strB ([] : BS)).toList.isEmpty = true := by rw [strB_toList]; rfl
        go_wp2
        go_ret
        exact ⟨rfl, rfl⟩
      · have hem := strB_empty h0
        by_cases h20 : bs.length ≤ 20
        · have h20I : (bs.length : Int) ≤ 20 := by omega
          obtain rfl : R = true := by
            rw [HR.out]
            exact (nameL_iff bs).2 ⟨h0, h20, fun j x hx => Hall.out j x (List.getElem?_eq_some_iff.1 hx).1 hx⟩
          clear hi hi21 h20 hlt
          go_wp2
          go_ret
          exact ⟨rfl, rfl⟩
        · have h20I : decide ((bs.length : Int) ≤ 20) = false := by simp; omega
          obtain rfl : R = false := by
            rw [HR.out]
            cases h : nameL bs with
            | false => rfl
            | true => have := nameL_len h; omega
          clear hi hi21 h20 hlt
          go_wp2
          go_ret
          exact ⟨rfl, rfl⟩
end Go.Proofs.YtbdkmfcgnolihaaGreatDoor
