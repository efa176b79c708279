/- the reference's numbers, words and lines: Digits. -/
import Derived.Test.YtbdkmfcgnolihaaGreatDoorRows
import Derived.WalkKit
import Derived.WalkSpells
import Derived.WalkLawsBesides
import Derived.RegionTactic
import Derived.ChangeAlike
import Derived.BigQuiet
import Derived.Deep.QuietTactic
import Derived.StillTailTactics
import Derived.IntWalk
import Derived.Handy
import Derived.Lib.Hide
import Derived.Deep.AppendLies
import Derived.Deep.RegionWith
import Derived.Test.YtbdkmfcgnolihaaGreatDoorBase
import Derived.Test.YtbdkmfcgnolihaaGreatDoorTail
import Derived.Test.YtbdkmfcgnolihaaGreatDoorArgs
import Derived.Test.YtbdkmfcgnolihaaGreatDoorAppend
import Derived.Test.YtbdkmfcgnolihaaGreatDoorOffs
import Derived.Test.YtbdkmfcgnolihaaGreatDoorStructs
import Derived.Test.YtbdkmfcgnolihaaGreatDoorShelf
import Derived.Carry
import Derived.Deep.RegionHeld3
import Derived.BigRegion
import Derived.Maps.OwnSet
import Derived.Maps.Views
import Derived.Maps.StringElems
import Derived.Test.YtbdkmfcgnolihaaGreatDoorMaps2
import Derived.Test.YtbdkmfcgnolihaaGreatDoorFEnv
import Derived.Test.YtbdkmfcgnolihaaGreatDoorANum
namespace Go.Proofs.YtbdkmfcgnolihaaGreatDoor
set_option linter.unusedSimpArgs false
set_option linter.unnecessarySimpa false
set_option linter.unusedVariables false
open Go.RowKit
theorem dig_fin : ∀ d : Fin 10, (⟨#[48, 49, 50, 51, 52, 53, 54, 55, 56, 57]⟩ : ByteArray).extract d.val (d.val + 1) = strB [UInt8.ofNat (48 + d.val)] := by decide +kernel
theorem dig_piece {d : Nat} (h : d < 10) : (⟨#[48, 49, 50, 51, 52, 53, 54, 55, 56, 57]⟩ : ByteArray).extract d (d + 1) = strB [UInt8.ofNat (48 + d)] := dig_fin ⟨d, h⟩
theorem strB_app (a b : BS) : strB a ++ strB b = strB (a ++ b) := by
  apply ByteArray.ext
  rw [ByteArray.data_append]
  simp [strB]
theorem ret_string {a b : ByteArray} (h : a = b) : Ending.returned (.string a) = .returned (.string b) := by rw [h]
set_option maxHeartbeats 1600000 in
theorem digits_nat (u : Nat) : ∀ (w : World), u ≤ 9223372036854775807 → Calls Tryz.prog 21 #[.int .i64 (u : Int)] w fun e w' => e = .returned (.string (strB (Lib.decDigits u))) ∧ w = w' := by
  induction u using Nat.strongRecOn with
  | ind u ih =>
    intro w hu
    have h0 : (0 : Int) ≤ (u : Int) := by omega
    have h1 : (u : Int) ≤ 9223372036854775807 := by omega
    have hm0 : (0 : Int) ≤ (u : Int) % 10 := by omega
    have hm9 : (u : Int) % 10 < 10 := by omega
    by_cases hs : u < 10
    · have hsI : (u : Int) < 10 := by omega
      have Hs := Lib.hid hs
      clear hs ih hu
      go_enter Tryz.func21, Tryz.ntmps21
      go_wp2
      go_ret
      exact ⟨ret_string (by rw [dig_piece (by omega), dec_small Hs.out, Nat.mod_eq_of_lt Hs.out]), rfl⟩
    · have hsI : (9 : Int) < (u : Int) := by omega
      have hi := ih (u / 10) (by omega) w (by omega)
      have hc : (((u / 10 : Nat)) : Int) = (u : Int) / 10 := by omega
      rw [hc] at hi
      have Hi := Lib.hid hi
      have Hs := Lib.hid hs
      have hz : (strB (Lib.decDigits (u / 10))).size ≤ 19 := by rw [strB_size]; exact dec_len (by omega)
      clear hs ih hi hc
      go_enter Tryz.func21, Tryz.ntmps21
      go_wp2_with fail
      refine Hi.out.mono ?_
      rintro e w' ⟨rfl, rfl⟩
      go_wp2
      go_ret
      exact ⟨ret_string (by rw [dig_piece (by omega), strB_app, dec_big Hs.out]), rfl⟩
set_option maxHeartbeats 1600000 in
theorem digits_spec (w : World) {n : Int} (hn : In64 n) : Calls Tryz.prog 21 #[.int .i64 n] w fun e w' => e = .returned (.string (itoaB n)) ∧ w = w' := by
  obtain ⟨h1, h2⟩ := hn
  unfold itoaB Lib.itoa
  by_cases hneg : n < 0
  · rw [if_pos hneg]
    by_cases hmin : n = -9223372036854775808
    · subst hmin
      have e : strB (45 :: Lib.decDigits (-9223372036854775808 : Int).natAbs) = ⟨#[45, 57, 50, 50, 51, 51, 55, 50, 48, 51, 54, 56, 53, 52, 55, 55, 53, 56, 48, 56]⟩ := by
        have h := (readInt_some (w := [45, 57, 50, 50, 51, 51, 55, 50, 48, 51, 54, 56, 53, 52, 55, 55, 53, 56, 48, 56]) (n := -9223372036854775808) (by decide +kernel)).2
        unfold Lib.itoa at h
        rw [if_pos (by decide)] at h
        rw [← h]
        rfl
      rw [e]
      clear e h1 h2 hneg
      go_enter Tryz.func21, Tryz.ntmps21
      go_wp2
      go_ret
      exact ⟨rfl, rfl⟩
    · obtain ⟨u, hu⟩ : ∃ u : Nat, n = -(u : Int) := ⟨n.natAbs, by omega⟩
      subst hu
      have e : (-(u : Int)).natAbs = u := by omega
      rw [e]
      have hd := Lib.hid (digits_nat u w (by omega))
      have hne : ((-(u : Int)) == -9223372036854775808) = false := by simpa using hmin
      have hup : (0 : Int) < (u : Int) := by omega
      have hup2 : (u : Int) ≤ 9223372036854775807 := by omega
      have hz : (strB (Lib.decDigits u)).size ≤ 19 := by rw [strB_size]; exact dec_len (by omega)
      clear e hmin h1 h2 hneg
      go_enter Tryz.func21, Tryz.ntmps21
      go_wp2_with fail
      refine hd.out.mono ?_
      rintro e w' ⟨rfl, rfl⟩
      go_wp2
      go_ret
      exact ⟨ret_string (strB_app [45] _), rfl⟩
  · rw [if_neg hneg]
    obtain ⟨u, rfl⟩ := Int.eq_ofNat_of_zero_le (show 0 ≤ n by omega)
    exact digits_nat u w (by omega)
/-! ### ReadInt -/
def RdPost (r : Option Int) (w : World) (e : Ending) (w' : World) : Prop := (match r with | some n => e = .returned (.tuple #[.int .i64 n, .bool true]) | none => e = .returned (.tuple #[.int .i64 0, .bool false])) ∧ w = w'
theorem strB_get {d : BS} {i : Nat} (h : i < (strB d).size) : (strB d)[i]'h = d[i]'(by rw [strB_size] at h; exact h) := by
  simp [strB, ByteArray.getElem_eq_getElem_data]
theorem strB_tail (b : UInt8) (r : BS) : (strB (b :: r)).extract 1 (r.length + 1) = strB r := by
  apply ByteArray.ext
  rw [ByteArray.data_extract]
  simp [strB]
theorem drop_cons {d : BS} {i : Nat} (h : i < d.length) : d.drop i = d[i] :: d.drop (i + 1) := List.drop_eq_getElem_cons h

/-- behind the sign -/
theorem readD_fin {neg : Bool} {d : BS} {m : Int} (h0 : ¬ (d.length < 1 ∨ 19 < d.length ∨ (d.head?.map UInt8.toNat = some 48 ∧ (1 < d.length ∨ neg = true)))) (h : readDigs 0 d = some m) : readIntD neg d = if neg = true then some m else if m = -9223372036854775808 then none else some (-m) := by
  unfold readIntD
  rw [if_neg h0, h]
theorem readD_none {neg : Bool} {d : BS} (h : readDigs 0 d = none) : readIntD neg d = none := by
  unfold readIntD
  split
  · rfl
  · rw [h]
theorem readD_bad {neg : Bool} {d : BS} (h0 : d.length < 1 ∨ 19 < d.length ∨ (d.head?.map UInt8.toNat = some 48 ∧ (1 < d.length ∨ neg = true))) : readIntD neg d = none := by
  unfold readIntD
  rw [if_pos h0]
theorem rd_none {r : Option Int} (h : r = none) (w : World) : RdPost r w (.returned (.tuple #[.int .i64 0, .bool false])) w := by subst h; exact ⟨rfl, rfl⟩
theorem rd_some {r : Option Int} {n : Int} (h : r = some n) (w : World) : RdPost r w (.returned (.tuple #[.int .i64 n, .bool true])) w := by subst h; exact ⟨rfl, rfl⟩
set_option maxHeartbeats 3200000 in
set_option maxRecDepth 100000 in
theorem readInt_spec (w : World) (bs : BS) (hl : bs.length ≤ 1000000) : Calls Tryz.prog 50 #[.string (strB bs)] w (RdPost (readInt bs) w) := by
  have hsz : (strB bs).size ≤ 1000000 := by rw [strB_size]; exact hl
  cases bs with
  | nil =>
    have e0 : (strB []).size = 0 := rfl
    go_enter Tryz.func50, Tryz.ntmps50
    go_wp2
    go_ret2
    exact rd_none rfl w
  | cons b r =>
    have hr : r.length + 1 ≤ 1000000 := by simpa using hl
    clear hl hsz
    by_cases hb : b = 45
    · subst hb
      have hi : readInt (45 :: r) = readIntD true r := by unfold readInt; rw [if_pos (by rfl)]; rfl
      rw [hi]
      have h45 : ∀ h, ((((strB (45 :: r))[0]'h).toNat : Int) == 45) = true := fun h => by rw [strB_get]; rfl
      clear hi
      cases r with
      | nil =>
        have Hb := Lib.hid (readD_bad (neg := true) (d := []) (Or.inl (by decide)))
        go_enter Tryz.func50, Tryz.ntmps50
        go_wp2
        go_ret2
        exact rd_none Hb.out w
      | cons c ds =>
        have hd : (strB (45 :: c :: ds)).extract 1 (ds.length + 1 + 1) = strB (c :: ds) := strB_tail 45 (c :: ds)
        have e0 : (strB (45 :: c :: ds)).size = ds.length + 1 + 1 := by rw [strB_size]; rfl
        have e1 : (strB (c :: ds)).size = ds.length + 1 := by rw [strB_size]; rfl
        by_cases h19 : 19 < ds.length + 1
        · have h19I : (19 : Int) < (ds.length : Int) + 1 := by omega
          have Hb := Lib.hid (readD_bad (neg := true) (d := c :: ds) (Or.inr (Or.inl (by simpa using h19))))
          clear h19
          go_enter Tryz.func50, Tryz.ntmps50
          go_wp2
          go_ret2
          exact rd_none Hb.out w
        · have h19I : (ds.length : Int) + 1 ≤ 19 := by omega
          by_cases hc : c.toNat = 48
          · have h48 : ∀ h, ((((strB (c :: ds))[0]'h).toNat : Int) == 48) = true := fun h => by rw [strB_get]; simp [hc]
            have Hb := Lib.hid (readD_bad (neg := true) (d := c :: ds) (Or.inr (Or.inr ⟨by simp [hc], Or.inr rfl⟩)))
            clear h19 hc
            go_enter Tryz.func50, Tryz.ntmps50
            go_wp2
            all_goals
              go_ret2
              exact rd_none Hb.out w
          · have h48 : ∀ h, ((((strB (c :: ds))[0]'h).toNat : Int) == 48) = false := fun h => by rw [strB_get]; simp; omega
            have hok : ¬ ((c :: ds).length < 1 ∨ 19 < (c :: ds).length ∨ ((c :: ds).head?.map UInt8.toNat = some 48 ∧ (1 < (c :: ds).length ∨ true = true))) := by simp [hc]; omega
            have Hok := Lib.hid hok
            clear h19 hc hok
            go_enter Tryz.func50, Tryz.ntmps50
            go_wp2_with fail
            go_loopw [6, 7, 8] (fun v6 v7 _ wr => w = wr ∧ ∃ (i : Nat) (n : Int), i ≤ ds.length + 1 ∧ v7 = .int .i64 i ∧ v6 = .int .i64 n ∧ n ≤ 0 ∧ -9223372036854775808 ≤ n ∧ readDigs n ((c :: ds).drop i) = readDigs 0 (c :: ds)) (fun _ v _ _ => ds.length + 1 - (intOf v).toNat)
            case atStart => exact ⟨rfl, 0, 0, by omega, rfl, rfl, by omega, by omega, rfl⟩
            case round =>
              obtain ⟨rfl, i, n, hi, rfl, rfl, hn0, hn1, hrd⟩ := hrel
              by_cases hlt : i < ds.length + 1
              · have hltI : (i : Int) < (ds.length : Int) + 1 := by omega
                have hiI : (i : Int) ≤ 19 := by omega
                obtain ⟨x, hx⟩ : ∃ x : UInt8, x = (c :: ds)[i]'(by simpa using hlt) := ⟨_, rfl⟩
                have hget : ∀ h, ((strB (c :: ds))[i]'h) = x := fun h => by rw [strB_get, hx]
                have hdrop : (c :: ds).drop i = x :: (c :: ds).drop (i + 1) := by rw [hx]; exact drop_cons _
                rw [hdrop] at hrd
                have hx0 : (0 : Int) ≤ (x.toNat : Int) := by omega
                have hx1 : (x.toNat : Int) ≤ 255 := by have := x.toNat_lt; omega
                have hwc : IntKind.i64.wrap (x.toNat : Int) = (x.toNat : Int) := IntWalk.i64_in _ (by omega)
                cases hst : digStep n x with
                | none =>
                  have Hb := Lib.hid (readD_none (neg := true) (d := c :: ds) (by rw [← hrd, readDigs, hst]))
                  by_cases h1 : (x.toNat : Int) < 48
                  · have h1b : decide ((x.toNat : Int) - 48 < 0) = true := by simp; omega
                    clear hx hdrop hrd hst hlt hi
                    go_wp2
                    all_goals
                      go_ret2
                      exact rd_none Hb.out w
                  · by_cases h2 : 57 < (x.toNat : Int)
                    · clear hx hdrop hrd hst hlt hi
                      go_wp2
                      all_goals
                        go_ret2
                        exact rd_none Hb.out w
                    · have h3 : n < Int.tdiv (-9223372036854775808 + ((x.toNat : Int) - 48)) 10 := by
                        unfold digStep at hst
                        split at hst
                        · omega
                        · cases hst
                      clear hx hdrop hrd hst hlt hi
                      go_wp2
                      all_goals
                        go_ret2
                        exact rd_none Hb.out w
                | some m =>
                  have hm : m = 10 * n - ((x.toNat : Int) - 48) ∧ -9223372036854775808 ≤ m ∧ m ≤ 0 ∧ 48 ≤ (x.toNat : Int) ∧ (x.toNat : Int) ≤ 57 ∧ -9223372036854775808 ≤ 10 * n := by
                    obtain ⟨y, hy, rfl, hm, hlo⟩ := digStep_some hst hn0
                    have := byte_digit hy
                    refine ⟨by omega, hlo, by omega, by omega, by omega, by omega⟩
                  have h3 : ¬ n < Int.tdiv (-9223372036854775808 + ((x.toNat : Int) - 48)) 10 := by
                    intro hlt3
                    unfold digStep at hst
                    rw [if_pos (Or.inr (Or.inr hlt3))] at hst
                    cases hst
                  rw [readDigs, hst] at hrd
                  obtain ⟨hm1, hm2, hm3, hm4, hm5, hm6⟩ := hm
                  have hw10 : IntKind.i64.wrap (10 * n) = 10 * n := IntWalk.i64_in _ (by omega)
                  have hwm : IntKind.i64.wrap (10 * n - ((x.toNat : Int) - 48)) = 10 * n - ((x.toNat : Int) - 48) := IntWalk.i64_in _ (by omega)
                  have Hr := Lib.hid (And.intro hrd (And.intro hm1 (And.intro hm2 (And.intro hm3 hlt))))
                  clear hx hdrop hst hlt hi hrd hm1 hm2 hm3
                  go_wp2
                  go_roundw
                  case rel =>
                    obtain ⟨g1, g2, g3, g4, g5⟩ := Hr.out
                    exact ⟨by first | rfl | trivial, i + 1, m, by omega, by go_num, by rw [g2], g4, g3, g1⟩
                  case measure => simp [intOf]; omega
              · obtain rfl : i = ds.length + 1 := by omega
                have hrn : readDigs 0 (c :: ds) = some n := by rw [← hrd, List.drop_eq_nil_of_le (by simp)]; rfl
                have hf := readD_fin (neg := true) (by simpa using Hok.out) hrn
                clear hrd hrn hlt hi
                have Hf := Lib.hid (show readIntD true (c :: ds) = some n from hf)
                clear hf
                go_wp2
                go_ret2
                exact rd_some Hf.out w
    · have hi : readInt (b :: r) = readIntD false (b :: r) := by unfold readInt; rw [if_neg (by simp; exact fun e => hb (UInt8.toNat_inj.1 e))]
      rw [hi]
      have hb45 : b.toNat ≠ 45 := fun e => hb (UInt8.toNat_inj.1 e)
      have h45 : ∀ h, ((((strB (b :: r))[0]'h).toNat : Int) == 45) = false := fun h => by rw [strB_get]; simp; omega
      clear hi hb hb45
      have e1 : (strB (b :: r)).size = r.length + 1 := by rw [strB_size]; rfl
      by_cases h19 : 19 < r.length + 1
      · have h19I : (19 : Int) < (r.length : Int) + 1 := by omega
        have Hb := Lib.hid (readD_bad (neg := false) (d := b :: r) (Or.inr (Or.inl (by simpa using h19))))
        clear h19
        go_enter Tryz.func50, Tryz.ntmps50
        go_wp2
        go_ret2
        exact rd_none Hb.out w
      · have h19I : (r.length : Int) + 1 ≤ 19 := by omega
        by_cases hc : b.toNat = 48 ∧ 1 ≤ r.length
        · have h48 : ∀ h, ((((strB (b :: r))[0]'h).toNat : Int) == 48) = true := fun h => by rw [strB_get]; simp [hc]
          have Hb := Lib.hid (readD_bad (neg := false) (d := b :: r) (Or.inr (Or.inr ⟨by simp [hc], Or.inl (by simp; exact Nat.lt_of_lt_of_le (by decide) hc.2)⟩)))
          have h1I : (1 : Int) < (r.length : Int) + 1 := by omega
          clear h19 hc
          go_enter Tryz.func50, Tryz.ntmps50
          go_wp2
          all_goals
            go_ret2
            exact rd_none Hb.out w
        · have hok : ¬ ((b :: r).length < 1 ∨ 19 < (b :: r).length ∨ ((b :: r).head?.map UInt8.toNat = some 48 ∧ (1 < (b :: r).length ∨ false = true))) := by
            rintro (h | h | ⟨h, h | h⟩)
            · simp at h
            · simp at h; omega
            · rename_i h2; exact hc ⟨by simpa using h2, by simp at h; omega⟩
            · cases h
          have Hok := Lib.hid hok
          by_cases h48b : b.toNat = 48
          · have h48 : ∀ h, ((((strB (b :: r))[0]'h).toNat : Int) == 48) = true := fun h => by rw [strB_get]; simp [h48b]
            have h1I : ¬ (1 : Int) < (r.length : Int) + 1 := by
              have : ¬ 1 ≤ r.length := fun h => hc ⟨h48b, h⟩
              omega
            clear h19 hc hok h48b
            go_enter Tryz.func50, Tryz.ntmps50
            go_wp2_with fail
            go_loopw [6, 7, 8] (fun v6 v7 _ wr => w = wr ∧ ∃ (i : Nat) (n : Int), i ≤ r.length + 1 ∧ v7 = .int .i64 i ∧ v6 = .int .i64 n ∧ n ≤ 0 ∧ -9223372036854775808 ≤ n ∧ readDigs n ((b :: r).drop i) = readDigs 0 (b :: r)) (fun _ v _ _ => r.length + 1 - (intOf v).toNat)
            case atStart => exact ⟨rfl, 0, 0, by omega, rfl, rfl, by omega, by omega, rfl⟩
            case round =>
              obtain ⟨rfl, i, n, hi, rfl, rfl, hn0, hn1, hrd⟩ := hrel
              by_cases hlt : i < r.length + 1
              · have hltI : (i : Int) < (r.length : Int) + 1 := by omega
                have hiI : (i : Int) ≤ 19 := by omega
                obtain ⟨x, hx⟩ : ∃ x : UInt8, x = (b :: r)[i]'(by simpa using hlt) := ⟨_, rfl⟩
                have hget : ∀ h, ((strB (b :: r))[i]'h) = x := fun h => by rw [strB_get, hx]
                have hdrop : (b :: r).drop i = x :: (b :: r).drop (i + 1) := by rw [hx]; exact drop_cons _
                rw [hdrop] at hrd
                have hx0 : (0 : Int) ≤ (x.toNat : Int) := by omega
                have hx1 : (x.toNat : Int) ≤ 255 := by have := x.toNat_lt; omega
                have hwc : IntKind.i64.wrap (x.toNat : Int) = (x.toNat : Int) := IntWalk.i64_in _ (by omega)
                cases hst : digStep n x with
                | none =>
                  have Hb := Lib.hid (readD_none (neg := false) (d := b :: r) (by rw [← hrd, readDigs, hst]))
                  by_cases h1 : (x.toNat : Int) < 48
                  · have h1b : decide ((x.toNat : Int) - 48 < 0) = true := by simp; omega
                    clear hx hdrop hrd hst hlt hi
                    go_wp2
                    all_goals
                      go_ret2
                      exact rd_none Hb.out w
                  · by_cases h2 : 57 < (x.toNat : Int)
                    · clear hx hdrop hrd hst hlt hi
                      go_wp2
                      all_goals
                        go_ret2
                        exact rd_none Hb.out w
                    · have h3 : n < Int.tdiv (-9223372036854775808 + ((x.toNat : Int) - 48)) 10 := by
                        unfold digStep at hst
                        split at hst
                        · omega
                        · cases hst
                      clear hx hdrop hrd hst hlt hi
                      go_wp2
                      all_goals
                        go_ret2
                        exact rd_none Hb.out w
                | some m =>
                  have hm : m = 10 * n - ((x.toNat : Int) - 48) ∧ -9223372036854775808 ≤ m ∧ m ≤ 0 ∧ 48 ≤ (x.toNat : Int) ∧ (x.toNat : Int) ≤ 57 ∧ -9223372036854775808 ≤ 10 * n := by
                    obtain ⟨y, hy, rfl, hm, hlo⟩ := digStep_some hst hn0
                    have := byte_digit hy
                    refine ⟨by omega, hlo, by omega, by omega, by omega, by omega⟩
                  have h3 : ¬ n < Int.tdiv (-9223372036854775808 + ((x.toNat : Int) - 48)) 10 := by
                    intro hlt3
                    unfold digStep at hst
                    rw [if_pos (Or.inr (Or.inr hlt3))] at hst
                    cases hst
                  rw [readDigs, hst] at hrd
                  obtain ⟨hm1, hm2, hm3, hm4, hm5, hm6⟩ := hm
                  have hw10 : IntKind.i64.wrap (10 * n) = 10 * n := IntWalk.i64_in _ (by omega)
                  have hwm : IntKind.i64.wrap (10 * n - ((x.toNat : Int) - 48)) = 10 * n - ((x.toNat : Int) - 48) := IntWalk.i64_in _ (by omega)
                  have Hr := Lib.hid (And.intro hrd (And.intro hm1 (And.intro hm2 (And.intro hm3 hlt))))
                  clear hx hdrop hst hlt hi hrd hm1 hm2 hm3
                  go_wp2
                  go_roundw
                  case rel =>
                    obtain ⟨g1, g2, g3, g4, g5⟩ := Hr.out
                    exact ⟨by first | rfl | trivial, i + 1, m, by omega, by go_num, by rw [g2], g4, g3, g1⟩
                  case measure => simp [intOf]; omega
              · obtain rfl : i = r.length + 1 := by omega
                have hrn : readDigs 0 (b :: r) = some n := by rw [← hrd, List.drop_eq_nil_of_le (by simp)]; rfl
                have hf := readD_fin (neg := false) Hok.out hrn
                clear hrd hrn hlt hi
                by_cases hmin : n = -9223372036854775808
                · subst hmin
                  have Hf := Lib.hid (show readIntD false (b :: r) = none from hf)
                  clear hf
                  go_wp2
                  go_ret2
                  exact rd_none Hf.out w
                · have Hf := Lib.hid (show readIntD false (b :: r) = some (-n) from by rw [hf, if_neg (by decide), if_neg hmin])
                  have hmb : (n == -9223372036854775808) = false := by simpa using hmin
                  have hlo : -9223372036854775807 ≤ n := by omega
                  clear hf hmin
                  go_wp2
                  go_ret2
                  exact rd_some Hf.out w
          · have h48 : ∀ h, ((((strB (b :: r))[0]'h).toNat : Int) == 48) = false := fun h => by rw [strB_get]; simp; omega
            clear h19 hc hok h48b
            go_enter Tryz.func50, Tryz.ntmps50
            go_wp2_with fail
            go_loopw [6, 7, 8] (fun v6 v7 _ wr => w = wr ∧ ∃ (i : Nat) (n : Int), i ≤ r.length + 1 ∧ v7 = .int .i64 i ∧ v6 = .int .i64 n ∧ n ≤ 0 ∧ -9223372036854775808 ≤ n ∧ readDigs n ((b :: r).drop i) = readDigs 0 (b :: r)) (fun _ v _ _ => r.length + 1 - (intOf v).toNat)
            case atStart => exact ⟨rfl, 0, 0, by omega, rfl, rfl, by omega, by omega, rfl⟩
            case round =>
              obtain ⟨rfl, i, n, hi, rfl, rfl, hn0, hn1, hrd⟩ := hrel
              by_cases hlt : i < r.length + 1
              · have hltI : (i : Int) < (r.length : Int) + 1 := by omega
                have hiI : (i : Int) ≤ 19 := by omega
                obtain ⟨x, hx⟩ : ∃ x : UInt8, x = (b :: r)[i]'(by simpa using hlt) := ⟨_, rfl⟩
                have hget : ∀ h, ((strB (b :: r))[i]'h) = x := fun h => by rw [strB_get, hx]
                have hdrop : (b :: r).drop i = x :: (b :: r).drop (i + 1) := by rw [hx]; exact drop_cons _
                rw [hdrop] at hrd
                have hx0 : (0 : Int) ≤ (x.toNat : Int) := by omega
                have hx1 : (x.toNat : Int) ≤ 255 := by have := x.toNat_lt; omega
                have hwc : IntKind.i64.wrap (x.toNat : Int) = (x.toNat : Int) := IntWalk.i64_in _ (by omega)
                cases hst : digStep n x with
                | none =>
                  have Hb := Lib.hid (readD_none (neg := false) (d := b :: r) (by rw [← hrd, readDigs, hst]))
                  by_cases h1 : (x.toNat : Int) < 48
                  · have h1b : decide ((x.toNat : Int) - 48 < 0) = true := by simp; omega
                    clear hx hdrop hrd hst hlt hi
                    go_wp2
                    all_goals
                      go_ret2
                      exact rd_none Hb.out w
                  · by_cases h2 : 57 < (x.toNat : Int)
                    · clear hx hdrop hrd hst hlt hi
                      go_wp2
                      all_goals
                        go_ret2
                        exact rd_none Hb.out w
                    · have h3 : n < Int.tdiv (-9223372036854775808 + ((x.toNat : Int) - 48)) 10 := by
                        unfold digStep at hst
                        split at hst
                        · omega
                        · cases hst
                      clear hx hdrop hrd hst hlt hi
                      go_wp2
                      all_goals
                        go_ret2
                        exact rd_none Hb.out w
                | some m =>
                  have hm : m = 10 * n - ((x.toNat : Int) - 48) ∧ -9223372036854775808 ≤ m ∧ m ≤ 0 ∧ 48 ≤ (x.toNat : Int) ∧ (x.toNat : Int) ≤ 57 ∧ -9223372036854775808 ≤ 10 * n := by
                    obtain ⟨y, hy, rfl, hm, hlo⟩ := digStep_some hst hn0
                    have := byte_digit hy
                    refine ⟨by omega, hlo, by omega, by omega, by omega, by omega⟩
                  have h3 : ¬ n < Int.tdiv (-9223372036854775808 + ((x.toNat : Int) - 48)) 10 := by
                    intro hlt3
                    unfold digStep at hst
                    rw [if_pos (Or.inr (Or.inr hlt3))] at hst
                    cases hst
                  rw [readDigs, hst] at hrd
                  obtain ⟨hm1, hm2, hm3, hm4, hm5, hm6⟩ := hm
                  have hw10 : IntKind.i64.wrap (10 * n) = 10 * n := IntWalk.i64_in _ (by omega)
                  have hwm : IntKind.i64.wrap (10 * n - ((x.toNat : Int) - 48)) = 10 * n - ((x.toNat : Int) - 48) := IntWalk.i64_in _ (by omega)
                  have Hr := Lib.hid (And.intro hrd (And.intro hm1 (And.intro hm2 (And.intro hm3 hlt))))
                  clear hx hdrop hst hlt hi hrd hm1 hm2 hm3
                  go_wp2
                  go_roundw
                  case rel =>
                    obtain ⟨g1, g2, g3, g4, g5⟩ := Hr.out
                    exact ⟨by first | rfl | trivial, i + 1, m, by omega, by go_num, by rw [g2], g4, g3, g1⟩
                  case measure => simp [intOf]; omega
              · obtain rfl : i = r.length + 1 := by omega
                have hrn : readDigs 0 (b :: r) = some n := by rw [← hrd, List.drop_eq_nil_of_le (by simp)]; rfl
                have hf := readD_fin (neg := false) Hok.out hrn
                clear hrd hrn hlt hi
                by_cases hmin : n = -9223372036854775808
                · subst hmin
                  have Hf := Lib.hid (show readIntD false (b :: r) = none from hf)
                  clear hf
                  go_wp2
                  go_ret2
                  exact rd_none Hf.out w
                · have Hf := Lib.hid (show readIntD false (b :: r) = some (-n) from by rw [hf, if_neg (by decide), if_neg hmin])
                  have hmb : (n == -9223372036854775808) = false := by simpa using hmin
                  have hlo : -9223372036854775807 ≤ n := by omega
                  clear hf hmin
                  go_wp2
                  go_ret2
                  exact rd_some Hf.out w
end Go.Proofs.YtbdkmfcgnolihaaGreatDoor
