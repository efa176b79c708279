/- asm: numbers as words. -/
import Derived.Test.YtbdkmfcgnolihaaGreatDoorRows
import Derived.WalkKit
import Derived.WalkSpells
import Derived.WalkLawsBesides
import Derived.RegionTactic
import Derived.ChangeAlike
import Derived.BigQuiet
import Derived.Deep.QuietTactic
import Derived.StillTailTactics
import Derived.IntWalk
import Derived.Handy
import Derived.Lib.Hide
import Derived.Deep.AppendLies
import Derived.Deep.RegionWith
import Derived.Test.YtbdkmfcgnolihaaGreatDoorBase
import Derived.Test.YtbdkmfcgnolihaaGreatDoorTail
import Derived.Test.YtbdkmfcgnolihaaGreatDoorArgs
import Derived.Test.YtbdkmfcgnolihaaGreatDoorAppend
import Derived.Test.YtbdkmfcgnolihaaGreatDoorOffs
import Derived.Test.YtbdkmfcgnolihaaGreatDoorStructs
import Derived.Carry
import Derived.Deep.RegionHeld3
import Derived.BigRegion
import Derived.Maps.OwnSet
import Derived.Maps.Views
import Derived.Maps.StringElems
import Derived.Test.YtbdkmfcgnolihaaGreatDoorMaps2
import Derived.Test.YtbdkmfcgnolihaaGreatDoorShelf
import Derived.Test.YtbdkmfcgnolihaaGreatDoorFEnv
import Derived.Test.YtbdkmfcgnolihaaGreatDoorANames
namespace Go.Proofs.YtbdkmfcgnolihaaGreatDoor
set_option linter.unusedSimpArgs false
set_option linter.unnecessarySimpa false
set_option linter.unusedVariables false
open Go.RowKit
def itoaB (n : Int) : ByteArray := strB (Lib.itoa n)
theorem itoaB_size {n : Int} (h : In64 n) : (itoaB n).size ≤ 21 := by
  unfold itoaB
  rw [strB_size]
  exact Lib.itoa_length_le n h.1 h.2
theorem itoa_spec {w : World} (hE : Env w) {n : Int} (hn : In64 n) : Calls Tryz.prog 39 #[.int .i64 n] w fun e w' => e = .returned (.string (itoaB n)) ∧ Keep [] w w' :=
  (Tryz.strconv_Itoa n hn.1 hn.2 w hE.tab).mono fun _ _ ⟨he, k, os, hw⟩ => ⟨he, by rw [hw]; exact keep_grow⟩
def AtoiPost (bs : BS) (w : World) (e : Ending) (w' : World) : Prop := Keep [] w w' ∧ ((∃ n : Int, e = .returned (.tuple #[.int .i64 n, .nilIface]) ∧ In64 n ∧ ∀ m, In64 m → bs = Lib.itoa m → n = m) ∨ (∃ (n : Int) (tp : TypeId) (p : Value), e = .returned (.tuple #[.int .i64 n, .iface tp p]) ∧ ∀ m, In64 m → bs ≠ Lib.itoa m))
theorem atoi_spec {w : World} (hE : Env1 w) (bs : BS) (hl : bs.length ≤ 1000000) : Calls Tryz.prog 94 #[.string (strB bs)] w (AtoiPost bs w) := by
  have hd : (strB bs).data.toList = bs := strB_data bs
  have hsz : (strB bs).size ≤ 1000000 := by rw [strB_size]; exact hl
  match h : Lib.atoiAll bs with
  | Lib.NumEnd.ok v =>
    refine (Tryz.strconv_Atoi_ok (strB bs) (by omega) v (by rw [hd]; exact h) w).mono ?_
    rintro e w' ⟨he, hw⟩
    refine ⟨?_, Or.inl ⟨v, he, Lib.atoiAll_bounds h, fun m hm e => ?_⟩⟩
    · rcases hw with rfl | ⟨t, rfl⟩
      · exact Keep.refl _ _
      · exact keep_of_below (Lib.bytesWorld_below _ _ _)
    · rw [e, atoi_itoa hm] at h
      injection h with h
      exact h.symm
  | Lib.NumEnd.syntax =>
    obtain ⟨tp, p, hv⟩ := hE.syn
    refine (Tryz.strconv_Atoi_syntax_var (strB bs) (by omega) (by rw [hd]; exact h) tp p w hv).mono ?_
    rintro e w' ⟨N, he, _, _, hb⟩
    refine ⟨keep_of_below hb, Or.inr ⟨0, _, _, he, fun m hm e => ?_⟩⟩
    rw [e, atoi_itoa hm] at h
    cases h
  | Lib.NumEnd.range =>
    obtain ⟨tp, p, hv⟩ := hE.rng
    refine (Tryz.strconv_Atoi_range_var (strB bs) (by omega) (by rw [hd]; exact h) tp p w hv).mono ?_
    rintro e w' ⟨N, he, _, _, hb⟩
    refine ⟨keep_of_below hb, Or.inr ⟨_, _, _, he, fun m hm e => ?_⟩⟩
    rw [e, atoi_itoa hm] at h
    cases h
/-- strings.Split at a blank -/
def SplitPost (ps : List BS) (w : World) (e : Ending) (w' : World) : Prop := e = .returned (.slice (some ⟨w.heap.size, 0, none⟩) ps.length ps.length) ∧ Blk w' w.heap.size 9 (ps.map fun p => .string (strB p)) ∧ Keep [] w w' ∧ w'.heap.size = w.heap.size + 1
theorem split_spec {w : World} (hE : Env w) (s : ByteArray) (hs : s.size < 4294967281) : Calls Tryz.prog 79 #[.string s, .string ⟨#[32]⟩] w (SplitPost (pieces 32 s.data.toList) w) := by
  obtain ⟨m, hm⟩ := hE.max
  refine (Tryz.strings_Split s ⟨#[32]⟩ m w hs hm (Nat.le_refl 1)).mono ?_
  rintro e w' ⟨he, rfl⟩
  rw [count_pieces] at he
  rw [splitB_pieces, List.map_map]
  exact ⟨he, Blk.new' _ _ _ _ rfl, (Keep.refl _ _).alloc _, by simp⟩
/-- number: what is read -/
def NumPost (r : Option Int) (w : World) (e : Ending) (w' : World) : Prop := Keep [] w w' ∧ match r with
  | some n => e = .returned (.tuple #[.int .i64 n, .bool true])
  | none => ∃ m : Int, e = .returned (.tuple #[.int .i64 m, .bool false])
theorem NumPost.some' {w w' : World} {e : Ending} {bs : BS} {n : Int} (hk : Keep [] w w') (hn : In64 n) (hb : bs = Lib.itoa n) (he : e = .returned (.tuple #[.int .i64 n, .bool true])) : NumPost (readInt bs) w e w' := by
  refine ⟨hk, ?_⟩
  rw [hb, readInt_itoa hn]
  exact he
theorem NumPost.none' {w w' : World} {e : Ending} {bs : BS} {m : Int} (hk : Keep [] w w') (hb : ∀ n, In64 n → bs ≠ Lib.itoa n) (he : e = .returned (.tuple #[.int .i64 m, .bool false])) : NumPost (readInt bs) w e w' := by
  refine ⟨hk, ?_⟩
  cases h : readInt bs with
  | none => exact ⟨m, he⟩
  | some n => exact absurd (readInt_some h).2 (hb n (readInt_some h).1)
set_option maxHeartbeats 800000 in
theorem number_spec {w : World} (hE : Env1 w) (bs : BS) (hl : bs.length ≤ 1000000) : Calls Tryz.prog 80 #[.string (strB bs)] w (NumPost (readInt bs) w) := by
  have HE := Lib.hid hE
  have HL := Lib.hid hl
  clear hE hl
  go_enter Tryz.func80, Tryz.ntmps80
  go_wp2_with fail
  refine (atoi_spec HE.out bs HL.out).mono ?_
  rintro e w1 ⟨hk, ⟨n, rfl, hn, hm⟩ | ⟨n, tp, p, rfl, hm⟩⟩
  · have HN := Lib.hid (And.intro hk (And.intro hn hm))
    clear hk hn hm
    by_cases hb : bs = Lib.itoa n
    · have HB := Lib.hid hb
      have hq : ((itoaB n).toList == (strB bs).toList) = true := by rw [hb]; unfold itoaB; simp
      clear hb
      go_wp2_with fail
      refine (itoa_spec (HE.out.env.keep HN.out.1) HN.out.2.1).mono ?_
      rintro e w2 ⟨rfl, hk2⟩
      go_wp2
      go_ret2
      exact NumPost.some' (HN.out.1.trans hk2 (by simp)) HN.out.2.1 HB.out rfl
    · have HB := Lib.hid (show ∀ m, In64 m → bs ≠ Lib.itoa m from fun m hm e => hb (by rw [HN.out.2.2 m hm e]; exact e))
      have hq : ((itoaB n).toList == (strB bs).toList) = false := by
        unfold itoaB
        rw [strB_toList, strB_toList]
        exact beq_eq_false_iff_ne.2 (fun e => hb e.symm)
      clear hb
      go_wp2_with fail
      refine (itoa_spec (HE.out.env.keep HN.out.1) HN.out.2.1).mono ?_
      rintro e w2 ⟨rfl, hk2⟩
      go_wp2
      go_ret2
      exact NumPost.none' (HN.out.1.trans hk2 (by simp)) HB.out rfl
  · have HN := Lib.hid (And.intro hk hm)
    clear hk hm
    go_wp2
    go_ret2
    exact NumPost.none' HN.out.1 HN.out.2 rfl
end Go.Proofs.YtbdkmfcgnolihaaGreatDoor
