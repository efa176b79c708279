/- The reference: Split, Lines. -/
import Derived.Test.YtbdkmfcgnolihaaGreatDoorRows
import Derived.WalkKit
import Derived.WalkSpells
import Derived.WalkLawsBesides
import Derived.RegionTactic
import Derived.ChangeAlike
import Derived.BigQuiet
import Derived.Deep.QuietTactic
import Derived.StillTailTactics
import Derived.IntWalk
import Derived.Handy
import Derived.Lib.Hide
import Derived.Deep.AppendLies
import Derived.Deep.RegionWith
import Derived.Test.YtbdkmfcgnolihaaGreatDoorBase
import Derived.Test.YtbdkmfcgnolihaaGreatDoorTail
import Derived.Test.YtbdkmfcgnolihaaGreatDoorArgs
import Derived.Test.YtbdkmfcgnolihaaGreatDoorAppend
import Derived.Test.YtbdkmfcgnolihaaGreatDoorOffs
import Derived.Test.YtbdkmfcgnolihaaGreatDoorStructs
import Derived.Test.YtbdkmfcgnolihaaGreatDoorShelf
import Derived.Carry
import Derived.Deep.RegionHeld3
import Derived.BigRegion
import Derived.Maps.OwnSet
import Derived.Maps.Views
import Derived.Maps.StringElems
import Derived.Test.YtbdkmfcgnolihaaGreatDoorMaps2
import Derived.Test.YtbdkmfcgnolihaaGreatDoorFEnv
import Derived.Test.YtbdkmfcgnolihaaGreatDoorANum
import Derived.Test.YtbdkmfcgnolihaaGreatDoorRNum
namespace Go.Proofs.YtbdkmfcgnolihaaGreatDoor
set_option linter.unusedSimpArgs false
set_option linter.unnecessarySimpa false
set_option linter.unusedVariables false
open Go.RowKit
/-- a slice of strings that reads as these -/
def StrsAt (w : World) (v : Value) (ps : List BS) : Prop :=
  ∃ a c, v = .slice a ps.length c ∧ ∀ (i : Nat) (p : BS), ps[i]? = some p → ∃ b off, a = some ⟨b, off, none⟩ ∧ b < w.heap.size ∧ w.cell? ⟨b, off + i, none⟩ = some (.string (strB p))
theorem StrsAt.keep0 {w w' : World} {v : Value} {ps : List BS} (h : StrsAt w v ps) (k : Keep [] w w') : StrsAt w' v ps := by
  obtain ⟨a, c, rfl, h⟩ := h
  refine ⟨a, c, rfl, fun i s hs => ?_⟩
  obtain ⟨b, off, rfl, hb, hc⟩ := h i s hs
  exact ⟨b, off, rfl, Nat.lt_of_lt_of_le hb k.size, cell_keep0 k hc⟩
theorem strs_cell {w w' : World} {b off n c i : Nat} {ps : List BS} {p : BS} (H : StrsAt w (.slice (some ⟨b, off, none⟩) n c) ps) (k : Keep [] w w') (hs : ps[i]? = some p) : w'.cell? ⟨b, off + i, none⟩ = some (.string (strB p)) := by
  obtain ⟨a, c', hv, h⟩ := H
  cases hv
  obtain ⟨b', off', hb, _, hc⟩ := h i p hs
  cases hb
  exact cell_keep0 k hc
theorem StrsAt.of_own {w : World} {B : Nat} {v : Value} {ps : List BS} (h : OwnsAt w B 9 1 v ps.length (ps.map fun p => .string (strB p))) : StrsAt w v ps := by
  obtain ⟨a, c, rfl⟩ := h.shape
  refine ⟨a, c, rfl, fun i p hs => ?_⟩
  have hi : i < ps.length := (List.getElem?_eq_some_iff.1 hs).1
  obtain ⟨g, off, cap, hv, h1, h2, h3, h4, h5⟩ := h.form (by omega)
  injection hv with e1 e2 e3
  subst e1 e3
  exact ⟨g, off, rfl, h4, h5 i _ (by rw [List.getElem?_map, hs]; rfl)⟩
theorem Tryz.sts40 : SliceTy Tryz.prog 40 9 (.string ⟨#[]⟩) 1 16 := ⟨Tryz.underlying40, by kernel_rfl, by kernel_rfl, by decide⟩
theorem src_str {w : World} (s : ByteArray) : SrcOf (w.alloc (.cells #[.string s] 9)) (.slice (some ⟨w.heap.size, 0, none⟩) 1 1) 1 1 [.string s] := by
  have hb : Blk (w.alloc (.cells #[.string s] 9)) w.heap.size 9 [.string s] := Blk.new' _ _ _ _ rfl
  refine ⟨_, _, rfl, rfl, fun _ => ⟨_, rfl, fun j u hu => ?_⟩⟩
  rw [add_none, Nat.zero_add]
  exact (hb.cell j).trans hu
theorem extract_strB (bs : BS) (f i : Nat) : (strB bs).extract f i = strB ((bs.drop f).take (i - f)) := by
  apply ByteArray.ext
  rw [ByteArray.data_extract]
  apply Array.toList_inj.1
  rw [Array.toList_extract, strB_data, List.extract_eq_take_drop]
  exact (strB_data _).symm
def runC (c : UInt8) (bs : BS) (ps : List BS) (f i : Nat) : Prop := f ≤ i ∧ i ≤ bs.length ∧ ps.length ≤ f ∧ pieces c bs = ps ++ pieces c (bs.drop f) ∧ ∀ j, f ≤ j → j < i → ∀ b, bs[j]? = some b → b ≠ c
theorem runC_start (c : UInt8) (bs : BS) : runC c bs [] 0 0 := ⟨by omega, by omega, by simp, by simp, by intro j h1 h2; omega⟩
theorem runC_other {c x : UInt8} {bs : BS} {ps : List BS} {f i : Nat} (h : runC c bs ps f i) (hx : bs[i]? = some x) (hne : x ≠ c) : runC c bs ps f (i + 1) := by
  obtain ⟨h1, h2, h3, h4, h5⟩ := h
  refine ⟨by omega, by have := (List.getElem?_eq_some_iff.1 hx).1; omega, h3, h4, fun j ha hb b hj => ?_⟩
  by_cases e : j = i
  · subst e
    rw [hx] at hj
    cases hj
    exact hne
  · exact h5 j ha (by omega) b hj
theorem take_all {c : UInt8} {bs : BS} {f i : Nat} (h5 : ∀ j, f ≤ j → j < i → ∀ b, bs[j]? = some b → b ≠ c) : ∀ b ∈ (bs.drop f).take (i - f), b ≠ c := by
  intro b hb
  obtain ⟨j, hj⟩ := List.mem_iff_getElem?.1 hb
  rw [List.getElem?_take] at hj
  split at hj
  · rename_i hlt
    rw [List.getElem?_drop] at hj
    exact h5 (f + j) (by omega) (by omega) b hj
  · cases hj
theorem runC_cut {c : UInt8} {bs : BS} {ps : List BS} {f i : Nat} (h : runC c bs ps f i) (hx : bs[i]? = some c) : runC c bs (ps ++ [(bs.drop f).take (i - f)]) (i + 1) (i + 1) := by
  obtain ⟨h1, h2, h3, h4, h5⟩ := h
  have hi := (List.getElem?_eq_some_iff.1 hx).1
  refine ⟨by omega, by omega, by simp; omega, ?_, by intro j ha hb; omega⟩
  have hd : bs.drop f = (bs.drop f).take (i - f) ++ c :: bs.drop (i + 1) := by
    have e1 : (bs.drop f).drop (i - f) = c :: bs.drop (i + 1) := by
      rw [List.drop_drop, show f + (i - f) = i by omega]
      rw [← (List.getElem?_eq_some_iff.1 hx).2]
      exact List.drop_eq_getElem_cons hi
    rw [← e1, List.take_append_drop]
  rw [h4]
  conv => lhs; rw [hd, pieces_app _ (take_all h5)]
  simp
theorem runC_end {c : UInt8} {bs : BS} {ps : List BS} {f : Nat} (h : runC c bs ps f bs.length) : pieces c bs = ps ++ [bs.drop f] := by
  obtain ⟨h1, h2, h3, h4, h5⟩ := h
  rw [h4, pieces_none]
  intro b hb
  have := take_all h5
  rw [List.take_of_length_le (by rw [List.length_drop]; omega)] at this
  exact this b hb
theorem mem_own' {v : Value} {x : Nat} : x ∈ ownBlocks v ↔ v.ownBlock = some x := by simp [ownBlocks]
set_option maxHeartbeats 6400000 in
set_option maxRecDepth 100000 in
theorem rsplit_spec (w : World) (bs : BS) (hl : bs.length ≤ 1000000) : Calls Tryz.prog 48 #[.string (strB bs)] w fun e w' => Keep [] w w' ∧ ∃ v, e = .returned v ∧ StrsAt w' v (pieces 32 bs) := by
  have HL := Lib.hid hl
  have hnI : (bs.length : Int) ≤ 1000000 := by omega
  have e1 : (strB bs).size = bs.length := strB_size bs
  clear hl
  go_enter Tryz.func48, Tryz.ntmps48
  go_wp2_with fail
  go_loopw [3, 4, 5] (fun vo vf vi wr => ∃ (ps : List BS) (f i : Nat), vf = .int .i64 f ∧ vi = .int .i64 i ∧ OwnsAt wr w.heap.size 9 1 vo ps.length (ps.map fun p => .string (strB p)) ∧ runC 32 bs ps f i ∧ Keep [] w wr) (fun _ _ v _ => bs.length - (intOf v).toNat)
  case atStart => exact ⟨[], 0, 0, rfl, rfl, OwnsAt.nil _ _ _ _, runC_start _ _, Keep.refl _ _⟩
  case round =>
    obtain ⟨ps, f, i, rfl, rfl, ho, hr, hk⟩ := hrel
    obtain ⟨ao, co, rfl⟩ := ho.shape
    have hf : f ≤ i := hr.1
    have hi : i ≤ bs.length := hr.2.1
    have hp : ps.length ≤ f := hr.2.2.1
    have hfI : (f : Int) ≤ (i : Int) := by omega
    have hf0 : (0 : Int) ≤ (f : Int) := by omega
    have hiI : (i : Int) ≤ (bs.length : Int) := by omega
    have hi2 : (i : Int) ≤ 1000000 := by omega
    have hps : (ps.length : Int) ≤ 1000000 := by omega
    have G := Lib.hid (And.intro ho (And.intro hr (And.intro hk (And.intro hf (And.intro hi hp)))))
    clear ho hr hk hf hi hp
    by_cases hlt : i < bs.length
    · have hltI : (i : Int) < (bs.length : Int) := by omega
      obtain ⟨x, hx⟩ : ∃ x : UInt8, bs[i]? = some x := ⟨_, List.getElem?_eq_getElem hlt⟩
      have hget : ∀ h, ((strB bs)[i]'h) = x := fun h => by rw [strB_get]; exact (List.getElem?_eq_some_iff.1 hx).2
      by_cases hxc : x = 32
      · subst hxc
        have X := Lib.hid (And.intro (runC_cut G.out.2.1 hx) hlt)
        have hex : (strB bs).extract f i = strB ((bs.drop f).take (i - f)) := extract_strB bs f i
        have Ho6 := Lib.hid (G.out.1.keep ((Keep.refl [] wr).alloc (.cells #[.string (strB ((bs.drop f).take (i - f)))] 9)) (by simp))
        have Hz : Hid (w.heap.size ≤ (wr.alloc (.cells #[.string (strB ((bs.drop f).take (i - f)))] 9)).heap.size) := Lib.hid (G.out.2.2.1.alloc _).size
        clear hx hlt
        go_wp2_with (at_builtin; refine wpList_append_off rfl _ _ rfl Tryz.sts40 w.heap.size (.slice ao ps.length co) ps.length _ rfl Ho6.out _ 1 [.string (strB ((bs.drop f).take (i - f)))] rfl (src_str _) (by simp [Value.oneCell']) (by unfold maxLen; omega) (by omega) Hz.out ?_)
        intro v7 w7 ho7 hk7 hb7
        have Ho7 := Lib.hid ho7
        have Hk7 := Lib.hid (show Keep [] w w7 from (G.out.2.2.1.alloc _).trans hk7 (fun x hx => Or.inr (Ho6.out.lt x (mem_own'.1 hx)).1))
        clear ho7 hk7 hb7 Ho6 Hz hex hget
        go_wp2
        go_roundw
        case rel => exact ⟨ps ++ [(bs.drop f).take (i - f)], i + 1, i + 1, by go_num, by go_num, by have := Ho7.out; rw [List.length_append, List.map_append]; simpa using this, X.out.1, Hk7.out⟩
        case measure => simp [intOf]; have := X.out.2; omega
      · have hq : ∀ h, ((((strB bs)[i]'h).toNat : Int) == 32) = false := fun h => by
          rw [hget h]
          simp
          intro h2
          exact hxc (UInt8.toNat.inj (by rw [show x.toNat = 32 by omega]; rfl))
        have hq2 : ((x.toNat : Int) == 32) = false := by
          simp
          intro h2
          exact hxc (UInt8.toNat.inj (by rw [show x.toNat = 32 by omega]; rfl))
        have X := Lib.hid (And.intro (runC_other G.out.2.1 hx hxc) hlt)
        clear hx hlt hxc
        go_wp2
        go_roundw
        case rel => exact ⟨ps, f, i + 1, rfl, by go_num, G.out.1, X.out.1, G.out.2.2.1⟩
        case measure => simp [intOf]; have := X.out.2; omega
    · obtain rfl : i = bs.length := by have := G.out.2.2.2.2.1; omega
      clear hlt
      have X := Lib.hid (runC_end G.out.2.1)
      have hex : (strB bs).extract f bs.length = strB (bs.drop f) := by
        rw [extract_strB, List.take_of_length_le (by rw [List.length_drop]; omega)]
      have Ho6 := Lib.hid (G.out.1.keep ((Keep.refl [] wr).alloc (.cells #[.string (strB (bs.drop f))] 9)) (by simp))
      have Hz : Hid (w.heap.size ≤ (wr.alloc (.cells #[.string (strB (bs.drop f))] 9)).heap.size) := Lib.hid (G.out.2.2.1.alloc _).size
      go_wp2_with (at_builtin; refine wpList_append_off rfl _ _ rfl Tryz.sts40 w.heap.size (.slice ao ps.length co) ps.length _ rfl Ho6.out _ 1 [.string (strB (bs.drop f))] rfl (src_str _) (by simp [Value.oneCell']) (by unfold maxLen; omega) (by omega) Hz.out ?_)
      intro v7 w7 ho7 hk7 hb7
      have Ho7 := Lib.hid ho7
      have Hk7 := Lib.hid (show Keep [] w w7 from (G.out.2.2.1.alloc _).trans hk7 (fun x hx => Or.inr (Ho6.out.lt x (mem_own'.1 hx)).1))
      clear ho7 hk7 hb7 Ho6 Hz hex
      go_wp2
      go_ret
      have hown : OwnsAt w7 w.heap.size 9 1 v7 (ps ++ [bs.drop f]).length ((ps ++ [bs.drop f]).map fun p => .string (strB p)) := by
        have := Ho7.out
        rw [List.length_append, List.map_append]
        simpa using this
      exact ⟨Hk7.out, v7, rfl, by rw [X.out]; exact StrsAt.of_own hown⟩
/-- the lines of a text, and whether the last one is whole -/
def linesL (bs : BS) : List BS × Bool := if (pieces 10 bs).getLast? = some [] then ((pieces 10 bs).dropLast, true) else (pieces 10 bs, false)
def LinesPost (bs : BS) (w : World) (e : Ending) (w' : World) : Prop := Keep [] w w' ∧ ∃ v b, e = .returned (.tuple #[v, .bool b]) ∧ b = (linesL bs).2 ∧ StrsAt w' v (linesL bs).1
theorem lines_open {bs r : BS} {ps : List BS} {w : World} {v : Value} (h : pieces 10 bs = ps ++ [r]) (hr : r ≠ []) (hs : StrsAt w v (ps ++ [r])) : false = (linesL bs).2 ∧ StrsAt w v (linesL bs).1 := by
  unfold linesL
  rw [h, if_neg (by simp [hr])]
  exact ⟨rfl, hs⟩
theorem lines_whole {bs : BS} {ps : List BS} {w : World} {v : Value} (h : pieces 10 bs = ps ++ [[]]) (hs : StrsAt w v ps) : true = (linesL bs).2 ∧ StrsAt w v (linesL bs).1 := by
  unfold linesL
  rw [h, if_pos (by simp)]
  exact ⟨rfl, by simpa using hs⟩
set_option maxHeartbeats 6400000 in
set_option maxRecDepth 100000 in
theorem rlines_spec (w : World) (bs : BS) (hl : bs.length ≤ 1000000) : Calls Tryz.prog 20 #[.string (strB bs)] w (LinesPost bs w) := by
  have HL := Lib.hid hl
  have hnI : (bs.length : Int) ≤ 1000000 := by omega
  have e1 : (strB bs).size = bs.length := strB_size bs
  clear hl
  go_enter Tryz.func20, Tryz.ntmps20
  go_wp2_with fail
  go_loopw [4, 5, 6] (fun vo vf vi wr => ∃ (ps : List BS) (f i : Nat), vf = .int .i64 f ∧ vi = .int .i64 i ∧ OwnsAt wr w.heap.size 9 1 vo ps.length (ps.map fun p => .string (strB p)) ∧ runC 10 bs ps f i ∧ Keep [] w wr) (fun _ _ v _ => bs.length - (intOf v).toNat)
  case atStart => exact ⟨[], 0, 0, rfl, rfl, OwnsAt.nil _ _ _ _, runC_start _ _, Keep.refl _ _⟩
  case round =>
    obtain ⟨ps, f, i, rfl, rfl, ho, hr, hk⟩ := hrel
    obtain ⟨ao, co, rfl⟩ := ho.shape
    have hf : f ≤ i := hr.1
    have hi : i ≤ bs.length := hr.2.1
    have hp : ps.length ≤ f := hr.2.2.1
    have hfI : (f : Int) ≤ (i : Int) := by omega
    have hf0 : (0 : Int) ≤ (f : Int) := by omega
    have hiI : (i : Int) ≤ (bs.length : Int) := by omega
    have hi2 : (i : Int) ≤ 1000000 := by omega
    have hps : (ps.length : Int) ≤ 1000000 := by omega
    have G := Lib.hid (And.intro ho (And.intro hr (And.intro hk (And.intro hf (And.intro hi hp)))))
    clear ho hr hk hf hi hp
    by_cases hlt : i < bs.length
    · have hltI : (i : Int) < (bs.length : Int) := by omega
      obtain ⟨x, hx⟩ : ∃ x : UInt8, bs[i]? = some x := ⟨_, List.getElem?_eq_getElem hlt⟩
      have hget : ∀ h, ((strB bs)[i]'h) = x := fun h => by rw [strB_get]; exact (List.getElem?_eq_some_iff.1 hx).2
      by_cases hxc : x = 10
      · subst hxc
        have X := Lib.hid (And.intro (runC_cut G.out.2.1 hx) hlt)
        have hex : (strB bs).extract f i = strB ((bs.drop f).take (i - f)) := extract_strB bs f i
        have Ho6 := Lib.hid (G.out.1.keep ((Keep.refl [] wr).alloc (.cells #[.string (strB ((bs.drop f).take (i - f)))] 9)) (by simp))
        have Hz : Hid (w.heap.size ≤ (wr.alloc (.cells #[.string (strB ((bs.drop f).take (i - f)))] 9)).heap.size) := Lib.hid (G.out.2.2.1.alloc _).size
        clear hx hlt
        go_wp2_with (at_builtin; refine wpList_append_off rfl _ _ rfl Tryz.sts40 w.heap.size (.slice ao ps.length co) ps.length _ rfl Ho6.out _ 1 [.string (strB ((bs.drop f).take (i - f)))] rfl (src_str _) (by simp [Value.oneCell']) (by unfold maxLen; omega) (by omega) Hz.out ?_)
        intro v7 w7 ho7 hk7 hb7
        have Ho7 := Lib.hid ho7
        have Hk7 := Lib.hid (show Keep [] w w7 from (G.out.2.2.1.alloc _).trans hk7 (fun x hx => Or.inr (Ho6.out.lt x (mem_own'.1 hx)).1))
        clear ho7 hk7 hb7 Ho6 Hz hex hget
        go_wp2
        go_roundw
        case rel => exact ⟨ps ++ [(bs.drop f).take (i - f)], i + 1, i + 1, by go_num, by go_num, by have := Ho7.out; rw [List.length_append, List.map_append]; simpa using this, X.out.1, Hk7.out⟩
        case measure => simp [intOf]; have := X.out.2; omega
      · have hq : ∀ h, ((((strB bs)[i]'h).toNat : Int) == 10) = false := fun h => by
          rw [hget h]
          simp
          intro h2
          exact hxc (UInt8.toNat.inj (by rw [show x.toNat = 10 by omega]; rfl))
        have hq2 : ((x.toNat : Int) == 10) = false := by
          simp
          intro h2
          exact hxc (UInt8.toNat.inj (by rw [show x.toNat = 10 by omega]; rfl))
        have X := Lib.hid (And.intro (runC_other G.out.2.1 hx hxc) hlt)
        clear hx hlt hxc
        go_wp2
        go_roundw
        case rel => exact ⟨ps, f, i + 1, rfl, by go_num, G.out.1, X.out.1, G.out.2.2.1⟩
        case measure => simp [intOf]; have := X.out.2; omega
    · obtain rfl : i = bs.length := by have := G.out.2.2.2.2.1; omega
      clear hlt
      have X := Lib.hid (runC_end G.out.2.1)
      have hex : (strB bs).extract f bs.length = strB (bs.drop f) := by
        rw [extract_strB, List.take_of_length_le (by rw [List.length_drop]; omega)]
      by_cases hfl : f < bs.length
      · have hflI : (f : Int) < (bs.length : Int) := by omega
        have hne : bs.drop f ≠ [] := by
          intro h0
          have := congrArg List.length h0
          simp at this
          omega
        have Hne := Lib.hid hne
        clear hne hfl
        have Ho6 := Lib.hid (G.out.1.keep ((Keep.refl [] wr).alloc (.cells #[.string (strB (bs.drop f))] 9)) (by simp))
        have Hz : Hid (w.heap.size ≤ (wr.alloc (.cells #[.string (strB (bs.drop f))] 9)).heap.size) := Lib.hid (G.out.2.2.1.alloc _).size
        go_wp2_with (at_builtin; refine wpList_append_off rfl _ _ rfl Tryz.sts40 w.heap.size (.slice ao ps.length co) ps.length _ rfl Ho6.out _ 1 [.string (strB (bs.drop f))] rfl (src_str _) (by simp [Value.oneCell']) (by unfold maxLen; omega) (by omega) Hz.out ?_)
        intro v7 w7 ho7 hk7 hb7
        have Ho7 := Lib.hid ho7
        have Hk7 := Lib.hid (show Keep [] w w7 from (G.out.2.2.1.alloc _).trans hk7 (fun x hx => Or.inr (Ho6.out.lt x (mem_own'.1 hx)).1))
        clear ho7 hk7 hb7 Ho6 Hz hex
        go_wp2
        go_ret2
        have hown : OwnsAt w7 w.heap.size 9 1 v7 (ps ++ [bs.drop f]).length ((ps ++ [bs.drop f]).map fun p => .string (strB p)) := by
          have := Ho7.out
          rw [List.length_append, List.map_append]
          simpa using this
        exact ⟨Hk7.out, v7, _, rfl, lines_open X.out Hne.out (StrsAt.of_own hown)⟩
      · have hflI : ¬ (f : Int) < (bs.length : Int) := by omega
        have hnil : bs.drop f = [] := List.drop_eq_nil_of_le (by omega)
        have Hn := Lib.hid hnil
        clear hnil hfl
        go_wp2
        go_ret2
        exact ⟨G.out.2.2.1, _, _, rfl, lines_whole (by rw [← Hn.out]; exact X.out) (StrsAt.of_own G.out.1)⟩
end Go.Proofs.YtbdkmfcgnolihaaGreatDoor
