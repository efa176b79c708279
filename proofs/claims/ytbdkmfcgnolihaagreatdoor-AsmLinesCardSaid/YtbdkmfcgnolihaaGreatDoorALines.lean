/- asm: words as numbers; a line's words. -/
import Derived.Test.YtbdkmfcgnolihaaGreatDoorRows
import Derived.WalkKit
import Derived.WalkSpells
import Derived.WalkLawsBesides
import Derived.RegionTactic
import Derived.ChangeAlike
import Derived.BigQuiet
import Derived.Deep.QuietTactic
import Derived.StillTailTactics
import Derived.IntWalk
import Derived.Handy
import Derived.Lib.Hide
import Derived.Deep.AppendLies
import Derived.Deep.RegionWith
import Derived.Test.YtbdkmfcgnolihaaGreatDoorBase
import Derived.Test.YtbdkmfcgnolihaaGreatDoorTail
import Derived.Test.YtbdkmfcgnolihaaGreatDoorArgs
import Derived.Test.YtbdkmfcgnolihaaGreatDoorAppend
import Derived.Test.YtbdkmfcgnolihaaGreatDoorOffs
import Derived.Test.YtbdkmfcgnolihaaGreatDoorStructs
import Derived.Carry
import Derived.Deep.RegionHeld3
import Derived.BigRegion
import Derived.Maps.OwnSet
import Derived.Maps.Views
import Derived.Maps.StringElems
import Derived.Test.YtbdkmfcgnolihaaGreatDoorMaps2
import Derived.Test.YtbdkmfcgnolihaaGreatDoorShelf
import Derived.Test.YtbdkmfcgnolihaaGreatDoorFEnv
import Derived.Test.YtbdkmfcgnolihaaGreatDoorANum
import Derived.Test.YtbdkmfcgnolihaaGreatDoorRSplit
import Derived.Test.YtbdkmfcgnolihaaGreatDoorAObj
namespace Go.Proofs.YtbdkmfcgnolihaaGreatDoor
set_option linter.unusedSimpArgs false
set_option linter.unnecessarySimpa false
set_option linter.unusedVariables false
open Go.RowKit
/-- all: what is read of words -/
def AllPost (B : Nat) (r : Option (List Int)) (w : World) (e : Ending) (w' : World) : Prop := Keep [] w w' ∧ match r with
  | some l => ∃ v, e = .returned (.tuple #[v, .bool true]) ∧ OwnsAt w' B 3 1 v l.length (l.map (.int .i64))
  | none => e = .returned (.tuple #[.slice none 0 0, .bool false])
theorem readInts_app : ∀ (a : List BS) {b : List BS} {l : List Int}, readInts a = some l → readInts (a ++ b) = (readInts b).map fun m => l ++ m
  | [], b, l, h => by cases h; simp
  | w :: a, b, l, h => by
    change (match readInt w with | none => none | some n => (readInts a).map fun l => n :: l) = some l at h
    show (match readInt w with | none => none | some n => (readInts (a ++ b)).map fun l => n :: l) = _
    cases hw : readInt w with
    | none => rw [hw] at h; cases h
    | some n =>
      rw [hw] at h
      obtain ⟨l', h1, rfl⟩ := Option.map_eq_some_iff.1 h
      simp only [readInts_app a h1]
      cases readInts b <;> simp
theorem readInts_some {ps : List BS} {i : Nat} {l : List Int} {p : BS} {n : Int} (h : readInts (ps.take i) = some l) (hp : ps[i]? = some p) (hn : readInt p = some n) : readInts (ps.take (i + 1)) = some (l ++ [n]) := by
  rw [List.take_add_one, hp]
  have := readInts_app (ps.take i) (b := [p]) h
  simp only [readInts, hn, Option.map_some] at this
  exact this
theorem readInts_none {ps : List BS} {i : Nat} {l : List Int} {p : BS} (h : readInts (ps.take i) = some l) (hp : ps[i]? = some p) (hn : readInt p = none) : readInts ps = none := by
  have hd : ps = ps.take i ++ p :: ps.drop (i + 1) := by
    rw [← drop_at hp, List.take_append_drop]
  have := readInts_app (ps.take i) (b := p :: ps.drop (i + 1)) h
  rw [hd, this]
  simp [readInts, hn]
theorem readInts_len : ∀ {ps : List BS} {l : List Int}, readInts ps = some l → l.length = ps.length
  | [], l, h => by cases h; rfl
  | w :: a, l, h => by
    change (match readInt w with | none => none | some n => (readInts a).map fun l => n :: l) = some l at h
    cases hw : readInt w with
    | none => rw [hw] at h; cases h
    | some n =>
      rw [hw] at h
      obtain ⟨l', h1, rfl⟩ := Option.map_eq_some_iff.1 h
      simp [readInts_len h1]
theorem readInts_in : ∀ {ps : List BS} {l : List Int}, readInts ps = some l → ∀ n ∈ l, In64 n
  | [], l, h => by cases h; simp
  | w :: a, l, h => by
    change (match readInt w with | none => none | some n => (readInts a).map fun l => n :: l) = some l at h
    cases hw : readInt w with
    | none => rw [hw] at h; cases h
    | some n =>
      rw [hw] at h
      obtain ⟨l', h1, rfl⟩ := Option.map_eq_some_iff.1 h
      intro x hx
      rcases List.mem_cons.1 hx with rfl | hx
      · exact (readInt_some hw).1
      · exact readInts_in h1 x hx
theorem Tryz.sts23 : SliceTy Tryz.prog 23 3 (.int .i64 0) 1 8 := ⟨Tryz.underlying23, by kernel_rfl, by kernel_rfl, by decide⟩
theorem src_int {w : World} (n : Int) : SrcOf (w.alloc (.cells #[.int .i64 n] 3)) (.slice (some ⟨w.heap.size, 0, none⟩) 1 1) 1 1 [.int .i64 n] := by
  have hb : Blk (w.alloc (.cells #[.int .i64 n] 3)) w.heap.size 3 [.int .i64 n] := Blk.new' _ _ _ _ rfl
  refine ⟨_, _, rfl, rfl, fun _ => ⟨_, rfl, fun j u hu => ?_⟩⟩
  rw [add_none, Nat.zero_add]
  exact (hb.cell j).trans hu
theorem all_ok {B : Nat} {ps : List BS} {l : List Int} {w w' : World} {e : Ending} {v : Value} (hk : Keep [] w w') (hr : readInts ps = some l) (he : e = .returned (.tuple #[v, .bool true])) (ho : OwnsAt w' B 3 1 v l.length (l.map (.int .i64))) : AllPost B (readInts ps) w e w' := by
  refine ⟨hk, ?_⟩
  rw [hr]
  exact ⟨v, he, ho⟩
theorem all_no {B : Nat} {ps : List BS} {w w' : World} {e : Ending} (hk : Keep [] w w') (hr : readInts ps = none) (he : e = .returned (.tuple #[.slice none 0 0, .bool false])) : AllPost B (readInts ps) w e w' := by
  refine ⟨hk, ?_⟩
  rw [hr]
  exact he
set_option maxHeartbeats 3200000 in
set_option maxRecDepth 100000 in
theorem all_spec {w : World} (hE : Env1 w) {v : Value} {ps : List BS} (hv : StrsAt w v ps) (hs : ∀ p ∈ ps, p.length ≤ 1000000) (hl : ps.length ≤ 1000000) : Calls Tryz.prog 65 #[v] w (AllPost w.heap.size (readInts ps) w) := by
  have HV := Lib.hid hv
  have HE := Lib.hid hE
  have HS := Lib.hid hs
  have hlI : (ps.length : Int) ≤ 1000000 := by omega
  obtain ⟨a, c, rfl, _⟩ := hv
  clear hE hs hl
  go_enter Tryz.func65, Tryz.ntmps65
  go_wp2_with fail
  go_loopw [4, 6, 7, 8, 11, 15] (fun vo _ _ _ vi _ wr => ∃ (i : Nat) (l : List Int), i ≤ ps.length ∧ vi = .int .i64 i ∧ readInts (ps.take i) = some l ∧ OwnsAt wr w.heap.size 3 1 vo l.length (l.map (.int .i64)) ∧ Keep [] w wr) (fun _ _ _ _ vi _ _ => ps.length - (intOf vi).toNat)
  case atStart => exact ⟨0, [], Nat.zero_le _, rfl, rfl, OwnsAt.nil _ _ _ _, Keep.refl _ _⟩
  case round =>
    obtain ⟨i, l, hi, rfl, hr, ho, hk⟩ := hrel
    obtain ⟨ao, co, rfl⟩ := ho.shape
    by_cases hlt : i < ps.length
    · obtain ⟨p, hp⟩ : ∃ p, ps[i]? = some p := ⟨_, List.getElem?_eq_getElem hlt⟩
      obtain ⟨a', c', hva, hcells⟩ := HV.out.keep0 hk
      cases hva
      obtain ⟨b, off, rfl, hb, hc⟩ := hcells i p hp
      have hltI : (i : Int) < (ps.length : Int) := by omega
      have hiI : (i : Int) ≤ 1000000 := by omega
      have hll : l.length ≤ 1000000 := by have := readInts_len hr; rw [List.length_take] at this; omega
      have G := Lib.hid (And.intro hr (And.intro ho (And.intro hk (And.intro hp (And.intro hi hll)))))
      clear hr ho hk hp hi hcells hb hll
      go_wp2_with fail
      refine (number_spec (HE.out.keep G.out.2.2.1) p (HS.out p (List.mem_of_getElem? G.out.2.2.2.1))).mono ?_
      rintro e w2 ⟨hk2, hm⟩
      cases hn : readInt p with
      | none =>
        rw [hn] at hm
        obtain ⟨m, rfl⟩ := hm
        have Hno := Lib.hid (And.intro (readInts_none G.out.1 G.out.2.2.2.1 hn) (G.out.2.2.1.trans hk2 (by simp)))
        clear hn hk2 hc
        go_wp2
        go_ret2
        exact all_no Hno.out.2 Hno.out.1 rfl
      | some n =>
        rw [hn] at hm
        obtain rfl := hm
        have Hyes := Lib.hid (And.intro (readInts_some G.out.1 G.out.2.2.2.1 hn) (And.intro (G.out.2.2.1.trans hk2 (by simp)) hk2))
        clear hn hk2 hc
        have Ho6 := Lib.hid (G.out.2.1.keep (Hyes.out.2.2.alloc (.cells #[.int .i64 n] 3)) (by simp))
        have Hz : Hid (w.heap.size ≤ (w2.alloc (.cells #[.int .i64 n] 3)).heap.size) := Lib.hid (Hyes.out.2.1.alloc _).size
        have Hll := Lib.hid G.out.2.2.2.2.2
        go_wp2_with (at_builtin; refine wpList_append_off rfl _ _ rfl Tryz.sts23 w.heap.size (.slice ao l.length co) l.length _ rfl Ho6.out _ 1 [.int .i64 n] rfl (src_int _) (by simp [Value.oneCell']) (by have := Hll.out; unfold maxLen; omega) (by have := Hll.out; omega) Hz.out ?_)
        intro v7 w7 ho7 hk7 hb7
        have Ho7 := Lib.hid ho7
        have Hk7 := Lib.hid (show Keep [] w w7 from (Hyes.out.2.1.alloc _).trans hk7 (fun x hx => Or.inr (Ho6.out.lt x (mem_own'.1 hx)).1))
        clear ho7 hk7 hb7 Ho6 Hz
        go_wp2
        go_roundw
        case rel => exact ⟨i + 1, l ++ [n], by omega, by go_num, Hyes.out.1, by have := Ho7.out; rw [List.length_append, List.map_append]; simpa using this, Hk7.out⟩
        case measure => simp [intOf]; omega
    · obtain rfl : i = ps.length := by omega
      rw [List.take_length] at hr
      have G := Lib.hid (And.intro hr (And.intro ho hk))
      clear hr ho hk
      go_wp2
      go_ret2
      exact all_ok G.out.2.2 G.out.1 rfl G.out.2.1
/-- words behind a head -/
def WordsPost (ps : List BS) (b : Bool) (w : World) (e : Ending) (w' : World) : Prop := e = .returned (.tuple #[.slice (some ⟨w.heap.size, 0, none⟩) ps.length ps.length, .bool b]) ∧ Blk w' w.heap.size 9 (ps.map fun p => .string (strB p)) ∧ Keep [] w w' ∧ w'.heap.size = w.heap.size + 1
theorem words_spec {w : World} (hE : Env w) (bs hd : BS) (hl : bs.length ≤ 1000000) : Calls Tryz.prog 64 #[.string (strB bs), .string (strB hd)] w (WordsPost (pieces 32 (Lib.trimPrefix bs hd)) (Lib.hasPrefix bs hd) w) := by
  have HE := Lib.hid hE
  have hc := Tryz.strings_CutPrefix (strB bs) (strB hd) w
  rw [strB_data, strB_data] at hc
  have ht : (Lib.trimPrefix bs hd).length ≤ 1000000 := by
    unfold Lib.trimPrefix
    split
    · rw [List.length_drop]; omega
    · exact hl
  have hs := split_spec hE (strB (Lib.trimPrefix bs hd)) (by rw [strB_size]; omega)
  rw [strB_data] at hs
  have HC := Lib.hid hc
  have HS := Lib.hid hs
  change Hid (Calls Tryz.prog 78 #[.string (strB bs), .string (strB hd)] w fun e w' => e = .returned (.tuple #[.string (strB (Lib.trimPrefix bs hd)), .bool (Lib.hasPrefix bs hd)]) ∧ w' = w) at HC
  clear hE hc hs hl ht
  generalize Lib.trimPrefix bs hd = r at *
  generalize Lib.hasPrefix bs hd = b at *
  go_enter Tryz.func64, Tryz.ntmps64
  go_wp2_with fail
  refine HC.out.mono ?_
  rintro e w1 ⟨rfl, rfl⟩
  go_wp2_with fail
  refine HS.out.mono ?_
  rintro e w2 ⟨rfl, h2, h3, h4⟩
  have G := Lib.hid (And.intro h2 (And.intro h3 h4))
  clear h2 h3 h4
  go_wp2
  go_ret2
  exact ⟨rfl, G.out.1, G.out.2.1, G.out.2.2⟩
end Go.Proofs.YtbdkmfcgnolihaaGreatDoor
