/- asm: numbers' texts, a line of a text. -/
import Derived.Test.YtbdkmfcgnolihaaGreatDoorRows
import Derived.WalkKit
import Derived.WalkSpells
import Derived.WalkLawsBesides
import Derived.RegionTactic
import Derived.ChangeAlike
import Derived.BigQuiet
import Derived.Deep.QuietTactic
import Derived.StillTailTactics
import Derived.IntWalk
import Derived.Handy
import Derived.Lib.Hide
import Derived.Deep.AppendLies
import Derived.Deep.RegionWith
import Derived.Test.YtbdkmfcgnolihaaGreatDoorBase
import Derived.Test.YtbdkmfcgnolihaaGreatDoorTail
import Derived.Test.YtbdkmfcgnolihaaGreatDoorArgs
import Derived.Test.YtbdkmfcgnolihaaGreatDoorAppend
import Derived.Test.YtbdkmfcgnolihaaGreatDoorOffs
import Derived.Test.YtbdkmfcgnolihaaGreatDoorStructs
import Derived.Carry
import Derived.Deep.RegionHeld3
import Derived.BigRegion
import Derived.Maps.OwnSet
import Derived.Maps.Views
import Derived.Maps.StringElems
import Derived.Test.YtbdkmfcgnolihaaGreatDoorMaps2
import Derived.Deep.CutRange
import Derived.Deep.CutBlock
import Derived.Test.YtbdkmfcgnolihaaGreatDoorAFind
import Derived.Test.YtbdkmfcgnolihaaGreatDoorABel
namespace Go.Proofs.YtbdkmfcgnolihaaGreatDoor
set_option linter.unusedSimpArgs false
set_option linter.unnecessarySimpa false
set_option linter.unusedVariables false
open Go.RowKit
theorem join_glue (c : UInt8) (p : BS) (ps : List BS) : Lib.join (p :: ps) [c] = glue c (p :: ps) := by
  rw [Lib.join_cons, glue_cons]
  unfold Lib.joinTail
  rw [List.flatMap_def]
  rfl
theorem ownsRowF_keep {w w' : World} {B : Nat} {e : TypeId} {size n : Nat} {v : Value} {xs : List Value} (h : w.ownsRowF B e size v n xs) (hk : Keep [] w w') : w'.ownsRowF B e size v n xs :=
  h.kept (row := some w.heap.size) ⟨hk.os, hk.tape, hk.output, hk.size, fun k hk1 _ => hk.block k hk1 (by simp)⟩ (by
    rcases hv : v.ownBlock with _ | g
    · exact Or.inl rfl
    · refine Or.inr fun e => ?_
      cases e
      have := (h.lt _ hv).2
      omega)
theorem IsBuilder.keep0 {B b : Nat} {bs : List Value} {w w' : World} (h : Lib.IsBuilderF 57 5 B b bs w) (k : Keep [] w w') : Lib.IsBuilderF 57 5 B b bs w' := by
  have key : ∀ p, Lib.BuilderAtF 57 5 B b p bs w → Lib.BuilderAtF 57 5 B b p bs w' := by
    rintro p ⟨hB, v, hb, ho, hn⟩
    have hlt : b < w.heap.size := by
      rcases Nat.lt_or_ge b w.heap.size with h1 | h1
      · exact h1
      · rw [Array.getElem?_eq_none h1] at hb; cases hb
    exact ⟨hB, v, (k.block b hlt (by simp)).trans hb, ownsRowF_keep ho k, hn⟩
  rcases h with h | h
  · exact Or.inl (key _ h)
  · exact Or.inr (key _ h)
theorem others0 {w w' : World} {b : Nat} (k : Keep [] w w') : Lib.OthersKept 5 (some b) w w' := fun i o hi _ _ => by
  have hlt : i < w.heap.size := by
    rcases Nat.lt_or_ge i w.heap.size with h1 | h1
    · exact h1
    · rw [Array.getElem?_eq_none h1] at hi; cases hi
  exact (k.block i hlt (by simp)).trans hi
theorem blk_others {w w' : World} {g b : Nat} {t : TypeId} {cs : List Value} (h : Blk w g t cs) (k : Lib.OthersKept 5 (some b) w w') (hb : g ≠ b) (ht : t ≠ 5) : Blk w' g t cs :=
  k g _ h (fun e => hb (Option.some.inj e)) (fun c fz e => by injection e with _ e; exact ht e)
theorem keep_on {w w2 w3 : World} (k : Keep [] w w2) (hb : Below w.heap.size w2 w3) : Keep [] w w3 :=
  ⟨hb.os.trans k.os, hb.tape.trans k.tape, hb.output.trans k.output, Nat.le_trans k.size hb.size, fun x hx _ => (hb.block x hx).trans (k.block x hx (by simp))⟩
theorem strB_snoc (a : BS) : strB a ++ (⟨#[10]⟩ : ByteArray) = strB (a ++ [10]) := by
  apply ByteArray.ext
  rw [ByteArray.data_append]
  simp [strB]
theorem byteCells_app (a b : BS) : Lib.byteCells (a ++ b) = Lib.byteCells a ++ Lib.byteCells b := by simp [Lib.byteCells]
theorem strCells_strB (a : BS) : Lib.strCells (strB a) = Lib.byteCells a := by simp [Lib.strCells, Lib.byteCells, strB]
theorem src_str1 {w : World} (s : ByteArray) : SrcOf (w.alloc (.cells #[.string s] 9)) (.slice (some ⟨w.heap.size, 0, none⟩) 1 1) 1 1 [.string s] := src_lit w #[.string s] [.string s] 9 1 1 rfl rfl
set_option maxHeartbeats 3200000 in
set_option maxRecDepth 100000 in
theorem numbers_spec {w : World} (hE : Env w) {v : Value} {l : List Int} (hv : IntsOf w v l) (hin : ∀ n ∈ l, In64 n) (hl : l.length ≤ 1000000) : Calls Tryz.prog 26 #[v] w fun e w' => Keep [] w w' ∧ ∃ sv, e = .returned sv ∧ OwnsAt w' w.heap.size 9 1 sv l.length (l.map fun n => .string (itoaB n)) := by
  have HV := Lib.hid hv
  have HE := Lib.hid hE
  have HS := Lib.hid hin
  have hlI : (l.length : Int) ≤ 1000000 := by omega
  obtain ⟨a, c, rfl⟩ := hv.shape
  clear hE hin hv
  go_enter Tryz.func26, Tryz.ntmps26
  go_wp2_with fail
  go_loopw [3, 5, 8] (fun vo _ vi wr => ∃ i : Nat, i ≤ l.length ∧ vi = .int .i64 i ∧ OwnsAt wr w.heap.size 9 1 vo i ((l.take i).map fun n => .string (itoaB n)) ∧ Keep [] w wr) (fun _ _ vi _ => l.length - (intOf vi).toNat)
  case atStart => exact ⟨0, Nat.zero_le _, rfl, OwnsAt.nil _ _ _ _, Keep.refl _ _⟩
  case round =>
    obtain ⟨i, hi, rfl, ho, hk⟩ := hrel
    obtain ⟨ao, co, rfl⟩ := ho.shape
    by_cases hlt : i < l.length
    · obtain ⟨p, hp⟩ := get_ex hlt
      obtain ⟨b, off, rfl, hb, hcs⟩ := (HV.out.keep0 hk).at_ hlt
      have hc := hcs i p hp
      clear hcs
      have hltI : (i : Int) < (l.length : Int) := by omega
      have hiI : (i : Int) ≤ 1000000 := by omega
      have hil : i ≤ 1000000 := by omega
      have ht : l.take (i + 1) = l.take i ++ [p] := by rw [List.take_add_one, hp]; rfl
      have G := Lib.hid (And.intro ho (And.intro hk (And.intro (HS.out p (List.mem_of_getElem? hp)) ht)))
      clear ho hk hp hi hb ht
      go_wp2_with fail
      refine (itoa_spec (HE.out.keep G.out.2.1) G.out.2.2.1).mono ?_
      rintro e w2 ⟨rfl, hk2⟩
      have HK2 := Lib.hid (And.intro (G.out.2.1.trans hk2 (by simp)) hk2)
      clear hk2 hc
      have Ho6 := Lib.hid (G.out.1.keep (HK2.out.2.alloc (.cells #[.string (itoaB p)] 9)) (by simp))
      have Hz : Hid (w.heap.size ≤ (w2.alloc (.cells #[.string (itoaB p)] 9)).heap.size) := Lib.hid (HK2.out.1.alloc _).size
      go_wp2_with (at_builtin; refine wpList_append_off rfl _ _ rfl Tryz.sts40 w.heap.size (.slice ao i co) i _ rfl Ho6.out _ 1 [.string (itoaB p)] rfl (src_str1 _) (by simp [Value.oneCell']) (by unfold maxLen; omega) (by omega) Hz.out ?_)
      intro v7 w7 ho7 hk7 hb7
      have Ho7 := Lib.hid ho7
      have Hk7 := Lib.hid (show Keep [] w w7 from (HK2.out.1.alloc _).trans hk7 (fun x hx => Or.inr (Ho6.out.lt x (mem_own'.1 hx)).1))
      clear ho7 hk7 hb7 Ho6 Hz
      go_wp2
      go_roundw
      case rel => exact ⟨i + 1, by omega, by go_num, by have := Ho7.out; rw [G.out.2.2.2, List.map_append]; simpa using this, Hk7.out⟩
      case measure => simp [intOf]; omega
    · obtain rfl : i = l.length := by omega
      rw [List.take_length] at ho
      have G := Lib.hid (And.intro ho hk)
      clear ho hk
      go_wp2
      go_ret
      exact ⟨G.out.2, _, rfl, G.out.1⟩
/-- a slice of strings that reads as these, with room for them -/
def StrsC (w : World) (v : Value) (ps : List BS) : Prop := ∃ a c, v = .slice a ps.length c ∧ (ps ≠ [] → ∃ b off, a = some ⟨b, off, none⟩ ∧ b < w.heap.size ∧ ps.length ≤ c ∧ ∀ (i : Nat) (p : BS), ps[i]? = some p → w.cell? ⟨b, off + i, none⟩ = some (.string (strB p)))
theorem StrsC.of_own {w : World} {B : Nat} {v : Value} {ps : List BS} (h : OwnsAt w B 9 1 v ps.length (ps.map fun p => .string (strB p))) : StrsC w v ps := by
  obtain ⟨a, c, rfl⟩ := h.shape
  refine ⟨a, c, rfl, fun hne => ?_⟩
  obtain ⟨g, off, cap, hv, h1, h2, h3, h4, h5⟩ := h.form (List.length_pos_iff.2 hne)
  injection hv with e1 e2 e3
  subst e3
  exact ⟨g, off, e1, h4, h1, fun i p hp => h5 i _ (by rw [List.getElem?_map, hp]; rfl)⟩
theorem StrsC.keep0 {w w' : World} {v : Value} {ps : List BS} (h : StrsC w v ps) (k : Keep [] w w') : StrsC w' v ps := by
  obtain ⟨a, c, rfl, h⟩ := h
  refine ⟨a, c, rfl, fun hne => ?_⟩
  obtain ⟨b, off, rfl, hb, hc, hcell⟩ := h hne
  exact ⟨b, off, rfl, Nat.lt_of_lt_of_le hb k.size, hc, fun i p hp => cell_keep0 k (hcell i p hp)⟩
theorem StrsC.nil (w : World) : StrsC w (.slice none 0 0) [] := ⟨_, _, rfl, fun h => absurd rfl h⟩
theorem join_spec {w : World} {v : Value} {ps : List BS} (h : StrsC w v ps) (hl : ps.length ≤ 1000000) (hlen : (glue 32 ps).length ≤ 1000000000) : Calls Tryz.prog 38 #[v, .string ⟨#[32]⟩] w fun e w' => e = .returned (.string (strB (glue 32 ps))) ∧ Keep [] w w' := by
  obtain ⟨a, c, rfl, h⟩ := h
  cases ps with
  | nil => exact (Tryz.strings_Join_none a c ⟨#[32]⟩ w).mono fun e w' ⟨h1, h2⟩ => ⟨h1, by rw [h2]; exact Keep.refl _ _⟩
  | cons p ps =>
    obtain ⟨b, off, rfl, hb, hc, hcell⟩ := h (by simp)
    have hm : ((p :: ps).map strB).map (·.data.toList) = p :: ps := by rw [List.map_map]; simp [strB_data, Function.comp_def]
    have hg : Lib.join (((p :: ps).map strB).map (·.data.toList)) (⟨#[32]⟩ : ByteArray).data.toList = glue 32 (p :: ps) := by rw [hm]; exact join_glue 32 p ps
    have hlm : ((p :: ps).map strB).length = (p :: ps).length := List.length_map _
    have hj := Tryz.strings_Join b off c ((p :: ps).map strB) ⟨#[32]⟩ w (fun j x hx => by
      rw [List.getElem?_map] at hx
      obtain ⟨q, hq, rfl⟩ := Option.map_eq_some_iff.1 hx
      exact hcell j q hq) hb (by rw [hlm]; omega) (by rw [hlm]; exact hc) (by rw [hg]; omega)
    rw [hg, hlm] at hj
    exact hj.mono fun e w' ⟨h1, h2⟩ => ⟨h1, keep_of_below h2⟩
set_option maxHeartbeats 1600000 in
theorem line_spec {B b : Nat} {bs h : BS} {v : Value} {ps : List BS} {w : World} (hb : Lib.IsBuilderF 57 5 B b (Lib.byteCells bs) w) (hBw : B ≤ w.heap.size) (hv : StrsC w v ps) (hl : ps.length ≤ 1000000) (hh : h.length ≤ 100) (hlen : (glue 32 ps).length ≤ 1000000000) (hbl : bs.length ≤ 1000000000) :
    Calls Tryz.prog 25 #[.pointer (some ⟨b, 0, none⟩), .string (strB h), v] w fun e w' => e = .returned (.tuple #[]) ∧ Lib.IsBuilderF 57 5 B b (Lib.byteCells (bs ++ (h ++ glue 32 ps ++ [10]))) w' ∧ Below B w w' ∧ Lib.OthersKept 5 (some b) w w' := by
  have HJ := Lib.hid (join_spec hv hl hlen)
  have HB := Lib.hid (And.intro hb (And.intro hBw (And.intro hlen (And.intro hbl hh))))
  have e1 : (strB h).size ≤ 100 := by rw [strB_size]; exact hh
  have e2 : (strB (glue 32 ps)).size ≤ 1000000000 := by rw [strB_size]; exact hlen
  clear hb hBw hv hl hh hlen hbl
  go_enter Tryz.func25, Tryz.ntmps25
  go_wp2_with fail
  refine HJ.out.mono ?_
  rintro e w1 ⟨rfl, hk⟩
  have HK := Lib.hid hk
  clear hk HJ
  go_wp2_with fail
  rw [strB_app, strB_snoc]
  refine (Tryz.Builder_WriteString_k B b (Lib.byteCells bs) (strB (h ++ glue 32 ps ++ [10])) w1 (IsBuilder.keep0 HB.out.1 HK.out) ?_ (Nat.le_trans HB.out.2.1 HK.out.size)).mono ?_
  · obtain ⟨_, _, h3, h4, h5⟩ := HB.out
    rw [Lib.byteCells_length, strB_size]
    simp
    omega
  rintro e w3 ⟨rfl, hb3, hbl3, ho3⟩
  have H3 := Lib.hid (And.intro (show Lib.IsBuilderF 57 5 B b (Lib.byteCells (bs ++ (h ++ glue 32 ps ++ [10]))) w3 from by rw [strCells_strB, ← byteCells_app] at hb3; exact Or.inr hb3) (And.intro (below_tr (keep_below0 HK.out HB.out.2.1) hbl3) ((others0 HK.out).trans ho3)))
  clear hb3 hbl3 ho3
  go_wp2
  go_end0
  exact ⟨rfl, H3.out⟩
end Go.Proofs.YtbdkmfcgnolihaaGreatDoor
