/- asm: an instruction's line, a line behind the second one. -/
import Derived.Test.YtbdkmfcgnolihaaGreatDoorRows
import Derived.WalkKit
import Derived.WalkSpells
import Derived.WalkLawsBesides
import Derived.RegionTactic
import Derived.ChangeAlike
import Derived.BigQuiet
import Derived.Deep.QuietTactic
import Derived.StillTailTactics
import Derived.IntWalk
import Derived.Handy
import Derived.Lib.Hide
import Derived.Deep.AppendLies
import Derived.Deep.RegionWith
import Derived.Test.YtbdkmfcgnolihaaGreatDoorBase
import Derived.Test.YtbdkmfcgnolihaaGreatDoorTail
import Derived.Test.YtbdkmfcgnolihaaGreatDoorArgs
import Derived.Test.YtbdkmfcgnolihaaGreatDoorAppend
import Derived.Test.YtbdkmfcgnolihaaGreatDoorOffs
import Derived.Test.YtbdkmfcgnolihaaGreatDoorStructs
import Derived.Carry
import Derived.Deep.RegionHeld3
import Derived.BigRegion
import Derived.Maps.OwnSet
import Derived.Maps.Views
import Derived.Maps.StringElems
import Derived.Test.YtbdkmfcgnolihaaGreatDoorMaps2
import Derived.Deep.CutRange
import Derived.Deep.CutBlock
import Derived.Test.YtbdkmfcgnolihaaGreatDoorAIns2
import Derived.Test.YtbdkmfcgnolihaaGreatDoorAIns3
namespace Go.Proofs.YtbdkmfcgnolihaaGreatDoor
set_option linter.unusedSimpArgs false
set_option linter.unnecessarySimpa false
set_option linter.unusedVariables false
open Go.RowKit
def insO (n : Nat) (bs : BS) (r : AR) : Option AR := if Lib.hasPrefix bs [32, 32] then insR n (pieces 32 (Lib.trimPrefix bs [32, 32])) r else none
theorem line_yes {B R : Nat} {rest : BS} {no : Int} {res : Option AR} {r' : AR} {w w' : World} {e : Ending} (h : res = some r') (h2 : e = .returned (.bool true) ∧ Below R w w' ∧ ∃ fv av wv ps, RdAt B R rest no 0 r' fv av wv ps w') : LinePost B R rest no res w e w' := by subst h; exact h2
theorem line_no {B R : Nat} {rest : BS} {no : Int} {res : Option AR} {w w' : World} {e : Ending} (h : res = none) (h2 : e = .returned (.bool false) ∧ Keep [] w w') : LinePost B R rest no res w e w' := by subst h; exact h2
theorem insR_long {n : Nat} {ws : List BS} {r : AR} (h : r.funcs = [] ∨ 256 ≤ lastLen r.funcs) : insR n ws r = none := by unfold insR; rw [if_pos h]
theorem ins_spec {B R n : Nat} {rest : BS} {r : AR} {fv av wv : Value} {qs : List (FN × Value)} {w : World} (hE : Env1 w) (H : RdAt B R rest n 0 r fv av wv qs w) (hr : ARok r) (bs : BS) (hl : bs.length ≤ 900000) (hw1 : r.wants.length ≤ 1000000) :
    Calls Tryz.prog 68 #[.pointer (some ⟨R, 0, none⟩), .string (strB bs)] w (LinePost B R rest n (insO n bs r) w) := by
  unfold insO
  by_cases hp : Lib.hasPrefix bs [32, 32] = true
  · rw [if_pos hp]
    by_cases hq : qs = []
    · exact (ins_no1 hE H bs hl (Or.inr hq)).mono fun e w' h => line_no (insR_long (Or.inl (by rw [H.fs, hq]; rfl))) h
    have hqp := List.length_pos_iff.2 hq
    obtain ⟨k, hlast⟩ : ∃ k, qs.length = k + 1 := ⟨qs.length - 1, by omega⟩
    obtain ⟨⟨f, cv⟩, hk⟩ := get_ex (show k < qs.length by omega)
    have hf : r.funcs[r.funcs.length - 1]? = some f := by rw [H.fs, List.length_map, hlast, Nat.add_sub_cancel, List.getElem?_map, hk]; rfl
    have hll := lastLen_at hf
    have h256l : f.code.length ≤ 256 := hr.short f (List.mem_of_getElem? hf)
    have hne : r.funcs ≠ [] := by intro e; rw [e] at hf; cases hf
    have hlen : r.funcs.length - 1 = k := by rw [H.fs, List.length_map, hlast, Nat.add_sub_cancel]
    obtain ⟨a, ws, hps⟩ := List.exists_cons_of_ne_nil (pieces_ne 32 (Lib.trimPrefix bs [32, 32]))
    have no2 : (opOf a = none ∨ f.code.length = 256 ∨ hasN (opOr a) ≠ decide (ws.length + 1 = 2) ∨ 2 < ws.length + 1) → insR n (pieces 32 (Lib.trimPrefix bs [32, 32])) r = none → Calls Tryz.prog 68 #[.pointer (some ⟨R, 0, none⟩), .string (strB bs)] w (LinePost B R rest n (insR n (pieces 32 (Lib.trimPrefix bs [32, 32])) r) w) :=
      fun h1 h2 => (ins_no2 hE H hr hk hlast bs hl hp hps rfl h1).mono fun e w' h => line_no h2 h
    by_cases h256 : f.code.length = 256
    · exact no2 (Or.inr (Or.inl h256)) (insR_long (Or.inr (by rw [hll, h256]; exact Nat.le_refl _)))
    have hcond : ¬ (r.funcs = [] ∨ 256 ≤ lastLen r.funcs) := by rintro (h | h); exact hne h; rw [hll] at h; omega
    cases ho : opOf a with
    | none =>
      refine no2 (Or.inl ho) ?_
      rw [hps]
      unfold insR
      rw [if_neg hcond]
      match ws with
      | [] => simp [ho]
      | [b] => simp [ho]
      | b :: c :: ws => rfl
    | some op =>
      have hor : opOr a = op := (opOr_some ho).1
      match ws, hps, no2 with
      | [], hps, no2 =>
        by_cases hh : hasN op = true
        · refine no2 (Or.inr (Or.inr (Or.inl (by rw [hor, hh]; simp)))) ?_
          rw [hps]
          unfold insR
          rw [if_neg hcond]
          simp [ho, hh]
        · have hh' : hasN op = false := by simpa using hh
          refine (ins_plain hE H hr hk hlast bs hl hw1 hp hps ho h256 h256l hh').mono fun e w' h => line_yes ?_ h
          rw [hps]
          unfold insR
          rw [if_neg hcond]
          simp [ho, hh']
      | [b], hps, no2 =>
        by_cases hh : hasN op = true
        · by_cases h16 : op = 16
          · subst h16
            by_cases hn : nameL b = true
            · refine (ins_spawn hE H hr hk hlast bs hl hw1 hp hps ho h256 h256l hh hn).mono fun e w' h => line_yes ?_ h
              rw [hps]
              unfold insR
              rw [if_neg hcond]
              simp [ho, hh, hn, hlen, hll]
            · have hn' : nameL b = false := by simpa using hn
              refine (ins_spawn_no hE H hr hk hlast bs hl hw1 hp hps ho h256 h256l hh hn').mono fun e w' h => line_no ?_ h
              rw [hps]
              unfold insR
              rw [if_neg hcond]
              simp [ho, hh, hn']
          · cases hn : readInt b with
            | none =>
              refine (ins_num_no hE H hr hk hlast bs hl hw1 hp hps ho h256 h256l hh h16 hn).mono fun e w' h => line_no ?_ h
              rw [hps]
              unfold insR
              rw [if_neg hcond]
              simp [ho, hh, h16, hn]
            | some m =>
              refine (ins_num hE H hr hk hlast bs hl hw1 hp hps ho h256 h256l hh h16 hn).mono fun e w' h => line_yes ?_ h
              rw [hps]
              unfold insR
              rw [if_neg hcond]
              simp [ho, hh, h16, hn]
        · have hh' : hasN op = false := by simpa using hh
          refine no2 (Or.inr (Or.inr (Or.inl (by rw [hor, hh']; simp)))) ?_
          rw [hps]
          unfold insR
          rw [if_neg hcond]
          simp [ho, hh']
      | b :: c :: ws, hps, no2 =>
        refine no2 (Or.inr (Or.inr (Or.inr (by simp)))) ?_
        rw [hps]
        unfold insR
        rw [if_neg hcond]
  · rw [if_neg hp]
    exact (ins_no1 hE H bs hl (Or.inl (by simpa using hp))).mono fun e w' h => line_no rfl h
/-! ### a line behind the second one -/
def BodyPost (B R n : Nat) (rest bs : BS) (r : AR) (w : World) (e : Ending) (w' : World) : Prop :=
  if bs = wEnd then e = .returned (.tuple #[.bool true, .bool true]) ∧ Keep [] w w' else match lineR n bs r with
  | none => e = .returned (.tuple #[.bool false, .bool false]) ∧ Keep [] w w'
  | some r' => e = .returned (.tuple #[.bool false, .bool true]) ∧ Below R w w' ∧ ∃ fv av wv ps, RdAt B R rest n 0 r' fv av wv ps w'
theorem body_line {n : Nat} (hn : 3 ≤ n) {bs : BS} (r : AR) : lineR n bs r = if Lib.hasPrefix bs (wFunc ++ [32]) then funcR (pieces 32 bs) r else insO n bs r := by
  rw [lineR_ge hn]
  by_cases hf : Lib.hasPrefix bs (wFunc ++ [32]) = true
  · rw [if_pos hf, if_neg]
    obtain ⟨t, rfl⟩ := hasPrefix_iff.1 hf
    simp [wFunc]
  · rw [if_neg hf]
    unfold insO
    by_cases h2 : bs.take 2 = [32, 32]
    · have h3 := take2_iff.1 h2
      rw [if_pos h2, if_pos h3, trimPrefix_yes h3]
      rfl
    · rw [if_neg h2, if_neg (fun h => h2 (take2_iff.2 h)), func_no (by simpa using hf)]
theorem body_fin {B R n : Nat} {rest bs : BS} {r : AR} {w w' : World} {e : Ending} {res : Option AR} {b : Bool} (hne : bs ≠ wEnd) (hres : lineR n bs r = res) (h : LinePost B R rest n res w (.returned (.bool b)) w') (he : e = .returned (.tuple #[.bool false, .bool b])) : BodyPost B R n rest bs r w e w' := by
  unfold BodyPost
  rw [if_neg hne, hres]
  cases res with
  | none =>
    obtain ⟨h1, h2⟩ := h
    injection h1 with h1
    injection h1 with h1
    subst h1
    exact ⟨he, h2⟩
  | some r' =>
    obtain ⟨h1, h2⟩ := h
    injection h1 with h1
    injection h1 with h1
    subst h1
    exact ⟨he, h2⟩
theorem line_bool {B R : Nat} {rest : BS} {no : Int} {res : Option AR} {w w' : World} {e : Ending} (h : LinePost B R rest no res w e w') : ∃ b, e = .returned (.bool b) ∧ LinePost B R rest no res w (.returned (.bool b)) w' := by
  cases res with
  | none => obtain ⟨h1, h2⟩ := h; exact ⟨false, h1, rfl, h2⟩
  | some r' => obtain ⟨h1, h2⟩ := h; exact ⟨true, h1, rfl, h2⟩
set_option maxHeartbeats 1600000 in
theorem body_spec {B R n : Nat} (hn : 3 ≤ n) {rest : BS} {r : AR} {fv av wv : Value} {qs : List (FN × Value)} {w : World} (hE : Env1 w) (H : RdAt B R rest n 0 r fv av wv qs w) (hr : ARok r) (bs : BS) (hl : bs.length ≤ 900000) (hw1 : r.wants.length ≤ 1000000) :
    Calls Tryz.prog 46 #[.pointer (some ⟨R, 0, none⟩), .string (strB bs)] w (BodyPost B R n rest bs r w) := by
  by_cases he : bs = wEnd
  · have hq : ((strB bs).toList == [101, 110, 100]) = true := by rw [he, strB_toList]; rfl
    have HP := Lib.hid (show ∀ w', Keep [] w w' → BodyPost B R n rest bs r w (.returned (.tuple #[.bool true, .bool true])) w' from fun w' hk => by unfold BodyPost; rw [if_pos he]; exact ⟨rfl, hk⟩)
    clear he hE H hr hl hw1
    go_enter Tryz.func46, Tryz.ntmps46
    go_wp2
    go_ret2
    exact HP.out _ (Keep.refl _ _)
  · have hq : ((strB bs).toList == [101, 110, 100]) = false := by rw [strB_toList]; exact beq_eq_false_iff_ne.2 he
    have hpre := Tryz.strings_HasPrefix (strB bs) (strB (wFunc ++ [32])) w
    rw [strB_data, strB_data] at hpre
    have hline := body_line hn (bs := bs) r
    obtain ⟨bp, hbp⟩ : ∃ bp, bp = Lib.hasPrefix bs (wFunc ++ [32]) := ⟨_, rfl⟩
    rw [← hbp] at hpre hline
    have HPRE := Lib.hid (show Calls Tryz.prog 66 #[.string (strB bs), .string ⟨#[102, 117, 110, 99, 32]⟩] w fun e w' => e = .returned (.bool bp) ∧ w' = w from hpre)
    have HF := Lib.hid (function_spec hE H hr bs hl)
    have HI := Lib.hid (ins_spec hE H hr bs hl hw1)
    have HL := Lib.hid (And.intro he hline)
    clear hpre hbp hE H hr hl hw1 he hline
    go_enter Tryz.func46, Tryz.ntmps46
    go_wp2_with fail
    refine HPRE.out.mono ?_
    rintro e w1 ⟨rfl, rfl⟩
    cases bp with
    | true =>
      go_wp2_with fail
      refine HF.out.mono ?_
      intro e w2 h2
      obtain ⟨b, rfl, h3⟩ := line_bool h2
      have H3 := Lib.hid (body_fin HL.out.1 (by rw [HL.out.2]; rfl) h3 rfl)
      clear h2 h3
      go_wp2
      go_ret2
      exact H3.out
    | false =>
      go_wp2_with fail
      refine HI.out.mono ?_
      intro e w2 h2
      obtain ⟨b, rfl, h3⟩ := line_bool h2
      have H3 := Lib.hid (body_fin HL.out.1 (by rw [HL.out.2]; rfl) h3 rfl)
      clear h2 h3
      go_wp2
      go_ret2
      exact H3.out
end Go.Proofs.YtbdkmfcgnolihaaGreatDoor
