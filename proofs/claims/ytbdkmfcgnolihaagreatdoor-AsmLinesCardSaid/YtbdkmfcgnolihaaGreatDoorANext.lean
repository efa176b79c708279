/- asm: the next line. -/
import Derived.Test.YtbdkmfcgnolihaaGreatDoorRows
import Derived.WalkKit
import Derived.WalkSpells
import Derived.WalkLawsBesides
import Derived.RegionTactic
import Derived.ChangeAlike
import Derived.BigQuiet
import Derived.Deep.QuietTactic
import Derived.StillTailTactics
import Derived.IntWalk
import Derived.Handy
import Derived.Lib.Hide
import Derived.Deep.AppendLies
import Derived.Deep.RegionWith
import Derived.Test.YtbdkmfcgnolihaaGreatDoorBase
import Derived.Test.YtbdkmfcgnolihaaGreatDoorTail
import Derived.Test.YtbdkmfcgnolihaaGreatDoorArgs
import Derived.Test.YtbdkmfcgnolihaaGreatDoorAppend
import Derived.Test.YtbdkmfcgnolihaaGreatDoorOffs
import Derived.Test.YtbdkmfcgnolihaaGreatDoorStructs
import Derived.Carry
import Derived.Deep.RegionHeld3
import Derived.BigRegion
import Derived.Maps.OwnSet
import Derived.Maps.Views
import Derived.Maps.StringElems
import Derived.Test.YtbdkmfcgnolihaaGreatDoorMaps2
import Derived.Deep.CutRange
import Derived.Deep.CutBlock
import Derived.Test.YtbdkmfcgnolihaaGreatDoorAInsR
import Derived.Test.YtbdkmfcgnolihaaGreatDoorABel
namespace Go.Proofs.YtbdkmfcgnolihaaGreatDoor
set_option linter.unusedSimpArgs false
set_option linter.unnecessarySimpa false
set_option linter.unusedVariables false
open Go.RowKit
theorem index_none {c : UInt8} : ∀ {l : BS}, (∀ b ∈ l, b ≠ c) → Lib.index l [c] = -1
  | [], _ => index_nil c
  | b :: l, h => by rw [index_cons_ne (h b (by simp)), index_none (fun x hx => h x (by simp [hx]))]; rfl
theorem index_at {c : UInt8} (r : BS) : ∀ {l : BS}, (∀ b ∈ l, b ≠ c) → Lib.index (l ++ c :: r) [c] = l.length
  | [], _ => by rw [List.nil_append, index_cons_eq]; rfl
  | b :: l, h => by
    rw [List.cons_append, index_cons_ne (h b (by simp)), index_at r (fun x hx => h x (by simp [hx]))]
    have : ((l.length : Int) == -1) = false := by simp
    rw [this]
    simp
theorem cut_none {c : UInt8} {l : BS} (h : ∀ b ∈ l, b ≠ c) : Lib.cut l [c] = (l, [], false) := by
  unfold Lib.cut
  rw [index_none h, if_neg (by decide)]
theorem cut_at {c : UInt8} {l : BS} (r : BS) (h : ∀ b ∈ l, b ≠ c) : Lib.cut (l ++ c :: r) [c] = (l, r, true) := by
  unfold Lib.cut
  rw [index_at r h, if_pos (by omega)]
  simp
theorem cut_one {w : World} (hE : Env w) {rem p : BS} (h : pieces 10 rem = [p]) (hl : rem.length ≤ 131072) : Calls Tryz.prog 63 #[.string (strB rem), .string ⟨#[10]⟩] w fun e w' => e = .returned (.tuple #[.string (strB rem), .string (strB []), .bool false]) ∧ Keep [] w w' := by
  obtain ⟨m, hm⟩ := hE.max
  have hg := glue_pieces 10 rem
  have hp := pieces_all 10 rem p (by rw [h]; simp)
  rw [h, glue_cons, List.flatMap_nil, List.append_nil] at hg
  have hc := cut_none (c := 10) (l := rem) (by rw [← hg]; exact fun b hb => (hp b hb).1)
  refine (Tryz.strings_Cut (strB rem) ⟨#[10]⟩ m w (by rw [strB_size]; omega) hm).mono ?_
  rintro e w' ⟨he, n, rfl⟩
  rw [strB_data] at he
  change e = .returned (.tuple #[.string ⟨(Lib.cut rem [10]).1.toArray⟩, .string ⟨(Lib.cut rem [10]).2.1.toArray⟩, .bool (Lib.cut rem [10]).2.2]) at he
  rw [hc] at he
  exact ⟨he, (Keep.refl _ _).drewN n⟩
theorem cut_more {w : World} (hE : Env w) {rem p q : BS} {qs : List BS} (h : pieces 10 rem = p :: q :: qs) (hl : rem.length ≤ 131072) : Calls Tryz.prog 63 #[.string (strB rem), .string ⟨#[10]⟩] w fun e w' => e = .returned (.tuple #[.string (strB p), .string (strB (glue 10 (q :: qs))), .bool true]) ∧ Keep [] w w' := by
  obtain ⟨m, hm⟩ := hE.max
  have hg := glue_pieces 10 rem
  have hp := pieces_all 10 rem p (by rw [h]; simp)
  rw [h, glue_cons, List.flatMap_cons, List.cons_append, ← glue_cons] at hg
  have hc := cut_at (c := 10) (l := p) (glue 10 (q :: qs)) (fun b hb => (hp b hb).1)
  rw [hg] at hc
  refine (Tryz.strings_Cut (strB rem) ⟨#[10]⟩ m w (by rw [strB_size]; omega) hm).mono ?_
  rintro e w' ⟨he, n, rfl⟩
  rw [strB_data] at he
  change e = .returned (.tuple #[.string ⟨(Lib.cut rem [10]).1.toArray⟩, .string ⟨(Lib.cut rem [10]).2.1.toArray⟩, .bool (Lib.cut rem [10]).2.2]) at he
  rw [hc] at he
  exact ⟨he, (Keep.refl _ _).drewN n⟩
theorem pieces_rest {s p q : BS} {qs : List BS} (h : pieces 10 s = p :: q :: qs) : pieces 10 (glue 10 (q :: qs)) = q :: qs ∧ (glue 10 (q :: qs)).length + p.length + 1 = s.length := by
  refine ⟨pieces_glue (fun x hx b hb => (pieces_all 10 s x (by rw [h]; simp at hx ⊢; exact Or.inr hx) b hb).1), ?_⟩
  have hg := congrArg List.length (glue_pieces 10 s)
  rw [h, glue_cons, List.flatMap_cons, List.cons_append, ← glue_cons, List.length_append, List.length_cons] at hg
  omega
/-- the rest's cell in the reader's block -/
def NextPost (B R : Nat) (n : Int) (ls : List BS) (r : AR) (fv av wv : Value) (ps : List (FN × Value)) (rest : BS) (w : World) (e : Ending) (w' : World) : Prop := match ls with
  | p :: q :: qs => e = .returned (.tuple #[.string (strB p), .bool true]) ∧ Below R w w' ∧ RdAt B R (glue 10 (q :: qs)) n 0 r fv av wv ps w'
  | _ => ∃ s, e = .returned (.tuple #[.string s, .bool false]) ∧ Keep [] w w'
set_option maxHeartbeats 1600000 in
theorem next_spec {B R : Nat} {n : Int} {rest : BS} {r : AR} {fv av wv : Value} {qs : List (FN × Value)} {w : World} (hE : Env1 w) (H : RdAt B R rest n 0 r fv av wv qs w) (hl : rest.length ≤ 131072) :
    Calls Tryz.prog 43 #[.pointer (some ⟨R, 0, none⟩)] w (NextPost B R n (pieces 10 rest) r fv av wv qs rest w) := by
  have z0 : w.cell? ⟨R, 0, none⟩ = some (.string (strB rest)) := H.blk.cell 0
  have HA := Lib.hid (And.intro H (Nat.le_trans (Nat.le_of_lt H.lt) H.base))
  match hp : pieces 10 rest with
  | [] => exact absurd hp (pieces_ne 10 rest)
  | [p] =>
    have hc := Lib.hid (cut_one hE.env hp hl)
    clear hE H hl hp
    go_enter Tryz.func43, Tryz.ntmps43
    go_wp2_with fail
    refine hc.out.mono ?_
    rintro e w1 ⟨rfl, hk⟩
    go_wp2
    go_ret2
    exact ⟨_, rfl, hk⟩
  | p :: q :: ps =>
    have hc := Lib.hid (cut_more hE.env hp hl)
    clear hE H hl hp
    go_enter Tryz.func43, Tryz.ntmps43
    go_wp2_with fail
    refine hc.out.mono ?_
    rintro e w1 ⟨rfl, hk⟩
    have HK := Lib.hid hk
    have hb := (HA.out.1.keep0 hk).blk
    have z1 : w1.cell? ⟨R, 0, none⟩ = some (.string (strB rest)) := hb.cell 0
    have zf : ∀ i, w1.frozen? ⟨R, i, none⟩ = false := fun i => hb.frozen i
    clear hb hk z0
    go_wp2
    go_ret2
    have k : Keep [R] w1 (w1.setCell ⟨R, 0, none⟩ (.string (strB (glue 10 (q :: ps))))) := (Keep.refl _ _).setCell (by simp) _
    exact ⟨rfl, below_on HA.out.1 HK.out k, (HA.out.1.keep0 HK.out).cells k ((HA.out.1.keep0 HK.out).blk.set_ 0 _) rfl rfl rfl⟩
def LnsPost (B R : Nat) (res : Except Nat AR) (w : World) (e : Ending) (w' : World) : Prop := Below R w w' ∧ match res with
  | .error l => e = .returned (.bool false) ∧ w'.cell? ⟨R, 1, none⟩ = some (.int .i64 (l : Nat))
  | .ok r' => e = .returned (.bool true) ∧ ARok r' ∧ r'.wants.length ≤ 131073 ∧ ∃ (rest : BS) (n : Nat) (fv av wv : Value) (ps : List (FN × Value)), RdAt B R rest n 0 r' fv av wv ps w'
/-- at the head of each round -/
def LinesAt (B R : Nat) (res : Except Nat AR) (L : Nat) (w0 w : World) : Prop := ∃ (n : Nat) (rest : BS) (r : AR) (fv av wv : Value) (ps : List (FN × Value)), RdAt B R rest n 0 r fv av wv ps w ∧ Below R w0 w ∧ ARok r ∧ 1 ≤ n ∧ r.wants.length + 1 ≤ n ∧ rest.length + n ≤ L + 1 ∧ runR n (pieces 10 rest) r = res
def restLen (R : Nat) (w : World) : Nat := match w.cell? ⟨R, 0, none⟩ with
  | some (.string b) => b.size
  | _ => 0
theorem restLen_at {B R : Nat} {rest : BS} {n m : Int} {r : AR} {fv av wv : Value} {ps : List (FN × Value)} {w : World} (h : RdAt B R rest n m r fv av wv ps w) : restLen R w = rest.length := by
  have : w.cell? ⟨R, 0, none⟩ = some (.string (strB rest)) := h.blk.cell 0
  unfold restLen
  rw [this]
  exact strB_size rest
def EnvR (R : Nat) (w : World) : Prop := ∃ w0, Env1 w0 ∧ w0.heap.size ≤ R ∧ Below w0.heap.size w0 w
theorem EnvR.env {R : Nat} {w : World} (h : EnvR R w) : Env1 w := by
  obtain ⟨w0, h1, _, h3⟩ := h
  exact h1.keep (keep_of_below h3)
theorem below_mono {A B : Nat} {w w' : World} (h : Below B w w') (hA : A ≤ B) : Below A w w' := ⟨h.os, h.tape, h.output, h.size, fun k hk => h.block k (Nat.lt_of_lt_of_le hk hA)⟩
theorem EnvR.below {R : Nat} {w w' : World} (h : EnvR R w) (hb : Below R w w') : EnvR R w' := by
  obtain ⟨w0, h1, h2, h3⟩ := h
  exact ⟨w0, h1, h2, below_tr h3 (below_mono hb h2)⟩
end Go.Proofs.YtbdkmfcgnolihaaGreatDoor
