/- asm: lines as the program takes them apart; the reader at work. -/
import Derived.Test.YtbdkmfcgnolihaaGreatDoorRows
import Derived.WalkKit
import Derived.WalkSpells
import Derived.WalkLawsBesides
import Derived.RegionTactic
import Derived.ChangeAlike
import Derived.BigQuiet
import Derived.Deep.QuietTactic
import Derived.StillTailTactics
import Derived.IntWalk
import Derived.Handy
import Derived.Lib.Hide
import Derived.Deep.AppendLies
import Derived.Deep.RegionWith
import Derived.Test.YtbdkmfcgnolihaaGreatDoorBase
import Derived.Test.YtbdkmfcgnolihaaGreatDoorTail
import Derived.Test.YtbdkmfcgnolihaaGreatDoorArgs
import Derived.Test.YtbdkmfcgnolihaaGreatDoorAppend
import Derived.Test.YtbdkmfcgnolihaaGreatDoorOffs
import Derived.Test.YtbdkmfcgnolihaaGreatDoorStructs
import Derived.Carry
import Derived.Deep.RegionHeld3
import Derived.BigRegion
import Derived.Maps.OwnSet
import Derived.Maps.Views
import Derived.Maps.StringElems
import Derived.Test.YtbdkmfcgnolihaaGreatDoorMaps2
import Derived.Test.YtbdkmfcgnolihaaGreatDoorALines
import Derived.Test.YtbdkmfcgnolihaaGreatDoorAObj
namespace Go.Proofs.YtbdkmfcgnolihaaGreatDoor
set_option linter.unusedSimpArgs false
set_option linter.unnecessarySimpa false
set_option linter.unusedVariables false
open Go.RowKit
/-! ### plain: a line as the program takes it apart -/
theorem hasPrefix_iff {s p : BS} : Lib.hasPrefix s p = true ↔ ∃ r, s = p ++ r := by
  unfold Lib.hasPrefix
  rw [List.isPrefixOf_iff_prefix]
  constructor
  · rintro ⟨r, h⟩; exact ⟨r, h.symm⟩
  · rintro ⟨r, h⟩; exact ⟨r, h.symm⟩
theorem trimPrefix_yes {s p : BS} (h : Lib.hasPrefix s p = true) : Lib.trimPrefix s p = s.drop p.length := by unfold Lib.trimPrefix; rw [if_pos h]
theorem head_yes {s hd : BS} (hn : ∀ b ∈ hd, b ≠ 32) (h : Lib.hasPrefix s (hd ++ [32]) = true) : pieces 32 s = hd :: pieces 32 (Lib.trimPrefix s (hd ++ [32])) := by
  rw [trimPrefix_yes h]
  obtain ⟨r, rfl⟩ := hasPrefix_iff.1 h
  rw [List.append_assoc, List.singleton_append, pieces_app r hn]
  congr 2
  rw [List.length_append, List.length_singleton, ← List.drop_drop, List.drop_left]
  rfl
theorem head_no {s hd p : BS} {ps : List BS} (h : Lib.hasPrefix s (hd ++ [32]) = false) (e : pieces 32 s = hd :: p :: ps) : False := by
  have hg := glue_pieces 32 s
  rw [e, glue_cons, List.flatMap_cons] at hg
  have : Lib.hasPrefix s (hd ++ [32]) = true := hasPrefix_iff.2 ⟨p ++ ps.flatMap fun q => 32 :: q, by rw [← hg]; simp⟩
  rw [this] at h
  cases h
theorem job_no {s : BS} {r : AR} (h : Lib.hasPrefix s (wJob ++ [32]) = false) : jobR (pieces 32 s) r = none := by
  unfold jobR
  split
  · rename_i a b c e
    rw [if_neg]
    intro ha
    subst ha
    exact head_no h e
  · rfl
theorem job_yes {s : BS} {r : AR} (h : Lib.hasPrefix s (wJob ++ [32]) = true) : jobR (pieces 32 s) r = match readInts (pieces 32 (Lib.trimPrefix s (wJob ++ [32]))) with
    | some [x, y] => some { r with fuel := x, tasks := y }
    | _ => none := by
  rw [head_yes (fun b hb => (words_no.1 b hb).1) h]
  generalize pieces 32 (Lib.trimPrefix s (wJob ++ [32])) = ps
  match ps with
  | [] => rfl
  | [b] =>
    simp only [jobR, readInts]
    cases readInt b <;> rfl
  | [b, c] =>
    simp only [jobR, readInts, if_true]
    cases readInt b with
    | none => rfl
    | some x => cases readInt c <;> rfl
  | b :: c :: d :: ps =>
    simp only [jobR]
    cases hl : readInts (b :: c :: d :: ps) with
    | none => rfl
    | some l =>
      have := readInts_len hl
      match l with
      | [x, y] => simp at this
      | [] => rfl
      | [x] => rfl
      | x :: y :: z :: l => rfl
theorem main_no {s : BS} {r : AR} {no : Nat} (h : Lib.hasPrefix s (wMain ++ [32]) = false) : mainR no (pieces 32 s) r = none := by
  unfold mainR
  split
  · rename_i a b l e
    rw [if_neg]
    rintro ⟨ha, _⟩
    subst ha
    exact head_no h e
  · rfl
/-- main, behind its head: the name, the numbers -/
def mainR2 (no : Nat) (b : BS) (l : Option (List Int)) (r : AR) : Option AR := match l with
  | some args => if nameL b = true ∧ args.length ≤ 8 then some { r with args := args, wants := r.wants ++ [⟨b, no, none⟩] } else none
  | none => none
theorem main_yes {s : BS} {r : AR} {no : Nat} {b : BS} {ps : List BS} (h : Lib.hasPrefix s (wMain ++ [32]) = true) (e : pieces 32 (Lib.trimPrefix s (wMain ++ [32])) = b :: ps) : mainR no (pieces 32 s) r = mainR2 no b (readInts ps) r := by
  rw [head_yes (fun b hb => (words_no.2.1 b hb).1) h, e]
  simp only [mainR, mainR2]
  cases hl : readInts ps with
  | none => split <;> rfl
  | some l =>
    have := readInts_len hl
    simp only [this, true_and]
theorem func_no {s : BS} {r : AR} (h : Lib.hasPrefix s (wFunc ++ [32]) = false) : funcR (pieces 32 s) r = none := by
  unfold funcR
  split
  · rename_i a b c d e
    rw [if_neg]
    rintro ⟨ha, _⟩
    subst ha
    exact head_no h e
  · rfl
def funcR2 (b : BS) (l : Option (List Int)) (r : AR) : Option AR := match l with
  | some [x, y] => if nameL b = true ∧ r.funcs.length < 32 ∧ (∀ f ∈ r.funcs, f.name ≠ b) then some { r with funcs := r.funcs ++ [⟨b, x, y, []⟩] } else none
  | _ => none
theorem func_yes {s : BS} {r : AR} {b : BS} {ps : List BS} (h : Lib.hasPrefix s (wFunc ++ [32]) = true) (e : pieces 32 (Lib.trimPrefix s (wFunc ++ [32])) = b :: ps) : funcR (pieces 32 s) r = funcR2 b (readInts ps) r := by
  rw [head_yes (fun b hb => (words_no.2.2.1 b hb).1) h, e]
  match ps with
  | [] => rfl
  | [c] =>
    simp only [funcR, funcR2, readInts]
    cases readInt c <;> rfl
  | [c, d] =>
    simp only [funcR, funcR2, readInts]
    cases readInt c with
    | none => split <;> rfl
    | some x => cases readInt d <;> simp
  | c :: d :: f :: ps =>
    simp only [funcR]
    cases hl : readInts (c :: d :: f :: ps) with
    | none => rfl
    | some l =>
      have := readInts_len hl
      match l with
      | [x, y] => simp at this
      | [] => rfl
      | [x] => rfl
      | x :: y :: z :: l => rfl
theorem take2_iff {l : BS} : l.take 2 = [32, 32] ↔ Lib.hasPrefix l [32, 32] = true := by
  rw [hasPrefix_iff]
  constructor
  · intro h
    exact ⟨l.drop 2, by rw [← h, List.take_append_drop]⟩
  · rintro ⟨r, rfl⟩
    rfl
/-! ### what lines keep -/
structure ARok (r : AR) : Prop where
  few : r.funcs.length ≤ 32
  short : ∀ f ∈ r.funcs, f.code.length ≤ 256
theorem AR0_ok : ARok AR0 := ⟨by decide, by simp [AR0]⟩
theorem addI_len (fs : List FN) (i : IN) : (addI fs i).length = fs.length := by unfold addI; simp
theorem lastLen_at {fs : List FN} {f : FN} (h : fs[fs.length - 1]? = some f) : lastLen fs = f.code.length := by unfold lastLen; rw [h]; rfl
theorem addI_set {fs : List FN} {f : FN} (h : fs[fs.length - 1]? = some f) (i : IN) : addI fs i = fs.set (fs.length - 1) { f with code := f.code ++ [i] } := by
  unfold addI
  exact set_modify _ _ _ _ h
theorem addI_short {fs : List FN} {i : IN} (h : ∀ f ∈ fs, f.code.length ≤ 256) (hne : fs ≠ []) (hl : ¬ 256 ≤ lastLen fs) : ∀ f ∈ addI fs i, f.code.length ≤ 256 := by
  have hlen := List.length_pos_iff.2 hne
  obtain ⟨f, hf⟩ := get_ex (show fs.length - 1 < fs.length by omega)
  rw [lastLen_at hf] at hl
  rw [addI_set hf]
  intro g hg
  rcases List.mem_or_eq_of_mem_set hg with hg | rfl
  · exact h g hg
  · simp; omega
theorem line_ok {no : Nat} {l : BS} {r r' : AR} (h : lineR no l r = some r') (hr : ARok r) : ARok r' ∧ r'.wants.length ≤ r.wants.length + 1 := by
  unfold lineR at h
  split at h
  · unfold jobR at h
    split at h
    · split at h
      · split at h
        · cases h; exact ⟨⟨hr.few, hr.short⟩, by simp⟩
        · cases h
      · cases h
    · cases h
  split at h
  · unfold mainR at h
    split at h
    · split at h
      · split at h
        · cases h; exact ⟨⟨hr.few, hr.short⟩, by simp⟩
        · cases h
      · cases h
    · cases h
  split at h
  · unfold insR at h
    split at h
    · cases h
    rename_i hc
    have hne : r.funcs ≠ [] := fun e => hc (Or.inl e)
    have h256 : ¬ 256 ≤ lastLen r.funcs := fun e => hc (Or.inr e)
    have key : ∀ i, ARok { r with funcs := addI r.funcs i } := fun i => ⟨by simp only [addI_len]; exact hr.few, addI_short hr.short hne h256⟩
    split at h
    · split at h
      · split at h
        · cases h
        · cases h; exact ⟨⟨(key _).few, (key _).short⟩, by simp⟩
      · cases h
    · split at h
      · split at h
        · cases h
        split at h
        · split at h
          · cases h; exact ⟨⟨(key _).few, (key _).short⟩, by simp⟩
          · cases h
        · split at h
          · cases h; exact ⟨⟨(key _).few, (key _).short⟩, by simp⟩
          · cases h
      · cases h
    · cases h
  · unfold funcR at h
    split at h
    · split at h
      · rename_i hc
        split at h
        · cases h
          refine ⟨⟨by simp; omega, fun f hf => ?_⟩, by simp⟩
          simp at hf
          rcases hf with hf | rfl
          · exact hr.short f hf
          · simp
        · cases h
      · cases h
    · cases h
/-! ### the reader at work -/
def wtC (t : WT) : List Value := match t.at_ with
  | none => [.string (strB t.name), .int .i64 t.line, .int .i64 0, .int .i64 (-1)]
  | some (f, i) => [.string (strB t.name), .int .i64 t.line, .int .i64 f, .int .i64 i]
theorem wtC_len (t : WT) : (wtC t).length = 4 := by unfold wtC; split <;> rfl
structure RdAt (B R : Nat) (rest : BS) (no mn : Int) (r : AR) (fv av wv : Value) (ps : List (FN × Value)) (w : World) : Prop where
  blk : Blk w R 69 [.string (strB rest), .int .i64 no, fv, .int .i64 mn, av, .int .i64 r.fuel, .int .i64 r.tasks, wv]
  fns : FnsAt B w fv ps
  fs : r.funcs = ps.map Prod.fst
  args : OwnsAt w B 3 1 av r.args.length (r.args.map (.int .i64))
  wants : OwnsAt w B 90 4 wv r.wants.length (r.wants.flatMap wtC)
  lt : R < B
  base : B ≤ w.heap.size
theorem RdAt.keep0 {B R : Nat} {rest : BS} {no mn : Int} {r : AR} {fv av wv : Value} {ps : List (FN × Value)} {w w' : World} (h : RdAt B R rest no mn r fv av wv ps w) (k : Keep [] w w') : RdAt B R rest no mn r fv av wv ps w' :=
  ⟨h.blk.keep k (by simp), h.fns.keep0 k, h.fs, h.args.keep k (by simp), h.wants.keep k (by simp), h.lt, Nat.le_trans h.base k.size⟩
theorem RdAt.cells {B R : Nat} {rest rest' : BS} {no mn no' mn' : Int} {r r' : AR} {fv av wv : Value} {ps : List (FN × Value)} {w w' : World} (h : RdAt B R rest no mn r fv av wv ps w) (k : Keep [R] w w')
    (hb : Blk w' R 69 [.string (strB rest'), .int .i64 no', fv, .int .i64 mn', av, .int .i64 r'.fuel, .int .i64 r'.tasks, wv]) (h1 : r'.funcs = r.funcs) (h2 : r'.args = r.args) (h3 : r'.wants = r.wants) : RdAt B R rest' no' mn' r' fv av wv ps w' :=
  ⟨hb, h.fns.blk h.blk (by decide) (by decide) k, h1.trans h.fs, by rw [h2]; exact h.args.keep k (fun g hg hx => own_apart h.args h.blk (by decide) (by rw [← List.mem_singleton.1 hx]; exact mem_ownD.2 hg)), by rw [h3]; exact h.wants.keep k (fun g hg hx => own_apart h.wants h.blk (by decide) (by rw [← List.mem_singleton.1 hx]; exact mem_ownD.2 hg)), h.lt, Nat.le_trans h.base k.size⟩
def LinePost (B R : Nat) (rest : BS) (no : Int) (res : Option AR) (w : World) (e : Ending) (w' : World) : Prop := match res with
  | none => e = .returned (.bool false) ∧ Keep [] w w'
  | some r' => e = .returned (.bool true) ∧ Below R w w' ∧ ∃ fv av wv ps, RdAt B R rest no 0 r' fv av wv ps w'
theorem LinePost.no {B R : Nat} {rest : BS} {no : Int} {res : Option AR} {w w' : World} {e : Ending} (h : res = none) (he : e = .returned (.bool false)) (hk : Keep [] w w') : LinePost B R rest no res w e w' := by subst h; exact ⟨he, hk⟩
theorem LinePost.yes {B R : Nat} {rest : BS} {no : Int} {res : Option AR} {r' : AR} {w w' : World} {e : Ending} {fv av wv : Value} {ps : List (FN × Value)} (h : res = some r') (he : e = .returned (.bool true)) (hk : Below R w w') (hR : RdAt B R rest no 0 r' fv av wv ps w') : LinePost B R rest no res w e w' := by subst h; exact ⟨he, hk, _, _, _, _, hR⟩
end Go.Proofs.YtbdkmfcgnolihaaGreatDoor
