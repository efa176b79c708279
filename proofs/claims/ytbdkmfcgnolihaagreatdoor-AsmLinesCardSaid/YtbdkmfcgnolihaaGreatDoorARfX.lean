/- asm: the reference's reader at work asm: the reference's reader, what it keeps -/
import Derived.Test.YtbdkmfcgnolihaaGreatDoorRows
import Derived.WalkKit
import Derived.WalkSpells
import Derived.WalkLawsBesides
import Derived.RegionTactic
import Derived.ChangeAlike
import Derived.BigQuiet
import Derived.Deep.QuietTactic
import Derived.StillTailTactics
import Derived.IntWalk
import Derived.Handy
import Derived.Lib.Hide
import Derived.Deep.AppendLies
import Derived.Deep.RegionWith
import Derived.Test.YtbdkmfcgnolihaaGreatDoorBase
import Derived.Test.YtbdkmfcgnolihaaGreatDoorTail
import Derived.Test.YtbdkmfcgnolihaaGreatDoorArgs
import Derived.Test.YtbdkmfcgnolihaaGreatDoorAppend
import Derived.Test.YtbdkmfcgnolihaaGreatDoorOffs
import Derived.Test.YtbdkmfcgnolihaaGreatDoorStructs
import Derived.Carry
import Derived.Deep.RegionHeld3
import Derived.BigRegion
import Derived.Maps.OwnSet
import Derived.Maps.Views
import Derived.Maps.StringElems
import Derived.Test.YtbdkmfcgnolihaaGreatDoorMaps2
import Derived.Deep.CutRange
import Derived.Deep.CutBlock
import Derived.Test.YtbdkmfcgnolihaaGreatDoorRNum
import Derived.Test.YtbdkmfcgnolihaaGreatDoorRSplit
import Derived.Test.YtbdkmfcgnolihaaGreatDoorAObj
import Derived.Test.YtbdkmfcgnolihaaGreatDoorARd
import Derived.Test.YtbdkmfcgnolihaaGreatDoorABel
import Derived.Test.YtbdkmfcgnolihaaGreatDoorAIns1
namespace Go.Proofs.YtbdkmfcgnolihaaGreatDoor
set_option linter.unusedSimpArgs false
set_option linter.unnecessarySimpa false
set_option linter.unusedVariables false
open Go.RowKit
set_option maxHeartbeats 6400000 in
set_option maxRecDepth 100000 in
theorem rsplit_own (w : World) (bs : BS) (hl : bs.length ≤ 1000000) : Calls Tryz.prog 48 #[.string (strB bs)] w fun e w' => Keep [] w w' ∧ ∃ v, e = .returned v ∧ OwnsAt w' w.heap.size 9 1 v (pieces 32 bs).length ((pieces 32 bs).map fun p => .string (strB p)) := by
  have HL := Lib.hid hl
  have hnI : (bs.length : Int) ≤ 1000000 := by omega
  have e1 : (strB bs).size = bs.length := strB_size bs
  clear hl
  go_enter Tryz.func48, Tryz.ntmps48
  go_wp2_with fail
  go_loopw [3, 4, 5] (fun vo vf vi wr => ∃ (ps : List BS) (f i : Nat), vf = .int .i64 f ∧ vi = .int .i64 i ∧ OwnsAt wr w.heap.size 9 1 vo ps.length (ps.map fun p => .string (strB p)) ∧ runC 32 bs ps f i ∧ Keep [] w wr) (fun _ _ v _ => bs.length - (intOf v).toNat)
  case atStart => exact ⟨[], 0, 0, rfl, rfl, OwnsAt.nil _ _ _ _, runC_start _ _, Keep.refl _ _⟩
  case round =>
    obtain ⟨ps, f, i, rfl, rfl, ho, hr, hk⟩ := hrel
    obtain ⟨ao, co, rfl⟩ := ho.shape
    have hf : f ≤ i := hr.1
    have hi : i ≤ bs.length := hr.2.1
    have hp : ps.length ≤ f := hr.2.2.1
    have hfI : (f : Int) ≤ (i : Int) := by omega
    have hf0 : (0 : Int) ≤ (f : Int) := by omega
    have hiI : (i : Int) ≤ (bs.length : Int) := by omega
    have hi2 : (i : Int) ≤ 1000000 := by omega
    have hps : (ps.length : Int) ≤ 1000000 := by omega
    have G := Lib.hid (And.intro ho (And.intro hr (And.intro hk (And.intro hf (And.intro hi hp)))))
    clear ho hr hk hf hi hp
    by_cases hlt : i < bs.length
    · have hltI : (i : Int) < (bs.length : Int) := by omega
      obtain ⟨x, hx⟩ : ∃ x : UInt8, bs[i]? = some x := ⟨_, List.getElem?_eq_getElem hlt⟩
      have hget : ∀ h, ((strB bs)[i]'h) = x := fun h => by rw [strB_get]; exact (List.getElem?_eq_some_iff.1 hx).2
      by_cases hxc : x = 32
      · subst hxc
        have X := Lib.hid (And.intro (runC_cut G.out.2.1 hx) hlt)
        have hex : (strB bs).extract f i = strB ((bs.drop f).take (i - f)) := extract_strB bs f i
        have Ho6 := Lib.hid (G.out.1.keep ((Keep.refl [] wr).alloc (.cells #[.string (strB ((bs.drop f).take (i - f)))] 9)) (by simp))
        have Hz : Hid (w.heap.size ≤ (wr.alloc (.cells #[.string (strB ((bs.drop f).take (i - f)))] 9)).heap.size) := Lib.hid (G.out.2.2.1.alloc _).size
        clear hx hlt
        go_wp2_with (at_builtin; refine wpList_append_off rfl _ _ rfl Tryz.sts40 w.heap.size (.slice ao ps.length co) ps.length _ rfl Ho6.out _ 1 [.string (strB ((bs.drop f).take (i - f)))] rfl (src_str _) (by simp [Value.oneCell']) (by unfold maxLen; omega) (by omega) Hz.out ?_)
        intro v7 w7 ho7 hk7 hb7
        have Ho7 := Lib.hid ho7
        have Hk7 := Lib.hid (show Keep [] w w7 from (G.out.2.2.1.alloc _).trans hk7 (fun x hx => Or.inr (Ho6.out.lt x (mem_own'.1 hx)).1))
        clear ho7 hk7 hb7 Ho6 Hz hex hget
        go_wp2
        go_roundw
        case rel => exact ⟨ps ++ [(bs.drop f).take (i - f)], i + 1, i + 1, by go_num, by go_num, by have := Ho7.out; rw [List.length_append, List.map_append]; simpa using this, X.out.1, Hk7.out⟩
        case measure => simp [intOf]; have := X.out.2; omega
      · have hq : ∀ h, ((((strB bs)[i]'h).toNat : Int) == 32) = false := fun h => by
          rw [hget h]
          simp
          intro h2
          exact hxc (UInt8.toNat.inj (by rw [show x.toNat = 32 by omega]; rfl))
        have hq2 : ((x.toNat : Int) == 32) = false := by
          simp
          intro h2
          exact hxc (UInt8.toNat.inj (by rw [show x.toNat = 32 by omega]; rfl))
        have X := Lib.hid (And.intro (runC_other G.out.2.1 hx hxc) hlt)
        clear hx hlt hxc
        go_wp2
        go_roundw
        case rel => exact ⟨ps, f, i + 1, rfl, by go_num, G.out.1, X.out.1, G.out.2.2.1⟩
        case measure => simp [intOf]; have := X.out.2; omega
    · obtain rfl : i = bs.length := by have := G.out.2.2.2.2.1; omega
      clear hlt
      have X := Lib.hid (runC_end G.out.2.1)
      have hex : (strB bs).extract f bs.length = strB (bs.drop f) := by
        rw [extract_strB, List.take_of_length_le (by rw [List.length_drop]; omega)]
      have Ho6 := Lib.hid (G.out.1.keep ((Keep.refl [] wr).alloc (.cells #[.string (strB (bs.drop f))] 9)) (by simp))
      have Hz : Hid (w.heap.size ≤ (wr.alloc (.cells #[.string (strB (bs.drop f))] 9)).heap.size) := Lib.hid (G.out.2.2.1.alloc _).size
      go_wp2_with (at_builtin; refine wpList_append_off rfl _ _ rfl Tryz.sts40 w.heap.size (.slice ao ps.length co) ps.length _ rfl Ho6.out _ 1 [.string (strB (bs.drop f))] rfl (src_str _) (by simp [Value.oneCell']) (by unfold maxLen; omega) (by omega) Hz.out ?_)
      intro v7 w7 ho7 hk7 hb7
      have Ho7 := Lib.hid ho7
      have Hk7 := Lib.hid (show Keep [] w w7 from (G.out.2.2.1.alloc _).trans hk7 (fun x hx => Or.inr (Ho6.out.lt x (mem_own'.1 hx)).1))
      clear ho7 hk7 hb7 Ho6 Hz hex
      go_wp2
      go_ret
      have hown : OwnsAt w7 w.heap.size 9 1 v7 (ps ++ [bs.drop f]).length ((ps ++ [bs.drop f]).map fun p => .string (strB p)) := by
        have := Ho7.out
        rw [List.length_append, List.map_append]
        simpa using this
      exact ⟨Hk7.out, v7, rfl, by rw [X.out]; exact hown⟩
/-! ### the reference's reader at work -/
def ltC (t : WT) : List Value := match t.at_ with
  | none => [.int .i64 t.line, .int .i64 (-1), .int .i64 0, .string (strB t.name)]
  | some (f, i) => [.int .i64 t.line, .int .i64 f, .int .i64 i, .string (strB t.name)]
theorem ltC_len (t : WT) : (ltC t).length = 4 := by unfold ltC; split <;> rfl
structure RfAt (B R : Nat) (mn : Int) (r : AR) (fv av wv : Value) (ps : List (FN × Value)) (w : World) : Prop where
  blk : Blk w R 74 [fv, .int .i64 mn, av, .int .i64 r.fuel, .int .i64 r.tasks, wv]
  fns : FnsAt B w fv ps
  fs : r.funcs = ps.map Prod.fst
  args : OwnsAt w B 3 1 av r.args.length (r.args.map (.int .i64))
  wants : OwnsAt w B 77 4 wv r.wants.length (r.wants.flatMap ltC)
  lt : R < B
  base : B ≤ w.heap.size
theorem RfAt.keep0 {B R : Nat} {mn : Int} {r : AR} {fv av wv : Value} {ps : List (FN × Value)} {w w' : World} (h : RfAt B R mn r fv av wv ps w) (k : Keep [] w w') : RfAt B R mn r fv av wv ps w' :=
  ⟨h.blk.keep k (by simp), h.fns.keep0 k, h.fs, h.args.keep k (by simp), h.wants.keep k (by simp), h.lt, Nat.le_trans h.base k.size⟩
theorem RfAt.cells {B R : Nat} {mn mn' : Int} {r r' : AR} {fv av wv : Value} {ps : List (FN × Value)} {w w' : World} (h : RfAt B R mn r fv av wv ps w) (k : Keep [R] w w')
    (hb : Blk w' R 74 [fv, .int .i64 mn', av, .int .i64 r'.fuel, .int .i64 r'.tasks, wv]) (h1 : r'.funcs = r.funcs) (h2 : r'.args = r.args) (h3 : r'.wants = r.wants) : RfAt B R mn' r' fv av wv ps w' :=
  ⟨hb, h.fns.blk h.blk (by decide) (by decide) k, h1.trans h.fs, by rw [h2]; exact h.args.keep k (fun g hg hx => own_apart h.args h.blk (by decide) (by rw [← List.mem_singleton.1 hx]; exact mem_ownD.2 hg)), by rw [h3]; exact h.wants.keep k (fun g hg hx => own_apart h.wants h.blk (by decide) (by rw [← List.mem_singleton.1 hx]; exact mem_ownD.2 hg)), h.lt, Nat.le_trans h.base k.size⟩
def RfPost (B R : Nat) (res : Option AR) (w : World) (e : Ending) (w' : World) : Prop := match res with
  | none => e = .returned (.bool false) ∧ Below R w w'
  | some r' => e = .returned (.bool true) ∧ Below R w w' ∧ ∃ fv av wv ps, RfAt B R 0 r' fv av wv ps w'
theorem RfPost.no {B R : Nat} {res : Option AR} {w w' : World} {e : Ending} (h : res = none) (he : e = .returned (.bool false)) (hk : Below R w w') : RfPost B R res w e w' := by subst h; exact ⟨he, hk⟩
theorem RfPost.yes {B R : Nat} {res : Option AR} {r' : AR} {w w' : World} {e : Ending} {fv av wv : Value} {ps : List (FN × Value)} (h : res = some r') (he : e = .returned (.bool true)) (hk : Below R w w') (hR : RfAt B R 0 r' fv av wv ps w') : RfPost B R res w e w' := by subst h; exact ⟨he, hk, _, _, _, _, hR⟩
/-- a row of strings' cells -/
theorem strs_at {w : World} {B n : Nat} {v : Value} {ps : List BS} (h : OwnsAt w B 9 1 v n (ps.map fun p => .string (strB p))) {i : Nat} {p : BS} (hp : ps[i]? = some p) : ∃ g off c, v = .slice (some ⟨g, off, none⟩) n c ∧ g < w.heap.size ∧ w.cell? ⟨g, off + i, none⟩ = some (.string (strB p)) := by
  have hn : n = ps.length := by have := h.1; simpa using this.symm
  have hl := get_lt hp
  obtain ⟨g, off, cap, hv, _, _, _, h4, h5⟩ := h.form (by omega)
  exact ⟨g, off, cap, hv, h4, h5 i _ (by rw [List.getElem?_map, hp]; rfl)⟩
/-- two numbers -/
def twoP (a b : BS) : Value := .tuple #[.int .i64 ((readInt a).getD 0), .int .i64 ((readInt b).getD 0), .bool ((readInt a).isSome && (readInt b).isSome)]
set_option maxHeartbeats 1600000 in
theorem two_spec (w : World) (a b : BS) (ha : a.length ≤ 1000000) (hb : b.length ≤ 1000000) : Calls Tryz.prog 49 #[.string (strB a), .string (strB b)] w fun e w' => e = .returned (twoP a b) ∧ w' = w := by
  have HA := Lib.hid (readInt_spec w a ha)
  have HB := Lib.hid (readInt_spec w b hb)
  have HT := Lib.hid (show twoP a b = .tuple #[.int .i64 ((readInt a).getD 0), .int .i64 ((readInt b).getD 0), .bool ((readInt a).isSome && (readInt b).isSome)] from rfl)
  generalize readInt a = x at *
  generalize readInt b = y at *
  generalize twoP a b = tv at *
  go_enter Tryz.func49, Tryz.ntmps49
  go_wp2_with fail
  refine HA.out.mono ?_
  rintro e w1 ⟨hm, rfl⟩
  cases x with
  | none =>
    obtain rfl := hm
    go_wp2_with fail
    refine HB.out.mono ?_
    rintro e w2 ⟨hm2, rfl⟩
    cases y with
    | none =>
      obtain rfl := hm2
      go_wp2
      go_ret3
      exact ⟨by rw [HT.out]; rfl, rfl⟩
    | some y =>
      obtain rfl := hm2
      go_wp2
      go_ret3
      exact ⟨by rw [HT.out]; rfl, rfl⟩
  | some x =>
    obtain rfl := hm
    go_wp2_with fail
    refine HB.out.mono ?_
    rintro e w2 ⟨hm2, rfl⟩
    cases y with
    | none =>
      obtain rfl := hm2
      go_wp2
      go_ret3
      exact ⟨by rw [HT.out]; rfl, rfl⟩
    | some y =>
      obtain rfl := hm2
      go_wp2
      go_ret3
      exact ⟨by rw [HT.out]; rfl, rfl⟩
end Go.Proofs.YtbdkmfcgnolihaaGreatDoor
namespace Go.Proofs.YtbdkmfcgnolihaaGreatDoor
set_option linter.unusedSimpArgs false
set_option linter.unnecessarySimpa false
set_option linter.unusedVariables false
open Go.RowKit
theorem Tryz.sts72 : SliceTy Tryz.prog 72 77 (.agg #[.int .i64 0, .int .i64 0, .int .i64 0, .string ⟨#[]⟩]) 4 40 := ⟨Tryz.underlying72, by kernel_rfl, by kernel_rfl, by decide⟩
theorem RfAt.code {B R k g off n cap : Nat} {mn : Int} {r : AR} {av wv v7 cv : Value} {ps : List (FN × Value)} {f : FN} {i : IN} {w wA w7 : World} (h : RfAt B R mn r (.slice (some ⟨g, off, none⟩) n cap) av wv ps w) (hk : ps[k]? = some (f, cv)) (hlast : ps.length = k + 1) (kA : Keep [] w wA) (k7 : Keep (ownBlocks cv) wA w7)
    (ho : OwnsAt w7 B 47 2 v7 (f.code.length + 1) (f.code.flatMap inC ++ inC i)) (hat : v7.ownBlock = cv.ownBlock ∨ v7.ownBlock = some wA.heap.size) :
    RfAt B R mn { r with funcs := addI r.funcs i } (.slice (some ⟨g, off, none⟩) n cap) av wv (ps.set k ({ f with code := f.code ++ [i] }, v7)) (w7.setCell ⟨g, off + k * 4 + 3, none⟩ v7) ∧ Keep (ownBlocks cv ++ [g]) wA (w7.setCell ⟨g, off + k * 4 + 3, none⟩ v7) := by
  have hA := h.keep0 kA
  have hcode := hA.fns.code k _ hk
  have hb7 := hA.blk.keep k7 (own_apart hcode hA.blk (by decide))
  have ha7 := hA.args.keep k7 (own_own hA.args hcode (by decide))
  have hw7 := hA.wants.keep k7 (own_own hA.wants hcode (by decide))
  have hf7 := hA.fns.own.keep k7 (own_own hA.fns.own hcode (by decide))
  have hgB : B ≤ g := (hf7.lt g rfl).1
  have kS : Keep [g] w7 (w7.setCell ⟨g, off + k * 4 + 3, none⟩ v7) := (Keep.refl _ _).setCell (by simp) _
  refine ⟨⟨hb7.keep kS (fun hx => by have := List.mem_singleton.1 hx; have := h.lt; omega), hA.fns.add hk k7 ho hat, ?_, ha7.keep kS (fun x hx hm => own_own ha7 hf7 (by decide) x hx (mem_ownD.2 (by rw [List.mem_singleton.1 hm]; rfl))), hw7.keep kS (fun x hx hm => own_own hw7 hf7 (by decide) x hx (mem_ownD.2 (by rw [List.mem_singleton.1 hm]; rfl))), h.lt, Nat.le_trans hA.base (Nat.le_trans k7.size kS.size)⟩, ?_⟩
  · have h1 : r.funcs[r.funcs.length - 1]? = some f := by rw [h.fs, List.length_map, hlast, Nat.add_sub_cancel, List.getElem?_map, hk]; rfl
    simp only
    rw [addI_set h1, h.fs, List.length_map, hlast, Nat.add_sub_cancel, List.map_set]
  · exact (k7.mono (T := ownBlocks cv ++ [g]) (fun x hx => Or.inl (by simp [hx]))).trans kS (fun x hx => Or.inl (by simp at hx; simp [hx]))
theorem rins_end {B R k g off cap m : Nat} {r : AR} {av wv v7 cv : Value} {ps : List (FN × Value)} {f : FN} {i : IN} {w0 w wA w7 : World} (b0 : Below R w0 w) (h : RfAt B R 0 r (.slice (some ⟨g, off, none⟩) m cap) av wv ps w) (hk : ps[k]? = some (f, cv)) (hlast : ps.length = k + 1) (kA : Keep [] w wA) (k7 : Keep (ownBlocks cv) wA w7)
    (ho : OwnsAt w7 B 47 2 v7 (f.code.length + 1) (f.code.flatMap inC ++ inC i)) (hat : v7.ownBlock = cv.ownBlock ∨ v7.ownBlock = some wA.heap.size) :
    Ending.returned (.bool true) = .returned (.bool true) ∧ Below R w0 (w7.setCell ⟨g, off + k * 4 + 3, none⟩ v7) ∧ ∃ fv av wv ps, RfAt B R 0 { r with funcs := addI r.funcs i } fv av wv ps (w7.setCell ⟨g, off + k * 4 + 3, none⟩ v7) := by
  obtain ⟨h1, h2⟩ := h.code hk hlast kA k7 ho hat
  have hR : R ≤ w.heap.size := Nat.le_trans (Nat.le_of_lt h.lt) h.base
  have hA := h.keep0 kA
  have hgB : B ≤ g := (hA.fns.own.lt g rfl).1
  refine ⟨rfl, Keep.below (Keep.below b0 kA hR (by simp)) h2 (Nat.le_trans hR kA.size) (fun x hx => ?_), _, _, _, _, h1⟩
  have := h.lt
  rcases List.mem_append.1 hx with hx | hx
  · have := own_base (hA.fns.code k _ hk) x hx; omega
  · have := List.mem_singleton.1 hx; omega
theorem rkeep_fn {B R k g off n cap : Nat} {mn : Int} {r : AR} {av wv cv : Value} {ps : List (FN × Value)} {f : FN} {w wA w7 : World} (h : RfAt B R mn r (.slice (some ⟨g, off, none⟩) n cap) av wv ps w) (hk : ps[k]? = some (f, cv)) (kA : Keep [] w wA) (k7 : Keep (ownBlocks cv) wA w7) : w7.cell? ⟨g, off + k * 4 + 3, none⟩ = some cv := by
  have hA := h.keep0 kA
  obtain ⟨g', off', cap', hv, hg, _, _, _, _, c3, _⟩ := hA.fns.fn hk
  injection hv with e1 e2 e3
  injection e1 with e1
  injection e1 with e1 e4
  subst e1 e4
  exact (k7.cell (p := ⟨g, off + k * 4 + 3, none⟩) hg (own_own hA.fns.own (hA.fns.code k _ hk) (by decide) g rfl)).trans c3
theorem rfn_cell {B R k g off n cap : Nat} {mn : Int} {r : AR} {av wv cv : Value} {ps : List (FN × Value)} {f : FN} {w : World} (h : RfAt B R mn r (.slice (some ⟨g, off, none⟩) n cap) av wv ps w) (hk : ps[k]? = some (f, cv)) : w.cell? ⟨g, off + k * 4 + 3, none⟩ = some cv := by
  obtain ⟨g', off', cap', hv, hg, _, _, _, _, c3, _⟩ := h.fns.fn hk
  injection hv with e1 e2 e3
  injection e1 with e1
  injection e1 with e1 e4
  subst e1 e4
  exact c3
theorem RfAt.args' {B R : Nat} {mn : Int} {r : AR} {fv av av' wv : Value} {ps : List (FN × Value)} {l : List Int} {w w' : World} (h : RfAt B R mn r fv av wv ps w) (k : Keep [R] w w')
    (hb : Blk w' R 74 [fv, .int .i64 mn, av', .int .i64 r.fuel, .int .i64 r.tasks, wv]) (ho : OwnsAt w' B 3 1 av' l.length (l.map (.int .i64))) : RfAt B R mn { r with args := l } fv av' wv ps w' :=
  ⟨hb, h.fns.blk h.blk (by decide) (by decide) k, h.fs, ho, h.wants.keep k (fun g hg hx => own_apart h.wants h.blk (by decide) (by rw [← List.mem_singleton.1 hx]; exact mem_ownD.2 hg)), h.lt, Nat.le_trans h.base k.size⟩
theorem RfAt.want {B R : Nat} {mn : Int} {r : AR} {fv av wv v7 : Value} {ps : List (FN × Value)} {t : WT} {w wA w7 w' : World} (h : RfAt B R mn r fv av wv ps w) (kA : Keep [] w wA) (k7 : Keep (ownBlocks wv) wA w7)
    (ho : OwnsAt w7 B 77 4 v7 (r.wants.length + 1) (r.wants.flatMap ltC ++ ltC t)) (k : Keep [R] w7 w') (hb : Blk w7 R 74 [fv, .int .i64 mn, av, .int .i64 r.fuel, .int .i64 r.tasks, wv] → Blk w' R 74 [fv, .int .i64 mn, av, .int .i64 r.fuel, .int .i64 r.tasks, v7]) :
    RfAt B R mn { r with wants := r.wants ++ [t] } fv av v7 ps w' := by
  have hA := h.keep0 kA
  have hb7 : Blk w7 R 74 [fv, .int .i64 mn, av, .int .i64 r.fuel, .int .i64 r.tasks, wv] := hA.blk.keep k7 (own_apart hA.wants hA.blk (by decide))
  have hf7 := hA.fns.other hA.wants (by decide) (by decide) k7
  have ha7 := hA.args.keep k7 (own_own hA.args hA.wants (by decide))
  refine ⟨hb hb7, hf7.blk hb7 (by decide) (by decide) k, h.fs, ha7.keep k (fun g hg hx => own_apart ha7 hb7 (by decide) (by rw [← List.mem_singleton.1 hx]; exact mem_ownD.2 hg)), ?_, h.lt, Nat.le_trans hA.base (Nat.le_trans k7.size k.size)⟩
  have h9 : OwnsAt w7 B 77 4 v7 (r.wants ++ [t]).length ((r.wants ++ [t]).flatMap ltC) := by
    rw [List.length_append, List.flatMap_append]
    simpa using ho
  exact h9.keep k (fun g hg hx => own_apart h9 hb7 (by decide) (by rw [← List.mem_singleton.1 hx]; exact mem_ownD.2 hg))
theorem rbelow_want {B R : Nat} {mn : Int} {r : AR} {fv av wv : Value} {qs : List (FN × Value)} {w0 w wA w7 w' : World} (b0 : Below R w0 w) (h : RfAt B R mn r fv av wv qs w) (kA : Keep [] w wA) (k7 : Keep (ownBlocks wv) wA w7) (k : Keep [R] w7 w') : Below R w0 w' := by
  have hR : R ≤ w.heap.size := Nat.le_trans (Nat.le_of_lt h.lt) h.base
  have b1 := Keep.below b0 kA hR (by simp)
  have b2 := Keep.below b1 k7 (Nat.le_trans hR kA.size) (fun x hx => by have := own_base h.wants x hx; have := h.lt; omega)
  exact Keep.below b2 k (Nat.le_trans (Nat.le_trans hR kA.size) k7.size) (fun x hx => by rw [List.mem_singleton.1 hx]; exact Nat.le_refl _)
theorem RfAt.func {B R : Nat} {mn : Int} {r : AR} {fv av wv v7 : Value} {ps : List (FN × Value)} {b : BS} {x y : Int} {w wA w7 w' : World} (h : RfAt B R mn r fv av wv ps w) (kA : Keep [] w wA) (k7 : Keep (ownBlocks fv) wA w7)
    (ho : OwnsAt w7 B 36 4 v7 (ps.length + 1) (ps.flatMap fnP ++ fnC ⟨b, x, y, []⟩ (.slice none 0 0))) (k : Keep [R] w7 w') (hb : Blk w7 R 74 [fv, .int .i64 mn, av, .int .i64 r.fuel, .int .i64 r.tasks, wv] → Blk w' R 74 [v7, .int .i64 mn, av, .int .i64 r.fuel, .int .i64 r.tasks, wv]) :
    RfAt B R mn { r with funcs := r.funcs ++ [⟨b, x, y, []⟩] } v7 av wv (ps ++ [(⟨b, x, y, []⟩, .slice none 0 0)]) w' := by
  have hA := h.keep0 kA
  have hb7 : Blk w7 R 74 [fv, .int .i64 mn, av, .int .i64 r.fuel, .int .i64 r.tasks, wv] := hA.blk.keep k7 (own_apart hA.fns.own hA.blk (by decide))
  have hf7 : FnsAt B w7 v7 (ps ++ [(⟨b, x, y, []⟩, .slice none 0 0)]) := hA.fns.push rfl k7 ho
  have ha7 := hA.args.keep k7 (own_own hA.args hA.fns.own (by decide))
  have hw7 := hA.wants.keep k7 (own_own hA.wants hA.fns.own (by decide))
  exact ⟨hb hb7, hf7.blk hb7 (by decide) (by decide) k, by simp [h.fs], ha7.keep k (fun g hg hx => own_apart ha7 hb7 (by decide) (by rw [← List.mem_singleton.1 hx]; exact mem_ownD.2 hg)), hw7.keep k (fun g hg hx => own_apart hw7 hb7 (by decide) (by rw [← List.mem_singleton.1 hx]; exact mem_ownD.2 hg)), h.lt, Nat.le_trans hA.base (Nat.le_trans k7.size k.size)⟩
theorem rfunc_end {B R : Nat} {r : AR} {res : Option AR} {fv av wv v7 : Value} {qs : List (FN × Value)} {b : BS} {x y : Int} {w w4 wA w5 : World} (hres : res = some { r with funcs := r.funcs ++ [⟨b, x, y, []⟩] }) (k0 : Keep [] w w4) (h : RfAt B R 0 r fv av wv qs w4) (hR : R ≤ w.heap.size) (kA : Keep [] w4 wA) (k5 : Keep (ownBlocks fv) wA w5)
    (ho : OwnsAt w5 B 36 4 v7 (qs.length + 1) (qs.flatMap fnP ++ fnC ⟨b, x, y, []⟩ (.slice none 0 0))) : RfPost B R res w (.returned (.bool true)) (w5.setCell ⟨R, 0, none⟩ v7) := by
  have k : Keep [R] w5 (w5.setCell ⟨R, 0, none⟩ v7) := (Keep.refl _ _).setCell (by simp) _
  have b0 := keep_below0 k0 hR
  have hR4 : R ≤ w4.heap.size := Nat.le_trans hR k0.size
  have b1 := Keep.below b0 kA hR4 (by simp)
  have b2 := Keep.below b1 k5 (Nat.le_trans hR4 kA.size) (fun x hx => by have := own_base h.fns.own x hx; have := h.lt; omega)
  have b3 := Keep.below b2 k (Nat.le_trans (Nat.le_trans hR4 kA.size) k5.size) (fun x hx => by rw [List.mem_singleton.1 hx]; exact Nat.le_refl _)
  exact RfPost.yes hres rfl b3 (h.func kA k5 ho k (fun hb => hb.set_ 0 v7))
def RPostW (B R : Nat) (fv av : Value) (r : AR) (qs : List (FN × Value)) (w0 : World) (bx : Nat) (wx : World) : Prop := ∃ wv, RfAt B R 0 r fv av wv qs wx ∧ Below R w0 wx ∧ Blk wx bx 47 [.int .i64 16, .int .i64 0]
end Go.Proofs.YtbdkmfcgnolihaaGreatDoor
