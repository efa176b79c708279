/- asm, plain: the reference's lines, one by one asm: the reference's Read -/
import Derived.Test.YtbdkmfcgnolihaaGreatDoorRows
import Derived.WalkKit
import Derived.WalkSpells
import Derived.WalkLawsBesides
import Derived.RegionTactic
import Derived.ChangeAlike
import Derived.BigQuiet
import Derived.Deep.QuietTactic
import Derived.StillTailTactics
import Derived.IntWalk
import Derived.Handy
import Derived.Lib.Hide
import Derived.Deep.AppendLies
import Derived.Deep.RegionWith
import Derived.Test.YtbdkmfcgnolihaaGreatDoorBase
import Derived.Test.YtbdkmfcgnolihaaGreatDoorTail
import Derived.Test.YtbdkmfcgnolihaaGreatDoorArgs
import Derived.Test.YtbdkmfcgnolihaaGreatDoorAppend
import Derived.Test.YtbdkmfcgnolihaaGreatDoorOffs
import Derived.Test.YtbdkmfcgnolihaaGreatDoorStructs
import Derived.Carry
import Derived.Deep.RegionHeld3
import Derived.BigRegion
import Derived.Maps.OwnSet
import Derived.Maps.Views
import Derived.Maps.StringElems
import Derived.Test.YtbdkmfcgnolihaaGreatDoorMaps2
import Derived.Deep.CutRange
import Derived.Deep.CutBlock
import Derived.Test.YtbdkmfcgnolihaaGreatDoorARLineX
import Derived.Test.YtbdkmfcgnolihaaGreatDoorANms
import Derived.Test.YtbdkmfcgnolihaaGreatDoorARead
namespace Go.Proofs.YtbdkmfcgnolihaaGreatDoor
set_option linter.unusedSimpArgs false
set_option linter.unnecessarySimpa false
set_option linter.unusedVariables false
open Go.RowKit
/-! ### plain: the lines one by one, as the reference takes them -/
def StE (P : List BS) (RES : Except Nat AR) (i : Nat) (en : Bool) (r : AR) : Prop := match en with
  | false => runR (i + 1) (P.drop i) r = RES
  | true => RES = if P.drop i = [[]] then .ok r else .error (i + 1)
structure LinesOf (P L : List BS) (wh : Bool) : Prop where
  whole : wh = true → P = L ++ [[]]
  open_ : wh = false → P = L ∧ L ≠ [] ∧ L.getLast? ≠ some []
theorem lines_of (bs : BS) : LinesOf (pieces 10 bs) (linesL bs).1 (linesL bs).2 := by
  have hne := pieces_ne 10 bs
  unfold linesL
  split
  · rename_i h
    refine ⟨fun _ => ?_, fun h => by cases h⟩
    obtain ⟨ps, hps⟩ : ∃ ps x, pieces 10 bs = ps ++ [x] := ⟨_, _, (List.dropLast_concat_getLast hne).symm⟩
    obtain ⟨x, hps⟩ := hps
    rw [hps] at h ⊢
    rw [List.getLast?_concat] at h
    cases h
    rw [List.dropLast_concat]
  · rename_i h
    exact ⟨fun h => (by cases h), fun _ => ⟨rfl, hne, h⟩⟩
theorem LinesOf.at_ {P L : List BS} {wh : Bool} (h : LinesOf P L wh) {i : Nat} {x : BS} (hx : L[i]? = some x) : P.drop i = x :: P.drop (i + 1) := by
  refine drop_at ?_
  cases wh with
  | true => rw [h.whole rfl, List.getElem?_append_left (get_lt hx)]; exact hx
  | false => rw [(h.open_ rfl).1]; exact hx
theorem LinesOf.more {P L : List BS} {wh : Bool} (h : LinesOf P L wh) {i : Nat} (hi : i < L.length) (hl : wh = true ∨ i + 1 < L.length) : P.drop (i + 1) ≠ [] := by
  intro e
  have := List.drop_eq_nil_iff.1 e
  cases wh with
  | true => rw [h.whole rfl, List.length_append] at this; simp at this; omega
  | false =>
    rcases hl with hl | hl
    · cases hl
    · rw [(h.open_ rfl).1] at this; omega
theorem LinesOf.not_end {P L : List BS} {wh : Bool} (h : LinesOf P L wh) {i : Nat} {x : BS} (hx : L[i]? = some x) : P.drop i ≠ [[]] := by
  rw [h.at_ hx]
  intro e
  injection e with e1 e2
  have hi := get_lt hx
  have := List.drop_eq_nil_iff.1 e2
  cases wh with
  | true => rw [h.whole rfl, List.length_append] at this; simp at this; omega
  | false =>
    obtain ⟨h1, h2, h3⟩ := h.open_ rfl
    rw [h1] at this
    refine h3 ?_
    rw [List.getLast?_eq_getElem?, show L.length - 1 = i by omega, hx, e1]
theorem st_after_end {P L : List BS} {wh : Bool} {RES : Except Nat AR} {i : Nat} {r : AR} {x : BS} (h : LinesOf P L wh) (hx : L[i]? = some x) (hs : StE P RES i true r) : RES = .error (i + 1) := by
  have hs' : RES = if P.drop i = [[]] then .ok r else .error (i + 1) := hs
  rw [hs', if_neg (h.not_end hx)]
theorem st_last {P L : List BS} {wh : Bool} {RES : Except Nat AR} {i : Nat} {r : AR} {x : BS} (h : LinesOf P L wh) (hx : L[i]? = some x) (hw : wh = false) (hl : i + 1 = L.length) (hs : StE P RES i false r) : RES = .error (i + 1) := by
  have hs' : runR (i + 1) (P.drop i) r = RES := hs
  have e : P.drop (i + 1) = [] := by rw [(h.open_ hw).1]; exact List.drop_eq_nil_iff.2 (by omega)
  rw [← hs', h.at_ hx, e]
  rfl
theorem runR_two {no : Nat} {x : BS} {ls : List BS} {r : AR} (h : ls ≠ []) : runR no (x :: ls) r = if 3 ≤ no ∧ x = wEnd then (if ls = [[]] then .ok r else .error (no + 1)) else match lineR no x r with
    | none => .error no
    | some r' => runR (no + 1) ls r' := by
  obtain ⟨l2, ls, rfl⟩ := List.exists_cons_of_ne_nil h
  rfl
theorem st_end {P L : List BS} {wh : Bool} {RES : Except Nat AR} {i : Nat} {r : AR} {x : BS} (h : LinesOf P L wh) (hx : L[i]? = some x) (hl : wh = true ∨ i + 1 < L.length) (h2 : 2 ≤ i) (he : x = wEnd) (hs : StE P RES i false r) : StE P RES (i + 1) true r := by
  have hs' : runR (i + 1) (P.drop i) r = RES := hs
  rw [h.at_ hx, runR_two (h.more (get_lt hx) hl), if_pos ⟨by omega, he⟩] at hs'
  exact hs'.symm
theorem st_line {P L : List BS} {wh : Bool} {RES : Except Nat AR} {i : Nat} {r : AR} {x : BS} (h : LinesOf P L wh) (hx : L[i]? = some x) (hl : wh = true ∨ i + 1 < L.length) (he : ¬ (2 ≤ i ∧ x = wEnd)) (hs : StE P RES i false r) :
    (lineR (i + 1) x r = none → RES = .error (i + 1)) ∧ ∀ r', lineR (i + 1) x r = some r' → StE P RES (i + 1) false r' := by
  have hs' : runR (i + 1) (P.drop i) r = RES := hs
  rw [h.at_ hx, runR_two (h.more (get_lt hx) hl), if_neg (fun h9 => he ⟨by omega, h9.2⟩)] at hs'
  constructor
  · intro e
    rw [e] at hs'
    exact hs'.symm
  · intro r' e
    rw [e] at hs'
    exact hs'
theorem st_done {P L : List BS} {RES : Except Nat AR} {r : AR} (h : LinesOf P L true) (en : Bool) (hs : StE P RES L.length en r) : RES = if en = true then .ok r else .error (L.length + 1) := by
  have e : P.drop L.length = [[]] := by rw [h.whole rfl, List.drop_left]
  cases en with
  | false =>
    have hs' : runR (L.length + 1) (P.drop L.length) r = RES := hs
    rw [← hs', e]
    rfl
  | true =>
    have hs' : RES = if P.drop L.length = [[]] then .ok r else .error (L.length + 1) := hs
    rw [hs', if_pos e]
    rfl
theorem job_args {x : BS} {r r' : AR} (h : lineR 1 x r = some r') : r'.args = r.args := by
  unfold lineR at h
  rw [if_pos rfl] at h
  unfold jobR at h
  split at h
  · split at h
    · split at h
      · cases h; rfl
      · cases h
    · cases h
  · cases h
/-! ### what is read -/
def RReadPost (res : JR) (w : World) (e : Ending) (w' : World) : Prop := Keep [] w w' ∧ ∃ jv, e = .returned (.tuple #[jv, .int .i64 res.line, .int .i64 res.err]) ∧ JobRd w' jv res.job
theorem rd_zero (w : World) : JobRd w (.agg #[.slice none 0 0, .int .i64 0, .slice none 0 0, .int .i64 0, .int .i64 0]) JB0 := ⟨_, _, rfl, ⟨none, 0, rfl, fun k f h => by cases h⟩, IntsOf.nil _⟩
theorem rread_err {res : JR} {l : Nat} {x : Int} {w wr w' : World} {e : Ending} {t : TypeId} {cs : List Value} (hres : res = ⟨JB0, l, x⟩) (hK : Below w.heap.size w wr) (hk : Keep [w.heap.size] wr w') (hs : w.heap.size ≤ wr.heap.size) (he : e = .returned (.tuple #[.agg #[.slice none 0 0, .int .i64 0, .slice none 0 0, .int .i64 0, .int .i64 0], .int .i64 (l : Nat), .int .i64 x])) : RReadPost res w e w' := by
  subst hres
  exact ⟨keep_of_below (Keep.below hK hk hs (fun y hy => by rw [List.mem_singleton.1 hy]; exact Nat.le_refl _)), _, he, rd_zero _⟩
/-- at a line -/
def LnAt (P : List BS) (wh : Bool) (n : Nat) (RES : Except Nat AR) (R : Nat) (w3 : World) (i : Nat) (en : Bool) (wr : World) : Prop := ∃ (r : AR) (fv av wv : Value) (qs : List (FN × Value)), RfAt (R + 1) R 0 r fv av wv qs wr ∧ ARok r ∧ r.wants.length ≤ i ∧ (i ≤ 1 → r.args = []) ∧ Below R w3 wr ∧ i ≤ n ∧ (wh = false → i < n) ∧ StE P RES i en r
/-- at a name -/
def NmAt (R : Nat) (r : AR) (RES2 : Except Nat (List FN × Int)) (w3 : World) (aw : Option Addr) (cw i : Nat) (w : World) : Prop := ∃ (m : Int) (fs : List FN) (fv av : Value) (ps : List (FN × Value)), i ≤ r.wants.length ∧ RfAt (R + 1) R m { r with funcs := fs } fv av (.slice aw r.wants.length cw) ps w ∧ Below R w3 w ∧ ARok { r with funcs := fs } ∧ WIn { r with funcs := fs } ∧ namesR (r.wants.drop i) fs m = RES2
theorem RfAt.num {B R k i g off n cap : Nat} {m : Int} {r : AR} {fv av wv : Value} {ps : List (FN × Value)} {f : FN} {x : IN} {w : World} (h : RfAt B R m r fv av wv ps w) (hk : ps[k]? = some (f, .slice (some ⟨g, off, none⟩) n cap)) (hx : f.code[i]? = some x) (v : Int) :
    ∃ ps', RfAt B R m { r with funcs := setN r.funcs k i v } fv av wv ps' (w.setCell ⟨g, off + i * 2 + 1, none⟩ (.int .i64 v)) ∧ Keep [g] w (w.setCell ⟨g, off + i * 2 + 1, none⟩ (.int .i64 v)) ∧ R ≤ g := by
  have hcode := h.fns.code k _ hk
  have hgB : B ≤ g := (hcode.lt g rfl).1
  have kS : Keep [g] w (w.setCell ⟨g, off + i * 2 + 1, none⟩ (.int .i64 v)) := (Keep.refl _ _).setCell (by simp) _
  have hlt := h.lt
  refine ⟨_, ⟨h.blk.keep kS (fun hm => by have := List.mem_singleton.1 hm; omega), h.fns.num hk hx v, ?_, h.args.keep kS (fun y hy hm => own_own h.args hcode (by decide) y hy (mem_ownD.2 (by rw [List.mem_singleton.1 hm]; rfl))), h.wants.keep kS (fun y hy hm => own_own h.wants hcode (by decide) y hy (mem_ownD.2 (by rw [List.mem_singleton.1 hm]; rfl))), h.lt, Nat.le_trans h.base kS.size⟩, kS, by omega⟩
  have h1 : r.funcs[k]? = some f := by rw [h.fs, List.getElem?_map, hk]; rfl
  simp only
  rw [setN_at h1, h.fs, List.map_set]
theorem late_cells {B n cap i : Nat} {w : World} {aw : Option Addr} {ts : List WT} {t : WT} (h : OwnsAt w B 77 4 (.slice aw n cap) ts.length (ts.flatMap ltC)) (ht : ts[i]? = some t) : ∃ g off, aw = some ⟨g, off, none⟩ ∧ g < w.heap.size ∧ ∀ (j : Nat) (u : Value), (ltC t)[j]? = some u → w.cell? ⟨g, off + i * 4 + j, none⟩ = some u := by
  have hi := get_lt ht
  obtain ⟨g, off, cap', hv, _, _, _, h4, h5⟩ := h.form (by omega)
  injection hv with e1 e2 e3
  refine ⟨g, off, e1, h4, fun j u hu => ?_⟩
  have hj : j < 4 := by have := get_lt hu; rw [ltC_len] at this; exact this
  rw [Nat.add_assoc]
  exact h5 _ u (by rw [flat_at ltC_len ts i t j ht hj]; exact hu)
theorem StrsAt.below {B : Nat} {w w' : World} {v : Value} {ps : List BS} (h : StrsAt w v ps) (hb : Below B w w') (hB : w.heap.size ≤ B) : StrsAt w' v ps := by
  obtain ⟨a, c, rfl, h⟩ := h
  refine ⟨a, c, rfl, fun i s hs => ?_⟩
  obtain ⟨b, off, rfl, hb', hc⟩ := h i s hs
  refine ⟨b, off, rfl, Nat.lt_of_lt_of_le hb' hb.size, ?_⟩
  unfold World.cell? at hc ⊢
  rw [hb.block b (Nat.lt_of_lt_of_le hb' hB)]
  exact hc
def resN (r : AR) : Except Nat (List FN × Int) → JR
  | .error l => ⟨JB0, l, 2⟩
  | .ok fm => ⟨⟨fm.1, fm.2, r.args, r.fuel, r.tasks⟩, 0, 0⟩
def resA : Except Nat AR → JR
  | .error l => ⟨JB0, l, 2⟩
  | .ok r => resN r (namesR r.wants r.funcs 0)
theorem readJ_res {bs : BS} (h : ¬ 131072 < bs.length) : readJ bs = resA (runR 1 (pieces 10 bs) AR0) := by
  unfold readJ
  rw [if_neg h]
  unfold readP resA
  cases runR 1 (pieces 10 bs) AR0 with
  | error l => rfl
  | ok r =>
    simp only
    unfold resN
    cases namesR r.wants r.funcs 0 with
    | error l => rfl
    | ok fm => rfl
theorem lt_none {t : WT} {a b c : Int} {s : Value} (h : ltC t = [.int .i64 a, .int .i64 b, .int .i64 c, s]) (ha : t.at_ = none) : b = -1 := by
  unfold ltC at h
  rw [ha] at h
  simp only at h
  injection h with _ h
  injection h with h _
  injection h with _ h
  exact h.symm
theorem lt_some {t : WT} {a b c : Int} {s : Value} {f i : Nat} (h : ltC t = [.int .i64 a, .int .i64 b, .int .i64 c, s]) (ha : t.at_ = some (f, i)) : b = f ∧ c = i := by
  unfold ltC at h
  rw [ha] at h
  simp only at h
  injection h with _ h
  injection h with h h2
  injection h with _ h
  injection h2 with h2 _
  injection h2 with _ h2
  exact ⟨h.symm, h2.symm⟩
theorem names_none {t : WT} {ts : List WT} {fs : List FN} {m : Int} {k : Nat} {res : Except Nat (List FN × Int)} (h : namesR (t :: ts) fs m = res) (hf : findF fs t.name = some k) (ha : t.at_ = none) : namesR ts fs (k : Int) = res := by
  unfold namesR at h
  rw [hf] at h
  simp only [ha] at h
  exact h
theorem names_some {t : WT} {ts : List WT} {fs : List FN} {m : Int} {k f i : Nat} {res : Except Nat (List FN × Int)} (h : namesR (t :: ts) fs m = res) (hf : findF fs t.name = some k) (ha : t.at_ = some (f, i)) : namesR ts (setN fs f i k) m = res := by
  unfold namesR at h
  rw [hf] at h
  simp only [ha] at h
  exact h
theorem names_miss {t : WT} {ts : List WT} {fs : List FN} {m : Int} {res : Except Nat (List FN × Int)} (h : namesR (t :: ts) fs m = res) (hf : findF fs t.name = none) : res = .error t.line := by
  unfold namesR at h
  rw [hf] at h
  exact h.symm
theorem rread_ok {B R : Nat} {res : JR} {r : AR} {m : Int} {fs : List FN} {fv av wv : Value} {ps : List (FN × Value)} {cs : List Value} {w wr w' : World} {e : Ending} (hres : res = ⟨⟨fs, m, r.args, r.fuel, r.tasks⟩, 0, 0⟩) (h : RfAt B R m { r with funcs := fs } fv av wv ps wr) (hZ : Blk wr w.heap.size 25 cs) (k : Keep [w.heap.size] wr w') (hK : Below w.heap.size w wr) (hs : w.heap.size ≤ wr.heap.size) (he : e = .returned (.tuple #[.agg #[fv, .int .i64 m, av, .int .i64 r.fuel, .int .i64 r.tasks], .int .i64 0, .int .i64 0])) : RReadPost res w e w' := by
  subst hres
  refine ⟨keep_of_below (Keep.below hK k hs (fun y hy => by rw [List.mem_singleton.1 hy]; exact Nat.le_refl _)), _, he, fv, av, rfl, ?_, ?_⟩
  · have h1 := (h.fns.blk hZ (by decide) (by decide) k).reads
    have h2 := h.fs
    simp only at h2
    rw [← h2] at h1
    exact h1
  · exact ints_of_off (h.args.keep k (fun g hg hx => own_apart h.args hZ (by decide) (by rw [← List.mem_singleton.1 hx]; exact mem_ownD.2 hg)))
end Go.Proofs.YtbdkmfcgnolihaaGreatDoor
namespace Go.Proofs.YtbdkmfcgnolihaaGreatDoor
set_option linter.unusedSimpArgs false
set_option linter.unnecessarySimpa false
set_option linter.unusedVariables false
open Go.RowKit
set_option maxHeartbeats 25600000 in
set_option maxRecDepth 100000 in
theorem rread_spec {w : World} (bs : BS) (hl : bs.length ≤ 1000000000) : Calls Tryz.prog 19 #[.string (strB bs)] w (RReadPost (readJ bs) w) := by
  have es : (strB bs).size = bs.length := strB_size bs
  obtain ⟨res, hres⟩ : ∃ res, res = readJ bs := ⟨_, rfl⟩
  rw [← hres]
  have kA : Keep [] w (w.alloc (.cells #[.slice none 0 0, .int .i64 0, .slice none 0 0, .int .i64 0, .int .i64 0] 25)) := (Keep.refl _ _).alloc _
  have bA : Blk (w.alloc (.cells #[.slice none 0 0, .int .i64 0, .slice none 0 0, .int .i64 0, .int .i64 0] 25)) w.heap.size 25 zc5 := Blk.new' _ _ _ _ rfl
  by_cases hlong : 131072 < bs.length
  · have hlI : (131072 : Int) < (bs.length : Int) := by omega
    have HR := Lib.hid (show res = ⟨JB0, 0, 3⟩ by rw [hres]; unfold readJ; rw [if_pos hlong])
    have HA := Lib.hid (And.intro kA bA)
    clear hl hres hlong kA bA
    go_enter Tryz.func19, Tryz.ntmps19
    go_upto_region 1 with fail
    generalize (w.alloc (.cells #[.slice none 0 0, .int .i64 0, .slice none 0 0, .int .i64 0, .int .i64 0] 25)) = wA at *
    have g0 : wA.cell? ⟨w.heap.size, 0, none⟩ = some (.slice none 0 0) := HA.out.2.cell 0
    have g1 : wA.cell? ⟨w.heap.size, 1, none⟩ = some (.int .i64 0) := HA.out.2.cell 1
    have g2 : wA.cell? ⟨w.heap.size, 2, none⟩ = some (.slice none 0 0) := HA.out.2.cell 2
    have g3 : wA.cell? ⟨w.heap.size, 3, none⟩ = some (.int .i64 0) := HA.out.2.cell 3
    have g4 : wA.cell? ⟨w.heap.size, 4, none⟩ = some (.int .i64 0) := HA.out.2.cell 4
    have gf : ∀ i, wA.frozen? ⟨w.heap.size, i, none⟩ = false := fun i => HA.out.2.frozen i
    go_wp2
    have D := set5 HA.out.2 (.slice none 0 0) (.int .i64 0) (.slice none 0 0) (.int .i64 0) (.int .i64 0)
    have k5 := keep5 (w := wA) (g := w.heap.size) (.slice none 0 0) (.int .i64 0) (.slice none 0 0) (.int .i64 0) (.int .i64 0)
    have d0 := D.cell 0
    have d1 := D.cell 1
    have d2 := D.cell 2
    have d3 := D.cell 3
    have d4 := D.cell 4
    exact bodyPost_ret (v := .tuple #[.agg #[.slice none 0 0, .int .i64 0, .slice none 0 0, .int .i64 0, .int .i64 0], .int .i64 0, .int .i64 3]) (by simp [results, Tryz.results19, go_sem, d0, d1, d2, d3, d4]) rfl (rread_err (t := 25) (cs := []) (l := 0) HR.out HA.out.1.to_below k5 (HA.out.1.size) rfl)
  · have hlI : (bs.length : Int) ≤ 131072 := by omega
    have hl2 : bs.length ≤ 131072 := by omega
    obtain ⟨P, hP⟩ : ∃ P, P = pieces 10 bs := ⟨_, rfl⟩
    obtain ⟨RES, hRES⟩ : ∃ RES, RES = runR 1 P AR0 := ⟨_, rfl⟩
    have HRS := Lib.hid (show res = resA RES from by rw [hres, hRES, hP]; exact readJ_res hlong)
    have HLN := Lib.hid (rlines_spec (w.alloc (.cells #[.slice none 0 0, .int .i64 0, .slice none 0 0, .int .i64 0, .int .i64 0] 25)) bs (by omega))
    have HLO := Lib.hid (lines_of bs)
    have HPL := Lib.hid (fun p hp => pieces_short (c := 10) (s := bs) (p := p) hp)
    rw [← hP] at HLO HPL
    unfold LinesPost at HLN
    obtain ⟨L, hL⟩ : ∃ L, L = (linesL bs).1 := ⟨_, rfl⟩
    obtain ⟨wh, hwh⟩ : ∃ wh, wh = (linesL bs).2 := ⟨_, rfl⟩
    rw [← hL, ← hwh] at HLN HLO
    have hLl : L.length ≤ 131073 := by
      have h9 := pieces_len 10 bs
      rw [← hP] at h9
      cases hw : wh with
      | true =>
        have := HLO.out.whole hw
        rw [this, List.length_append] at h9
        simp at h9
        omega
      | false =>
        rw [(HLO.out.open_ hw).1] at h9
        omega
    have HA := Lib.hid (And.intro kA bA)
    have HRR := Lib.hid hRES
    have HL2 := Lib.hid hl2
    clear hl hlong kA bA hP hres hRES hL hwh hl2
    go_enter Tryz.func19, Tryz.ntmps19
    go_wp2_with fail
    refine HLN.out.mono ?_
    rintro e w2 ⟨hk2, lv, wb, rfl, hwb, hs⟩
    subst hwb
    obtain ⟨la, lc, rfl⟩ : ∃ a c, lv = .slice a L.length c := by obtain ⟨a, c, h, _⟩ := hs; exact ⟨a, c, h⟩
    have HK2 := Lib.hid (And.intro (HA.out.1.trans hk2 (by simp)) (HA.out.2.keep hk2 (by simp)))
    have k3 : Keep [] w2 (w2.alloc (.cells #[.slice none 0 0, .int .i64 0, .slice none 0 0, .int .i64 0, .int .i64 0, .slice none 0 0] 74)) := (Keep.refl _ _).alloc _
    have H0 : RfAt (w2.heap.size + 1) w2.heap.size 0 AR0 (.slice none 0 0) (.slice none 0 0) (.slice none 0 0) [] (w2.alloc (.cells #[.slice none 0 0, .int .i64 0, .slice none 0 0, .int .i64 0, .int .i64 0, .slice none 0 0] 74)) :=
      ⟨Blk.new' _ _ _ _ rfl, FnsAt.nil _ _, rfl, OwnsAt.nil _ _ _ _, OwnsAt.nil _ _ _ _, by omega, by simp⟩
    have HH := Lib.hid (And.intro k3 (And.intro H0 hs))
    clear hk2 k3 H0 hs HLN
    go_upto_region 5 with fail
    generalize (w2.alloc (.cells #[.slice none 0 0, .int .i64 0, .slice none 0 0, .int .i64 0, .int .i64 0, .slice none 0 0] 74)) = w3 at *
    have hRR : ∃ R, R = w2.heap.size := ⟨_, rfl⟩
    obtain ⟨R, hR⟩ := hRR
    rw [← hR] at HH ⊢
    have hwR : w.heap.size < R := by rw [hR]; exact HK2.out.2.lt
    have HST := Lib.hid (show ∀ wr, Below R w3 wr → StrsAt wr (.slice la L.length lc) L from fun wr hb => HH.out.2.2.below (below_tr (keep_below0 HH.out.1 (by rw [hR]; exact Nat.le_refl _)) hb) (by rw [hR]; exact Nat.le_refl _))
    have HZ := Lib.hid (show ∀ wr, Below R w3 wr → Blk wr w.heap.size 25 zc5 from fun wr hb => (HK2.out.2.keep HH.out.1 (by simp)).below hb hwR)
    have HBW := Lib.hid (show ∀ wr, Below R w3 wr → Below w.heap.size w wr from fun wr hb => below_tr (HK2.out.1.trans HH.out.1 (by simp)).to_below (below_mono hb (Nat.le_of_lt hwR)))
    have HZL := Lib.hid (show ∀ wr, Below R w3 wr → w.heap.size ≤ wr.heap.size from fun wr hb => Nat.le_trans (HK2.out.1.trans HH.out.1 (by simp)).size hb.size)
    have HS0 := Lib.hid (show LnAt P wb L.length RES R w3 0 false w3 from ⟨AR0, _, _, _, [], HH.out.2.1, AR0_ok, by simp [AR0], fun _ => rfl, Below.refl _ _, Nat.zero_le _, fun h => List.length_pos_iff.2 (HLO.out.open_ h).2.1, by show runR (0 + 1) (P.drop 0) AR0 = RES; rw [List.drop_zero]; exact HRR.out.symm⟩)
    have hLI : (L.length : Int) ≤ 131073 := by omega
    clear hR HH HA
    go_wp2_with fail
    go_loopw [8, 9, 10, 11] (fun ve vi _ _ wr => ∃ (i : Nat) (en : Bool), vi = .int .i64 i ∧ ve = .bool en ∧ LnAt P wb L.length RES R w3 i en wr) (fun _ vi _ _ _ => L.length - (intOf vi).toNat)
    case atStart => exact ⟨0, false, rfl, rfl, HS0.out⟩
    case round =>
      clear HS0
      obtain ⟨i, en, rfl, rfl, r, fv, av, wv, qs, hrf, hok, hwl, har, hbl, hin, hwn, hst⟩ := hrel
      have HX := Lib.hid (And.intro hrf (And.intro hok (And.intro hwl (And.intro har (And.intro hLl (And.intro hbl (And.intro hwn hst)))))))
      clear hrf hok hwl har hbl hwn hst
      by_cases hlt : i < L.length
      · have hltI : (i : Int) < (L.length : Int) := by omega
        have hi0 : (0 : Int) ≤ (i : Int) := by omega
        obtain ⟨x, hx⟩ := get_ex hlt
        obtain ⟨a', c', hv', hcells⟩ := HST.out wr HX.out.2.2.2.2.2.1
        injection hv' with e1 e2 e3
        subst e1
        obtain ⟨gl, offl, hla, _, c5⟩ := hcells i x hx
        subst hla
        have HXX := Lib.hid hx
        have HXL := Lib.hid (show x.length ≤ 131072 from by
          have hm : x ∈ P := List.mem_of_mem_drop (i := i) (by rw [HLO.out.at_ hx]; simp)
          have := HPL.out x hm
          have := HL2.out
          omega)
        obtain ⟨lb, hlb⟩ : ∃ lb : Bool, lb = decide (wb = false ∧ i + 1 = L.length) := ⟨_, rfl⟩
        have HLB := Lib.hid hlb
        clear hx hcells e3 hlb
        go_upto_region 9 with fail
        go_cut [10] from 32 to 40 (fun v10 wx => v10 = .bool lb ∧ wx = wr)
        case first =>
          cases wb with
          | true =>
            have hl9 : lb = false := by rw [HLB.out]; simp
            subst hl9
            go_wp2_with fail
            go_meet
            case rel => exact ⟨rfl, rfl⟩
          | false =>
            by_cases hla : i + 1 = L.length
            · have hl9 : lb = true := by rw [HLB.out]; simp [hla]
              have hB : ((i : Int) == (L.length : Int) - 1) = true := by simp; omega
              subst hl9
              clear hla
              go_wp2_with fail
              go_meet
              case rel => exact ⟨rfl, rfl⟩
            · have hl9 : lb = false := by rw [HLB.out]; simp [hla]
              have hB : ((i : Int) == (L.length : Int) - 1) = false := by simp; omega
              subst hl9
              clear hla
              go_wp2_with fail
              go_meet
              case rel => exact ⟨rfl, rfl⟩
        case rest =>
          obtain ⟨rfl, rfl⟩ := hcut
          cases en with
          | true =>
            have HRE := Lib.hid (show res = ⟨JB0, i + 1, 2⟩ by rw [HRS.out, st_after_end HLO.out HXX.out HX.out.2.2.2.2.2.2.2]; rfl)
            have hZ := HZ.out wc HX.out.2.2.2.2.2.1
            have g0 : wc.cell? ⟨w.heap.size, 0, none⟩ = some (.slice none 0 0) := hZ.cell 0
            have g1 : wc.cell? ⟨w.heap.size, 1, none⟩ = some (.int .i64 0) := hZ.cell 1
            have g2 : wc.cell? ⟨w.heap.size, 2, none⟩ = some (.slice none 0 0) := hZ.cell 2
            have g3 : wc.cell? ⟨w.heap.size, 3, none⟩ = some (.int .i64 0) := hZ.cell 3
            have g4 : wc.cell? ⟨w.heap.size, 4, none⟩ = some (.int .i64 0) := hZ.cell 4
            have gf : ∀ i, wc.frozen? ⟨w.heap.size, i, none⟩ = false := fun i => hZ.frozen i
            have HZZ := Lib.hid hZ
            clear hZ
            go_wp2
            have D := set5 HZZ.out (.slice none 0 0) (.int .i64 0) (.slice none 0 0) (.int .i64 0) (.int .i64 0)
            have k5 := keep5 (w := wc) (g := w.heap.size) (.slice none 0 0) (.int .i64 0) (.slice none 0 0) (.int .i64 0) (.int .i64 0)
            have d0 := D.cell 0
            have d1 := D.cell 1
            have d2 := D.cell 2
            have d3 := D.cell 3
            have d4 := D.cell 4
            exact bodyPost_ret (v := .tuple #[.agg #[.slice none 0 0, .int .i64 0, .slice none 0 0, .int .i64 0, .int .i64 0], .int .i64 (i + 1), .int .i64 2]) (by simp [results, Tryz.results19, go_sem, d0, d1, d2, d3, d4]) rfl (rread_err (t := 25) (cs := []) HRE.out (HBW.out _ HX.out.2.2.2.2.2.1) k5 (HZL.out _ HX.out.2.2.2.2.2.1) rfl)
          | false =>
            cases lb with
            | true =>
              have HRE := Lib.hid (show res = ⟨JB0, i + 1, 2⟩ by
                have h9 := of_decide_eq_true HLB.out.symm
                rw [HRS.out, st_last HLO.out HXX.out h9.1 h9.2 HX.out.2.2.2.2.2.2.2]; rfl)
              have hZ := HZ.out wc HX.out.2.2.2.2.2.1
              have g0 : wc.cell? ⟨w.heap.size, 0, none⟩ = some (.slice none 0 0) := hZ.cell 0
              have g1 : wc.cell? ⟨w.heap.size, 1, none⟩ = some (.int .i64 0) := hZ.cell 1
              have g2 : wc.cell? ⟨w.heap.size, 2, none⟩ = some (.slice none 0 0) := hZ.cell 2
              have g3 : wc.cell? ⟨w.heap.size, 3, none⟩ = some (.int .i64 0) := hZ.cell 3
              have g4 : wc.cell? ⟨w.heap.size, 4, none⟩ = some (.int .i64 0) := hZ.cell 4
              have gf : ∀ i, wc.frozen? ⟨w.heap.size, i, none⟩ = false := fun i => hZ.frozen i
              have HZZ := Lib.hid hZ
              clear hZ
              go_wp2
              have D := set5 HZZ.out (.slice none 0 0) (.int .i64 0) (.slice none 0 0) (.int .i64 0) (.int .i64 0)
              have k5 := keep5 (w := wc) (g := w.heap.size) (.slice none 0 0) (.int .i64 0) (.slice none 0 0) (.int .i64 0) (.int .i64 0)
              have d0 := D.cell 0
              have d1 := D.cell 1
              have d2 := D.cell 2
              have d3 := D.cell 3
              have d4 := D.cell 4
              exact bodyPost_ret (v := .tuple #[.agg #[.slice none 0 0, .int .i64 0, .slice none 0 0, .int .i64 0, .int .i64 0], .int .i64 (i + 1), .int .i64 2]) (by simp [results, Tryz.results19, go_sem, d0, d1, d2, d3, d4]) rfl (rread_err (t := 25) (cs := []) HRE.out (HBW.out _ HX.out.2.2.2.2.2.1) k5 (HZL.out _ HX.out.2.2.2.2.2.1) rfl)
            | false =>
              have HLL := Lib.hid (show wb = true ∨ i + 1 < L.length from by
                have h9 := of_decide_eq_false HLB.out.symm
                cases wb with
                | true => exact Or.inl rfl
                | false => exact Or.inr (by have : i + 1 ≠ L.length := fun h => h9 ⟨rfl, h⟩; omega))
              by_cases h2 : 2 ≤ i
              · have h2B : decide ((2 : Int) ≤ (i : Int)) = true := decide_eq_true (by omega)
                by_cases he : x = wEnd
                · have hq : ((strB x).toList == [101, 110, 100]) = true := by rw [he, strB_toList]; rfl
                  have HN := Lib.hid (show LnAt P wb L.length RES R w3 (i + 1) true wc from ⟨r, fv, av, wv, qs, HX.out.1, HX.out.2.1, by have := HX.out.2.2.1; omega, fun h => absurd h (by omega), HX.out.2.2.2.2.2.1, by omega, fun h => by rcases HLL.out with h9 | h9; (rw [h9] at h; cases h); exact h9, st_end HLO.out HXX.out HLL.out h2 he HX.out.2.2.2.2.2.2.2⟩)
                  clear he h2
                  go_wp2
                  go_roundw
                  case rel => exact ⟨i + 1, true, by go_num, rfl, HN.out⟩
                  case measure => simp [intOf]; omega
                · have hq : ((strB x).toList == [101, 110, 100]) = false := by rw [strB_toList]; exact beq_eq_false_iff_ne.2 he
                  have HS2 := Lib.hid (st_line HLO.out HXX.out HLL.out (fun h => he h.2) HX.out.2.2.2.2.2.2.2)
                  clear he h2
                  go_wp2_with fail
                  refine (rline_spec (no := i + 1) HX.out.1 HX.out.2.1 (by have := HX.out.2.2.1; have := HX.out.2.2.2.2.1; omega) (by omega) (fun h => HX.out.2.2.2.1 (by omega)) x (by have := HXL.out; omega)).mono ?_
                  intro e w5 hpost
                  cases hln : lineR (i + 1) x r with
                  | none =>
                    rw [hln] at hpost
                    obtain ⟨rfl, hb5⟩ := hpost
                    have HRE := Lib.hid (show res = ⟨JB0, i + 1, 2⟩ by rw [HRS.out, HS2.out.1 hln]; rfl)
                    have HB5 := Lib.hid (below_tr HX.out.2.2.2.2.2.1 hb5)
                    clear hln hb5
                    have hZ := HZ.out w5 HB5.out
                    have g0 : w5.cell? ⟨w.heap.size, 0, none⟩ = some (.slice none 0 0) := hZ.cell 0
                    have g1 : w5.cell? ⟨w.heap.size, 1, none⟩ = some (.int .i64 0) := hZ.cell 1
                    have g2 : w5.cell? ⟨w.heap.size, 2, none⟩ = some (.slice none 0 0) := hZ.cell 2
                    have g3 : w5.cell? ⟨w.heap.size, 3, none⟩ = some (.int .i64 0) := hZ.cell 3
                    have g4 : w5.cell? ⟨w.heap.size, 4, none⟩ = some (.int .i64 0) := hZ.cell 4
                    have gf : ∀ i, w5.frozen? ⟨w.heap.size, i, none⟩ = false := fun i => hZ.frozen i
                    have HZZ := Lib.hid hZ
                    clear hZ
                    go_wp2
                    have D := set5 HZZ.out (.slice none 0 0) (.int .i64 0) (.slice none 0 0) (.int .i64 0) (.int .i64 0)
                    have k5 := keep5 (w := w5) (g := w.heap.size) (.slice none 0 0) (.int .i64 0) (.slice none 0 0) (.int .i64 0) (.int .i64 0)
                    have d0 := D.cell 0
                    have d1 := D.cell 1
                    have d2 := D.cell 2
                    have d3 := D.cell 3
                    have d4 := D.cell 4
                    exact bodyPost_ret (v := .tuple #[.agg #[.slice none 0 0, .int .i64 0, .slice none 0 0, .int .i64 0, .int .i64 0], .int .i64 (i + 1), .int .i64 2]) (by simp [results, Tryz.results19, go_sem, d0, d1, d2, d3, d4]) rfl (rread_err (t := 25) (cs := []) HRE.out (HBW.out _ HB5.out) k5 (HZL.out _ HB5.out) rfl)
                  | some r2 =>
                    rw [hln] at hpost
                    obtain ⟨rfl, hb5, fv5, av5, wv5, qs5, hrf5⟩ := hpost
                    have HB5 := Lib.hid (below_tr HX.out.2.2.2.2.2.1 hb5)
                    have hlk := line_ok hln HX.out.2.1
                    have hja : i + 1 ≤ 1 → r2.args = [] := fun h => by
                      have e0 : i = 0 := by omega
                      have h9 := hln
                      rw [e0] at h9
                      rw [job_args h9]
                      exact HX.out.2.2.2.1 (by omega)
                    have HN := Lib.hid (show LnAt P wb L.length RES R w3 (i + 1) false w5 from ⟨r2, fv5, av5, wv5, qs5, hrf5, hlk.1, by have := HX.out.2.2.1; omega, hja, HB5.out, by omega, fun h => by rcases HLL.out with h9 | h9; (rw [h9] at h; cases h); exact h9, HS2.out.2 r2 hln⟩)
                    clear hln hb5 hrf5 hlk hja
                    go_wp2
                    go_roundw
                    case rel => exact ⟨i + 1, false, by go_num, rfl, HN.out⟩
                    case measure => simp [intOf]; omega
              · have h2B : decide ((2 : Int) ≤ (i : Int)) = false := decide_eq_false (by omega)
                have HS2 := Lib.hid (st_line HLO.out HXX.out HLL.out (fun h => h2 h.1) HX.out.2.2.2.2.2.2.2)
                clear h2
                go_wp2_with fail
                refine (rline_spec (no := i + 1) HX.out.1 HX.out.2.1 (by have := HX.out.2.2.1; have := HX.out.2.2.2.2.1; omega) (by omega) (fun h => HX.out.2.2.2.1 (by omega)) x (by have := HXL.out; omega)).mono ?_
                intro e w5 hpost
                cases hln : lineR (i + 1) x r with
                | none =>
                  rw [hln] at hpost
                  obtain ⟨rfl, hb5⟩ := hpost
                  have HRE := Lib.hid (show res = ⟨JB0, i + 1, 2⟩ by rw [HRS.out, HS2.out.1 hln]; rfl)
                  have HB5 := Lib.hid (below_tr HX.out.2.2.2.2.2.1 hb5)
                  clear hln hb5
                  have hZ := HZ.out w5 HB5.out
                  have g0 : w5.cell? ⟨w.heap.size, 0, none⟩ = some (.slice none 0 0) := hZ.cell 0
                  have g1 : w5.cell? ⟨w.heap.size, 1, none⟩ = some (.int .i64 0) := hZ.cell 1
                  have g2 : w5.cell? ⟨w.heap.size, 2, none⟩ = some (.slice none 0 0) := hZ.cell 2
                  have g3 : w5.cell? ⟨w.heap.size, 3, none⟩ = some (.int .i64 0) := hZ.cell 3
                  have g4 : w5.cell? ⟨w.heap.size, 4, none⟩ = some (.int .i64 0) := hZ.cell 4
                  have gf : ∀ i, w5.frozen? ⟨w.heap.size, i, none⟩ = false := fun i => hZ.frozen i
                  have HZZ := Lib.hid hZ
                  clear hZ
                  go_wp2
                  have D := set5 HZZ.out (.slice none 0 0) (.int .i64 0) (.slice none 0 0) (.int .i64 0) (.int .i64 0)
                  have k5 := keep5 (w := w5) (g := w.heap.size) (.slice none 0 0) (.int .i64 0) (.slice none 0 0) (.int .i64 0) (.int .i64 0)
                  have d0 := D.cell 0
                  have d1 := D.cell 1
                  have d2 := D.cell 2
                  have d3 := D.cell 3
                  have d4 := D.cell 4
                  exact bodyPost_ret (v := .tuple #[.agg #[.slice none 0 0, .int .i64 0, .slice none 0 0, .int .i64 0, .int .i64 0], .int .i64 (i + 1), .int .i64 2]) (by simp [results, Tryz.results19, go_sem, d0, d1, d2, d3, d4]) rfl (rread_err (t := 25) (cs := []) HRE.out (HBW.out _ HB5.out) k5 (HZL.out _ HB5.out) rfl)
                | some r2 =>
                  rw [hln] at hpost
                  obtain ⟨rfl, hb5, fv5, av5, wv5, qs5, hrf5⟩ := hpost
                  have HB5 := Lib.hid (below_tr HX.out.2.2.2.2.2.1 hb5)
                  have hlk := line_ok hln HX.out.2.1
                  have hja : i + 1 ≤ 1 → r2.args = [] := fun h => by
                    have e0 : i = 0 := by omega
                    have h9 := hln
                    rw [e0] at h9
                    rw [job_args h9]
                    exact HX.out.2.2.2.1 (by omega)
                  have HN := Lib.hid (show LnAt P wb L.length RES R w3 (i + 1) false w5 from ⟨r2, fv5, av5, wv5, qs5, hrf5, hlk.1, by have := HX.out.2.2.1; omega, hja, HB5.out, by omega, fun h => by rcases HLL.out with h9 | h9; (rw [h9] at h; cases h); exact h9, HS2.out.2 r2 hln⟩)
                  clear hln hb5 hrf5 hlk hja
                  go_wp2
                  go_roundw
                  case rel => exact ⟨i + 1, false, by go_num, rfl, HN.out⟩
                  case measure => simp [intOf]; omega
      · obtain rfl : i = L.length := by omega
        have hwt : wb = true := by
          cases h : wb with
          | true => rfl
          | false => exact absurd (HX.out.2.2.2.2.2.2.1 h) (by omega)
        subst hwt
        have hdn := st_done HLO.out en HX.out.2.2.2.2.2.2.2
        cases en with
        | false =>
          have HRE := Lib.hid (show res = ⟨JB0, L.length + 1, 2⟩ by rw [HRS.out, hdn]; rfl)
          clear hdn
          have hZ := HZ.out wr HX.out.2.2.2.2.2.1
          have g0 : wr.cell? ⟨w.heap.size, 0, none⟩ = some (.slice none 0 0) := hZ.cell 0
          have g1 : wr.cell? ⟨w.heap.size, 1, none⟩ = some (.int .i64 0) := hZ.cell 1
          have g2 : wr.cell? ⟨w.heap.size, 2, none⟩ = some (.slice none 0 0) := hZ.cell 2
          have g3 : wr.cell? ⟨w.heap.size, 3, none⟩ = some (.int .i64 0) := hZ.cell 3
          have g4 : wr.cell? ⟨w.heap.size, 4, none⟩ = some (.int .i64 0) := hZ.cell 4
          have gf : ∀ i, wr.frozen? ⟨w.heap.size, i, none⟩ = false := fun i => hZ.frozen i
          have HZZ := Lib.hid hZ
          clear hZ
          go_wp2
          have D := set5 HZZ.out (.slice none 0 0) (.int .i64 0) (.slice none 0 0) (.int .i64 0) (.int .i64 0)
          have k5 := keep5 (w := wr) (g := w.heap.size) (.slice none 0 0) (.int .i64 0) (.slice none 0 0) (.int .i64 0) (.int .i64 0)
          have d0 := D.cell 0
          have d1 := D.cell 1
          have d2 := D.cell 2
          have d3 := D.cell 3
          have d4 := D.cell 4
          exact bodyPost_ret (v := .tuple #[.agg #[.slice none 0 0, .int .i64 0, .slice none 0 0, .int .i64 0, .int .i64 0], .int .i64 (L.length + 1), .int .i64 2]) (by simp [results, Tryz.results19, go_sem, d0, d1, d2, d3, d4]) rfl (rread_err (t := 25) (cs := []) HRE.out (HBW.out _ HX.out.2.2.2.2.2.1) k5 (HZL.out _ HX.out.2.2.2.2.2.1) rfl)
        | true =>
          have hrr : RES = .ok r := by rw [hdn]; rfl
          have HWIN := Lib.hid (run_win P 1 AR0 r (by rw [← HRR.out]; exact hrr) WIn0)
          obtain ⟨RES2, hRES2⟩ : ∃ RES2, RES2 = namesR r.wants r.funcs 0 := ⟨_, rfl⟩
          have HR2 := Lib.hid (show res = resN r RES2 from by rw [HRS.out, hrr, hRES2]; rfl)
          obtain ⟨aw, cw, hwv⟩ := HX.out.1.wants.shape
          subst hwv
          have HS0 := Lib.hid (show NmAt R r RES2 w3 aw cw 0 wr from ⟨0, r.funcs, fv, av, qs, by omega, HX.out.1, HX.out.2.2.2.2.2.1, HX.out.2.1, HWIN.out, by rw [List.drop_zero]; exact hRES2.symm⟩)
          have hwl : r.wants.length ≤ 131073 := by have := HX.out.2.2.1; omega
          have z5 : wr.cell? ⟨R, 5, none⟩ = some (.slice aw r.wants.length cw) := HX.out.1.blk.cell 5
          clear hdn hrr hRES2
          go_wp2_with fail
          clear z5
          go_loopw [12, 13, 14] (fun vt _ _ wr2 => ∃ t : Nat, vt = .int .i64 t ∧ NmAt R r RES2 w3 aw cw t wr2) (fun vt _ _ _ => r.wants.length - (intOf vt).toNat)
          case atStart => exact ⟨0, rfl, HS0.out⟩
          case round =>
            clear HS0
            obtain ⟨t, rfl, m, fs, fv2, av2, ps, h1, h2, h3, h4, h5, h6⟩ := hrel
            have z5 : wr.cell? ⟨R, 5, none⟩ = some (.slice aw r.wants.length cw) := h2.blk.cell 5
            by_cases hlt : t < r.wants.length
            · have hltI : (t : Int) < (r.wants.length : Int) := by omega
              have htI : (t : Int) ≤ 131073 := by omega
              have ht0 : (0 : Int) ≤ (t : Int) := by omega
              obtain ⟨wt, hwt⟩ := get_ex hlt
              obtain ⟨gw, offw, hgw1, hgw, hcw⟩ := late_cells h2.wants hwt
              subst hgw1
              rw [drop_at hwt] at h6
              obtain ⟨fI, iI, hfi⟩ : ∃ fI iI : Int, ltC wt = [.int .i64 wt.line, .int .i64 fI, .int .i64 iI, .string (strB wt.name)] := by
                unfold ltC
                split <;> exact ⟨_, _, rfl⟩
              have c0 : wr.cell? ⟨gw, offw + t * 4, none⟩ = some (.int .i64 wt.line) := hcw 0 _ (by rw [hfi]; rfl)
              have c1 : wr.cell? ⟨gw, offw + t * 4 + 1, none⟩ = some (.int .i64 fI) := hcw 1 _ (by rw [hfi]; rfl)
              have c2 : wr.cell? ⟨gw, offw + t * 4 + 2, none⟩ = some (.int .i64 iI) := hcw 2 _ (by rw [hfi]; rfl)
              have c3 : wr.cell? ⟨gw, offw + t * 4 + 3, none⟩ = some (.string (strB wt.name)) := hcw 3 _ (by rw [hfi]; rfl)
              have kb : Keep [] wr (wr.alloc (.cells #[.int .i64 wt.line, .int .i64 fI, .int .i64 iI, .string (strB wt.name)] 77)) := (Keep.refl _ _).alloc _
              have bb : Blk (wr.alloc (.cells #[.int .i64 wt.line, .int .i64 fI, .int .i64 iI, .string (strB wt.name)] 77)) wr.heap.size 77 [.int .i64 wt.line, .int .i64 fI, .int .i64 iI, .string (strB wt.name)] := Blk.new' _ _ _ _ rfl
              have HG := Lib.hid (And.intro h2 (And.intro h3 (And.intro h4 (And.intro h5 (And.intro h6 (And.intro (List.mem_of_getElem? hwt) hfi))))))
              have HB := Lib.hid (And.intro kb bb)
              have HGX := Lib.hid (HZ.out wr h3).lt
              have HB4 := Lib.hid (below_tr h3 (keep_below0 kb (Nat.le_trans (Nat.le_of_lt h2.lt) h2.base)))
              clear h1 h2 h3 h4 h5 h6 hcw hgw hfi kb bb hwt
              go_upto_region 23 with fail
              clear c0 c1 c2 c3 z5
              generalize (wr.alloc (.cells #[.int .i64 wt.line, .int .i64 fI, .int .i64 iI, .string (strB wt.name)] 77)) = w4 at *
              generalize wr.heap.size = gx at *
              have H4 := Lib.hid (And.intro (HG.out.1.keep0 HB.out.1) HB4.out)
              obtain ⟨fa, fc, hfv⟩ := H4.out.1.fns.own.shape
              subst hfv
              have hps : ps.length ≤ 32 := by have h9 := HG.out.2.2.1.few; have h8 := HG.out.1.fs; simp only at h9 h8; rw [h8, List.length_map] at h9; exact h9
              have hpsI : (ps.length : Int) ≤ 32 := by omega
              have HFL := Lib.hid (show fs.length = ps.length from by have h8 := HG.out.1.fs; simp only at h8; rw [h8, List.length_map])
              have HFS := Lib.hid (show fs = ps.map Prod.fst from HG.out.1.fs)
              have z0 : w4.cell? ⟨R, 0, none⟩ = some (.slice fa ps.length fc) := H4.out.1.blk.cell 0
              have b3 : w4.cell? ⟨gx, 3, none⟩ = some (.string (strB wt.name)) := HB.out.2.cell 3
              go_wp2_with fail
              go_loopw [14] (fun vq wq => ∃ q : Nat, q ≤ ps.length ∧ vq = .int .i64 q ∧ (∀ (j : Nat) (g : FN), j < q → fs[j]? = some g → g.name ≠ wt.name) ∧ Keep [] w4 wq) (fun vq _ => ps.length - (intOf vq).toNat)
              case atStart => exact ⟨0, Nat.zero_le _, rfl, fun j g hj => absurd hj (by omega), Keep.refl _ _⟩
              case round =>
                obtain ⟨q, hq, rfl, hno, hkq⟩ := hrel
                have z0' := cell_keep0 hkq z0
                have b3' := cell_keep0 hkq b3
                have HQ := Lib.hid (And.intro hno hkq)
                clear hno hkq z0 b3
                by_cases hlq : q < ps.length
                · have hlqB : decide ((q : Int) < (ps.length : Int)) = true := decide_eq_true (by omega)
                  have hlqI : (q : Int) < (ps.length : Int) := by omega
                  have hq0 : (0 : Int) ≤ (q : Int) := by omega
                  obtain ⟨⟨f, cv⟩, hp⟩ := get_ex hlq
                  obtain ⟨g, off, cap, hv, hg, _, d0, _, _, _, _⟩ := (H4.out.1.keep0 HQ.out.2).fns.fn hp
                  injection hv with e1 e2 e3
                  subst e1
                  have HF := Lib.hid (show fs[q]? = some f by rw [HFS.out, List.getElem?_map, hp]; rfl)
                  clear hp e2 e3
                  by_cases he : f.name = wt.name
                  · have hqq : ((strB f.name).toList == (strB wt.name).toList) = true := by rw [he]; simp
                    have hqe : ((q : Int) == (ps.length : Int)) = false := by simp; omega
                    have HFD := Lib.hid (findF_hit HQ.out.1 HF.out he)
                    clear he
                    go_wp2
                    go_quiet (fail)
                    go_upto_region 28 with fail
                    have K6 := Lib.hid (HQ.out.2.drewN nq)
                    have hfr : wr.drewN nq = wr.drewN nq := rfl
                    clear hfr z0' b3' d0 hqq
                    generalize wr.drewN nq = w6 at *
                    have hR6 := H4.out.1.keep0 K6.out
                    have hb6 := below_tr H4.out.2 (keep_below0 K6.out (Nat.le_trans (Nat.le_of_lt H4.out.1.lt) H4.out.1.base))
                    have hbx := HB.out.2.keep K6.out (by simp)
                    have b1 : w6.cell? ⟨gx, 1, none⟩ = some (.int .i64 fI) := hbx.cell 1
                    have b2 : w6.cell? ⟨gx, 2, none⟩ = some (.int .i64 iI) := hbx.cell 2
                    have H6 := Lib.hid (And.intro hR6 hb6)
                    clear hR6 hb6 hbx
                    cases hat : wt.at_ with
                    | none =>
                      obtain rfl := lt_none HG.out.2.2.2.2.2.2 hat
                      have HNX := Lib.hid (names_none HG.out.2.2.2.2.1 HFD.out hat)
                      have zf : ∀ j, w6.frozen? ⟨R, j, none⟩ = false := fun j => H6.out.1.blk.frozen j
                      have z1 : w6.cell? ⟨R, 1, none⟩ = some (.int .i64 m) := H6.out.1.blk.cell 1
                      clear hat
                      go_wp2
                      go_roundw
                      case rel =>
                        have k1 : Keep [R] w6 (w6.setCell ⟨R, 1, none⟩ (.int .i64 (q : Int))) := (Keep.refl _ _).setCell (by simp) _
                        exact ⟨t + 1, by go_num, q, fs, _, av2, ps, by omega, H6.out.1.cells (r' := { r with funcs := fs }) k1 (H6.out.1.blk.set_ 1 _) rfl rfl rfl, below_tr H6.out.2 (keep_R k1 (Nat.le_trans (Nat.le_of_lt H6.out.1.lt) H6.out.1.base)), HG.out.2.2.1, HG.out.2.2.2.1, HNX.out⟩
                      case measure => simp [intOf]; omega
                    | some fi =>
                      obtain ⟨f0, i0⟩ := fi
                      obtain ⟨rfl, rfl⟩ := lt_some HG.out.2.2.2.2.2.2 hat
                      have HNX := Lib.hid (names_some HG.out.2.2.2.2.1 HFD.out hat)
                      obtain ⟨fn, hfn, hi0q⟩ := HG.out.2.2.2.1 wt HG.out.2.2.2.2.2.1 f0 i0 hat
                      have hfB : decide ((f0 : Int) < 0) = false := decide_eq_false (by omega)
                      have hf00 : (0 : Int) ≤ (f0 : Int) := by omega
                      have hi00 : (0 : Int) ≤ (i0 : Int) := by omega
                      simp only at hfn
                      rw [HFS.out, List.getElem?_map] at hfn
                      obtain ⟨⟨fn', cv'⟩, hp', he'⟩ := Option.map_eq_some_iff.1 hfn
                      simp only at he'
                      subst he'
                      obtain ⟨ac, cc, hcv⟩ := (H6.out.1.fns.code f0 _ hp').shape
                      simp only at hcv
                      subst hcv
                      obtain ⟨gc, offc, capc, hcv, _, _, _, hgc, _⟩ := (H6.out.1.fns.code f0 _ hp').form (by simp only; omega)
                      injection hcv with e1 e2 e3
                      subst e1
                      obtain ⟨x5, hx5⟩ := get_ex hi0q
                      obtain ⟨g5, off5, cap5, hv5, _, _, _, _, _, f3, hfl, _⟩ := H6.out.1.fns.fn hp'
                      injection hv5 with e4 e5 e6
                      injection e4 with e4
                      injection e4 with e4 e7
                      subst e4 e7
                      have z0 : w6.cell? ⟨R, 0, none⟩ = some (.slice (some ⟨g, off, none⟩) ps.length fc) := H6.out.1.blk.cell 0
                      have hflI : (f0 : Int) < (ps.length : Int) := by omega
                      have hqI : (i0 : Int) < (fn'.code.length : Int) := by omega
                      have gff : ∀ j, w6.frozen? ⟨gc, j, none⟩ = false := fun j => (H6.out.1.fns.code f0 _ hp').free j
                      have cq : w6.cell? ⟨gc, offc + i0 * 2 + 1, none⟩ = some (.int .i64 x5.n) := by
                        obtain ⟨b, o, hb, _, _, h9⟩ := (CodeRd.of_own (H6.out.1.fns.code f0 _ hp')).at_ hx5
                        injection hb with hb
                        injection hb with hb1 hb2
                        subst hb1 hb2
                        exact h9
                      have HN := Lib.hid (H6.out.1.num hp' hx5 (q : Int))
                      clear e2 e3 e5 e6 hgc hfl hp' hfn hx5 hi0q hat
                      go_wp2_with fail
                      go_region
                      all_goals
                        go_wp2
                        go_roundw
                        case rel =>
                          obtain ⟨ps', hRd, hK, hRg⟩ := HN.out
                          exact ⟨t + 1, by go_num, m, setN fs f0 i0 q, _, av2, ps', by omega, hRd.keep0 ((Keep.refl [] _).drew), below_tr H6.out.2 (keep_below_g hK hRg (Nat.le_trans (Nat.le_of_lt H6.out.1.lt) H6.out.1.base)), setN_ok (r := { r with funcs := fs }) HG.out.2.2.1, setN_win (r := { r with funcs := fs }) HG.out.2.2.2.1, HNX.out⟩
                        case measure => simp [intOf]; omega
                  · have hqq : ((strB f.name).toList == (strB wt.name).toList) = false := strB_ne he
                    have H9 := Lib.hid (show ∀ (j : Nat) (g : FN), j < q + 1 → fs[j]? = some g → g.name ≠ wt.name from fun j g hj hg => by
                      by_cases e : j = q
                      · subst e
                        rw [HF.out] at hg
                        cases hg
                        exact he
                      · exact HQ.out.1 j g (by omega) hg)
                    clear he
                    go_wp2
                    go_quiet (fail)
                    go_wp2
                    go_roundw
                    case rel => exact ⟨q + 1, by omega, by go_num, H9.out, HQ.out.2.drewN _⟩
                    case measure => simp [intOf]; omega
                · obtain rfl : q = ps.length := by omega
                  have hlqB : decide ((ps.length : Int) < (ps.length : Int)) = false := decide_eq_false (by omega)
                  have hres2 := names_miss HG.out.2.2.2.2.1 (findF_miss (fun j g hj hg => HQ.out.1 j g (by rw [← HFL.out]; exact hj) hg))
                  have HRE := Lib.hid (show res = ⟨JB0, wt.line, 2⟩ by rw [HR2.out, hres2]; rfl)
                  clear hres2
                  go_wp2
                  go_quiet (fail)
                  go_wp2_with fail
                  have K6 := Lib.hid (HQ.out.2.drewN nq)
                  clear z0' b3'
                  generalize wr.drewN nq = w6 at *
                  have HB6 := Lib.hid (below_tr H4.out.2 (keep_below0 K6.out (Nat.le_trans (Nat.le_of_lt H4.out.1.lt) H4.out.1.base)))
                  have hne1 : gx ≠ w.heap.size := by have := HGX.out; omega
                  have hne2 : w.heap.size ≠ gx := by have := HGX.out; omega
                  have b0 : w6.cell? ⟨gx, 0, none⟩ = some (.int .i64 wt.line) := (HB.out.2.keep K6.out (by simp)).cell 0
                  have hZ := HZ.out w6 HB6.out
                  have g0 : w6.cell? ⟨w.heap.size, 0, none⟩ = some (.slice none 0 0) := hZ.cell 0
                  have g1 : w6.cell? ⟨w.heap.size, 1, none⟩ = some (.int .i64 0) := hZ.cell 1
                  have g2 : w6.cell? ⟨w.heap.size, 2, none⟩ = some (.slice none 0 0) := hZ.cell 2
                  have g3 : w6.cell? ⟨w.heap.size, 3, none⟩ = some (.int .i64 0) := hZ.cell 3
                  have g4 : w6.cell? ⟨w.heap.size, 4, none⟩ = some (.int .i64 0) := hZ.cell 4
                  have gf : ∀ i, w6.frozen? ⟨w.heap.size, i, none⟩ = false := fun i => hZ.frozen i
                  have HZZ := Lib.hid hZ
                  clear hZ
                  go_region
                  all_goals
                    go_wp2
                    have D := set5 HZZ.out (.slice none 0 0) (.int .i64 0) (.slice none 0 0) (.int .i64 0) (.int .i64 0)
                    have k5 := keep5 (w := w6) (g := w.heap.size) (.slice none 0 0) (.int .i64 0) (.slice none 0 0) (.int .i64 0) (.int .i64 0)
                    have d0 := D.cell 0
                    have d1 := D.cell 1
                    have d2 := D.cell 2
                    have d3 := D.cell 3
                    have d4 := D.cell 4
                    first
                      | exact bodyPost_ret (v := .tuple #[.agg #[.slice none 0 0, .int .i64 0, .slice none 0 0, .int .i64 0, .int .i64 0], .int .i64 wt.line, .int .i64 2]) (by simp [results, Tryz.results19, go_sem, d0, d1, d2, d3, d4]) rfl (rread_err (t := 25) (cs := []) HRE.out (HBW.out _ HB6.out) k5 (HZL.out _ HB6.out) rfl)
                      | exact bodyPost_ret (v := .tuple #[.agg #[.slice none 0 0, .int .i64 0, .slice none 0 0, .int .i64 0, .int .i64 0], .int .i64 wt.line, .int .i64 2]) (by simp [results, Tryz.results19, go_sem, d0, d1, d2, d3, d4]) rfl (rread_err (t := 25) (cs := []) HRE.out (HBW.out _ HB6.out) k5.drew (HZL.out _ HB6.out) rfl)
            · obtain rfl : t = r.wants.length := by omega
              rw [List.drop_length] at h6
              have HRE := Lib.hid (show res = ⟨⟨fs, m, r.args, r.fuel, r.tasks⟩, 0, 0⟩ by rw [HR2.out, ← h6]; rfl)
              have HE := Lib.hid (And.intro h2 h3)
              obtain ⟨fa, fc, hfv⟩ := h2.fns.own.shape
              subst hfv
              obtain ⟨aa, ac, hav⟩ := h2.args.shape
              simp only at hav
              subst hav
              have zb := h2.blk
              have y0 : wr.cell? ⟨R, 0, none⟩ = some (.slice fa ps.length fc) := zb.cell 0
              have y1 : wr.cell? ⟨R, 1, none⟩ = some (.int .i64 m) := zb.cell 1
              have y2 : wr.cell? ⟨R, 2, none⟩ = some (.slice aa r.args.length ac) := zb.cell 2
              have y3 : wr.cell? ⟨R, 3, none⟩ = some (.int .i64 r.fuel) := zb.cell 3
              have y4 : wr.cell? ⟨R, 4, none⟩ = some (.int .i64 r.tasks) := zb.cell 4
              clear h1 h2 h3 h4 h5 h6 zb
              have hZ := HZ.out wr HE.out.2
              have g0 : wr.cell? ⟨w.heap.size, 0, none⟩ = some (.slice none 0 0) := hZ.cell 0
              have g1 : wr.cell? ⟨w.heap.size, 1, none⟩ = some (.int .i64 0) := hZ.cell 1
              have g2 : wr.cell? ⟨w.heap.size, 2, none⟩ = some (.slice none 0 0) := hZ.cell 2
              have g3 : wr.cell? ⟨w.heap.size, 3, none⟩ = some (.int .i64 0) := hZ.cell 3
              have g4 : wr.cell? ⟨w.heap.size, 4, none⟩ = some (.int .i64 0) := hZ.cell 4
              have gf : ∀ i, wr.frozen? ⟨w.heap.size, i, none⟩ = false := fun i => hZ.frozen i
              have HZZ := Lib.hid hZ
              clear hZ
              go_wp2
              have D := set5 HZZ.out (.slice fa ps.length fc) (.int .i64 m) (.slice aa r.args.length ac) (.int .i64 r.fuel) (.int .i64 r.tasks)
              have k5 := keep5 (w := wr) (g := w.heap.size) (.slice fa ps.length fc) (.int .i64 m) (.slice aa r.args.length ac) (.int .i64 r.fuel) (.int .i64 r.tasks)
              have d0 := D.cell 0
              have d1 := D.cell 1
              have d2 := D.cell 2
              have d3 := D.cell 3
              have d4 := D.cell 4
              exact bodyPost_ret (v := .tuple #[.agg #[.slice fa ps.length fc, .int .i64 m, .slice aa r.args.length ac, .int .i64 r.fuel, .int .i64 r.tasks], .int .i64 0, .int .i64 0]) (by simp [results, Tryz.results19, go_sem, d0, d1, d2, d3, d4]) rfl (rread_ok HRE.out HE.out.1 HZZ.out k5 (HBW.out _ HE.out.2) (HZL.out _ HE.out.2) rfl)
end Go.Proofs.YtbdkmfcgnolihaaGreatDoor
