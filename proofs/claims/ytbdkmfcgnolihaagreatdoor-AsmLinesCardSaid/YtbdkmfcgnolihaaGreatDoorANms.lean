/- asm: the names are found. -/
import Derived.Test.YtbdkmfcgnolihaaGreatDoorRows
import Derived.WalkKit
import Derived.WalkSpells
import Derived.WalkLawsBesides
import Derived.RegionTactic
import Derived.ChangeAlike
import Derived.BigQuiet
import Derived.Deep.QuietTactic
import Derived.StillTailTactics
import Derived.IntWalk
import Derived.Handy
import Derived.Lib.Hide
import Derived.Deep.AppendLies
import Derived.Deep.RegionWith
import Derived.Test.YtbdkmfcgnolihaaGreatDoorBase
import Derived.Test.YtbdkmfcgnolihaaGreatDoorTail
import Derived.Test.YtbdkmfcgnolihaaGreatDoorArgs
import Derived.Test.YtbdkmfcgnolihaaGreatDoorAppend
import Derived.Test.YtbdkmfcgnolihaaGreatDoorOffs
import Derived.Test.YtbdkmfcgnolihaaGreatDoorStructs
import Derived.Carry
import Derived.Deep.RegionHeld3
import Derived.BigRegion
import Derived.Maps.OwnSet
import Derived.Maps.Views
import Derived.Maps.StringElems
import Derived.Test.YtbdkmfcgnolihaaGreatDoorMaps2
import Derived.Deep.CutRange
import Derived.Deep.CutBlock
import Derived.Test.YtbdkmfcgnolihaaGreatDoorALns
namespace Go.Proofs.YtbdkmfcgnolihaaGreatDoor
set_option linter.unusedSimpArgs false
set_option linter.unnecessarySimpa false
set_option linter.unusedVariables false
open Go.RowKit
/-! ### plain: the wants name instructions that there are -/
def WIn (r : AR) : Prop := ∀ t ∈ r.wants, ∀ f i, t.at_ = some (f, i) → ∃ g, r.funcs[f]? = some g ∧ i < g.code.length
theorem WIn.grow {r r' : AR} (h : WIn r) (hw : r'.wants = r.wants) (hg : ∀ (f : Nat) (g : FN), r.funcs[f]? = some g → ∃ g', r'.funcs[f]? = some g' ∧ g.code.length ≤ g'.code.length) : WIn r' := by
  intro t ht f i ha
  rw [hw] at ht
  obtain ⟨g, h1, h2⟩ := h t ht f i ha
  obtain ⟨g', h3, h4⟩ := hg f g h1
  exact ⟨g', h3, by omega⟩
theorem addI_grow {fs : List FN} {i : IN} (f : Nat) (g : FN) (h : fs[f]? = some g) : ∃ g', (addI fs i)[f]? = some g' ∧ g.code.length ≤ g'.code.length := by
  unfold addI
  rw [List.getElem?_modify, h]
  refine ⟨_, rfl, ?_⟩
  show _ ≤ (if fs.length - 1 = f then { g with code := g.code ++ [i] } else g).code.length
  split <;> simp
theorem line_win {no : Nat} {l : BS} {r r' : AR} (h : lineR no l r = some r') (hr : WIn r) : WIn r' := by
  have same : ∀ (f : Nat) (g : FN), r.funcs[f]? = some g → ∃ g', r.funcs[f]? = some g' ∧ g.code.length ≤ g'.code.length := fun f g hg => ⟨g, hg, Nat.le_refl _⟩
  unfold lineR at h
  split at h
  · unfold jobR at h
    split at h
    · split at h
      · split at h
        · cases h; exact hr.grow rfl same
        · cases h
      · cases h
    · cases h
  split at h
  · unfold mainR at h
    split at h
    · split at h
      · split at h
        · cases h
          intro t ht f i ha
          rcases List.mem_append.1 ht with ht | ht
          · exact hr t ht f i ha
          · rw [List.mem_singleton.1 ht] at ha
            cases ha
        · cases h
      · cases h
    · cases h
  split at h
  · unfold insR at h
    split at h
    · cases h
    rename_i hc
    have hne : r.funcs ≠ [] := fun e => hc (Or.inl e)
    split at h
    · split at h
      · split at h
        · cases h
        · cases h; exact hr.grow rfl (fun f g hg => addI_grow f g hg)
      · cases h
    · split at h
      · split at h
        · cases h
        split at h
        · split at h
          · cases h
            intro t ht f i ha
            rcases List.mem_append.1 ht with ht | ht
            · obtain ⟨g, h1, h2⟩ := hr t ht f i ha
              obtain ⟨g', h3, h4⟩ := addI_grow (i := ⟨16, 0⟩) f g h1
              exact ⟨g', h3, by omega⟩
            · rw [List.mem_singleton.1 ht] at ha
              cases ha
              have hlen := List.length_pos_iff.2 hne
              obtain ⟨f0, hf0⟩ := get_ex (show r.funcs.length - 1 < r.funcs.length by omega)
              refine ⟨{ f0 with code := f0.code ++ [⟨16, 0⟩] }, ?_, ?_⟩
              · simp only
                rw [addI_set hf0, List.getElem?_set_self (get_lt hf0)]
              · rw [lastLen_at hf0]; simp
          · cases h
        · split at h
          · cases h; exact hr.grow rfl (fun f g hg => addI_grow f g hg)
          · cases h
      · cases h
    · cases h
  · unfold funcR at h
    split at h
    · split at h
      · split at h
        · cases h
          exact hr.grow rfl (fun f g hg => ⟨g, by simp only; rw [List.getElem?_append_left (get_lt hg)]; exact hg, Nat.le_refl _⟩)
        · cases h
      · cases h
    · cases h
theorem run_win : ∀ (ls : List BS) (n : Nat) (r r' : AR), runR n ls r = .ok r' → WIn r → WIn r'
  | [], _, _, _, h, _ => by cases h
  | [_], _, _, _, h, _ => by cases h
  | l :: l2 :: ls, n, r, r', h, hr => by
    change (if 3 ≤ n ∧ l = wEnd then (if l2 :: ls = [[]] then .ok r else .error (n + 1)) else match lineR n l r with | none => .error n | some r' => runR (n + 1) (l2 :: ls) r') = Except.ok r' at h
    split at h
    · split at h
      · cases h; exact hr
      · cases h
    · cases hl : lineR n l r with
      | none => rw [hl] at h; cases h
      | some r2 =>
        rw [hl] at h
        exact run_win (l2 :: ls) (n + 1) r2 r' h (line_win hl hr)
theorem WIn0 : WIn AR0 := by intro t ht; cases ht
/-! ### a number set -/
theorem setN_at {fs : List FN} {f i : Nat} {g : FN} (h : fs[f]? = some g) (k : Int) : setN fs f i k = fs.set f { g with code := g.code.modify i fun x => { x with n := k } } := by unfold setN; exact set_modify _ _ _ _ h
theorem setN_ok {r : AR} {f i : Nat} {k : Int} (h : ARok r) : ARok { r with funcs := setN r.funcs f i k } := by
  refine ⟨by simp only; rw [setN_len]; exact h.few, fun g hg => ?_⟩
  simp only at hg
  obtain ⟨j, hj⟩ := List.mem_iff_getElem?.1 hg
  rw [setN_get] at hj
  obtain ⟨g0, h0, rfl⟩ := Option.map_eq_some_iff.1 hj
  have := h.short g0 (List.mem_of_getElem? h0)
  split
  · simpa using this
  · exact this
theorem setN_win {r : AR} {f i : Nat} {k : Int} (h : WIn r) : WIn { r with funcs := setN r.funcs f i k } := by
  refine h.grow rfl (fun j g hg => ?_)
  simp only
  rw [setN_get, hg]
  refine ⟨_, rfl, ?_⟩
  split <;> simp
theorem RdAt.num {B R k i g off n cap : Nat} {rest : BS} {no m : Int} {r : AR} {fv av wv : Value} {ps : List (FN × Value)} {f : FN} {x : IN} {w : World} (h : RdAt B R rest no m r fv av wv ps w) (hk : ps[k]? = some (f, .slice (some ⟨g, off, none⟩) n cap)) (hx : f.code[i]? = some x) (v : Int) :
    ∃ ps', RdAt B R rest no m { r with funcs := setN r.funcs k i v } fv av wv ps' (w.setCell ⟨g, off + i * 2 + 1, none⟩ (.int .i64 v)) ∧ Keep [g] w (w.setCell ⟨g, off + i * 2 + 1, none⟩ (.int .i64 v)) ∧ R ≤ g := by
  have hcode := h.fns.code k _ hk
  have hgB : B ≤ g := (hcode.lt g rfl).1
  have kS : Keep [g] w (w.setCell ⟨g, off + i * 2 + 1, none⟩ (.int .i64 v)) := (Keep.refl _ _).setCell (by simp) _
  have hlt := h.lt
  refine ⟨_, ⟨h.blk.keep kS (fun hm => by have := List.mem_singleton.1 hm; omega), h.fns.num hk hx v, ?_, h.args.keep kS (fun y hy hm => own_own h.args hcode (by decide) y hy (mem_ownD.2 (by rw [List.mem_singleton.1 hm]; rfl))), h.wants.keep kS (fun y hy hm => own_own h.wants hcode (by decide) y hy (mem_ownD.2 (by rw [List.mem_singleton.1 hm]; rfl))), h.lt, Nat.le_trans h.base kS.size⟩, kS, by omega⟩
  have h1 : r.funcs[k]? = some f := by rw [h.fs, List.getElem?_map, hk]; rfl
  simp only
  rw [setN_at h1, h.fs, List.map_set]
theorem want_cells {B n cap i : Nat} {w : World} {aw : Option Addr} {ts : List WT} {t : WT} (h : OwnsAt w B 90 4 (.slice aw n cap) ts.length (ts.flatMap wtC)) (ht : ts[i]? = some t) : ∃ g off, aw = some ⟨g, off, none⟩ ∧ g < w.heap.size ∧ ∀ (j : Nat) (u : Value), (wtC t)[j]? = some u → w.cell? ⟨g, off + i * 4 + j, none⟩ = some u := by
  have hi := get_lt ht
  obtain ⟨g, off, cap', hv, _, _, _, h4, h5⟩ := h.form (by omega)
  injection hv with e1 e2 e3
  refine ⟨g, off, e1, h4, fun j u hu => ?_⟩
  have hj : j < 4 := by have := get_lt hu; rw [wtC_len] at this; exact this
  rw [Nat.add_assoc]
  exact h5 _ u (by rw [flat_at wtC_len ts i t j ht hj]; exact hu)
def NmsPost (B R n : Nat) (rest : BS) (r : AR) (res : Except Nat (List FN × Int)) (w : World) (e : Ending) (w' : World) : Prop := Below R w w' ∧ match res with
  | .error l => e = .returned (.bool false) ∧ w'.cell? ⟨R, 1, none⟩ = some (.int .i64 (l : Nat))
  | .ok (fs, m) => e = .returned (.bool true) ∧ ∃ (fv av wv : Value) (ps : List (FN × Value)), RdAt B R rest n m { r with funcs := fs } fv av wv ps w'
def NmsAt (B R n : Nat) (rest : BS) (r : AR) (res : Except Nat (List FN × Int)) (w0 : World) (aw : Option Addr) (cw i : Nat) (w : World) : Prop := ∃ (m : Int) (fs : List FN) (fv av : Value) (ps : List (FN × Value)), i ≤ r.wants.length ∧ RdAt B R rest n m { r with funcs := fs } fv av (.slice aw r.wants.length cw) ps w ∧ Below R w0 w ∧ ARok { r with funcs := fs } ∧ WIn { r with funcs := fs } ∧ namesR (r.wants.drop i) fs m = res
theorem nms_err {B R n l : Nat} {rest : BS} {r : AR} {res : Except Nat (List FN × Int)} {w w' : World} {e : Ending} (h : res = .error l) (he : e = .returned (.bool false)) (hb : Below R w w') (hc : w'.cell? ⟨R, 1, none⟩ = some (.int .i64 (l : Nat))) : NmsPost B R n rest r res w e w' := by subst h; exact ⟨hb, he, hc⟩
theorem findI_some {fs : List FN} {nm : BS} {k : Nat} (h : findF fs nm = some k) : findI fs nm = (k : Int) := by unfold findI; rw [h]
theorem findI_none {fs : List FN} {nm : BS} (h : findF fs nm = none) : findI fs nm = -1 := by unfold findI; rw [h]
theorem keep_R {R : Nat} {w w' : World} (k : Keep [R] w w') (h : R ≤ w.heap.size) : Below R w w' := Keep.below (Below.refl _ _) k h (fun x hx => by rw [List.mem_singleton.1 hx]; exact Nat.le_refl _)
theorem keep_below_g {R g : Nat} {w w' : World} (k : Keep [g] w w') (hg : R ≤ g) (h : R ≤ w.heap.size) : Below R w w'.drew := Keep.below (Below.refl _ _) k.drew h (fun x hx => by rw [List.mem_singleton.1 hx]; exact hg)
set_option maxHeartbeats 12800000 in
set_option maxRecDepth 100000 in
theorem names_fn_spec {B R n : Nat} {rest : BS} {r : AR} {fv av wv : Value} {ps0 : List (FN × Value)} {w : World} (H : RdAt B R rest n 0 r fv av wv ps0 w) (hr : ARok r) (hwin : WIn r) (hwl : r.wants.length ≤ 1000000) :
    Calls Tryz.prog 34 #[.pointer (some ⟨R, 0, none⟩)] w (NmsPost B R n rest r (namesR r.wants r.funcs 0) w) := by
  obtain ⟨res, hres⟩ : ∃ res, res = namesR r.wants r.funcs 0 := ⟨_, rfl⟩
  rw [← hres]
  obtain ⟨aw, cw, hwv⟩ := H.wants.shape
  subst hwv
  have z7 : w.cell? ⟨R, 7, none⟩ = some (.slice aw r.wants.length cw) := H.blk.cell 7
  have HS := Lib.hid (show NmsAt B R n rest r res w aw cw 0 w from ⟨0, r.funcs, fv, av, ps0, by omega, H, Below.refl _ _, hr, hwin, by rw [List.drop_zero]; exact hres.symm⟩)
  have hwI : (r.wants.length : Int) ≤ 1000000 := by omega
  clear H hr hwin hres
  go_enter Tryz.func34, Tryz.ntmps34
  go_wp2_with fail
  go_loopw [4, 5, 11] (fun _ _ vi wr => ∃ i : Nat, vi = .int .i64 i ∧ NmsAt B R n rest r res w aw cw i wr) (fun _ _ vi _ => r.wants.length - (intOf vi).toNat)
  case atStart => exact ⟨0, rfl, HS.out⟩
  case round =>
    clear z7 HS
    obtain ⟨i, rfl, m, fs, fv, av, ps, h1, h2, h3, h4, h5, h6⟩ := hrel
    have hRR := Nat.le_trans (Nat.le_of_lt h2.lt) h2.base
    by_cases hlt : i < r.wants.length
    · have hltI : (i : Int) < (r.wants.length : Int) := by omega
      have hiI : (i : Int) ≤ 1000000 := by omega
      obtain ⟨t, ht⟩ := get_ex hlt
      obtain ⟨gw, offw, rfl, hgw, hcw⟩ := want_cells h2.wants ht
      rw [drop_at ht] at h6
      have GA := Lib.hid (And.intro h2 (And.intro h3 (And.intro h4 (And.intro h5 (And.intro (List.mem_of_getElem? ht) hRR)))))
      clear h1 h2 h3 h4 h5 ht hRR
      obtain ⟨nm, line, at_⟩ := t
      cases at_ with
      | none =>
        have c0 : wr.cell? ⟨gw, offw + i * 4, none⟩ = some (.string (strB nm)) := hcw 0 _ rfl
        have c1 : wr.cell? ⟨gw, offw + i * 4 + 1, none⟩ = some (.int .i64 line) := hcw 1 _ rfl
        have c2 : wr.cell? ⟨gw, offw + i * 4 + 2, none⟩ = some (.int .i64 0) := hcw 2 _ rfl
        have c3 : wr.cell? ⟨gw, offw + i * 4 + 3, none⟩ = some (.int .i64 (-1)) := hcw 3 _ rfl
        clear hcw hgw
        have kb : Keep [] wr (wr.alloc (.cells #[.string (strB nm), .int .i64 line, .int .i64 0, .int .i64 (-1)] 90)) := (Keep.refl _ _).alloc _
        have bb : Blk (wr.alloc (.cells #[.string (strB nm), .int .i64 line, .int .i64 0, .int .i64 (-1)] 90)) wr.heap.size 90 [.string (strB nm), .int .i64 line, .int .i64 0, .int .i64 (-1)] := Blk.new' _ _ _ _ rfl
        have HF := Lib.hid (find_spec (GA.out.1.keep0 kb) GA.out.2.2.1 nm)
        have HB := Lib.hid (And.intro kb bb)
        clear kb bb
        go_wp2_with fail
        refine HF.out.mono ?_
        rintro e w2 ⟨rfl, hk2⟩
        have bb2 := HB.out.2.keep hk2 (by simp)
        have b1 : w2.cell? ⟨wr.heap.size, 1, none⟩ = some (.int .i64 line) := bb2.cell 1
        have b3 : w2.cell? ⟨wr.heap.size, 3, none⟩ = some (.int .i64 (-1)) := bb2.cell 3
        have hR2 := GA.out.1.keep0 (HB.out.1.trans hk2 (by simp))
        have zf : ∀ j, w2.frozen? ⟨R, j, none⟩ = false := fun j => hR2.blk.frozen j
        have z1 : w2.cell? ⟨R, 1, none⟩ = some (.int .i64 n) := hR2.blk.cell 1
        have z3 : w2.cell? ⟨R, 3, none⟩ = some (.int .i64 m) := hR2.blk.cell 3
        have H2 := Lib.hid (And.intro hR2 (below_tr GA.out.2.1 (keep_below0 (HB.out.1.trans hk2 (by simp)) GA.out.2.2.2.2.2)))
        clear HF HB hk2 bb2 hR2 c0 c1 c2 c3
        cases hf : findF fs nm with
        | none =>
          rw [findI_none hf]
          have hres := Lib.hid (show res = .error line by rw [← h6]; show (match findF fs nm with | none => _ | some k => _) = _; rw [hf])
          clear h6 hf
          go_wp2
          go_ret
          have k : Keep [R] w2 (w2.setCell ⟨R, 1, none⟩ (.int .i64 line)) := (Keep.refl _ _).setCell (by simp) _
          exact nms_err hres.out rfl (below_tr H2.out.2 (keep_R k (Nat.le_trans (Nat.le_of_lt H2.out.1.lt) H2.out.1.base))) ((H2.out.1.blk.set_ 1 _).cell 1)
        | some k =>
          rw [findI_some hf]
          have hk0 : (0 : Int) ≤ (k : Int) := by omega
          have hnx := Lib.hid (show namesR (r.wants.drop (i + 1)) fs (k : Int) = res by rw [← h6]; show _ = (match findF fs nm with | none => _ | some k => _); rw [hf])
          clear h6 hf
          go_wp2
          go_roundw
          case rel =>
            have k1 : Keep [R] w2 (w2.setCell ⟨R, 3, none⟩ (.int .i64 (k : Int))) := (Keep.refl _ _).setCell (by simp) _
            exact ⟨i + 1, by go_num, k, fs, fv, av, ps, by omega, H2.out.1.cells k1 (H2.out.1.blk.set_ 3 _) rfl rfl rfl, below_tr H2.out.2 (keep_R k1 (Nat.le_trans (Nat.le_of_lt H2.out.1.lt) H2.out.1.base)), GA.out.2.2.1, GA.out.2.2.2.1, hnx.out⟩
          case measure => simp [intOf]; omega
      | some fi =>
        obtain ⟨f, q⟩ := fi
        have c0 : wr.cell? ⟨gw, offw + i * 4, none⟩ = some (.string (strB nm)) := hcw 0 _ rfl
        have c1 : wr.cell? ⟨gw, offw + i * 4 + 1, none⟩ = some (.int .i64 line) := hcw 1 _ rfl
        have c2 : wr.cell? ⟨gw, offw + i * 4 + 2, none⟩ = some (.int .i64 f) := hcw 2 _ rfl
        have c3 : wr.cell? ⟨gw, offw + i * 4 + 3, none⟩ = some (.int .i64 q) := hcw 3 _ rfl
        obtain ⟨fn, hfn, hq⟩ := GA.out.2.2.2.1 _ GA.out.2.2.2.2.1 f q rfl
        clear hcw hgw
        have kb : Keep [] wr (wr.alloc (.cells #[.string (strB nm), .int .i64 line, .int .i64 f, .int .i64 q] 90)) := (Keep.refl _ _).alloc _
        have bb : Blk (wr.alloc (.cells #[.string (strB nm), .int .i64 line, .int .i64 f, .int .i64 q] 90)) wr.heap.size 90 [.string (strB nm), .int .i64 line, .int .i64 f, .int .i64 q] := Blk.new' _ _ _ _ rfl
        have HF := Lib.hid (find_spec (GA.out.1.keep0 kb) GA.out.2.2.1 nm)
        have HB := Lib.hid (And.intro kb bb)
        have HFN := Lib.hid (And.intro hfn hq)
        clear kb bb hfn hq
        go_wp2_with fail
        refine HF.out.mono ?_
        rintro e w2 ⟨rfl, hk2⟩
        have bb2 := HB.out.2.keep hk2 (by simp)
        have b1 : w2.cell? ⟨wr.heap.size, 1, none⟩ = some (.int .i64 line) := bb2.cell 1
        have b2 : w2.cell? ⟨wr.heap.size, 2, none⟩ = some (.int .i64 f) := bb2.cell 2
        have b3 : w2.cell? ⟨wr.heap.size, 3, none⟩ = some (.int .i64 q) := bb2.cell 3
        have hR2 := GA.out.1.keep0 (HB.out.1.trans hk2 (by simp))
        have zf : ∀ j, w2.frozen? ⟨R, j, none⟩ = false := fun j => hR2.blk.frozen j
        have z1 : w2.cell? ⟨R, 1, none⟩ = some (.int .i64 n) := hR2.blk.cell 1
        have H2 := Lib.hid (And.intro hR2 (below_tr GA.out.2.1 (keep_below0 (HB.out.1.trans hk2 (by simp)) GA.out.2.2.2.2.2)))
        clear HF HB hk2 bb2 hR2 c0 c1 c2 c3
        have hq0 : (0 : Int) ≤ (q : Int) := by omega
        cases hf : findF fs nm with
        | none =>
          rw [findI_none hf]
          have hres := Lib.hid (show res = .error line by rw [← h6]; show (match findF fs nm with | none => _ | some k => _) = _; rw [hf])
          clear h6 hf
          go_wp2
          go_ret
          have k : Keep [R] w2 (w2.setCell ⟨R, 1, none⟩ (.int .i64 line)) := (Keep.refl _ _).setCell (by simp) _
          exact nms_err hres.out rfl (below_tr H2.out.2 (keep_R k (Nat.le_trans (Nat.le_of_lt H2.out.1.lt) H2.out.1.base))) ((H2.out.1.blk.set_ 1 _).cell 1)
        | some k =>
          rw [findI_some hf]
          have hk0 : (0 : Int) ≤ (k : Int) := by omega
          have hnx := Lib.hid (show namesR (r.wants.drop (i + 1)) (setN fs f q k) m = res by rw [← h6]; show _ = (match findF fs nm with | none => _ | some k => _); rw [hf])
          clear h6 hf
          have hfs := H2.out.1.fs
          try simp only at hfs
          have hfn := HFN.out.1
          try simp only at hfn
          rw [hfs, List.getElem?_map] at hfn
          obtain ⟨⟨fn', cv⟩, hp, he⟩ := Option.map_eq_some_iff.1 hfn
          try simp only at he
          subst he
          obtain ⟨ac, cc, hcv⟩ := (H2.out.1.fns.code f _ hp).shape
          try simp only at hcv
          subst hcv
          have hq := HFN.out.2
          obtain ⟨gc, offc, capc, hcv, _, _, _, hgc, _⟩ := (H2.out.1.fns.code f _ hp).form (by simp only; omega)
          injection hcv with e1 e2 e3
          subst e1
          obtain ⟨x, hx⟩ := get_ex hq
          obtain ⟨g, off, cap, hv, hg, _, _, _, _, f3, hfl, _⟩ := H2.out.1.fns.fn hp
          subst hv
          have z2 : w2.cell? ⟨R, 2, none⟩ = some (.slice (some ⟨g, off, none⟩) ps.length cap) := H2.out.1.blk.cell 2
          have hflI : (f : Int) < (ps.length : Int) := by omega
          have hf0 : (0 : Int) ≤ (f : Int) := by omega
          have hqI : (q : Int) < (fn'.code.length : Int) := by omega
          have gf : ∀ j, w2.frozen? ⟨gc, j, none⟩ = false := fun j => (H2.out.1.fns.code f _ hp).free j
          have cq : w2.cell? ⟨gc, offc + q * 2 + 1, none⟩ = some (.int .i64 x.n) := by
            obtain ⟨b, o, hb, _, _, h9⟩ := (CodeRd.of_own (H2.out.1.fns.code f _ hp)).at_ hx
            injection hb with hb
            injection hb with hb1 hb2
            subst hb1 hb2
            exact h9
          have HN := Lib.hid (H2.out.1.num hp hx (k : Int))
          clear e2 e3 hg hgc hfl hp hfs hfn hx hq
          go_wp2_with fail
          go_region
          all_goals
            go_wp2
            go_roundw
            case rel =>
              obtain ⟨ps', hRd, hK, hRg⟩ := HN.out
              exact ⟨i + 1, by go_num, m, setN fs f q k, _, av, ps', by omega, hRd.keep0 ((Keep.refl [] _).drew), below_tr H2.out.2 (keep_below_g hK hRg (Nat.le_trans (Nat.le_of_lt H2.out.1.lt) H2.out.1.base)), setN_ok (r := { r with funcs := fs }) GA.out.2.2.1, setN_win (r := { r with funcs := fs }) GA.out.2.2.2.1, hnx.out⟩
            case measure => simp [intOf]; omega
    · obtain rfl : i = r.wants.length := by omega
      rw [List.drop_length] at h6
      have HX := Lib.hid (And.intro h2 (And.intro h3 h6))
      clear h1 h2 h3 h4 h5 h6 hRR
      go_wp2
      go_ret
      refine ⟨HX.out.2.1, ?_⟩
      rw [← HX.out.2.2]
      exact ⟨rfl, fv, av, _, ps, HX.out.1⟩
end Go.Proofs.YtbdkmfcgnolihaaGreatDoor
