/- asm: the first line. -/
import Derived.Test.YtbdkmfcgnolihaaGreatDoorRows
import Derived.WalkKit
import Derived.WalkSpells
import Derived.WalkLawsBesides
import Derived.RegionTactic
import Derived.ChangeAlike
import Derived.BigQuiet
import Derived.Deep.QuietTactic
import Derived.StillTailTactics
import Derived.IntWalk
import Derived.Handy
import Derived.Lib.Hide
import Derived.Deep.AppendLies
import Derived.Deep.RegionWith
import Derived.Test.YtbdkmfcgnolihaaGreatDoorBase
import Derived.Test.YtbdkmfcgnolihaaGreatDoorTail
import Derived.Test.YtbdkmfcgnolihaaGreatDoorArgs
import Derived.Test.YtbdkmfcgnolihaaGreatDoorAppend
import Derived.Test.YtbdkmfcgnolihaaGreatDoorOffs
import Derived.Test.YtbdkmfcgnolihaaGreatDoorStructs
import Derived.Carry
import Derived.Deep.RegionHeld3
import Derived.BigRegion
import Derived.Maps.OwnSet
import Derived.Maps.Views
import Derived.Maps.StringElems
import Derived.Test.YtbdkmfcgnolihaaGreatDoorMaps2
import Derived.Test.YtbdkmfcgnolihaaGreatDoorARd
namespace Go.Proofs.YtbdkmfcgnolihaaGreatDoor
set_option linter.unusedSimpArgs false
set_option linter.unnecessarySimpa false
set_option linter.unusedVariables false
open Go.RowKit
theorem get_pair {B : Nat} {w : World} {v : Value} {x y : Int} (h : OwnsAt w B 3 1 v 2 ([x, y].map (.int .i64))) : ∃ g off c, v = .slice (some ⟨g, off, none⟩) 2 c ∧ w.cell? ⟨g, off, none⟩ = some (.int .i64 x) ∧ w.cell? ⟨g, off + 1, none⟩ = some (.int .i64 y) ∧ g < w.heap.size := by
  obtain ⟨g, off, cap, rfl, _, _, _, h4, h5⟩ := h.form (by omega)
  exact ⟨g, off, cap, rfl, h5 0 _ rfl, h5 1 _ rfl, h4⟩
theorem strs_blk {w : World} {g : Nat} {ps : List BS} (h : Blk w g 9 (ps.map fun p => .string (strB p))) : StrsAt w (.slice (some ⟨g, 0, none⟩) ps.length ps.length) ps := by
  refine ⟨_, _, rfl, fun i p hp => ⟨g, 0, rfl, h.lt, ?_⟩⟩
  rw [Nat.zero_add, h.cell, List.getElem?_map, hp]
  rfl
theorem pieces_len (c : UInt8) (s : BS) : (pieces c s).length ≤ s.length + 1 := by
  have := count_pieces c (strB s)
  rw [strB_data] at this
  have h := congrArg List.length (glue_pieces c s)
  have h2 : ∀ ps : List BS, ps.length ≤ (glue c ps).length + 1 := by
    intro ps
    cases ps with
    | nil => simp
    | cons p ps =>
      rw [glue_cons, List.length_append, List.length_cons]
      have : ∀ qs : List BS, qs.length ≤ (qs.flatMap fun q => c :: q).length := by
        intro qs
        induction qs with
        | nil => simp
        | cons q qs ih => simp at ih ⊢; omega
      have := this ps
      omega
  have h3 := h2 (pieces c s)
  omega
theorem pieces_short {c : UInt8} {s p : BS} (h : p ∈ pieces c s) : p.length ≤ s.length := by
  have hg := glue_pieces c s
  have : ∀ ps : List BS, p ∈ ps → p.length ≤ (glue c ps).length := by
    intro ps hp
    cases ps with
    | nil => cases hp
    | cons q ps =>
      rw [glue_cons, List.length_append]
      rcases List.mem_cons.1 hp with rfl | hp
      · omega
      · have : ∀ qs : List BS, p ∈ qs → p.length ≤ (qs.flatMap fun q => c :: q).length := by
          intro qs hq
          induction qs with
          | nil => cases hq
          | cons q qs ih =>
            rcases List.mem_cons.1 hq with rfl | hq
            · simp; omega
            · have := ih hq; simp at this ⊢; omega
        have := this ps hp
        omega
  rw [← hg]
  exact this _ h
theorem trim_short {s p : BS} : (Lib.trimPrefix s p).length ≤ s.length := by
  unfold Lib.trimPrefix
  split
  · rw [List.length_drop]; omega
  · exact Nat.le_refl _
theorem keep_below0 {w w' : World} {R : Nat} (h : Keep [] w w') (hR : R ≤ w.heap.size) : Below R w w' := Keep.below (Below.refl _ _) h hR (by simp)
/-- the words of a line, and what they are as numbers -/
theorem words_all {w w1 : World} {ps : List BS} {bs hd : BS} (hE : Env1 w1) (hps : ps = pieces 32 (Lib.trimPrefix bs hd)) (hl : bs.length ≤ 900000) (hb : Blk w1 w.heap.size 9 (ps.map fun p => .string (strB p))) :
    Calls Tryz.prog 65 #[.slice (some ⟨w.heap.size, 0, none⟩) ps.length ps.length] w1 (AllPost w1.heap.size (readInts ps) w1) := by
  subst hps
  have h1 := trim_short (s := bs) (p := hd)
  refine all_spec hE (strs_blk hb) (fun p hp => ?_) ?_
  · have := pieces_short hp; omega
  · have := pieces_len 32 (Lib.trimPrefix bs hd); omega
theorem below_on {B R : Nat} {rest : BS} {no mn : Int} {r : AR} {fv av wv : Value} {qs : List (FN × Value)} {w w2 w' : World} (H : RdAt B R rest no mn r fv av wv qs w) (k : Keep [] w w2) (k2 : Keep [R] w2 w') : Below R w w' :=
  Keep.below (keep_below0 k (Nat.le_trans (Nat.le_of_lt H.lt) H.base)) k2 (Nat.le_trans (Nat.le_trans (Nat.le_of_lt H.lt) H.base) k.size) (fun x hx => by rw [List.mem_singleton.1 hx]; exact Nat.le_refl _)
theorem two_cells {w : World} {R : Nat} {a b c d e f g h : Value} (H : Blk w R 69 [a, b, c, d, e, f, g, h]) (x y : Value) :
    Keep [R] w ((w.setCell ⟨R, 5, none⟩ x).setCell ⟨R, 6, none⟩ y).drew ∧ Blk ((w.setCell ⟨R, 5, none⟩ x).setCell ⟨R, 6, none⟩ y).drew R 69 [a, b, c, d, e, x, y, h] :=
  ⟨(((Keep.refl [R] w).setCell (by simp) _).setCell (by simp) _).drew, ((H.set_ 5 x).set_ 6 y).drew⟩
set_option maxHeartbeats 1600000 in
set_option maxRecDepth 100000 in
theorem job_spec {B R : Nat} {rest : BS} {no : Int} {r : AR} {fv av wv : Value} {qs : List (FN × Value)} {w : World} (hE : Env1 w) (H : RdAt B R rest no 0 r fv av wv qs w) (bs : BS) (hl : bs.length ≤ 900000) :
    Calls Tryz.prog 44 #[.pointer (some ⟨R, 0, none⟩), .string (strB bs)] w (LinePost B R rest no (jobR (pieces 32 bs) r) w) := by
  obtain ⟨res, hres⟩ : ∃ res, res = jobR (pieces 32 bs) r := ⟨_, rfl⟩
  rw [← hres]
  have HE := Lib.hid hE
  have HL := Lib.hid hl
  have HH := Lib.hid H
  have HRS := Lib.hid hres
  obtain ⟨ps, hps⟩ : ∃ ps, ps = pieces 32 (Lib.trimPrefix bs (wJob ++ [32])) := ⟨_, rfl⟩
  obtain ⟨bp, hbp⟩ : ∃ bp, bp = Lib.hasPrefix bs (wJob ++ [32]) := ⟨_, rfl⟩
  have hw := words_spec hE.env bs (wJob ++ [32]) (by omega)
  rw [← hps, ← hbp] at hw
  have HW := Lib.hid (show Calls Tryz.prog 64 #[.string (strB bs), .string ⟨#[106, 111, 98, 32]⟩] w (WordsPost ps bp w) from hw)
  have HPS := Lib.hid hps
  have HBP := Lib.hid hbp
  clear hE hl H hres hw hps hbp
  go_enter Tryz.func44, Tryz.ntmps44
  go_wp2_with fail
  refine HW.out.mono ?_
  rintro e w1 ⟨rfl, hb1, hk1, hz1⟩
  have H1 := Lib.hid (And.intro hb1 hk1)
  clear hb1 hk1 hz1
  go_wp2_with fail
  refine (words_all (HE.out.keep H1.out.2) HPS.out HL.out H1.out.1).mono ?_
  rintro e w2 ⟨hk2, hm⟩
  have H2 := Lib.hid (H1.out.2.trans hk2 (by simp))
  clear hk2
  cases bp with
  | false =>
    have HN := Lib.hid (show res = none by rw [HRS.out]; exact job_no HBP.out.symm)
    cases hr : readInts ps with
    | none =>
      rw [hr] at hm
      obtain rfl := hm
      clear hr
      go_wp2
      go_ret
      exact LinePost.no HN.out rfl H2.out
    | some l =>
      rw [hr] at hm
      obtain ⟨v, rfl, ho⟩ := hm
      clear hr ho
      go_wp2
      go_ret
      exact LinePost.no HN.out rfl H2.out
  | true =>
    have hj := HRS.out
    rw [job_yes HBP.out.symm, ← HPS.out] at hj
    cases hr : readInts ps with
    | none =>
      rw [hr] at hm hj
      obtain rfl := hm
      have HN := Lib.hid (show res = none from hj)
      clear hr hj
      go_wp2
      go_ret
      exact LinePost.no HN.out rfl H2.out
    | some l =>
      rw [hr] at hm hj
      obtain ⟨v, rfl, ho⟩ := hm
      clear hr
      by_cases hl2 : l.length = 2
      · obtain ⟨x, y, rfl⟩ : ∃ x y, l = [x, y] := by
          match l with
          | [x, y] => exact ⟨x, y, rfl⟩
          | [] => simp at hl2
          | [x] => simp at hl2
          | x :: y :: z :: l => simp at hl2
        obtain ⟨g, off, c, rfl, c0, c1, hg⟩ := get_pair ho
        have HN := Lib.hid (show res = some { r with fuel := x, tasks := y } from hj)
        have HR2 := Lib.hid (HH.out.keep0 H2.out)
        have HB := HR2.out.blk
        have zf : ∀ i, w2.frozen? ⟨R, i, none⟩ = false := fun i => HB.frozen i
        have z5 : w2.cell? ⟨R, 5, none⟩ = some (.int .i64 r.fuel) := HB.cell 5
        have z6 : w2.cell? ⟨R, 6, none⟩ = some (.int .i64 r.tasks) := HB.cell 6
        clear hj ho HB hl2
        go_wp2_with fail
        go_region
        all_goals
          go_wp2
          go_ret
          exact LinePost.yes HN.out rfl (below_on HH.out H2.out (two_cells HR2.out.blk _ _).1) (HR2.out.cells (two_cells HR2.out.blk _ _).1 (two_cells HR2.out.blk _ _).2 rfl rfl rfl)
      · have hne : ((l.length : Int) == 2) = false := by simp; omega
        obtain ⟨a, c, rfl⟩ := ho.shape
        have HN := Lib.hid (show res = none by
          rw [hj]
          match l with
          | [x, y] => simp at hl2
          | [] => rfl
          | [x] => rfl
          | x :: y :: z :: l => rfl)
        clear hj ho hl2
        go_wp2
        go_ret
        exact LinePost.no HN.out rfl H2.out
end Go.Proofs.YtbdkmfcgnolihaaGreatDoor
