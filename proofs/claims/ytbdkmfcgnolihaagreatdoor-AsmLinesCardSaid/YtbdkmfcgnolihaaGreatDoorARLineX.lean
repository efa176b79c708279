/- asm: the reference's first line asm: the reference's second line asm: the reference's function line asm: the reference's line -/
import Derived.Test.YtbdkmfcgnolihaaGreatDoorRows
import Derived.WalkKit
import Derived.WalkSpells
import Derived.WalkLawsBesides
import Derived.RegionTactic
import Derived.ChangeAlike
import Derived.BigQuiet
import Derived.Deep.QuietTactic
import Derived.StillTailTactics
import Derived.IntWalk
import Derived.Handy
import Derived.Lib.Hide
import Derived.Deep.AppendLies
import Derived.Deep.RegionWith
import Derived.Test.YtbdkmfcgnolihaaGreatDoorBase
import Derived.Test.YtbdkmfcgnolihaaGreatDoorTail
import Derived.Test.YtbdkmfcgnolihaaGreatDoorArgs
import Derived.Test.YtbdkmfcgnolihaaGreatDoorAppend
import Derived.Test.YtbdkmfcgnolihaaGreatDoorOffs
import Derived.Test.YtbdkmfcgnolihaaGreatDoorStructs
import Derived.Carry
import Derived.Deep.RegionHeld3
import Derived.BigRegion
import Derived.Maps.OwnSet
import Derived.Maps.Views
import Derived.Maps.StringElems
import Derived.Test.YtbdkmfcgnolihaaGreatDoorMaps2
import Derived.Deep.CutRange
import Derived.Deep.CutBlock
import Derived.Test.YtbdkmfcgnolihaaGreatDoorARfX
import Derived.Test.YtbdkmfcgnolihaaGreatDoorALines
import Derived.Test.YtbdkmfcgnolihaaGreatDoorAFind
import Derived.Test.YtbdkmfcgnolihaaGreatDoorARInsX
import Derived.Test.YtbdkmfcgnolihaaGreatDoorARInsY
namespace Go.Proofs.YtbdkmfcgnolihaaGreatDoor
set_option linter.unusedSimpArgs false
set_option linter.unnecessarySimpa false
set_option linter.unusedVariables false
open Go.RowKit
theorem rjob_some {B R : Nat} {r : AR} {fv av wv : Value} {qs : List (FN × Value)} {res : Option AR} {x y : Int} {n : Nat} {w w1 : World} (H : RfAt B R 0 r fv av wv qs w) (hk : Keep [] w w1) (hres : res = some { r with fuel := x, tasks := y }) : RfPost B R res w (.returned (.bool true)) (((w1.drewN n).setCell ⟨R, 3, none⟩ (.int .i64 x)).setCell ⟨R, 4, none⟩ (.int .i64 y)) := by
  have hR : R ≤ w.heap.size := Nat.le_trans (Nat.le_of_lt H.lt) H.base
  have k1 := hk.drewN n
  have k2 : Keep [R] (w1.drewN n) (((w1.drewN n).setCell ⟨R, 3, none⟩ (.int .i64 x)).setCell ⟨R, 4, none⟩ (.int .i64 y)) := ((Keep.refl _ _).setCell (by simp) _).setCell (by simp) _
  exact RfPost.yes hres rfl (Keep.below (keep_below0 k1 hR) k2 (Nat.le_trans hR k1.size) (fun z hz => by rw [List.mem_singleton.1 hz]; exact Nat.le_refl _)) ((H.keep0 k1).cells (r' := { r with fuel := x, tasks := y }) k2 (((H.keep0 k1).blk.set_ 3 _).set_ 4 _) rfl rfl rfl)
theorem rjob_none {B R : Nat} {r : AR} {fv av wv : Value} {qs : List (FN × Value)} {res : Option AR} {x y : Int} {n : Nat} {w w1 : World} (H : RfAt B R 0 r fv av wv qs w) (hk : Keep [] w w1) (hres : res = none) : RfPost B R res w (.returned (.bool false)) (((w1.drewN n).setCell ⟨R, 3, none⟩ (.int .i64 x)).setCell ⟨R, 4, none⟩ (.int .i64 y)) := by
  have hR : R ≤ w.heap.size := Nat.le_trans (Nat.le_of_lt H.lt) H.base
  have k1 := hk.drewN n
  have k2 : Keep [R] (w1.drewN n) (((w1.drewN n).setCell ⟨R, 3, none⟩ (.int .i64 x)).setCell ⟨R, 4, none⟩ (.int .i64 y)) := ((Keep.refl _ _).setCell (by simp) _).setCell (by simp) _
  exact RfPost.no hres rfl (Keep.below (keep_below0 k1 hR) k2 (Nat.le_trans hR k1.size) (fun z hz => by rw [List.mem_singleton.1 hz]; exact Nat.le_refl _))
theorem two_form (b c : BS) : ∃ (x y : Int) (ok : Bool), twoP b c = .tuple #[.int .i64 x, .int .i64 y, .bool ok] ∧ (ok = true → readInt b = some x ∧ readInt c = some y) ∧ (ok = false → readInt b = none ∨ readInt c = none) := by
  refine ⟨_, _, _, rfl, ?_, ?_⟩
  · intro h
    cases hb : readInt b with
    | none => simp [hb] at h
    | some x =>
      cases hc : readInt c with
      | none => simp [hb, hc] at h
      | some y => exact ⟨rfl, rfl⟩
  · intro h
    cases hb : readInt b with
    | none => exact Or.inl rfl
    | some x =>
      cases hc : readInt c with
      | none => exact Or.inr rfl
      | some y => simp [hb, hc] at h
theorem two_q (w : World) {b c : BS} {x y : Int} {ok : Bool} (h : twoP b c = .tuple #[.int .i64 x, .int .i64 y, .bool ok]) (hb : b.length ≤ 1000000) (hc : c.length ≤ 1000000) : Calls Tryz.prog 49 #[.string (strB b), .string (strB c)] w fun e w' => e = .returned (.tuple #[.int .i64 x, .int .i64 y, .bool ok]) ∧ w' = w := by
  rw [← h]
  exact two_spec w b c hb hc
theorem jobR_len {ps : List BS} {r : AR} (h : ps.length ≠ 3) : jobR ps r = none := by
  unfold jobR
  split
  · simp at h
  · rfl
theorem rf_no {B R : Nat} {r : AR} {fv av wv : Value} {qs : List (FN × Value)} {res : Option AR} {w w' : World} (H : RfAt B R 0 r fv av wv qs w) (hk : Keep [] w w') (hres : res = none) : RfPost B R res w (.returned (.bool false)) w' :=
  RfPost.no hres rfl (keep_below0 hk (Nat.le_trans (Nat.le_of_lt H.lt) H.base))
theorem piece_le {bs : BS} {ps : List BS} {p : BS} (h : ps = pieces 32 bs) (hl : bs.length ≤ 900000) (hp : p ∈ ps) : p.length ≤ 1000000 := by
  have := pieces_short (c := 32) (s := bs) (p := p) (by rw [← h]; exact hp)
  omega
set_option maxHeartbeats 6400000 in
set_option maxRecDepth 100000 in
theorem rline_job {B R : Nat} {r : AR} {fv av wv : Value} {qs : List (FN × Value)} {w : World} (H : RfAt B R 0 r fv av wv qs w) (bs : BS) (hl : bs.length ≤ 900000) : Calls Tryz.prog 36 #[.pointer (some ⟨R, 0, none⟩), .int .i64 1, .string (strB bs)] w (RfPost B R (jobR (pieces 32 bs) r) w) := by
  obtain ⟨ps, hps⟩ : ∃ ps, ps = pieces 32 bs := ⟨_, rfl⟩
  obtain ⟨res, hres⟩ : ∃ res, res = jobR ps r := ⟨_, rfl⟩
  have HS := Lib.hid (rsplit_own w bs (by omega))
  rw [← hps, ← hres]
  rw [← hps] at HS
  have HP := Lib.hid (And.intro hps (And.intro hres (And.intro hl H)))
  clear hps hres hl H
  go_enter Tryz.func36, Tryz.ntmps36
  go_wp2_with fail
  refine HS.out.mono ?_
  rintro e w1 ⟨hk1, sv, rfl, ho1⟩
  have HO := Lib.hid ho1
  have HK := Lib.hid hk1
  obtain ⟨sa, sc, rfl⟩ := ho1.shape
  clear hk1 ho1 HS
  by_cases h3 : ps.length = 3
  · obtain ⟨a, b, c, rfl⟩ : ∃ a b c, ps = [a, b, c] := by
      match ps, h3 with
      | [a, b, c], _ => exact ⟨a, b, c, rfl⟩
    clear h3
    obtain ⟨gs, offs, cs, hsv, hgs, t0⟩ := strs_at (ps := [a, b, c]) (i := 0) (p := a) HO.out rfl
    obtain ⟨gs1, offs1, cs1, hsv1, _, t1⟩ := strs_at (ps := [a, b, c]) (i := 1) (p := b) HO.out rfl
    obtain ⟨gs2, offs2, cs2, hsv2, _, t2⟩ := strs_at (ps := [a, b, c]) (i := 2) (p := c) HO.out rfl
    injection hsv with e1 e2 e3
    subst e1
    injection hsv1 with e1 _ _
    injection e1 with e1
    injection e1 with e1 e4
    subst e1 e4
    injection hsv2 with e1 _ _
    injection e1 with e1
    injection e1 with e1 e4
    subst e1 e4
    rw [Nat.add_zero] at t0
    clear e2 e3
    simp only [List.length_cons, List.length_nil, Nat.zero_add, Nat.reduceAdd]
    by_cases ha : a = wJob
    · have hq : ((strB a).toList == [106, 111, 98]) = true := by rw [ha, strB_toList]; rfl
      have hbl := piece_le (p := b) HP.out.1 HP.out.2.2.1 (by simp)
      have hcl := piece_le (p := c) HP.out.1 HP.out.2.2.1 (by simp)
      obtain ⟨x, y, ok, h2, hy, hn⟩ := two_form b c
      have HT := Lib.hid (fun w' => two_q w' h2 hbl hcl)
      have HY := Lib.hid (And.intro hy (And.intro hn ha))
      have hb1 := HP.out.2.2.2.blk.keep HK.out (by simp)
      have z3 : w1.cell? ⟨R, 3, none⟩ = some (.int .i64 r.fuel) := hb1.cell 3
      have z4 : w1.cell? ⟨R, 4, none⟩ = some (.int .i64 r.tasks) := hb1.cell 4
      have zf : ∀ i, w1.frozen? ⟨R, i, none⟩ = false := fun i => hb1.frozen i
      clear h2 hy hn hbl hcl ha hb1
      go_upto_region 5 with fail
      go_quiet (first | (go_at_call 49; with_reducible refine Calls.quiet_of_same (HT.out _)))
      go_wp2
      cases ok with
      | true =>
        have HR := Lib.hid (show res = some { r with fuel := x, tasks := y } by
          rw [HP.out.2.1]
          unfold jobR
          simp only [HY.out.2.2, (HY.out.1 rfl).1, (HY.out.1 rfl).2, if_true])
        go_ret
        exact rjob_some HP.out.2.2.2 HK.out HR.out
      | false =>
        have HR := Lib.hid (show res = none by
          rw [HP.out.2.1]
          unfold jobR
          simp only [HY.out.2.2, if_true]
          rcases HY.out.2.1 rfl with h | h
          · rw [h]
          · rw [h]; cases readInt b <;> rfl)
        go_ret
        exact rjob_none HP.out.2.2.2 HK.out HR.out
    · have hq : ((strB a).toList == [106, 111, 98]) = false := by rw [strB_toList]; exact beq_eq_false_iff_ne.2 ha
      have HR := Lib.hid (show res = none by rw [HP.out.2.1]; unfold jobR; simp only [if_neg ha])
      clear ha
      go_wp2
      go_ret
      exact rf_no HP.out.2.2.2 HK.out HR.out
  · have h3B : ((ps.length : Int) != 3) = true := by simp; omega
    have HR := Lib.hid (show res = none by rw [HP.out.2.1]; exact jobR_len h3)
    clear h3
    go_wp2
    go_ret
    exact rf_no HP.out.2.2.2 HK.out HR.out
end Go.Proofs.YtbdkmfcgnolihaaGreatDoor
namespace Go.Proofs.YtbdkmfcgnolihaaGreatDoor
set_option linter.unusedSimpArgs false
set_option linter.unnecessarySimpa false
set_option linter.unusedVariables false
open Go.RowKit
theorem mainR_len {no : Nat} {ps : List BS} {r : AR} (h : ps.length < 2 ∨ 10 < ps.length) : mainR no ps r = none := by
  unfold mainR
  split
  · rename_i a b l
    rw [if_neg]
    rintro ⟨_, _, h3⟩
    simp at h
    omega
  · rfl
theorem readInts_no : ∀ {l : List BS} {k : Nat} {p : BS}, l[k]? = some p → readInt p = none → readInts l = none
  | x :: l, 0, p, h, hn => by
    cases h
    unfold readInts
    rw [hn]
  | x :: l, k + 1, p, h, hn => by
    unfold readInts
    rw [readInts_no (l := l) (k := k) h hn]
    cases readInt x <;> rfl
theorem readInts_snoc : ∀ {l : List BS} {p : BS} {n : Int} {xs : List Int}, readInts l = some xs → readInt p = some n → readInts (l ++ [p]) = some (xs ++ [n])
  | [], p, n, xs, h, hn => by
    simp [readInts] at h
    subst h
    simp [readInts, hn]
  | x :: l, p, n, xs, h, hn => by
    unfold readInts at h
    cases hx : readInt x with
    | none => rw [hx] at h; cases h
    | some m =>
      rw [hx] at h
      obtain ⟨ys, hy, rfl⟩ := Option.map_eq_some_iff.1 h
      rw [List.cons_append]
      unfold readInts
      rw [hx]
      simp only
      rw [readInts_snoc hy hn]
      rfl
theorem RfAt.arg {B R : Nat} {mn : Int} {r : AR} {fv av wv v7 : Value} {ps : List (FN × Value)} {l : List Int} {n : Int} {w wA w7 w' : World} (h : RfAt B R mn { r with args := l } fv av wv ps w) (kA : Keep [] w wA) (k7 : Keep (ownBlocks av) wA w7)
    (ho : OwnsAt w7 B 3 1 v7 (l.length + 1) (l.map (.int .i64) ++ [.int .i64 n])) (k : Keep [R] w7 w') (hb : Blk w7 R 74 [fv, .int .i64 mn, av, .int .i64 r.fuel, .int .i64 r.tasks, wv] → Blk w' R 74 [fv, .int .i64 mn, v7, .int .i64 r.fuel, .int .i64 r.tasks, wv]) :
    RfAt B R mn { r with args := l ++ [n] } fv v7 wv ps w' := by
  have hA := h.keep0 kA
  have hb7 : Blk w7 R 74 [fv, .int .i64 mn, av, .int .i64 r.fuel, .int .i64 r.tasks, wv] := hA.blk.keep k7 (own_apart hA.args hA.blk (by decide))
  have hf7 := hA.fns.other hA.args (by decide) (by decide) k7
  have hw7 := hA.wants.keep k7 (own_own hA.wants hA.args (by decide))
  refine ⟨hb hb7, hf7.blk hb7 (by decide) (by decide) k, h.fs, ?_, hw7.keep k (fun g hg hx => own_apart hw7 hb7 (by decide) (by rw [← List.mem_singleton.1 hx]; exact mem_ownD.2 hg)), h.lt, Nat.le_trans hA.base (Nat.le_trans k7.size k.size)⟩
  have h9 : OwnsAt w7 B 3 1 v7 (l ++ [n]).length ((l ++ [n]).map (.int .i64)) := by
    rw [List.length_append, List.map_append]
    simpa using ho
  exact h9.keep k (fun g hg hx => own_apart h9 hb7 (by decide) (by rw [← List.mem_singleton.1 hx]; exact mem_ownD.2 hg))
theorem rbelow_arg {B R : Nat} {mn : Int} {r : AR} {fv av wv : Value} {qs : List (FN × Value)} {w0 w wA w7 w' : World} (b0 : Below R w0 w) (h : RfAt B R mn r fv av wv qs w) (kA : Keep [] w wA) (k7 : Keep (ownBlocks av) wA w7) (k : Keep [R] w7 w') : Below R w0 w' := by
  have hR : R ≤ w.heap.size := Nat.le_trans (Nat.le_of_lt h.lt) h.base
  have b1 := Keep.below b0 kA hR (by simp)
  have b2 := Keep.below b1 k7 (Nat.le_trans hR kA.size) (fun x hx => by have := own_base h.args x hx; have := h.lt; omega)
  exact Keep.below b2 k (Nat.le_trans (Nat.le_trans hR kA.size) k7.size) (fun x hx => by rw [List.mem_singleton.1 hx]; exact Nat.le_refl _)
theorem src_num (w : World) (n : Int) : SrcOf (w.alloc (.cells #[.int .i64 n] 3)) (.slice (some ⟨w.heap.size, 0, none⟩) 1 1) 1 1 [.int .i64 n] := src_lit w #[.int .i64 n] [.int .i64 n] 3 1 1 rfl rfl
set_option maxHeartbeats 12800000 in
set_option maxRecDepth 100000 in
theorem rline_main {B R : Nat} {r : AR} {fv av wv : Value} {qs : List (FN × Value)} {w : World} (H : RfAt B R 0 r fv av wv qs w) (h0 : r.args = []) (hw1 : r.wants.length ≤ 1000000) (bs : BS) (hl : bs.length ≤ 900000) : Calls Tryz.prog 36 #[.pointer (some ⟨R, 0, none⟩), .int .i64 2, .string (strB bs)] w (RfPost B R (mainR 2 (pieces 32 bs) r) w) := by
  obtain ⟨ps, hps⟩ : ∃ ps, ps = pieces 32 bs := ⟨_, rfl⟩
  obtain ⟨res, hres⟩ : ∃ res, res = mainR 2 ps r := ⟨_, rfl⟩
  have HS := Lib.hid (rsplit_own w bs (by omega))
  rw [← hps, ← hres]
  rw [← hps] at HS
  have hpl : ps.length ≤ 900001 := by rw [hps]; have := pieces_len 32 bs; omega
  have HP := Lib.hid (And.intro hps (And.intro hres (And.intro hl (And.intro H (And.intro h0 (And.intro hw1 hpl))))))
  clear hps hres hl H h0 hw1 hpl
  go_enter Tryz.func36, Tryz.ntmps36
  go_wp2_with fail
  refine HS.out.mono ?_
  rintro e w1 ⟨hk1, sv, rfl, ho1⟩
  obtain ⟨m, hm⟩ : ∃ m, m = ps.length := ⟨_, rfl⟩
  rw [← hm] at ho1
  have HO := Lib.hid ho1
  have HK := Lib.hid hk1
  obtain ⟨sa, sc, rfl⟩ := ho1.shape
  clear hk1 ho1 HS
  by_cases hm2 : m < 2
  · have m2 : decide ((m : Int) < 2) = true := decide_eq_true (by omega)
    have HR := Lib.hid (show res = none by rw [HP.out.2.1]; exact mainR_len (Or.inl (by omega)))
    clear hm2 hm
    go_wp2
    go_ret
    exact rf_no HP.out.2.2.2.1 HK.out HR.out
  by_cases hm10 : 10 < m
  · have m2 : decide ((m : Int) < 2) = false := decide_eq_false (by omega)
    have m10 : decide ((10 : Int) < (m : Int)) = true := decide_eq_true (by omega)
    have HR := Lib.hid (show res = none by rw [HP.out.2.1]; exact mainR_len (Or.inr (by omega)))
    clear hm2 hm hm10
    go_wp2
    go_ret
    exact rf_no HP.out.2.2.2.1 HK.out HR.out
  obtain ⟨a, b, l, rfl⟩ : ∃ a b l, ps = a :: b :: l := by
    match ps, hm with
    | [], h => simp at h; omega
    | [a], h => simp at h; omega
    | a :: b :: l, _ => exact ⟨a, b, l, rfl⟩
  have m2 : decide ((m : Int) < 2) = false := decide_eq_false (by omega)
  have m10 : decide ((10 : Int) < (m : Int)) = false := decide_eq_false (by omega)
  have hml : m = l.length + 2 := by rw [hm]; rfl
  have hl8 : l.length ≤ 8 := by omega
  obtain ⟨gs, offs, cs, hsv, hgs, t0⟩ := strs_at (ps := a :: b :: l) (i := 0) (p := a) HO.out rfl
  obtain ⟨gs1, offs1, cs1, hsv1, _, t1⟩ := strs_at (ps := a :: b :: l) (i := 1) (p := b) HO.out rfl
  injection hsv with e1 e2 e3
  subst e1
  injection hsv1 with e1 _ _
  injection e1 with e1
  injection e1 with e1 e4
  subst e1 e4
  rw [Nat.add_zero] at t0
  have HM := Lib.hid (And.intro hml hl8)
  have mI : (m : Int) ≤ 10 := by omega
  have m0 : (1 : Int) < (m : Int) := by omega
  have m00 : (0 : Int) < (m : Int) := by omega
  clear e2 e3 hm2 hm10 hm hml hl8
  by_cases ha : a = wMain
  · have hq : ((strB a).toList == [109, 97, 105, 110]) = true := by rw [ha, strB_toList]; rfl
    have HHA := Lib.hid ha
    clear ha
    go_wp2_with fail
    refine (rgoodName_spec _ b (piece_le (p := b) HP.out.1 HP.out.2.2.1 (by simp))).mono ?_
    rintro e w2 ⟨rfl, rfl⟩
    by_cases hn : nameL b = true
    · rw [hn]
      have HR := Lib.hid (show res = match readInts l with
          | some args => some { r with args := args, wants := r.wants ++ [⟨b, 2, none⟩] }
          | none => none by
        rw [HP.out.2.1]
        unfold mainR
        simp only
        rw [if_pos ⟨HHA.out, hn, HM.out.2⟩]
        cases readInts l <;> rfl)
      have H0 := Lib.hid (show RfAt B R 0 { r with args := [] } fv av wv qs w2 by
        have h9 := HP.out.2.2.2.1.keep0 HK.out
        have e : r = { r with args := [] } := by rw [← HP.out.2.2.2.2.1]
        rw [e] at h9
        exact h9)
      have HB := Lib.hid (keep_below0 HK.out (Nat.le_trans (Nat.le_of_lt HP.out.2.2.2.1.lt) HP.out.2.2.2.1.base))
      clear hn hq t0 m2 m10
      go_wp2_with fail
      go_loopw [11, 12, 13] (fun vi _ _ wr => ∃ (i : Nat) (l1 : List Int) (av' : Value), 2 ≤ i ∧ i ≤ m ∧ vi = .int .i64 i ∧ readInts (l.take (i - 2)) = some l1 ∧ l1.length ≤ i ∧ RfAt B R 0 { r with args := l1 } fv av' wv qs wr ∧ Below R w wr ∧ OwnsAt wr w.heap.size 9 1 (.slice (some ⟨gs, offs, none⟩) m sc) m ((a :: b :: l).map fun p => .string (strB p))) (fun vi _ _ _ => m - (intOf vi).toNat)
      case atStart => exact ⟨2, [], av, Nat.le_refl _, by omega, rfl, rfl, by simp, H0.out, HB.out, HO.out⟩
      case round =>
        clear t1
        obtain ⟨i, l1, av', hi2, him, rfl, hri, hl1, hrf, hbl, hos⟩ := hrel
        have HRI := Lib.hid (And.intro hri (And.intro hl1 (And.intro hrf (And.intro hbl hos))))
        clear hri hrf hbl hos
        by_cases hlt : i < m
        · have hltI : (i : Int) < (m : Int) := by omega
          have hi0 : (0 : Int) ≤ (i : Int) := by omega
          have hl10 : l1.length ≤ 10 := by omega
          obtain ⟨p, hp⟩ := get_ex (show i - 2 < l.length by have := HM.out.1; omega)
          have hp2 : (a :: b :: l)[i]? = some p := by
            rw [show i = (i - 2) + 1 + 1 by omega, List.getElem?_cons_succ, List.getElem?_cons_succ]
            exact hp
          obtain ⟨gs2, offs2, cs2, hsv2, _, t2⟩ := strs_at (ps := a :: b :: l) (i := i) (p := p) HRI.out.2.2.2.2 hp2
          injection hsv2 with e1 _ _
          injection e1 with e1
          injection e1 with e1 e4
          subst e1 e4
          have hpl := piece_le (p := p) HP.out.1 HP.out.2.2.1 (List.mem_of_getElem? hp2)
          have HPP := Lib.hid (And.intro hp (And.intro hp2 hpl))
          clear hp hp2 hpl hl1
          go_wp2_with fail
          refine (readInt_spec _ p HPP.out.2.2).mono ?_
          rintro e w3 ⟨hm', rfl⟩
          cases hrp : readInt p with
          | none =>
            rw [hrp] at hm'
            obtain rfl := hm'
            have HN := Lib.hid (show res = none by rw [HR.out, readInts_no HPP.out.1 hrp])
            clear hrp
            go_wp2
            go_ret
            exact RfPost.no HN.out rfl HRI.out.2.2.2.1
          | some n =>
            rw [hrp] at hm'
            obtain rfl := hm'
            have HRN := Lib.hid (show readInts (l.take (i + 1 - 2)) = some (l1 ++ [n]) by
              rw [show i + 1 - 2 = (i - 2) + 1 by omega, List.take_add_one, HPP.out.1]
              exact readInts_snoc HRI.out.1 hrp)
            obtain ⟨aa, ac, haa⟩ := HRI.out.2.2.1.args.shape
            simp only at haa
            subst haa
            have zb := HRI.out.2.2.1.blk
            have z2 : wr.cell? ⟨R, 2, none⟩ = some (.slice aa l1.length ac) := zb.cell 2
            have zf : ∀ i, wr.frozen? ⟨R, i, none⟩ = false := fun i => zb.frozen i
            have kA : Keep [] wr (wr.alloc (.cells #[.int .i64 n] 3)) := (Keep.refl [] wr).alloc _
            have HX := Lib.hid (And.intro (HRI.out.2.2.1.args.keep kA (by simp)) (And.intro (src_num wr n) (And.intro kA (zb.keep kA (by simp)))))
            have Hz : Hid (B ≤ (wr.alloc (.cells #[.int .i64 n] 3)).heap.size) := Lib.hid (Nat.le_trans HRI.out.2.2.1.base kA.size)
            clear hrp zb kA
            go_wp2_with (at_builtin; refine wpList_append_off rfl _ _ rfl Tryz.sts23 B (.slice aa l1.length ac) l1.length (l1.map (.int .i64)) rfl HX.out.1 _ 1 [.int .i64 n] rfl HX.out.2.1 (by simp [Value.oneCell']) (by unfold maxLen; omega) (by omega) Hz.out ?_)
            intro v7 w7 ho7 hk7 hb7
            obtain ⟨a7, c7, rfl⟩ := ho7.shape
            have hs7 := HX.out.2.2.2.keep hk7 (own_apart HX.out.1 HX.out.2.2.2 (by decide))
            have y2 : w7.cell? ⟨R, 2, none⟩ = some (.slice aa l1.length ac) := hs7.cell 2
            have yf : ∀ i, w7.frozen? ⟨R, i, none⟩ = false := fun i => hs7.frozen i
            have kS : Keep [R] w7 (w7.setCell ⟨R, 2, none⟩ (.slice a7 (l1.length + 1) c7)) := (Keep.refl _ _).setCell (by simp) _
            have hrf := HRI.out.2.2.1.arg HX.out.2.2.1 hk7 ho7 kS (fun hb => hb.set_ 2 _)
            have hbl := rbelow_arg HRI.out.2.2.2.1 HRI.out.2.2.1 HX.out.2.2.1 hk7 kS
            have hosA := HRI.out.2.2.2.2.keep HX.out.2.2.1 (by simp)
            have hos7 := hosA.keep hk7 (own_own hosA HX.out.1 (by decide))
            have hos := hos7.keep kS (fun g hg hx => own_apart hos7 hs7 (by decide) (by rw [← List.mem_singleton.1 hx]; exact mem_ownD.2 hg))
            have HG := Lib.hid (And.intro hrf (And.intro hbl hos))
            clear ho7 hk7 hb7 hs7 kS hrf hbl hosA hos7 hos z2 zf
            go_wp2
            go_roundw
            case rel => exact ⟨i + 1, l1 ++ [n], _, by omega, by omega, by go_num, HRN.out, by have := HRI.out.2.1; simp; omega, HG.out.1, HG.out.2.1, HG.out.2.2⟩
            case measure => simp [intOf]; omega
        · obtain rfl : i = m := by omega
          have hra : readInts l = some l1 := by
            have h9 := HRI.out.1
            have e : i - 2 = l.length := by have := HM.out.1; omega
            rw [e, List.take_length] at h9
            exact h9
          have HN := Lib.hid (show res = some { r with args := l1, wants := r.wants ++ [⟨b, 2, none⟩] } by rw [HR.out, hra])
          obtain ⟨gs2, offs2, cs2, hsv2, _, t2⟩ := strs_at (ps := a :: b :: l) (i := 1) (p := b) HRI.out.2.2.2.2 rfl
          injection hsv2 with e1 _ _
          injection e1 with e1
          injection e1 with e1 e4
          subst e1 e4
          obtain ⟨aw, cw, hwv⟩ := HRI.out.2.2.1.wants.shape
          simp only at hwv
          subst hwv
          have zb := HRI.out.2.2.1.blk
          have z5 : wr.cell? ⟨R, 5, none⟩ = some (.slice aw r.wants.length cw) := zb.cell 5
          have zf : ∀ i, wr.frozen? ⟨R, i, none⟩ = false := fun i => zb.frozen i
          have hRw : R < wr.heap.size := zb.lt
          have hgsw : gs < wr.heap.size := cell_lt t2
          have hwl := HP.out.2.2.2.2.2.1
          have kA : Keep [] wr ((wr.alloc (.cells #[.int .i64 2, .int .i64 (-1), .int .i64 0, .string (strB b)] 77)).drew) := ((Keep.refl [] wr).alloc _).drew
          have HX0 := Lib.hid (And.intro (HRI.out.2.2.1.wants.keep kA (by simp)) (And.intro (src_lit wr #[.int .i64 2, .int .i64 (-1), .int .i64 0, .string (strB b)] [.int .i64 2, .int .i64 (-1), .int .i64 0, .string (strB b)] 77 4 1 rfl rfl) (And.intro kA (zb.keep kA (by simp)))))
          clear zb kA hra hl1
          go_upto_region 19 with fail
          go_wp2_with fail
          go_region_law (refine step_append_off rfl (.tmp 110) (.tmp 116) rfl Tryz.sts72 B (.slice aw r.wants.length cw) r.wants.length (r.wants.flatMap ltC) (by simp [Act.eval, Act.put]) HX0.out.1 (.slice (some ⟨wr.heap.size, 0, none⟩) 1 1) 1 [.int .i64 2, .int .i64 (-1), .int .i64 0, .string (strB b)] (by simp [Act.eval, Act.put]) HX0.out.2.1 (by simp [Value.oneCell']) (by unfold maxLen; omega) (by omega) (Nat.le_trans HRI.out.2.2.1.base HX0.out.2.2.1.size) ?_; intro v' w7 hown6 hk6 hat6; obtain ⟨a6, c6, rfl⟩ := hown6.shape; have hs6 := HX0.out.2.2.2.keep hk6 (own_apart HX0.out.1 HX0.out.2.2.2 (by decide)); have y5 : w7.cell? ⟨R, 5, none⟩ = some (.slice aw r.wants.length cw) := hs6.cell 5; have yf5 : ∀ i, w7.frozen? ⟨R, i, none⟩ = false := fun i => hs6.frozen i; have G0 := Lib.hid (And.intro hown6 (And.intro hk6 hs6)); clear hown6 hk6 hat6 hs6)
          all_goals
            go_wp2
            go_ret
            have kS : Keep [R] w7 (w7.setCell ⟨R, 5, none⟩ (.slice a6 (r.wants.length + 1) c6)) := (Keep.refl _ _).setCell (by simp) _
            exact RfPost.yes HN.out rfl (rbelow_want HRI.out.2.2.2.1 HRI.out.2.2.1 HX0.out.2.2.1 G0.out.2.1 kS) (HRI.out.2.2.1.want (t := ⟨b, 2, none⟩) HX0.out.2.2.1 G0.out.2.1 G0.out.1 kS (fun hb => hb.set_ 5 _))
    · have hn' : nameL b = false := by simpa using hn
      rw [hn']
      have HR := Lib.hid (show res = none by
        rw [HP.out.2.1]
        unfold mainR
        simp only
        rw [if_neg (fun h => hn h.2.1)])
      clear hn hn'
      go_wp2
      go_ret
      exact rf_no HP.out.2.2.2.1 HK.out HR.out
  · have hq : ((strB a).toList == [109, 97, 105, 110]) = false := by rw [strB_toList]; exact beq_eq_false_iff_ne.2 ha
    have HR := Lib.hid (show res = none by rw [HP.out.2.1]; unfold mainR; simp only; rw [if_neg (fun h => ha h.1)])
    clear ha
    go_wp2
    go_ret
    exact rf_no HP.out.2.2.2.1 HK.out HR.out
end Go.Proofs.YtbdkmfcgnolihaaGreatDoor
namespace Go.Proofs.YtbdkmfcgnolihaaGreatDoor
set_option linter.unusedSimpArgs false
set_option linter.unnecessarySimpa false
set_option linter.unusedVariables false
open Go.RowKit
theorem funcR_len {ps : List BS} {r : AR} (h : ps.length ≠ 4) : funcR ps r = none := by
  unfold funcR
  split
  · simp at h
  · rfl
theorem rfunc_no {B R : Nat} {r : AR} {res : Option AR} {fv av wv v7 : Value} {qs : List (FN × Value)} {w w4 wA w5 : World} (hres : res = none) (k0 : Keep [] w w4) (h : RfAt B R 0 r fv av wv qs w4) (hR : R ≤ w.heap.size) (kA : Keep [] w4 wA) (k5 : Keep (ownBlocks fv) wA w5) : RfPost B R res w (.returned (.bool false)) (w5.setCell ⟨R, 0, none⟩ v7) := by
  have k : Keep [R] w5 (w5.setCell ⟨R, 0, none⟩ v7) := (Keep.refl _ _).setCell (by simp) _
  have b0 := keep_below0 k0 hR
  have hR4 : R ≤ w4.heap.size := Nat.le_trans hR k0.size
  have b1 := Keep.below b0 kA hR4 (by simp)
  have b2 := Keep.below b1 k5 (Nat.le_trans hR4 kA.size) (fun x hx => by have := own_base h.fns.own x hx; have := h.lt; omega)
  exact RfPost.no hres rfl (Keep.below b2 k (Nat.le_trans (Nat.le_trans hR4 kA.size) k5.size) (fun x hx => by rw [List.mem_singleton.1 hx]; exact Nat.le_refl _))
set_option maxHeartbeats 12800000 in
set_option maxRecDepth 100000 in
theorem rline_func {B R : Nat} {r : AR} {fv av wv : Value} {qs : List (FN × Value)} {w : World} (H : RfAt B R 0 r fv av wv qs w) (hr : ARok r) {no : Nat} (h3 : 3 ≤ no) (bs : BS) (hl : bs.length ≤ 900000) (ht : 2 < bs.length → bs.take 2 ≠ [32, 32]) : Calls Tryz.prog 36 #[.pointer (some ⟨R, 0, none⟩), .int .i64 no, .string (strB bs)] w (RfPost B R (funcR (pieces 32 bs) r) w) := by
  obtain ⟨ps, hps⟩ : ∃ ps, ps = pieces 32 bs := ⟨_, rfl⟩
  obtain ⟨res, hres⟩ : ∃ res, res = funcR ps r := ⟨_, rfl⟩
  have HS := Lib.hid (rsplit_own w bs (by omega))
  rw [← hps, ← hres]
  rw [← hps] at HS
  have HP := Lib.hid (And.intro hps (And.intro hres (And.intro hl (And.intro H hr))))
  have no1 : ((no : Int) == 1) = false := by simp; omega
  have no2 : ((no : Int) == 2) = false := by simp; omega
  have es : (strB bs).size = bs.length := strB_size bs
  have hhead : decide ((2 : Int) < (bs.length : Int)) = false ∨ (decide ((2 : Int) < (bs.length : Int)) = true ∧ (2 : Int) ≤ (bs.length : Int) ∧ (((strB bs).extract 0 2).toList == [32, 32]) = false) := by
    by_cases h2 : 2 < bs.length
    · refine Or.inr ⟨decide_eq_true (by omega), by omega, ?_⟩
      rw [extract_strB, strB_toList]
      exact beq_eq_false_iff_ne.2 (by simpa using ht h2)
    · exact Or.inl (decide_eq_false (by omega))
  clear hps hres hl H hr h3 ht
  go_enter Tryz.func36, Tryz.ntmps36
  go_wp2_with fail
  refine HS.out.mono ?_
  rintro e w1 ⟨hk1, sv, rfl, ho1⟩
  obtain ⟨m, hm⟩ : ∃ m, m = ps.length := ⟨_, rfl⟩
  rw [← hm] at ho1
  have HO := Lib.hid ho1
  have HK := Lib.hid hk1
  have HM := Lib.hid hm
  obtain ⟨sa, sc, rfl⟩ := ho1.shape
  clear hk1 ho1 HS hm
  go_upto_region 21 with fail
  go_cut [120] from 121 to 128 (fun v120 wx => v120 = .bool false ∧ wx = w1)
  case first =>
    rcases hhead with h1 | ⟨h1, h2, h4⟩
    · go_wp2_with fail
      go_meet
      case rel => exact ⟨rfl, rfl⟩
    · go_wp2_with fail
      go_meet
      case rel => exact ⟨rfl, rfl⟩
  case rest =>
    obtain ⟨rfl, rfl⟩ := hcut
    clear hhead
    by_cases hm4 : m = 4
    · obtain ⟨a, b, c, d, rfl⟩ : ∃ a b c d, ps = [a, b, c, d] := by
        have := HM.out
        match ps, (show ps.length = 4 by omega) with
        | [a, b, c, d], _ => exact ⟨a, b, c, d, rfl⟩
      subst hm4
      obtain ⟨gs, offs, cs, hsv, hgs, t0⟩ := strs_at (ps := [a, b, c, d]) (i := 0) (p := a) HO.out rfl
      obtain ⟨gs1, offs1, cs1, hsv1, _, t1⟩ := strs_at (ps := [a, b, c, d]) (i := 1) (p := b) HO.out rfl
      obtain ⟨gs2, offs2, cs2, hsv2, _, t2⟩ := strs_at (ps := [a, b, c, d]) (i := 2) (p := c) HO.out rfl
      obtain ⟨gs3, offs3, cs3, hsv3, _, t3⟩ := strs_at (ps := [a, b, c, d]) (i := 3) (p := d) HO.out rfl
      injection hsv with e1 _ _
      subst e1
      injection hsv1 with e1 _ _
      injection e1 with e1
      injection e1 with e1 e4
      subst e1 e4
      injection hsv2 with e1 _ _
      injection e1 with e1
      injection e1 with e1 e4
      subst e1 e4
      injection hsv3 with e1 _ _
      injection e1 with e1
      injection e1 with e1 e4
      subst e1 e4
      rw [Nat.add_zero] at t0
      have hbl := piece_le (p := b) HP.out.1 HP.out.2.2.1 (by simp)
      have hcl := piece_le (p := c) HP.out.1 HP.out.2.2.1 (by simp)
      have hdl := piece_le (p := d) HP.out.1 HP.out.2.2.1 (by simp)
      have HLN := Lib.hid (And.intro hbl (And.intro hcl hdl))
      clear hbl hcl hdl HM
      by_cases ha : a = wFunc
      · have hq : ((strB a).toList == [102, 117, 110, 99]) = true := by rw [ha, strB_toList]; rfl
        have HHA := Lib.hid ha
        clear ha
        go_wp2_with fail
        refine (rgoodName_spec _ b HLN.out.1).mono ?_
        rintro e w2 ⟨rfl, rfl⟩
        by_cases hn : nameL b = true
        · rw [hn]
          have HRF := Lib.hid (HP.out.2.2.2.1.keep0 HK.out)
          obtain ⟨aq, cq, hav⟩ := HRF.out.fns.own.shape
          subst hav
          have z0 : w2.cell? ⟨R, 0, none⟩ = some (.slice aq qs.length cq) := HRF.out.blk.cell 0
          have hq32 : qs.length ≤ 32 := by have := HP.out.2.2.2.2.few; rw [HP.out.2.2.2.1.fs, List.length_map] at this; exact this
          have hqI : (qs.length : Int) ≤ 32 := by omega
          have HN := Lib.hid hn
          clear hn
          by_cases h32 : qs.length = 32
          · have h32I : decide ((32 : Int) ≤ (qs.length : Int)) = true := decide_eq_true (by omega)
            have HR := Lib.hid (show res = none by
              rw [HP.out.2.1]
              unfold funcR
              simp only
              rw [if_neg (fun h => by have := h.2.2.1; rw [HP.out.2.2.2.1.fs, List.length_map] at this; omega)])
            clear h32 hqI hq32
            go_wp2
            go_ret
            exact rf_no HP.out.2.2.2.1 HK.out HR.out
          · have h32I : decide ((32 : Int) ≤ (qs.length : Int)) = false := decide_eq_false (by omega)
            have HQ32 := Lib.hid (show qs.length < 32 by omega)
            clear h32
            go_wp2_with fail
            clear t0 hq
            go_loopw [14] (fun vi wr => ∃ i : Nat, i ≤ qs.length ∧ vi = .int .i64 i ∧ (∀ (j : Nat) (g : FN), j < i → r.funcs[j]? = some g → g.name ≠ b) ∧ Keep [] w2 wr) (fun vi _ => qs.length - (intOf vi).toNat)
            case atStart => exact ⟨0, Nat.zero_le _, rfl, fun j g hj => absurd hj (by omega), Keep.refl _ _⟩
            case round =>
              obtain ⟨i, hi, rfl, hno, hk⟩ := hrel
              have HNO := Lib.hid (And.intro hno hk)
              have z0' := cell_keep0 hk z0
              have t1' := cell_keep0 hk t1
              have t2' := cell_keep0 hk t2
              have t3' := cell_keep0 hk t3
              clear hno hk z0 t1 t2 t3
              by_cases hlt : i < qs.length
              · have hltI : (i : Int) < (qs.length : Int) := by omega
                have hi0 : (0 : Int) ≤ (i : Int) := by omega
                obtain ⟨⟨f, cv⟩, hp⟩ := get_ex hlt
                obtain ⟨g, off, cap, hv, hg, _, c0, _, _, _, _⟩ := (HRF.out.keep0 HNO.out.2).fns.fn hp
                injection hv with e1 e2 e3
                subst e1
                have hf : r.funcs[i]? = some f := by rw [HP.out.2.2.2.1.fs, List.getElem?_map, hp]; rfl
                have HF := Lib.hid hf
                clear hp e2 e3 hf t2' t3'
                by_cases he : f.name = b
                · have hq : ((strB f.name).toList == (strB b).toList) = true := by rw [he]; simp
                  have HR := Lib.hid (show res = none by
                    rw [HP.out.2.1]
                    unfold funcR
                    simp only
                    rw [if_neg (fun h => h.2.2.2 f (List.mem_of_getElem? HF.out) he)])
                  clear he
                  go_wp2
                  go_quiet (fail)
                  go_wp2
                  go_ret
                  exact rf_no HP.out.2.2.2.1 ((HK.out.trans HNO.out.2 (by simp)).drewN _) HR.out
                · have hq : ((strB f.name).toList == (strB b).toList) = false := strB_ne he
                  have H3 := Lib.hid (show ∀ (j : Nat) (g : FN), j < i + 1 → r.funcs[j]? = some g → g.name ≠ b from fun j g hj hg => by
                    by_cases e : j = i
                    · subst e
                      rw [HF.out] at hg
                      cases hg
                      exact he
                    · exact HNO.out.1 j g (by omega) hg)
                  clear he
                  go_wp2
                  go_quiet (fail)
                  go_wp2
                  go_roundw
                  case rel => exact ⟨i + 1, by omega, by go_num, H3.out, HNO.out.2.drewN _⟩
                  case measure => simp [intOf]; omega
              · obtain rfl : i = qs.length := by omega
                have HAL := Lib.hid (show ∀ f ∈ r.funcs, f.name ≠ b from fun f hf => by
                  obtain ⟨j, hj⟩ := List.mem_iff_getElem?.1 hf
                  refine HNO.out.1 j f ?_ hj
                  have := get_lt hj
                  rw [HP.out.2.2.2.1.fs, List.length_map] at this
                  exact this)
                obtain ⟨x, y, ok, h2, hy, hn⟩ := two_form c d
                have HT := Lib.hid (fun w' => two_q w' h2 HLN.out.2.1 HLN.out.2.2)
                have HY := Lib.hid (And.intro hy hn)
                clear h2 hy hn
                go_wp2_with fail
                go_upto_region 30 with fail
                go_quiet (first | (go_at_call 49; with_reducible refine Calls.quiet_of_same (HT.out _)))
                go_wp2_with fail
                go_upto_region 31 with fail
                have kq : Keep [] wr (wr.drewN nq) := (Keep.refl _ _).drewN _
                have t1q := cell_keep0 kq t1'
                have K4 := Lib.hid ((HK.out.trans HNO.out.2 (by simp)).trans kq (by simp))
                clear kq z0' t1' t2' t3'
                generalize wr.drewN nq = w4 at *
                have HR4 := Lib.hid (HP.out.2.2.2.1.keep0 K4.out)
                have zb := HR4.out.blk
                have z0 : w4.cell? ⟨R, 0, none⟩ = some (.slice aq qs.length cq) := zb.cell 0
                have zf : ∀ i, w4.frozen? ⟨R, i, none⟩ = false := fun i => zb.frozen i
                have hRw : R < w4.heap.size := zb.lt
                have hgsw : gs < w4.heap.size := cell_lt t1q
                have kA : Keep [] w4 ((w4.alloc (.cells #[.string (strB b), .int .i64 x, .int .i64 y, .slice none 0 0] 36)).drew) := ((Keep.refl [] w4).alloc _).drew
                have HX := Lib.hid (And.intro (HR4.out.fns.own.keep kA (by simp)) (And.intro (src_lit w4 #[.string (strB b), .int .i64 x, .int .i64 y, .slice none 0 0] [.string (strB b), .int .i64 x, .int .i64 y, .slice none 0 0] 36 4 1 rfl rfl) (And.intro kA (zb.keep kA (by simp)))))
                have HRW := Lib.hid (Nat.le_trans (Nat.le_of_lt HP.out.2.2.2.1.lt) HP.out.2.2.2.1.base)
                clear zb kA
                go_wp2_with fail
                go_region_law (refine step_append_off rfl (.tmp 199) (.tmp 206) rfl Tryz.sts22 B (.slice aq qs.length cq) qs.length (qs.flatMap fnP) (by simp [Act.eval, Act.put]) HX.out.1 (.slice (some ⟨w4.heap.size, 0, none⟩) 1 1) 1 [.string (strB b), .int .i64 x, .int .i64 y, .slice none 0 0] (by simp [Act.eval, Act.put]) HX.out.2.1 (by simp [Value.oneCell']) (by unfold maxLen; omega) (by omega) (Nat.le_trans HR4.out.base HX.out.2.2.1.size) ?_; intro v' w5 hown5 hk5 hat5; obtain ⟨a5, c5, rfl⟩ := hown5.shape; have hs5 := HX.out.2.2.2.keep hk5 (own_apart HX.out.1 HX.out.2.2.2 (by decide)); have y0 : w5.cell? ⟨R, 0, none⟩ = some (.slice aq qs.length cq) := hs5.cell 0; have yf : ∀ i, w5.frozen? ⟨R, i, none⟩ = false := fun i => hs5.frozen i; have G := Lib.hid (And.intro hown5 (And.intro hk5 hs5)); clear hown5 hk5 hat5 hs5)
                all_goals
                  cases ok with
                  | true =>
                    have HR := Lib.hid (show res = some { r with funcs := r.funcs ++ [⟨b, x, y, []⟩] } by
                      rw [HP.out.2.1]
                      unfold funcR
                      simp only
                      rw [if_pos ⟨HHA.out, HN.out, by rw [HP.out.2.2.2.1.fs, List.length_map]; exact HQ32.out, HAL.out⟩, (HY.out.1 rfl).1, (HY.out.1 rfl).2])
                    go_wp2
                    go_ret
                    exact rfunc_end (b := b) (x := x) (y := y) HR.out K4.out HR4.out HRW.out HX.out.2.2.1 G.out.2.1 G.out.1
                  | false =>
                    have HR := Lib.hid (show res = none by
                      rw [HP.out.2.1]
                      unfold funcR
                      simp only
                      split
                      · rcases HY.out.2 rfl with h | h
                        · rw [h]
                        · rw [h]; cases readInt c <;> rfl
                      · rfl)
                    go_wp2
                    go_ret
                    exact rfunc_no HR.out K4.out HR4.out HRW.out HX.out.2.2.1 G.out.2.1
        · have hn' : nameL b = false := by simpa using hn
          rw [hn']
          have HR := Lib.hid (show res = none by
            rw [HP.out.2.1]
            unfold funcR
            simp only
            rw [if_neg (fun h => hn h.2.1)])
          clear hn hn'
          go_wp2
          go_ret
          exact rf_no HP.out.2.2.2.1 HK.out HR.out
      · have hq : ((strB a).toList == [102, 117, 110, 99]) = false := by rw [strB_toList]; exact beq_eq_false_iff_ne.2 ha
        have HR := Lib.hid (show res = none by rw [HP.out.2.1]; unfold funcR; simp only; rw [if_neg (fun h => ha h.1)])
        clear ha
        go_wp2
        go_ret
        exact rf_no HP.out.2.2.2.1 HK.out HR.out
    · have h4B : ((m : Int) != 4) = true := by simp; omega
      have HR := Lib.hid (show res = none by rw [HP.out.2.1]; exact funcR_len (by rw [← HM.out]; exact hm4))
      clear hm4
      go_wp2
      go_ret
      exact rf_no HP.out.2.2.2.1 HK.out HR.out
end Go.Proofs.YtbdkmfcgnolihaaGreatDoor
namespace Go.Proofs.YtbdkmfcgnolihaaGreatDoor
set_option linter.unusedSimpArgs false
set_option linter.unnecessarySimpa false
set_option linter.unusedVariables false
open Go.RowKit
theorem insR_noop {no : Nat} {a : BS} {rs : List BS} {r : AR} (h : opOf a = none) : insR no (a :: rs) r = none := by
  unfold insR
  split
  · rfl
  · match rs with
    | [] => simp only [h]
    | [b] => simp only [h]
    | b :: c :: rs => rfl
theorem insR_bad {no : Nat} {ps : List BS} {r : AR} (h : r.funcs = [] ∨ 256 ≤ lastLen r.funcs) : insR no ps r = none := by unfold insR; rw [if_pos h]
theorem insR_many {no : Nat} {a : BS} {rs : List BS} {r : AR} {op : Int} (ho : opOf a = some op) (hh : hasN op = false) (hn : rs.length ≠ 0) : insR no (a :: rs) r = none := by
  unfold insR
  split
  · rfl
  · match rs with
    | [] => simp at hn
    | [b] => simp only [ho, hh, if_true]
    | b :: c :: rs => rfl
theorem insR_few {no : Nat} {a : BS} {rs : List BS} {r : AR} {op : Int} (ho : opOf a = some op) (hh : hasN op = true) (hn : rs.length ≠ 1) : insR no (a :: rs) r = none := by
  unfold insR
  split
  · rfl
  · match rs with
    | [] => simp only [ho, hh, if_true]
    | [b] => simp at hn
    | b :: c :: rs => rfl
theorem RfPost.of {B R : Nat} {res : Option AR} {r' : AR} {w w' : World} {e : Ending} (h : res = some r') (he : e = .returned (.bool true) ∧ Below R w w' ∧ ∃ fv av wv ps, RfAt B R 0 r' fv av wv ps w') : RfPost B R res w e w' := by subst h; exact he
theorem rins_spec {B R Bs : Nat} {r : AR} {fv av wv sv : Value} {qs : List (FN × Value)} {w : World} (no : Nat) (H : RfAt B R 0 r fv av wv qs w) (hr : ARok r) {ps : List BS} (hne : ps ≠ []) (hS : OwnsAt w Bs 9 1 sv ps.length (ps.map fun p => .string (strB p))) (hsh : ∀ p ∈ ps, p.length ≤ 1000000) (hw1 : r.wants.length ≤ 1000000) :
    Calls Tryz.prog 51 #[.pointer (some ⟨R, 0, none⟩), .int .i64 no, sv] w (RfPost B R (insR no ps r) w) := by
  have fin : ∀ {res : Option AR}, res = none → (Calls Tryz.prog 51 #[.pointer (some ⟨R, 0, none⟩), .int .i64 no, sv] w fun e w' => e = .returned (.bool false) ∧ Keep [] w w') → Calls Tryz.prog 51 #[.pointer (some ⟨R, 0, none⟩), .int .i64 no, sv] w (RfPost B R res w) := fun h hc => hc.mono fun e w' ⟨he, hk⟩ => by subst he; exact rf_no H hk h
  obtain ⟨a, rs, rfl⟩ := List.exists_cons_of_ne_nil hne
  cases ho : opOf a with
  | none => exact fin (insR_noop ho) (rins_noop no H hr hS ho)
  | some op =>
    by_cases hq0 : qs = []
    · exact fin (insR_bad (Or.inl (by rw [H.fs, hq0]; rfl))) (rins_nofn no H hr hS ho hq0)
    · have hlp := List.length_pos_iff.2 hq0
      obtain ⟨k, hlast⟩ : ∃ k, qs.length = k + 1 := ⟨qs.length - 1, by omega⟩
      obtain ⟨⟨f, cv⟩, hk⟩ := get_ex (show k < qs.length by omega)
      have hfl : r.funcs[r.funcs.length - 1]? = some f := by rw [H.fs, List.length_map, hlast, Nat.add_sub_cancel, List.getElem?_map, hk]; rfl
      have hll := lastLen_at hfl
      have hne2 : r.funcs ≠ [] := by rw [H.fs]; simpa using hq0
      by_cases h256 : 256 ≤ f.code.length
      · exact fin (insR_bad (Or.inr (by rw [hll]; exact h256))) (rins_full no H hr hS hk hlast ho h256)
      · have hc : ¬ (r.funcs = [] ∨ 256 ≤ lastLen r.funcs) := by rintro (h | h); exact hne2 h; rw [hll] at h; exact h256 h
        have hlt : f.code.length < 256 := by omega
        by_cases hh : hasN op = true
        · by_cases hn : rs.length = 1
          · obtain ⟨b, rfl⟩ : ∃ b, rs = [b] := by
              match rs, hn with
              | [b], _ => exact ⟨b, rfl⟩
            have hb := hsh b (by simp)
            by_cases h16 : op = 16
            · subst h16
              by_cases hnm : nameL b = true
              · refine (rins_spawn no H hr hS hk hlast ho hlt hh hb hw1 hnm).mono fun e w' he => RfPost.of ?_ he
                unfold insR
                rw [if_neg hc]
                simp only [ho, hh, Bool.true_eq_false, if_false, if_true, hnm]
                rw [hll, H.fs, List.length_map, hlast, Nat.add_sub_cancel]
              · have hnm' : nameL b = false := by simpa using hnm
                refine fin ?_ (rins_spawnno no H hr hS hk hlast ho hlt hh hb hw1 hnm')
                unfold insR
                rw [if_neg hc]
                simp only [ho, hh, Bool.true_eq_false, if_false, if_true, hnm', Bool.false_eq_true]
            · cases hrb : readInt b with
              | none =>
                refine fin ?_ (rins_numno no H hr hS hk hlast ho hlt hh h16 hb hrb)
                unfold insR
                rw [if_neg hc]
                simp only [ho, hh, Bool.true_eq_false, if_false, if_neg h16, hrb]
              | some m =>
                refine (rins_num no H hr hS hk hlast ho hlt hh h16 hb hrb).mono fun e w' he => RfPost.of ?_ he
                unfold insR
                rw [if_neg hc]
                simp only [ho, hh, Bool.true_eq_false, if_false, if_neg h16, hrb]
          · exact fin (insR_few ho hh hn) (rins_few no H hr hS hk hlast ho hlt hh hn)
        · have hh' : hasN op = false := by simpa using hh
          by_cases hn : rs.length = 0
          · obtain rfl := List.length_eq_zero_iff.1 hn
            refine (rins_plain no H hr hS hk hlast ho hlt hh').mono fun e w' he => RfPost.of ?_ he
            unfold insR
            rw [if_neg hc]
            simp only [ho, hh', Bool.false_eq_true, if_false]
          · exact fin (insR_many ho hh' hn) (rins_many no H hr hS hk hlast ho hlt hh' hn)
theorem RfPost.pre {B R : Nat} {res : Option AR} {w w2 w' : World} {e : Ending} (hk : Below R w w2) (h : RfPost B R res w2 e w') : RfPost B R res w e w' := by
  unfold RfPost at h ⊢
  cases res with
  | none => exact ⟨h.1, below_tr hk h.2⟩
  | some r' => exact ⟨h.1, below_tr hk h.2.1, h.2.2⟩
set_option maxHeartbeats 6400000 in
set_option maxRecDepth 100000 in
theorem rline_ins {B R : Nat} {r : AR} {fv av wv : Value} {qs : List (FN × Value)} {w : World} (H : RfAt B R 0 r fv av wv qs w) (hr : ARok r) (hw1 : r.wants.length ≤ 1000000) {no : Nat} (h3 : 3 ≤ no) (bs : BS) (hl : bs.length ≤ 900000) (h2 : 2 < bs.length) (ht : bs.take 2 = [32, 32]) : Calls Tryz.prog 36 #[.pointer (some ⟨R, 0, none⟩), .int .i64 no, .string (strB bs)] w (RfPost B R (insR no (pieces 32 (bs.drop 2)) r) w) := by
  obtain ⟨ps, hps⟩ : ∃ ps, ps = pieces 32 (bs.drop 2) := ⟨_, rfl⟩
  obtain ⟨res, hres⟩ : ∃ res, res = insR no ps r := ⟨_, rfl⟩
  have HS := Lib.hid (rsplit_own w bs (by omega))
  have HS2 := Lib.hid (fun w' => rsplit_own w' (bs.drop 2) (by rw [List.length_drop]; omega))
  rw [← hps, ← hres]
  rw [← hps] at HS2
  have HP := Lib.hid (And.intro hps (And.intro hres (And.intro hl (And.intro H (And.intro hr hw1)))))
  have no1 : ((no : Int) == 1) = false := by simp; omega
  have no2 : ((no : Int) == 2) = false := by simp; omega
  have es : (strB bs).size = bs.length := strB_size bs
  have h2I : decide ((2 : Int) < (bs.length : Int)) = true := decide_eq_true (by omega)
  have h22 : (2 : Int) ≤ (bs.length : Int) := by omega
  have hq : (((strB bs).extract 0 2).toList == [32, 32]) = true := by
    rw [extract_strB, strB_toList]
    simpa using ht
  have hex : (strB bs).extract 2 bs.length = strB (bs.drop 2) := by
    rw [extract_strB, List.take_of_length_le (by rw [List.length_drop]; omega)]
  clear hps hres hl H hr hw1 h3 ht
  go_enter Tryz.func36, Tryz.ntmps36
  go_wp2_with fail
  refine HS.out.mono ?_
  rintro e w1 ⟨hk1, sv, rfl, ho1⟩
  have HK := Lib.hid hk1
  obtain ⟨sa, sc, rfl⟩ := ho1.shape
  clear hk1 ho1 HS
  go_wp2_with fail
  refine (HS2.out _).mono ?_
  rintro e w2 ⟨hk2, sv2, rfl, ho2⟩
  have HK2 := Lib.hid (HK.out.trans hk2 (by simp))
  have HO := Lib.hid ho2
  clear hk2 ho2 HS2
  go_wp2_with fail
  refine (rins_spec no (HP.out.2.2.2.1.keep0 HK2.out) HP.out.2.2.2.2.1 (by rw [HP.out.1]; exact pieces_ne 32 _) HO.out (fun p hp => by
    have h9 := pieces_short (c := 32) (s := bs.drop 2) (p := p) (by rw [← HP.out.1]; exact hp)
    rw [List.length_drop] at h9
    have := HP.out.2.2.1
    omega) HP.out.2.2.2.2.2).mono ?_
  intro e w3 hpost
  have HR := Lib.hid (RfPost.pre (keep_below0 HK2.out (Nat.le_trans (Nat.le_of_lt HP.out.2.2.2.1.lt) HP.out.2.2.2.1.base)) hpost)
  rw [← HP.out.2.1] at HR hpost
  cases res with
  | none =>
    obtain ⟨rfl, _⟩ := hpost
    go_wp2
    go_ret
    exact HR.out
  | some r' =>
    obtain ⟨rfl, _⟩ := hpost
    go_wp2
    go_ret
    exact HR.out
theorem rline_spec {B R : Nat} {r : AR} {fv av wv : Value} {qs : List (FN × Value)} {w : World} (H : RfAt B R 0 r fv av wv qs w) (hr : ARok r) (hw1 : r.wants.length ≤ 1000000) {no : Nat} (h1 : 1 ≤ no) (h0 : no = 2 → r.args = []) (bs : BS) (hl : bs.length ≤ 900000) : Calls Tryz.prog 36 #[.pointer (some ⟨R, 0, none⟩), .int .i64 no, .string (strB bs)] w (RfPost B R (lineR no bs r) w) := by
  by_cases e1 : no = 1
  · subst e1
    exact rline_job H bs hl
  by_cases e2 : no = 2
  · subst e2
    exact rline_main H (h0 rfl) hw1 bs hl
  have h3 : 3 ≤ no := by omega
  rw [lineR_ge h3]
  by_cases ht : bs.take 2 = [32, 32]
  · rw [if_pos ht]
    by_cases h2 : 2 < bs.length
    · exact rline_ins H hr hw1 h3 bs hl h2 ht
    · have hbs : bs = [32, 32] := by rw [← ht, List.take_of_length_le (by omega)]
      have he : insR no (pieces 32 (bs.drop 2)) r = none := by
        rw [hbs]
        show insR no [[]] r = none
        exact insR_noop (by decide)
      have hf : funcR (pieces 32 bs) r = none := by
        rw [hbs]
        exact funcR_len (by decide)
      rw [he, ← hf]
      exact rline_func H hr h3 bs hl (fun h => absurd h h2)
  · rw [if_neg ht]
    exact rline_func H hr h3 bs hl (fun _ => ht)
end Go.Proofs.YtbdkmfcgnolihaaGreatDoor
