/- The reference's Script: the walk. -/
import Derived.Test.YtndpbkhpllmhmaaDoorRows
import Derived.WalkKit
import Derived.WalkSpells
import Derived.WalkLawsBesides
import Derived.RegionTactic
import Derived.ChangeAlike
import Derived.BigQuiet
import Derived.Deep.QuietTactic
import Derived.StillTailTactics
import Derived.IntWalk
import Derived.Handy
import Derived.Lib.Hide
import Derived.Deep.AppendLies
import Derived.Deep.RegionWith
import Derived.Test.YtndpbkhpllmhmaaDoorMSAA
import Derived.Test.YtndpbkhpllmhmaaDoorMSAB
import Derived.Carry
import Derived.Deep.RegionHeld3
import Derived.BigRegion
import Derived.Maps.OwnSet
import Derived.Maps.Views
import Derived.Maps.StringElems
import Derived.Test.YtndpbkhpllmhmaaDoorMSAC
import Derived.Test.YtndpbkhpllmhmaaDoorMSAL
namespace Go.Proofs.YtndpbkhpllmhmaaDoor
set_option linter.unusedSimpArgs false
set_option linter.unnecessarySimpa false
set_option linter.unusedVariables false
open Go.RowKit
structure PR (w0 : World) (gS : Nat) (v : Value) (acc : List ST) (cells : List Value) (w : World) : Prop where
  c : Blk w gS 38 cells
  o : OwnsAt w w0.heap.size 38 4 v acc.length (acc.flatMap stC)
  k : Keep [] w0 w
  g2 : w0.heap.size ≤ gS
  ne : ∀ x, v.ownBlock = some x → x ≠ gS
theorem PR.drewN {w0 : World} {gS : Nat} {v : Value} {acc : List ST} {cells : List Value} {w : World} (h : PR w0 gS v acc cells w) (n : Nat) : PR w0 gS v acc cells (w.drewN n) :=
  ⟨h.c.drewN n, h.o.keep ((Keep.refl [] w).drewN n) (by simp), h.k.drewN n, h.g2, h.ne⟩
theorem PR.set_ {w0 : World} {gS : Nat} {v : Value} {acc : List ST} {cells : List Value} {w : World} (h : PR w0 gS v acc cells w) (i : Nat) (u : Value) : PR w0 gS v acc (cells.set i u) (w.setCell ⟨gS, i, none⟩ u) :=
  ⟨h.c.set_ i u, h.o.keep ((Keep.refl [gS] w).setCell (by simp) _) (fun x hx hm => h.ne x hx (List.mem_singleton.1 hm)), h.k.setCell (Or.inr h.g2) _, h.g2, h.ne⟩
set_option maxHeartbeats 12800000 in
set_option maxRecDepth 100000 in
theorem rscript_a1 (w : World) (seed nodes n : Int) (hN : nodes < 1) (hBd : n ≤ 10000) : Calls Tryd.prog 18 #[.int .i64 seed, .int .i64 nodes, .int .i64 n] w (ScriptPost (scriptL (1) (cutK n) (seed % 4294967296)) w) := by
  obtain ⟨k1, k2⟩ := cutK_in n
  have s0 : 0 ≤ seed % 4294967296 := Int.emod_nonneg _ (by decide)
  have s9 : seed % 4294967296 < 4294967296 := Int.emod_lt_of_pos _ (by decide)
  have hbit : bits .and .i64 seed 4294967295 = seed % 4294967296 := by
    have := bits_and_mask seed 32 (by decide)
    simpa using this
  generalize cutK n = M at *
  generalize seed % 4294967296 = S0 at *
  go_enter Tryd.func18, Tryd.ntmps18
  go_wp2_with fail
  go_loopw [7, 8, 9, 10, 11, 12, 13, 14] (fun v7 v8 v9 _ _ _ _ _ wr => ∃ (i : Nat) (acc : List ST) (s : Int) (vv : Value), v9 = .int .i64 i ∧ i ≤ M ∧ v7 = .int .i64 s ∧ acc.length = i ∧ OwnsAt wr w.heap.size 38 4 v8 acc.length (acc.flatMap stC) ∧ (0 ≤ s ∧ s < 4294967296) ∧ Keep [] w wr ∧ acc ++ scriptL 1 (M - i) s = scriptL 1 M S0 ∧ vv = v8) (fun _ _ v _ _ _ _ _ _ => M - (intOf v).toNat)
  case atStart => exact ⟨0, [], S0, _, rfl, by omega, rfl, rfl, OwnsAt.nil _ _ _ _, ⟨s0, s9⟩, Keep.refl _ _, rfl, rfl⟩
  case round =>
    obtain ⟨i, acc, s, vv, rfl, hiM, rfl, hai, ho, ⟨hs0, hs1⟩, hk, hgr, rfl⟩ := hrel
    obtain ⟨ao, co, rfl⟩ := ho.shape
    have hla : acc.length ≤ 10000 := by omega
    have hiI : (i : Int) ≤ 10000 := by omega
    by_cases hlt : i < M
    · have hltI : (i : Int) < n := by omega
      obtain ⟨m', hm'⟩ : ∃ m', M - i = m' + 1 := ⟨M - i - 1, by omega⟩
      have hm2 : M - (i + 1) = m' := by omega
      rw [hm'] at hgr
      rw [← hm2] at hgr
      have Hgr := Lib.hid hgr
      have Hai := Lib.hid hai
      have H0 := Lib.hid (And.intro ho hk)
      clear ho hk hgr hai hm' hm2
      go_wp2_with fail
      refine (rdraw_spec _ s 100 hs0 hs1 (by decide)).mono ?_
      rintro e w9 ⟨rfl, m1, rfl⟩
      have HD := Lib.hid (And.intro (H0.out.1.keep ((Keep.refl [] wr).drewN m1) (by simp)) (H0.out.2.drewN m1))
      clear H0
      generalize wr.drewN m1 = wd at *
      have P2 : Hid (PR w wd.heap.size (.slice ao acc.length co) acc [.int .i64 0, .int .i64 0, .int .i64 0, .int .i64 0] (wd.alloc (.cells #[.int .i64 0, .int .i64 0, .int .i64 0, .int .i64 0] 38))) :=
        Lib.hid ⟨Blk.new' _ _ _ _ rfl, HD.out.1.keep ((Keep.refl [] wd).alloc _) (by simp), HD.out.2.alloc _, HD.out.2.size, fun x hx => Nat.ne_of_lt (HD.out.1.lt x hx).2⟩
      clear HD
      go_upto_region 18 with fail
      generalize wd.alloc (.cells #[.int .i64 0, .int .i64 0, .int .i64 0, .int .i64 0] 38) = w2 at *
      generalize wd.heap.size = gS at *
      obtain ⟨hx0, hx1⟩ := drawN_in s 100 (by decide)
      generalize hx : drawN s 100 = x at *
      have HX := Lib.hid hx
      clear hx
      by_cases c0 : x < 45
      · skip
        have b0 : decide (x < 45) = true := by simp; omega
        have Hst := Lib.hid (show stepS 1 s = (⟨1, drawN (nextS s) 1, 0, 0⟩, nextS (nextS s)) by unfold stepS; rw [if_pos (show drawN s 100 < 45 by rw [HX.out]; omega)])
        have z0 : w2.cell? ⟨gS, 0, none⟩ = some (.int .i64 (0)) := P2.out.c.cell 0
        have z1 : w2.cell? ⟨gS, 1, none⟩ = some (.int .i64 (0)) := P2.out.c.cell 1
        have z2 : w2.cell? ⟨gS, 2, none⟩ = some (.int .i64 (0)) := P2.out.c.cell 2
        have z3 : w2.cell? ⟨gS, 3, none⟩ = some (.int .i64 (0)) := P2.out.c.cell 3
        have zf : ∀ i, w2.frozen? ⟨gS, i, none⟩ = false := fun i => P2.out.c.frozen i
        go_wp2_with fail
        refine (rdraw_spec _ (nextS s) 1 (nextS_in _).1 (nextS_in _).2 (by omega)).mono ?_
        rintro e w9 ⟨rfl, m2, rfl⟩
        have P3 := Lib.hid (P2.out.drewN m2)
        clear z0 z1 z2 z3 zf
        generalize w2.drewN m2 = w3 at *
        have z0 : w3.cell? ⟨gS, 0, none⟩ = some (.int .i64 (0)) := P3.out.c.cell 0
        have z1 : w3.cell? ⟨gS, 1, none⟩ = some (.int .i64 (0)) := P3.out.c.cell 1
        have z2 : w3.cell? ⟨gS, 2, none⟩ = some (.int .i64 (0)) := P3.out.c.cell 2
        have z3 : w3.cell? ⟨gS, 3, none⟩ = some (.int .i64 (0)) := P3.out.c.cell 3
        have zf : ∀ i, w3.frozen? ⟨gS, i, none⟩ = false := fun i => P3.out.c.frozen i
        go_upto_region 37 with fail
        have PE := Lib.hid ((((P3.out.set_ 0 (.int .i64 (1))).set_ 1 (.int .i64 (drawN (nextS s) 1))).set_ 2 (.int .i64 (0))).set_ 3 (.int .i64 (0)))
        clear z0 z1 z2 z3 zf
        generalize ((((w3.setCell ⟨gS, 0, none⟩ (.int .i64 (1))).setCell ⟨gS, 1, none⟩ (.int .i64 (drawN (nextS s) 1))).setCell ⟨gS, 2, none⟩ (.int .i64 (0))).setCell ⟨gS, 3, none⟩ (.int .i64 (0))) = wE at *
        have z0 : wE.cell? ⟨gS, 0, none⟩ = some (.int .i64 (1)) := PE.out.c.cell 0
        have z1 : wE.cell? ⟨gS, 1, none⟩ = some (.int .i64 (drawN (nextS s) 1)) := PE.out.c.cell 1
        have z2 : wE.cell? ⟨gS, 2, none⟩ = some (.int .i64 (0)) := PE.out.c.cell 2
        have z3 : wE.cell? ⟨gS, 3, none⟩ = some (.int .i64 (0)) := PE.out.c.cell 3
        have zf : ∀ i, wE.frozen? ⟨gS, i, none⟩ = false := fun i => PE.out.c.frozen i
        have Ho6 := Lib.hid (PE.out.o.keep ((Keep.refl [] wE).alloc (.cells #[.int .i64 (1), .int .i64 (drawN (nextS s) 1), .int .i64 (0), .int .i64 (0)] 38)) (by simp))
        have hbn : Blk (wE.alloc (.cells #[.int .i64 (1), .int .i64 (drawN (nextS s) 1), .int .i64 (0), .int .i64 (0)] 38)) wE.heap.size 38 (stC (⟨1, drawN (nextS s) 1, 0, 0⟩ : ST)) := Blk.new' _ _ _ _ rfl
        have Hsrc := Lib.hid (src_row4 hbn)
        have Hz : Hid (w.heap.size ≤ (wE.alloc (.cells #[.int .i64 (1), .int .i64 (drawN (nextS s) 1), .int .i64 (0), .int .i64 (0)] 38)).heap.size) := Lib.hid ((PE.out.k.alloc _).size)
        clear hbn
        go_wp2_with (at_builtin; refine wpList_append_off rfl _ _ rfl Tryd.sts35 w.heap.size (.slice ao acc.length co) acc.length _ rfl Ho6.out _ 1 (stC (⟨1, drawN (nextS s) 1, 0, 0⟩ : ST)) rfl Hsrc.out (by simp [stC, Value.oneCell']) (by unfold maxLen; omega) (by omega) Hz.out ?_)
        intro v7 w7 ho7 hk7 hb7
        rw [stC_snoc] at ho7
        have HF := Lib.hid (And.intro ho7 ((PE.out.k.alloc _).trans hk7 (fun x hx => Or.inr (Ho6.out.lt x (mem_own.1 hx)).1)))
        clear ho7 hk7 hb7 Hsrc Hz Ho6 z0 z1 z2 z3 zf
        go_wp2
        go_roundw
        case rel =>
          have hg := Hgr.out
          rw [scriptL, Hst.out] at hg
          exact ⟨i + 1, acc ++ [(⟨1, drawN (nextS s) 1, 0, 0⟩ : ST)], nextS (nextS s), v7, by go_num, by omega, rfl, by simp [Hai.out], by simpa using HF.out.1, nextS_in _, HF.out.2, by rw [← hg]; simp, rfl⟩
        case measure => simp [intOf]; omega
      · skip
        by_cases c1 : x < 60
        · skip
          have b0 : decide (x < 45) = false := by simp; omega
          have b1 : decide (x < 60) = true := by simp; omega
          have Hst := Lib.hid (show stepS 1 s = (⟨2, 0, 0, 0⟩, nextS s) by unfold stepS; rw [if_neg (show ¬ drawN s 100 < 45 by rw [HX.out]; omega), if_pos (show drawN s 100 < 60 by rw [HX.out]; omega)])
          have z0 : w2.cell? ⟨gS, 0, none⟩ = some (.int .i64 (0)) := P2.out.c.cell 0
          have z1 : w2.cell? ⟨gS, 1, none⟩ = some (.int .i64 (0)) := P2.out.c.cell 1
          have z2 : w2.cell? ⟨gS, 2, none⟩ = some (.int .i64 (0)) := P2.out.c.cell 2
          have z3 : w2.cell? ⟨gS, 3, none⟩ = some (.int .i64 (0)) := P2.out.c.cell 3
          have zf : ∀ i, w2.frozen? ⟨gS, i, none⟩ = false := fun i => P2.out.c.frozen i
          go_upto_region 37 with fail
          have PE := Lib.hid ((((P2.out.set_ 0 (.int .i64 (2))).set_ 1 (.int .i64 (0))).set_ 2 (.int .i64 (0))).set_ 3 (.int .i64 (0)))
          clear z0 z1 z2 z3 zf
          generalize ((((w2.setCell ⟨gS, 0, none⟩ (.int .i64 (2))).setCell ⟨gS, 1, none⟩ (.int .i64 (0))).setCell ⟨gS, 2, none⟩ (.int .i64 (0))).setCell ⟨gS, 3, none⟩ (.int .i64 (0))) = wE at *
          have z0 : wE.cell? ⟨gS, 0, none⟩ = some (.int .i64 (2)) := PE.out.c.cell 0
          have z1 : wE.cell? ⟨gS, 1, none⟩ = some (.int .i64 (0)) := PE.out.c.cell 1
          have z2 : wE.cell? ⟨gS, 2, none⟩ = some (.int .i64 (0)) := PE.out.c.cell 2
          have z3 : wE.cell? ⟨gS, 3, none⟩ = some (.int .i64 (0)) := PE.out.c.cell 3
          have zf : ∀ i, wE.frozen? ⟨gS, i, none⟩ = false := fun i => PE.out.c.frozen i
          have Ho6 := Lib.hid (PE.out.o.keep ((Keep.refl [] wE).alloc (.cells #[.int .i64 (2), .int .i64 (0), .int .i64 (0), .int .i64 (0)] 38)) (by simp))
          have hbn : Blk (wE.alloc (.cells #[.int .i64 (2), .int .i64 (0), .int .i64 (0), .int .i64 (0)] 38)) wE.heap.size 38 (stC (⟨2, 0, 0, 0⟩ : ST)) := Blk.new' _ _ _ _ rfl
          have Hsrc := Lib.hid (src_row4 hbn)
          have Hz : Hid (w.heap.size ≤ (wE.alloc (.cells #[.int .i64 (2), .int .i64 (0), .int .i64 (0), .int .i64 (0)] 38)).heap.size) := Lib.hid ((PE.out.k.alloc _).size)
          clear hbn
          go_wp2_with (at_builtin; refine wpList_append_off rfl _ _ rfl Tryd.sts35 w.heap.size (.slice ao acc.length co) acc.length _ rfl Ho6.out _ 1 (stC (⟨2, 0, 0, 0⟩ : ST)) rfl Hsrc.out (by simp [stC, Value.oneCell']) (by unfold maxLen; omega) (by omega) Hz.out ?_)
          intro v7 w7 ho7 hk7 hb7
          rw [stC_snoc] at ho7
          have HF := Lib.hid (And.intro ho7 ((PE.out.k.alloc _).trans hk7 (fun x hx => Or.inr (Ho6.out.lt x (mem_own.1 hx)).1)))
          clear ho7 hk7 hb7 Hsrc Hz Ho6 z0 z1 z2 z3 zf
          go_wp2
          go_roundw
          case rel =>
            have hg := Hgr.out
            rw [scriptL, Hst.out] at hg
            exact ⟨i + 1, acc ++ [(⟨2, 0, 0, 0⟩ : ST)], nextS s, v7, by go_num, by omega, rfl, by simp [Hai.out], by simpa using HF.out.1, nextS_in _, HF.out.2, by rw [← hg]; simp, rfl⟩
          case measure => simp [intOf]; omega
        · skip
          by_cases c2 : x < 85
          · skip
            have b0 : decide (x < 45) = false := by simp; omega
            have b1 : decide (x < 60) = false := by simp; omega
            have b2 : decide (x < 85) = true := by simp; omega
            have Hst := Lib.hid (show stepS 1 s = (⟨3, 0, drawN (nextS s) 4, 0⟩, nextS (nextS s)) by unfold stepS; rw [if_neg (show ¬ drawN s 100 < 45 by rw [HX.out]; omega), if_neg (show ¬ drawN s 100 < 60 by rw [HX.out]; omega), if_pos (show drawN s 100 < 85 by rw [HX.out]; omega)])
            have z0 : w2.cell? ⟨gS, 0, none⟩ = some (.int .i64 (0)) := P2.out.c.cell 0
            have z1 : w2.cell? ⟨gS, 1, none⟩ = some (.int .i64 (0)) := P2.out.c.cell 1
            have z2 : w2.cell? ⟨gS, 2, none⟩ = some (.int .i64 (0)) := P2.out.c.cell 2
            have z3 : w2.cell? ⟨gS, 3, none⟩ = some (.int .i64 (0)) := P2.out.c.cell 3
            have zf : ∀ i, w2.frozen? ⟨gS, i, none⟩ = false := fun i => P2.out.c.frozen i
            go_wp2_with fail
            refine (rdraw_spec _ (nextS s) 4 (nextS_in _).1 (nextS_in _).2 (by omega)).mono ?_
            rintro e w9 ⟨rfl, m2, rfl⟩
            have P3 := Lib.hid (P2.out.drewN m2)
            clear z0 z1 z2 z3 zf
            generalize w2.drewN m2 = w3 at *
            have z0 : w3.cell? ⟨gS, 0, none⟩ = some (.int .i64 (0)) := P3.out.c.cell 0
            have z1 : w3.cell? ⟨gS, 1, none⟩ = some (.int .i64 (0)) := P3.out.c.cell 1
            have z2 : w3.cell? ⟨gS, 2, none⟩ = some (.int .i64 (0)) := P3.out.c.cell 2
            have z3 : w3.cell? ⟨gS, 3, none⟩ = some (.int .i64 (0)) := P3.out.c.cell 3
            have zf : ∀ i, w3.frozen? ⟨gS, i, none⟩ = false := fun i => P3.out.c.frozen i
            go_upto_region 37 with fail
            have PE := Lib.hid ((((P3.out.set_ 0 (.int .i64 (3))).set_ 1 (.int .i64 (0))).set_ 2 (.int .i64 (drawN (nextS s) 4))).set_ 3 (.int .i64 (0)))
            clear z0 z1 z2 z3 zf
            generalize ((((w3.setCell ⟨gS, 0, none⟩ (.int .i64 (3))).setCell ⟨gS, 1, none⟩ (.int .i64 (0))).setCell ⟨gS, 2, none⟩ (.int .i64 (drawN (nextS s) 4))).setCell ⟨gS, 3, none⟩ (.int .i64 (0))) = wE at *
            have z0 : wE.cell? ⟨gS, 0, none⟩ = some (.int .i64 (3)) := PE.out.c.cell 0
            have z1 : wE.cell? ⟨gS, 1, none⟩ = some (.int .i64 (0)) := PE.out.c.cell 1
            have z2 : wE.cell? ⟨gS, 2, none⟩ = some (.int .i64 (drawN (nextS s) 4)) := PE.out.c.cell 2
            have z3 : wE.cell? ⟨gS, 3, none⟩ = some (.int .i64 (0)) := PE.out.c.cell 3
            have zf : ∀ i, wE.frozen? ⟨gS, i, none⟩ = false := fun i => PE.out.c.frozen i
            have Ho6 := Lib.hid (PE.out.o.keep ((Keep.refl [] wE).alloc (.cells #[.int .i64 (3), .int .i64 (0), .int .i64 (drawN (nextS s) 4), .int .i64 (0)] 38)) (by simp))
            have hbn : Blk (wE.alloc (.cells #[.int .i64 (3), .int .i64 (0), .int .i64 (drawN (nextS s) 4), .int .i64 (0)] 38)) wE.heap.size 38 (stC (⟨3, 0, drawN (nextS s) 4, 0⟩ : ST)) := Blk.new' _ _ _ _ rfl
            have Hsrc := Lib.hid (src_row4 hbn)
            have Hz : Hid (w.heap.size ≤ (wE.alloc (.cells #[.int .i64 (3), .int .i64 (0), .int .i64 (drawN (nextS s) 4), .int .i64 (0)] 38)).heap.size) := Lib.hid ((PE.out.k.alloc _).size)
            clear hbn
            go_wp2_with (at_builtin; refine wpList_append_off rfl _ _ rfl Tryd.sts35 w.heap.size (.slice ao acc.length co) acc.length _ rfl Ho6.out _ 1 (stC (⟨3, 0, drawN (nextS s) 4, 0⟩ : ST)) rfl Hsrc.out (by simp [stC, Value.oneCell']) (by unfold maxLen; omega) (by omega) Hz.out ?_)
            intro v7 w7 ho7 hk7 hb7
            rw [stC_snoc] at ho7
            have HF := Lib.hid (And.intro ho7 ((PE.out.k.alloc _).trans hk7 (fun x hx => Or.inr (Ho6.out.lt x (mem_own.1 hx)).1)))
            clear ho7 hk7 hb7 Hsrc Hz Ho6 z0 z1 z2 z3 zf
            go_wp2
            go_roundw
            case rel =>
              have hg := Hgr.out
              rw [scriptL, Hst.out] at hg
              exact ⟨i + 1, acc ++ [(⟨3, 0, drawN (nextS s) 4, 0⟩ : ST)], nextS (nextS s), v7, by go_num, by omega, rfl, by simp [Hai.out], by simpa using HF.out.1, nextS_in _, HF.out.2, by rw [← hg]; simp, rfl⟩
            case measure => simp [intOf]; omega
          · skip
            by_cases c3 : x < 90
            · skip
              have b0 : decide (x < 45) = false := by simp; omega
              have b1 : decide (x < 60) = false := by simp; omega
              have b2 : decide (x < 85) = false := by simp; omega
              have b3 : decide (x < 90) = true := by simp; omega
              have Hst := Lib.hid (show stepS 1 s = (⟨4, 0, drawN (nextS s) 4, 0⟩, nextS (nextS s)) by unfold stepS; rw [if_neg (show ¬ drawN s 100 < 45 by rw [HX.out]; omega), if_neg (show ¬ drawN s 100 < 60 by rw [HX.out]; omega), if_neg (show ¬ drawN s 100 < 85 by rw [HX.out]; omega), if_pos (show drawN s 100 < 90 by rw [HX.out]; omega)])
              have z0 : w2.cell? ⟨gS, 0, none⟩ = some (.int .i64 (0)) := P2.out.c.cell 0
              have z1 : w2.cell? ⟨gS, 1, none⟩ = some (.int .i64 (0)) := P2.out.c.cell 1
              have z2 : w2.cell? ⟨gS, 2, none⟩ = some (.int .i64 (0)) := P2.out.c.cell 2
              have z3 : w2.cell? ⟨gS, 3, none⟩ = some (.int .i64 (0)) := P2.out.c.cell 3
              have zf : ∀ i, w2.frozen? ⟨gS, i, none⟩ = false := fun i => P2.out.c.frozen i
              go_wp2_with fail
              refine (rdraw_spec _ (nextS s) 4 (nextS_in _).1 (nextS_in _).2 (by omega)).mono ?_
              rintro e w9 ⟨rfl, m2, rfl⟩
              have P3 := Lib.hid (P2.out.drewN m2)
              clear z0 z1 z2 z3 zf
              generalize w2.drewN m2 = w3 at *
              have z0 : w3.cell? ⟨gS, 0, none⟩ = some (.int .i64 (0)) := P3.out.c.cell 0
              have z1 : w3.cell? ⟨gS, 1, none⟩ = some (.int .i64 (0)) := P3.out.c.cell 1
              have z2 : w3.cell? ⟨gS, 2, none⟩ = some (.int .i64 (0)) := P3.out.c.cell 2
              have z3 : w3.cell? ⟨gS, 3, none⟩ = some (.int .i64 (0)) := P3.out.c.cell 3
              have zf : ∀ i, w3.frozen? ⟨gS, i, none⟩ = false := fun i => P3.out.c.frozen i
              go_upto_region 37 with fail
              have PE := Lib.hid ((((P3.out.set_ 0 (.int .i64 (4))).set_ 1 (.int .i64 (0))).set_ 2 (.int .i64 (drawN (nextS s) 4))).set_ 3 (.int .i64 (0)))
              clear z0 z1 z2 z3 zf
              generalize ((((w3.setCell ⟨gS, 0, none⟩ (.int .i64 (4))).setCell ⟨gS, 1, none⟩ (.int .i64 (0))).setCell ⟨gS, 2, none⟩ (.int .i64 (drawN (nextS s) 4))).setCell ⟨gS, 3, none⟩ (.int .i64 (0))) = wE at *
              have z0 : wE.cell? ⟨gS, 0, none⟩ = some (.int .i64 (4)) := PE.out.c.cell 0
              have z1 : wE.cell? ⟨gS, 1, none⟩ = some (.int .i64 (0)) := PE.out.c.cell 1
              have z2 : wE.cell? ⟨gS, 2, none⟩ = some (.int .i64 (drawN (nextS s) 4)) := PE.out.c.cell 2
              have z3 : wE.cell? ⟨gS, 3, none⟩ = some (.int .i64 (0)) := PE.out.c.cell 3
              have zf : ∀ i, wE.frozen? ⟨gS, i, none⟩ = false := fun i => PE.out.c.frozen i
              have Ho6 := Lib.hid (PE.out.o.keep ((Keep.refl [] wE).alloc (.cells #[.int .i64 (4), .int .i64 (0), .int .i64 (drawN (nextS s) 4), .int .i64 (0)] 38)) (by simp))
              have hbn : Blk (wE.alloc (.cells #[.int .i64 (4), .int .i64 (0), .int .i64 (drawN (nextS s) 4), .int .i64 (0)] 38)) wE.heap.size 38 (stC (⟨4, 0, drawN (nextS s) 4, 0⟩ : ST)) := Blk.new' _ _ _ _ rfl
              have Hsrc := Lib.hid (src_row4 hbn)
              have Hz : Hid (w.heap.size ≤ (wE.alloc (.cells #[.int .i64 (4), .int .i64 (0), .int .i64 (drawN (nextS s) 4), .int .i64 (0)] 38)).heap.size) := Lib.hid ((PE.out.k.alloc _).size)
              clear hbn
              go_wp2_with (at_builtin; refine wpList_append_off rfl _ _ rfl Tryd.sts35 w.heap.size (.slice ao acc.length co) acc.length _ rfl Ho6.out _ 1 (stC (⟨4, 0, drawN (nextS s) 4, 0⟩ : ST)) rfl Hsrc.out (by simp [stC, Value.oneCell']) (by unfold maxLen; omega) (by omega) Hz.out ?_)
              intro v7 w7 ho7 hk7 hb7
              rw [stC_snoc] at ho7
              have HF := Lib.hid (And.intro ho7 ((PE.out.k.alloc _).trans hk7 (fun x hx => Or.inr (Ho6.out.lt x (mem_own.1 hx)).1)))
              clear ho7 hk7 hb7 Hsrc Hz Ho6 z0 z1 z2 z3 zf
              go_wp2
              go_roundw
              case rel =>
                have hg := Hgr.out
                rw [scriptL, Hst.out] at hg
                exact ⟨i + 1, acc ++ [(⟨4, 0, drawN (nextS s) 4, 0⟩ : ST)], nextS (nextS s), v7, by go_num, by omega, rfl, by simp [Hai.out], by simpa using HF.out.1, nextS_in _, HF.out.2, by rw [← hg]; simp, rfl⟩
              case measure => simp [intOf]; omega
            · skip
              by_cases c4 : x < 94
              · skip
                have b0 : decide (x < 45) = false := by simp; omega
                have b1 : decide (x < 60) = false := by simp; omega
                have b2 : decide (x < 85) = false := by simp; omega
                have b3 : decide (x < 90) = false := by simp; omega
                have b4 : decide (x < 94) = true := by simp; omega
                have Hst := Lib.hid (show stepS 1 s = (⟨5, 0, drawN (nextS s) 4, 0⟩, nextS (nextS s)) by unfold stepS; rw [if_neg (show ¬ drawN s 100 < 45 by rw [HX.out]; omega), if_neg (show ¬ drawN s 100 < 60 by rw [HX.out]; omega), if_neg (show ¬ drawN s 100 < 85 by rw [HX.out]; omega), if_neg (show ¬ drawN s 100 < 90 by rw [HX.out]; omega), if_pos (show drawN s 100 < 94 by rw [HX.out]; omega)])
                have z0 : w2.cell? ⟨gS, 0, none⟩ = some (.int .i64 (0)) := P2.out.c.cell 0
                have z1 : w2.cell? ⟨gS, 1, none⟩ = some (.int .i64 (0)) := P2.out.c.cell 1
                have z2 : w2.cell? ⟨gS, 2, none⟩ = some (.int .i64 (0)) := P2.out.c.cell 2
                have z3 : w2.cell? ⟨gS, 3, none⟩ = some (.int .i64 (0)) := P2.out.c.cell 3
                have zf : ∀ i, w2.frozen? ⟨gS, i, none⟩ = false := fun i => P2.out.c.frozen i
                go_wp2_with fail
                refine (rdraw_spec _ (nextS s) 4 (nextS_in _).1 (nextS_in _).2 (by omega)).mono ?_
                rintro e w9 ⟨rfl, m2, rfl⟩
                have P3 := Lib.hid (P2.out.drewN m2)
                clear z0 z1 z2 z3 zf
                generalize w2.drewN m2 = w3 at *
                have z0 : w3.cell? ⟨gS, 0, none⟩ = some (.int .i64 (0)) := P3.out.c.cell 0
                have z1 : w3.cell? ⟨gS, 1, none⟩ = some (.int .i64 (0)) := P3.out.c.cell 1
                have z2 : w3.cell? ⟨gS, 2, none⟩ = some (.int .i64 (0)) := P3.out.c.cell 2
                have z3 : w3.cell? ⟨gS, 3, none⟩ = some (.int .i64 (0)) := P3.out.c.cell 3
                have zf : ∀ i, w3.frozen? ⟨gS, i, none⟩ = false := fun i => P3.out.c.frozen i
                go_upto_region 37 with fail
                have PE := Lib.hid ((((P3.out.set_ 0 (.int .i64 (5))).set_ 1 (.int .i64 (0))).set_ 2 (.int .i64 (drawN (nextS s) 4))).set_ 3 (.int .i64 (0)))
                clear z0 z1 z2 z3 zf
                generalize ((((w3.setCell ⟨gS, 0, none⟩ (.int .i64 (5))).setCell ⟨gS, 1, none⟩ (.int .i64 (0))).setCell ⟨gS, 2, none⟩ (.int .i64 (drawN (nextS s) 4))).setCell ⟨gS, 3, none⟩ (.int .i64 (0))) = wE at *
                have z0 : wE.cell? ⟨gS, 0, none⟩ = some (.int .i64 (5)) := PE.out.c.cell 0
                have z1 : wE.cell? ⟨gS, 1, none⟩ = some (.int .i64 (0)) := PE.out.c.cell 1
                have z2 : wE.cell? ⟨gS, 2, none⟩ = some (.int .i64 (drawN (nextS s) 4)) := PE.out.c.cell 2
                have z3 : wE.cell? ⟨gS, 3, none⟩ = some (.int .i64 (0)) := PE.out.c.cell 3
                have zf : ∀ i, wE.frozen? ⟨gS, i, none⟩ = false := fun i => PE.out.c.frozen i
                have Ho6 := Lib.hid (PE.out.o.keep ((Keep.refl [] wE).alloc (.cells #[.int .i64 (5), .int .i64 (0), .int .i64 (drawN (nextS s) 4), .int .i64 (0)] 38)) (by simp))
                have hbn : Blk (wE.alloc (.cells #[.int .i64 (5), .int .i64 (0), .int .i64 (drawN (nextS s) 4), .int .i64 (0)] 38)) wE.heap.size 38 (stC (⟨5, 0, drawN (nextS s) 4, 0⟩ : ST)) := Blk.new' _ _ _ _ rfl
                have Hsrc := Lib.hid (src_row4 hbn)
                have Hz : Hid (w.heap.size ≤ (wE.alloc (.cells #[.int .i64 (5), .int .i64 (0), .int .i64 (drawN (nextS s) 4), .int .i64 (0)] 38)).heap.size) := Lib.hid ((PE.out.k.alloc _).size)
                clear hbn
                go_wp2_with (at_builtin; refine wpList_append_off rfl _ _ rfl Tryd.sts35 w.heap.size (.slice ao acc.length co) acc.length _ rfl Ho6.out _ 1 (stC (⟨5, 0, drawN (nextS s) 4, 0⟩ : ST)) rfl Hsrc.out (by simp [stC, Value.oneCell']) (by unfold maxLen; omega) (by omega) Hz.out ?_)
                intro v7 w7 ho7 hk7 hb7
                rw [stC_snoc] at ho7
                have HF := Lib.hid (And.intro ho7 ((PE.out.k.alloc _).trans hk7 (fun x hx => Or.inr (Ho6.out.lt x (mem_own.1 hx)).1)))
                clear ho7 hk7 hb7 Hsrc Hz Ho6 z0 z1 z2 z3 zf
                go_wp2
                go_roundw
                case rel =>
                  have hg := Hgr.out
                  rw [scriptL, Hst.out] at hg
                  exact ⟨i + 1, acc ++ [(⟨5, 0, drawN (nextS s) 4, 0⟩ : ST)], nextS (nextS s), v7, by go_num, by omega, rfl, by simp [Hai.out], by simpa using HF.out.1, nextS_in _, HF.out.2, by rw [← hg]; simp, rfl⟩
                case measure => simp [intOf]; omega
              · skip
                by_cases c5 : x < 98
                · skip
                  have b0 : decide (x < 45) = false := by simp; omega
                  have b1 : decide (x < 60) = false := by simp; omega
                  have b2 : decide (x < 85) = false := by simp; omega
                  have b3 : decide (x < 90) = false := by simp; omega
                  have b4 : decide (x < 94) = false := by simp; omega
                  have b5 : decide (x < 98) = true := by simp; omega
                  have Hst := Lib.hid (show stepS 1 s = (⟨6, 0, drawN (nextS s) 4, drawN (nextS (nextS s)) 200⟩, nextS (nextS (nextS s))) by unfold stepS; rw [if_neg (show ¬ drawN s 100 < 45 by rw [HX.out]; omega), if_neg (show ¬ drawN s 100 < 60 by rw [HX.out]; omega), if_neg (show ¬ drawN s 100 < 85 by rw [HX.out]; omega), if_neg (show ¬ drawN s 100 < 90 by rw [HX.out]; omega), if_neg (show ¬ drawN s 100 < 94 by rw [HX.out]; omega), if_pos (show drawN s 100 < 98 by rw [HX.out]; omega)])
                  have z0 : w2.cell? ⟨gS, 0, none⟩ = some (.int .i64 (0)) := P2.out.c.cell 0
                  have z1 : w2.cell? ⟨gS, 1, none⟩ = some (.int .i64 (0)) := P2.out.c.cell 1
                  have z2 : w2.cell? ⟨gS, 2, none⟩ = some (.int .i64 (0)) := P2.out.c.cell 2
                  have z3 : w2.cell? ⟨gS, 3, none⟩ = some (.int .i64 (0)) := P2.out.c.cell 3
                  have zf : ∀ i, w2.frozen? ⟨gS, i, none⟩ = false := fun i => P2.out.c.frozen i
                  go_wp2_with fail
                  refine (rdraw_spec _ (nextS s) 4 (nextS_in _).1 (nextS_in _).2 (by omega)).mono ?_
                  rintro e w9 ⟨rfl, m2, rfl⟩
                  have P3 := Lib.hid (P2.out.drewN m2)
                  clear z0 z1 z2 z3 zf
                  generalize w2.drewN m2 = w3 at *
                  have z0 : w3.cell? ⟨gS, 0, none⟩ = some (.int .i64 (0)) := P3.out.c.cell 0
                  have z1 : w3.cell? ⟨gS, 1, none⟩ = some (.int .i64 (0)) := P3.out.c.cell 1
                  have z2 : w3.cell? ⟨gS, 2, none⟩ = some (.int .i64 (0)) := P3.out.c.cell 2
                  have z3 : w3.cell? ⟨gS, 3, none⟩ = some (.int .i64 (0)) := P3.out.c.cell 3
                  have zf : ∀ i, w3.frozen? ⟨gS, i, none⟩ = false := fun i => P3.out.c.frozen i
                  go_wp2_with fail
                  refine (rdraw_spec _ (nextS (nextS s)) 200 (nextS_in _).1 (nextS_in _).2 (by omega)).mono ?_
                  rintro e w9 ⟨rfl, m3, rfl⟩
                  have P4 := Lib.hid (P3.out.drewN m3)
                  clear z0 z1 z2 z3 zf
                  generalize w3.drewN m3 = w4 at *
                  have z0 : w4.cell? ⟨gS, 0, none⟩ = some (.int .i64 (0)) := P4.out.c.cell 0
                  have z1 : w4.cell? ⟨gS, 1, none⟩ = some (.int .i64 (0)) := P4.out.c.cell 1
                  have z2 : w4.cell? ⟨gS, 2, none⟩ = some (.int .i64 (0)) := P4.out.c.cell 2
                  have z3 : w4.cell? ⟨gS, 3, none⟩ = some (.int .i64 (0)) := P4.out.c.cell 3
                  have zf : ∀ i, w4.frozen? ⟨gS, i, none⟩ = false := fun i => P4.out.c.frozen i
                  go_upto_region 37 with fail
                  have PE := Lib.hid ((((P4.out.set_ 0 (.int .i64 (6))).set_ 1 (.int .i64 (0))).set_ 2 (.int .i64 (drawN (nextS s) 4))).set_ 3 (.int .i64 (drawN (nextS (nextS s)) 200)))
                  clear z0 z1 z2 z3 zf
                  generalize ((((w4.setCell ⟨gS, 0, none⟩ (.int .i64 (6))).setCell ⟨gS, 1, none⟩ (.int .i64 (0))).setCell ⟨gS, 2, none⟩ (.int .i64 (drawN (nextS s) 4))).setCell ⟨gS, 3, none⟩ (.int .i64 (drawN (nextS (nextS s)) 200))) = wE at *
                  have z0 : wE.cell? ⟨gS, 0, none⟩ = some (.int .i64 (6)) := PE.out.c.cell 0
                  have z1 : wE.cell? ⟨gS, 1, none⟩ = some (.int .i64 (0)) := PE.out.c.cell 1
                  have z2 : wE.cell? ⟨gS, 2, none⟩ = some (.int .i64 (drawN (nextS s) 4)) := PE.out.c.cell 2
                  have z3 : wE.cell? ⟨gS, 3, none⟩ = some (.int .i64 (drawN (nextS (nextS s)) 200)) := PE.out.c.cell 3
                  have zf : ∀ i, wE.frozen? ⟨gS, i, none⟩ = false := fun i => PE.out.c.frozen i
                  have Ho6 := Lib.hid (PE.out.o.keep ((Keep.refl [] wE).alloc (.cells #[.int .i64 (6), .int .i64 (0), .int .i64 (drawN (nextS s) 4), .int .i64 (drawN (nextS (nextS s)) 200)] 38)) (by simp))
                  have hbn : Blk (wE.alloc (.cells #[.int .i64 (6), .int .i64 (0), .int .i64 (drawN (nextS s) 4), .int .i64 (drawN (nextS (nextS s)) 200)] 38)) wE.heap.size 38 (stC (⟨6, 0, drawN (nextS s) 4, drawN (nextS (nextS s)) 200⟩ : ST)) := Blk.new' _ _ _ _ rfl
                  have Hsrc := Lib.hid (src_row4 hbn)
                  have Hz : Hid (w.heap.size ≤ (wE.alloc (.cells #[.int .i64 (6), .int .i64 (0), .int .i64 (drawN (nextS s) 4), .int .i64 (drawN (nextS (nextS s)) 200)] 38)).heap.size) := Lib.hid ((PE.out.k.alloc _).size)
                  clear hbn
                  go_wp2_with (at_builtin; refine wpList_append_off rfl _ _ rfl Tryd.sts35 w.heap.size (.slice ao acc.length co) acc.length _ rfl Ho6.out _ 1 (stC (⟨6, 0, drawN (nextS s) 4, drawN (nextS (nextS s)) 200⟩ : ST)) rfl Hsrc.out (by simp [stC, Value.oneCell']) (by unfold maxLen; omega) (by omega) Hz.out ?_)
                  intro v7 w7 ho7 hk7 hb7
                  rw [stC_snoc] at ho7
                  have HF := Lib.hid (And.intro ho7 ((PE.out.k.alloc _).trans hk7 (fun x hx => Or.inr (Ho6.out.lt x (mem_own.1 hx)).1)))
                  clear ho7 hk7 hb7 Hsrc Hz Ho6 z0 z1 z2 z3 zf
                  go_wp2
                  go_roundw
                  case rel =>
                    have hg := Hgr.out
                    rw [scriptL, Hst.out] at hg
                    exact ⟨i + 1, acc ++ [(⟨6, 0, drawN (nextS s) 4, drawN (nextS (nextS s)) 200⟩ : ST)], nextS (nextS (nextS s)), v7, by go_num, by omega, rfl, by simp [Hai.out], by simpa using HF.out.1, nextS_in _, HF.out.2, by rw [← hg]; simp, rfl⟩
                  case measure => simp [intOf]; omega
                · skip
                  have b0 : decide (x < 45) = false := by simp; omega
                  have b1 : decide (x < 60) = false := by simp; omega
                  have b2 : decide (x < 85) = false := by simp; omega
                  have b3 : decide (x < 90) = false := by simp; omega
                  have b4 : decide (x < 94) = false := by simp; omega
                  have b5 : decide (x < 98) = false := by simp; omega
                  have Hst := Lib.hid (show stepS 1 s = (⟨7, drawN (nextS s) 1, 0, 0⟩, nextS (nextS s)) by unfold stepS; rw [if_neg (show ¬ drawN s 100 < 45 by rw [HX.out]; omega), if_neg (show ¬ drawN s 100 < 60 by rw [HX.out]; omega), if_neg (show ¬ drawN s 100 < 85 by rw [HX.out]; omega), if_neg (show ¬ drawN s 100 < 90 by rw [HX.out]; omega), if_neg (show ¬ drawN s 100 < 94 by rw [HX.out]; omega), if_neg (show ¬ drawN s 100 < 98 by rw [HX.out]; omega)])
                  have z0 : w2.cell? ⟨gS, 0, none⟩ = some (.int .i64 (0)) := P2.out.c.cell 0
                  have z1 : w2.cell? ⟨gS, 1, none⟩ = some (.int .i64 (0)) := P2.out.c.cell 1
                  have z2 : w2.cell? ⟨gS, 2, none⟩ = some (.int .i64 (0)) := P2.out.c.cell 2
                  have z3 : w2.cell? ⟨gS, 3, none⟩ = some (.int .i64 (0)) := P2.out.c.cell 3
                  have zf : ∀ i, w2.frozen? ⟨gS, i, none⟩ = false := fun i => P2.out.c.frozen i
                  go_wp2_with fail
                  refine (rdraw_spec _ (nextS s) 1 (nextS_in _).1 (nextS_in _).2 (by omega)).mono ?_
                  rintro e w9 ⟨rfl, m2, rfl⟩
                  have P3 := Lib.hid (P2.out.drewN m2)
                  clear z0 z1 z2 z3 zf
                  generalize w2.drewN m2 = w3 at *
                  have z0 : w3.cell? ⟨gS, 0, none⟩ = some (.int .i64 (0)) := P3.out.c.cell 0
                  have z1 : w3.cell? ⟨gS, 1, none⟩ = some (.int .i64 (0)) := P3.out.c.cell 1
                  have z2 : w3.cell? ⟨gS, 2, none⟩ = some (.int .i64 (0)) := P3.out.c.cell 2
                  have z3 : w3.cell? ⟨gS, 3, none⟩ = some (.int .i64 (0)) := P3.out.c.cell 3
                  have zf : ∀ i, w3.frozen? ⟨gS, i, none⟩ = false := fun i => P3.out.c.frozen i
                  go_upto_region 37 with fail
                  have PE := Lib.hid ((((P3.out.set_ 0 (.int .i64 (7))).set_ 1 (.int .i64 (drawN (nextS s) 1))).set_ 2 (.int .i64 (0))).set_ 3 (.int .i64 (0)))
                  clear z0 z1 z2 z3 zf
                  generalize ((((w3.setCell ⟨gS, 0, none⟩ (.int .i64 (7))).setCell ⟨gS, 1, none⟩ (.int .i64 (drawN (nextS s) 1))).setCell ⟨gS, 2, none⟩ (.int .i64 (0))).setCell ⟨gS, 3, none⟩ (.int .i64 (0))) = wE at *
                  have z0 : wE.cell? ⟨gS, 0, none⟩ = some (.int .i64 (7)) := PE.out.c.cell 0
                  have z1 : wE.cell? ⟨gS, 1, none⟩ = some (.int .i64 (drawN (nextS s) 1)) := PE.out.c.cell 1
                  have z2 : wE.cell? ⟨gS, 2, none⟩ = some (.int .i64 (0)) := PE.out.c.cell 2
                  have z3 : wE.cell? ⟨gS, 3, none⟩ = some (.int .i64 (0)) := PE.out.c.cell 3
                  have zf : ∀ i, wE.frozen? ⟨gS, i, none⟩ = false := fun i => PE.out.c.frozen i
                  have Ho6 := Lib.hid (PE.out.o.keep ((Keep.refl [] wE).alloc (.cells #[.int .i64 (7), .int .i64 (drawN (nextS s) 1), .int .i64 (0), .int .i64 (0)] 38)) (by simp))
                  have hbn : Blk (wE.alloc (.cells #[.int .i64 (7), .int .i64 (drawN (nextS s) 1), .int .i64 (0), .int .i64 (0)] 38)) wE.heap.size 38 (stC (⟨7, drawN (nextS s) 1, 0, 0⟩ : ST)) := Blk.new' _ _ _ _ rfl
                  have Hsrc := Lib.hid (src_row4 hbn)
                  have Hz : Hid (w.heap.size ≤ (wE.alloc (.cells #[.int .i64 (7), .int .i64 (drawN (nextS s) 1), .int .i64 (0), .int .i64 (0)] 38)).heap.size) := Lib.hid ((PE.out.k.alloc _).size)
                  clear hbn
                  go_wp2_with (at_builtin; refine wpList_append_off rfl _ _ rfl Tryd.sts35 w.heap.size (.slice ao acc.length co) acc.length _ rfl Ho6.out _ 1 (stC (⟨7, drawN (nextS s) 1, 0, 0⟩ : ST)) rfl Hsrc.out (by simp [stC, Value.oneCell']) (by unfold maxLen; omega) (by omega) Hz.out ?_)
                  intro v7 w7 ho7 hk7 hb7
                  rw [stC_snoc] at ho7
                  have HF := Lib.hid (And.intro ho7 ((PE.out.k.alloc _).trans hk7 (fun x hx => Or.inr (Ho6.out.lt x (mem_own.1 hx)).1)))
                  clear ho7 hk7 hb7 Hsrc Hz Ho6 z0 z1 z2 z3 zf
                  go_wp2
                  go_roundw
                  case rel =>
                    have hg := Hgr.out
                    rw [scriptL, Hst.out] at hg
                    exact ⟨i + 1, acc ++ [(⟨7, drawN (nextS s) 1, 0, 0⟩ : ST)], nextS (nextS s), v7, by go_num, by omega, rfl, by simp [Hai.out], by simpa using HF.out.1, nextS_in _, HF.out.2, by rw [← hg]; simp, rfl⟩
                  case measure => simp [intOf]; omega
    · obtain rfl : i = M := by omega
      have hgeI : ¬ (i : Int) < n := by omega
      have hgeI2 : n ≤ (i : Int) := by omega
      rw [Nat.sub_self, scriptL, List.append_nil] at hgr
      have HO := Lib.hid (And.intro ho (And.intro hk hgr))
      clear ho hk hgr k1 k2 hai hiM hlt hla hiI
      go_wp2
      go_ret
      obtain ⟨ho, hk, hgr⟩ := HO.out
      exact ⟨_, rfl, by rw [← hgr]; exact StepsAt.of_own ho, hk⟩
set_option maxHeartbeats 12800000 in
set_option maxRecDepth 100000 in
theorem rscript_a2 (w : World) (seed nodes n : Int) (hN : nodes < 1) (hBd : 10000 < n) : Calls Tryd.prog 18 #[.int .i64 seed, .int .i64 nodes, .int .i64 n] w (ScriptPost (scriptL (1) (cutK n) (seed % 4294967296)) w) := by
  obtain ⟨k1, k2⟩ := cutK_in n
  have s0 : 0 ≤ seed % 4294967296 := Int.emod_nonneg _ (by decide)
  have s9 : seed % 4294967296 < 4294967296 := Int.emod_lt_of_pos _ (by decide)
  have hbit : bits .and .i64 seed 4294967295 = seed % 4294967296 := by
    have := bits_and_mask seed 32 (by decide)
    simpa using this
  generalize cutK n = M at *
  generalize seed % 4294967296 = S0 at *
  go_enter Tryd.func18, Tryd.ntmps18
  go_wp2_with fail
  go_loopw [7, 8, 9, 10, 11, 12, 13, 14] (fun v7 v8 v9 _ _ _ _ _ wr => ∃ (i : Nat) (acc : List ST) (s : Int) (vv : Value), v9 = .int .i64 i ∧ i ≤ M ∧ v7 = .int .i64 s ∧ acc.length = i ∧ OwnsAt wr w.heap.size 38 4 v8 acc.length (acc.flatMap stC) ∧ (0 ≤ s ∧ s < 4294967296) ∧ Keep [] w wr ∧ acc ++ scriptL 1 (M - i) s = scriptL 1 M S0 ∧ vv = v8) (fun _ _ v _ _ _ _ _ _ => M - (intOf v).toNat)
  case atStart => exact ⟨0, [], S0, _, rfl, by omega, rfl, rfl, OwnsAt.nil _ _ _ _, ⟨s0, s9⟩, Keep.refl _ _, rfl, rfl⟩
  case round =>
    obtain ⟨i, acc, s, vv, rfl, hiM, rfl, hai, ho, ⟨hs0, hs1⟩, hk, hgr, rfl⟩ := hrel
    obtain ⟨ao, co, rfl⟩ := ho.shape
    have hla : acc.length ≤ 10000 := by omega
    have hiI : (i : Int) ≤ 10000 := by omega
    by_cases hlt : i < M
    · have hltI : (i : Int) < 10000 := by omega
      obtain ⟨m', hm'⟩ : ∃ m', M - i = m' + 1 := ⟨M - i - 1, by omega⟩
      have hm2 : M - (i + 1) = m' := by omega
      rw [hm'] at hgr
      rw [← hm2] at hgr
      have Hgr := Lib.hid hgr
      have Hai := Lib.hid hai
      have H0 := Lib.hid (And.intro ho hk)
      clear ho hk hgr hai hm' hm2
      go_wp2_with fail
      refine (rdraw_spec _ s 100 hs0 hs1 (by decide)).mono ?_
      rintro e w9 ⟨rfl, m1, rfl⟩
      have HD := Lib.hid (And.intro (H0.out.1.keep ((Keep.refl [] wr).drewN m1) (by simp)) (H0.out.2.drewN m1))
      clear H0
      generalize wr.drewN m1 = wd at *
      have P2 : Hid (PR w wd.heap.size (.slice ao acc.length co) acc [.int .i64 0, .int .i64 0, .int .i64 0, .int .i64 0] (wd.alloc (.cells #[.int .i64 0, .int .i64 0, .int .i64 0, .int .i64 0] 38))) :=
        Lib.hid ⟨Blk.new' _ _ _ _ rfl, HD.out.1.keep ((Keep.refl [] wd).alloc _) (by simp), HD.out.2.alloc _, HD.out.2.size, fun x hx => Nat.ne_of_lt (HD.out.1.lt x hx).2⟩
      clear HD
      go_upto_region 18 with fail
      generalize wd.alloc (.cells #[.int .i64 0, .int .i64 0, .int .i64 0, .int .i64 0] 38) = w2 at *
      generalize wd.heap.size = gS at *
      obtain ⟨hx0, hx1⟩ := drawN_in s 100 (by decide)
      generalize hx : drawN s 100 = x at *
      have HX := Lib.hid hx
      clear hx
      by_cases c0 : x < 45
      · skip
        have b0 : decide (x < 45) = true := by simp; omega
        have Hst := Lib.hid (show stepS 1 s = (⟨1, drawN (nextS s) 1, 0, 0⟩, nextS (nextS s)) by unfold stepS; rw [if_pos (show drawN s 100 < 45 by rw [HX.out]; omega)])
        have z0 : w2.cell? ⟨gS, 0, none⟩ = some (.int .i64 (0)) := P2.out.c.cell 0
        have z1 : w2.cell? ⟨gS, 1, none⟩ = some (.int .i64 (0)) := P2.out.c.cell 1
        have z2 : w2.cell? ⟨gS, 2, none⟩ = some (.int .i64 (0)) := P2.out.c.cell 2
        have z3 : w2.cell? ⟨gS, 3, none⟩ = some (.int .i64 (0)) := P2.out.c.cell 3
        have zf : ∀ i, w2.frozen? ⟨gS, i, none⟩ = false := fun i => P2.out.c.frozen i
        go_wp2_with fail
        refine (rdraw_spec _ (nextS s) 1 (nextS_in _).1 (nextS_in _).2 (by omega)).mono ?_
        rintro e w9 ⟨rfl, m2, rfl⟩
        have P3 := Lib.hid (P2.out.drewN m2)
        clear z0 z1 z2 z3 zf
        generalize w2.drewN m2 = w3 at *
        have z0 : w3.cell? ⟨gS, 0, none⟩ = some (.int .i64 (0)) := P3.out.c.cell 0
        have z1 : w3.cell? ⟨gS, 1, none⟩ = some (.int .i64 (0)) := P3.out.c.cell 1
        have z2 : w3.cell? ⟨gS, 2, none⟩ = some (.int .i64 (0)) := P3.out.c.cell 2
        have z3 : w3.cell? ⟨gS, 3, none⟩ = some (.int .i64 (0)) := P3.out.c.cell 3
        have zf : ∀ i, w3.frozen? ⟨gS, i, none⟩ = false := fun i => P3.out.c.frozen i
        go_upto_region 37 with fail
        have PE := Lib.hid ((((P3.out.set_ 0 (.int .i64 (1))).set_ 1 (.int .i64 (drawN (nextS s) 1))).set_ 2 (.int .i64 (0))).set_ 3 (.int .i64 (0)))
        clear z0 z1 z2 z3 zf
        generalize ((((w3.setCell ⟨gS, 0, none⟩ (.int .i64 (1))).setCell ⟨gS, 1, none⟩ (.int .i64 (drawN (nextS s) 1))).setCell ⟨gS, 2, none⟩ (.int .i64 (0))).setCell ⟨gS, 3, none⟩ (.int .i64 (0))) = wE at *
        have z0 : wE.cell? ⟨gS, 0, none⟩ = some (.int .i64 (1)) := PE.out.c.cell 0
        have z1 : wE.cell? ⟨gS, 1, none⟩ = some (.int .i64 (drawN (nextS s) 1)) := PE.out.c.cell 1
        have z2 : wE.cell? ⟨gS, 2, none⟩ = some (.int .i64 (0)) := PE.out.c.cell 2
        have z3 : wE.cell? ⟨gS, 3, none⟩ = some (.int .i64 (0)) := PE.out.c.cell 3
        have zf : ∀ i, wE.frozen? ⟨gS, i, none⟩ = false := fun i => PE.out.c.frozen i
        have Ho6 := Lib.hid (PE.out.o.keep ((Keep.refl [] wE).alloc (.cells #[.int .i64 (1), .int .i64 (drawN (nextS s) 1), .int .i64 (0), .int .i64 (0)] 38)) (by simp))
        have hbn : Blk (wE.alloc (.cells #[.int .i64 (1), .int .i64 (drawN (nextS s) 1), .int .i64 (0), .int .i64 (0)] 38)) wE.heap.size 38 (stC (⟨1, drawN (nextS s) 1, 0, 0⟩ : ST)) := Blk.new' _ _ _ _ rfl
        have Hsrc := Lib.hid (src_row4 hbn)
        have Hz : Hid (w.heap.size ≤ (wE.alloc (.cells #[.int .i64 (1), .int .i64 (drawN (nextS s) 1), .int .i64 (0), .int .i64 (0)] 38)).heap.size) := Lib.hid ((PE.out.k.alloc _).size)
        clear hbn
        go_wp2_with (at_builtin; refine wpList_append_off rfl _ _ rfl Tryd.sts35 w.heap.size (.slice ao acc.length co) acc.length _ rfl Ho6.out _ 1 (stC (⟨1, drawN (nextS s) 1, 0, 0⟩ : ST)) rfl Hsrc.out (by simp [stC, Value.oneCell']) (by unfold maxLen; omega) (by omega) Hz.out ?_)
        intro v7 w7 ho7 hk7 hb7
        rw [stC_snoc] at ho7
        have HF := Lib.hid (And.intro ho7 ((PE.out.k.alloc _).trans hk7 (fun x hx => Or.inr (Ho6.out.lt x (mem_own.1 hx)).1)))
        clear ho7 hk7 hb7 Hsrc Hz Ho6 z0 z1 z2 z3 zf
        go_wp2
        go_roundw
        case rel =>
          have hg := Hgr.out
          rw [scriptL, Hst.out] at hg
          exact ⟨i + 1, acc ++ [(⟨1, drawN (nextS s) 1, 0, 0⟩ : ST)], nextS (nextS s), v7, by go_num, by omega, rfl, by simp [Hai.out], by simpa using HF.out.1, nextS_in _, HF.out.2, by rw [← hg]; simp, rfl⟩
        case measure => simp [intOf]; omega
      · skip
        by_cases c1 : x < 60
        · skip
          have b0 : decide (x < 45) = false := by simp; omega
          have b1 : decide (x < 60) = true := by simp; omega
          have Hst := Lib.hid (show stepS 1 s = (⟨2, 0, 0, 0⟩, nextS s) by unfold stepS; rw [if_neg (show ¬ drawN s 100 < 45 by rw [HX.out]; omega), if_pos (show drawN s 100 < 60 by rw [HX.out]; omega)])
          have z0 : w2.cell? ⟨gS, 0, none⟩ = some (.int .i64 (0)) := P2.out.c.cell 0
          have z1 : w2.cell? ⟨gS, 1, none⟩ = some (.int .i64 (0)) := P2.out.c.cell 1
          have z2 : w2.cell? ⟨gS, 2, none⟩ = some (.int .i64 (0)) := P2.out.c.cell 2
          have z3 : w2.cell? ⟨gS, 3, none⟩ = some (.int .i64 (0)) := P2.out.c.cell 3
          have zf : ∀ i, w2.frozen? ⟨gS, i, none⟩ = false := fun i => P2.out.c.frozen i
          go_upto_region 37 with fail
          have PE := Lib.hid ((((P2.out.set_ 0 (.int .i64 (2))).set_ 1 (.int .i64 (0))).set_ 2 (.int .i64 (0))).set_ 3 (.int .i64 (0)))
          clear z0 z1 z2 z3 zf
          generalize ((((w2.setCell ⟨gS, 0, none⟩ (.int .i64 (2))).setCell ⟨gS, 1, none⟩ (.int .i64 (0))).setCell ⟨gS, 2, none⟩ (.int .i64 (0))).setCell ⟨gS, 3, none⟩ (.int .i64 (0))) = wE at *
          have z0 : wE.cell? ⟨gS, 0, none⟩ = some (.int .i64 (2)) := PE.out.c.cell 0
          have z1 : wE.cell? ⟨gS, 1, none⟩ = some (.int .i64 (0)) := PE.out.c.cell 1
          have z2 : wE.cell? ⟨gS, 2, none⟩ = some (.int .i64 (0)) := PE.out.c.cell 2
          have z3 : wE.cell? ⟨gS, 3, none⟩ = some (.int .i64 (0)) := PE.out.c.cell 3
          have zf : ∀ i, wE.frozen? ⟨gS, i, none⟩ = false := fun i => PE.out.c.frozen i
          have Ho6 := Lib.hid (PE.out.o.keep ((Keep.refl [] wE).alloc (.cells #[.int .i64 (2), .int .i64 (0), .int .i64 (0), .int .i64 (0)] 38)) (by simp))
          have hbn : Blk (wE.alloc (.cells #[.int .i64 (2), .int .i64 (0), .int .i64 (0), .int .i64 (0)] 38)) wE.heap.size 38 (stC (⟨2, 0, 0, 0⟩ : ST)) := Blk.new' _ _ _ _ rfl
          have Hsrc := Lib.hid (src_row4 hbn)
          have Hz : Hid (w.heap.size ≤ (wE.alloc (.cells #[.int .i64 (2), .int .i64 (0), .int .i64 (0), .int .i64 (0)] 38)).heap.size) := Lib.hid ((PE.out.k.alloc _).size)
          clear hbn
          go_wp2_with (at_builtin; refine wpList_append_off rfl _ _ rfl Tryd.sts35 w.heap.size (.slice ao acc.length co) acc.length _ rfl Ho6.out _ 1 (stC (⟨2, 0, 0, 0⟩ : ST)) rfl Hsrc.out (by simp [stC, Value.oneCell']) (by unfold maxLen; omega) (by omega) Hz.out ?_)
          intro v7 w7 ho7 hk7 hb7
          rw [stC_snoc] at ho7
          have HF := Lib.hid (And.intro ho7 ((PE.out.k.alloc _).trans hk7 (fun x hx => Or.inr (Ho6.out.lt x (mem_own.1 hx)).1)))
          clear ho7 hk7 hb7 Hsrc Hz Ho6 z0 z1 z2 z3 zf
          go_wp2
          go_roundw
          case rel =>
            have hg := Hgr.out
            rw [scriptL, Hst.out] at hg
            exact ⟨i + 1, acc ++ [(⟨2, 0, 0, 0⟩ : ST)], nextS s, v7, by go_num, by omega, rfl, by simp [Hai.out], by simpa using HF.out.1, nextS_in _, HF.out.2, by rw [← hg]; simp, rfl⟩
          case measure => simp [intOf]; omega
        · skip
          by_cases c2 : x < 85
          · skip
            have b0 : decide (x < 45) = false := by simp; omega
            have b1 : decide (x < 60) = false := by simp; omega
            have b2 : decide (x < 85) = true := by simp; omega
            have Hst := Lib.hid (show stepS 1 s = (⟨3, 0, drawN (nextS s) 4, 0⟩, nextS (nextS s)) by unfold stepS; rw [if_neg (show ¬ drawN s 100 < 45 by rw [HX.out]; omega), if_neg (show ¬ drawN s 100 < 60 by rw [HX.out]; omega), if_pos (show drawN s 100 < 85 by rw [HX.out]; omega)])
            have z0 : w2.cell? ⟨gS, 0, none⟩ = some (.int .i64 (0)) := P2.out.c.cell 0
            have z1 : w2.cell? ⟨gS, 1, none⟩ = some (.int .i64 (0)) := P2.out.c.cell 1
            have z2 : w2.cell? ⟨gS, 2, none⟩ = some (.int .i64 (0)) := P2.out.c.cell 2
            have z3 : w2.cell? ⟨gS, 3, none⟩ = some (.int .i64 (0)) := P2.out.c.cell 3
            have zf : ∀ i, w2.frozen? ⟨gS, i, none⟩ = false := fun i => P2.out.c.frozen i
            go_wp2_with fail
            refine (rdraw_spec _ (nextS s) 4 (nextS_in _).1 (nextS_in _).2 (by omega)).mono ?_
            rintro e w9 ⟨rfl, m2, rfl⟩
            have P3 := Lib.hid (P2.out.drewN m2)
            clear z0 z1 z2 z3 zf
            generalize w2.drewN m2 = w3 at *
            have z0 : w3.cell? ⟨gS, 0, none⟩ = some (.int .i64 (0)) := P3.out.c.cell 0
            have z1 : w3.cell? ⟨gS, 1, none⟩ = some (.int .i64 (0)) := P3.out.c.cell 1
            have z2 : w3.cell? ⟨gS, 2, none⟩ = some (.int .i64 (0)) := P3.out.c.cell 2
            have z3 : w3.cell? ⟨gS, 3, none⟩ = some (.int .i64 (0)) := P3.out.c.cell 3
            have zf : ∀ i, w3.frozen? ⟨gS, i, none⟩ = false := fun i => P3.out.c.frozen i
            go_upto_region 37 with fail
            have PE := Lib.hid ((((P3.out.set_ 0 (.int .i64 (3))).set_ 1 (.int .i64 (0))).set_ 2 (.int .i64 (drawN (nextS s) 4))).set_ 3 (.int .i64 (0)))
            clear z0 z1 z2 z3 zf
            generalize ((((w3.setCell ⟨gS, 0, none⟩ (.int .i64 (3))).setCell ⟨gS, 1, none⟩ (.int .i64 (0))).setCell ⟨gS, 2, none⟩ (.int .i64 (drawN (nextS s) 4))).setCell ⟨gS, 3, none⟩ (.int .i64 (0))) = wE at *
            have z0 : wE.cell? ⟨gS, 0, none⟩ = some (.int .i64 (3)) := PE.out.c.cell 0
            have z1 : wE.cell? ⟨gS, 1, none⟩ = some (.int .i64 (0)) := PE.out.c.cell 1
            have z2 : wE.cell? ⟨gS, 2, none⟩ = some (.int .i64 (drawN (nextS s) 4)) := PE.out.c.cell 2
            have z3 : wE.cell? ⟨gS, 3, none⟩ = some (.int .i64 (0)) := PE.out.c.cell 3
            have zf : ∀ i, wE.frozen? ⟨gS, i, none⟩ = false := fun i => PE.out.c.frozen i
            have Ho6 := Lib.hid (PE.out.o.keep ((Keep.refl [] wE).alloc (.cells #[.int .i64 (3), .int .i64 (0), .int .i64 (drawN (nextS s) 4), .int .i64 (0)] 38)) (by simp))
            have hbn : Blk (wE.alloc (.cells #[.int .i64 (3), .int .i64 (0), .int .i64 (drawN (nextS s) 4), .int .i64 (0)] 38)) wE.heap.size 38 (stC (⟨3, 0, drawN (nextS s) 4, 0⟩ : ST)) := Blk.new' _ _ _ _ rfl
            have Hsrc := Lib.hid (src_row4 hbn)
            have Hz : Hid (w.heap.size ≤ (wE.alloc (.cells #[.int .i64 (3), .int .i64 (0), .int .i64 (drawN (nextS s) 4), .int .i64 (0)] 38)).heap.size) := Lib.hid ((PE.out.k.alloc _).size)
            clear hbn
            go_wp2_with (at_builtin; refine wpList_append_off rfl _ _ rfl Tryd.sts35 w.heap.size (.slice ao acc.length co) acc.length _ rfl Ho6.out _ 1 (stC (⟨3, 0, drawN (nextS s) 4, 0⟩ : ST)) rfl Hsrc.out (by simp [stC, Value.oneCell']) (by unfold maxLen; omega) (by omega) Hz.out ?_)
            intro v7 w7 ho7 hk7 hb7
            rw [stC_snoc] at ho7
            have HF := Lib.hid (And.intro ho7 ((PE.out.k.alloc _).trans hk7 (fun x hx => Or.inr (Ho6.out.lt x (mem_own.1 hx)).1)))
            clear ho7 hk7 hb7 Hsrc Hz Ho6 z0 z1 z2 z3 zf
            go_wp2
            go_roundw
            case rel =>
              have hg := Hgr.out
              rw [scriptL, Hst.out] at hg
              exact ⟨i + 1, acc ++ [(⟨3, 0, drawN (nextS s) 4, 0⟩ : ST)], nextS (nextS s), v7, by go_num, by omega, rfl, by simp [Hai.out], by simpa using HF.out.1, nextS_in _, HF.out.2, by rw [← hg]; simp, rfl⟩
            case measure => simp [intOf]; omega
          · skip
            by_cases c3 : x < 90
            · skip
              have b0 : decide (x < 45) = false := by simp; omega
              have b1 : decide (x < 60) = false := by simp; omega
              have b2 : decide (x < 85) = false := by simp; omega
              have b3 : decide (x < 90) = true := by simp; omega
              have Hst := Lib.hid (show stepS 1 s = (⟨4, 0, drawN (nextS s) 4, 0⟩, nextS (nextS s)) by unfold stepS; rw [if_neg (show ¬ drawN s 100 < 45 by rw [HX.out]; omega), if_neg (show ¬ drawN s 100 < 60 by rw [HX.out]; omega), if_neg (show ¬ drawN s 100 < 85 by rw [HX.out]; omega), if_pos (show drawN s 100 < 90 by rw [HX.out]; omega)])
              have z0 : w2.cell? ⟨gS, 0, none⟩ = some (.int .i64 (0)) := P2.out.c.cell 0
              have z1 : w2.cell? ⟨gS, 1, none⟩ = some (.int .i64 (0)) := P2.out.c.cell 1
              have z2 : w2.cell? ⟨gS, 2, none⟩ = some (.int .i64 (0)) := P2.out.c.cell 2
              have z3 : w2.cell? ⟨gS, 3, none⟩ = some (.int .i64 (0)) := P2.out.c.cell 3
              have zf : ∀ i, w2.frozen? ⟨gS, i, none⟩ = false := fun i => P2.out.c.frozen i
              go_wp2_with fail
              refine (rdraw_spec _ (nextS s) 4 (nextS_in _).1 (nextS_in _).2 (by omega)).mono ?_
              rintro e w9 ⟨rfl, m2, rfl⟩
              have P3 := Lib.hid (P2.out.drewN m2)
              clear z0 z1 z2 z3 zf
              generalize w2.drewN m2 = w3 at *
              have z0 : w3.cell? ⟨gS, 0, none⟩ = some (.int .i64 (0)) := P3.out.c.cell 0
              have z1 : w3.cell? ⟨gS, 1, none⟩ = some (.int .i64 (0)) := P3.out.c.cell 1
              have z2 : w3.cell? ⟨gS, 2, none⟩ = some (.int .i64 (0)) := P3.out.c.cell 2
              have z3 : w3.cell? ⟨gS, 3, none⟩ = some (.int .i64 (0)) := P3.out.c.cell 3
              have zf : ∀ i, w3.frozen? ⟨gS, i, none⟩ = false := fun i => P3.out.c.frozen i
              go_upto_region 37 with fail
              have PE := Lib.hid ((((P3.out.set_ 0 (.int .i64 (4))).set_ 1 (.int .i64 (0))).set_ 2 (.int .i64 (drawN (nextS s) 4))).set_ 3 (.int .i64 (0)))
              clear z0 z1 z2 z3 zf
              generalize ((((w3.setCell ⟨gS, 0, none⟩ (.int .i64 (4))).setCell ⟨gS, 1, none⟩ (.int .i64 (0))).setCell ⟨gS, 2, none⟩ (.int .i64 (drawN (nextS s) 4))).setCell ⟨gS, 3, none⟩ (.int .i64 (0))) = wE at *
              have z0 : wE.cell? ⟨gS, 0, none⟩ = some (.int .i64 (4)) := PE.out.c.cell 0
              have z1 : wE.cell? ⟨gS, 1, none⟩ = some (.int .i64 (0)) := PE.out.c.cell 1
              have z2 : wE.cell? ⟨gS, 2, none⟩ = some (.int .i64 (drawN (nextS s) 4)) := PE.out.c.cell 2
              have z3 : wE.cell? ⟨gS, 3, none⟩ = some (.int .i64 (0)) := PE.out.c.cell 3
              have zf : ∀ i, wE.frozen? ⟨gS, i, none⟩ = false := fun i => PE.out.c.frozen i
              have Ho6 := Lib.hid (PE.out.o.keep ((Keep.refl [] wE).alloc (.cells #[.int .i64 (4), .int .i64 (0), .int .i64 (drawN (nextS s) 4), .int .i64 (0)] 38)) (by simp))
              have hbn : Blk (wE.alloc (.cells #[.int .i64 (4), .int .i64 (0), .int .i64 (drawN (nextS s) 4), .int .i64 (0)] 38)) wE.heap.size 38 (stC (⟨4, 0, drawN (nextS s) 4, 0⟩ : ST)) := Blk.new' _ _ _ _ rfl
              have Hsrc := Lib.hid (src_row4 hbn)
              have Hz : Hid (w.heap.size ≤ (wE.alloc (.cells #[.int .i64 (4), .int .i64 (0), .int .i64 (drawN (nextS s) 4), .int .i64 (0)] 38)).heap.size) := Lib.hid ((PE.out.k.alloc _).size)
              clear hbn
              go_wp2_with (at_builtin; refine wpList_append_off rfl _ _ rfl Tryd.sts35 w.heap.size (.slice ao acc.length co) acc.length _ rfl Ho6.out _ 1 (stC (⟨4, 0, drawN (nextS s) 4, 0⟩ : ST)) rfl Hsrc.out (by simp [stC, Value.oneCell']) (by unfold maxLen; omega) (by omega) Hz.out ?_)
              intro v7 w7 ho7 hk7 hb7
              rw [stC_snoc] at ho7
              have HF := Lib.hid (And.intro ho7 ((PE.out.k.alloc _).trans hk7 (fun x hx => Or.inr (Ho6.out.lt x (mem_own.1 hx)).1)))
              clear ho7 hk7 hb7 Hsrc Hz Ho6 z0 z1 z2 z3 zf
              go_wp2
              go_roundw
              case rel =>
                have hg := Hgr.out
                rw [scriptL, Hst.out] at hg
                exact ⟨i + 1, acc ++ [(⟨4, 0, drawN (nextS s) 4, 0⟩ : ST)], nextS (nextS s), v7, by go_num, by omega, rfl, by simp [Hai.out], by simpa using HF.out.1, nextS_in _, HF.out.2, by rw [← hg]; simp, rfl⟩
              case measure => simp [intOf]; omega
            · skip
              by_cases c4 : x < 94
              · skip
                have b0 : decide (x < 45) = false := by simp; omega
                have b1 : decide (x < 60) = false := by simp; omega
                have b2 : decide (x < 85) = false := by simp; omega
                have b3 : decide (x < 90) = false := by simp; omega
                have b4 : decide (x < 94) = true := by simp; omega
                have Hst := Lib.hid (show stepS 1 s = (⟨5, 0, drawN (nextS s) 4, 0⟩, nextS (nextS s)) by unfold stepS; rw [if_neg (show ¬ drawN s 100 < 45 by rw [HX.out]; omega), if_neg (show ¬ drawN s 100 < 60 by rw [HX.out]; omega), if_neg (show ¬ drawN s 100 < 85 by rw [HX.out]; omega), if_neg (show ¬ drawN s 100 < 90 by rw [HX.out]; omega), if_pos (show drawN s 100 < 94 by rw [HX.out]; omega)])
                have z0 : w2.cell? ⟨gS, 0, none⟩ = some (.int .i64 (0)) := P2.out.c.cell 0
                have z1 : w2.cell? ⟨gS, 1, none⟩ = some (.int .i64 (0)) := P2.out.c.cell 1
                have z2 : w2.cell? ⟨gS, 2, none⟩ = some (.int .i64 (0)) := P2.out.c.cell 2
                have z3 : w2.cell? ⟨gS, 3, none⟩ = some (.int .i64 (0)) := P2.out.c.cell 3
                have zf : ∀ i, w2.frozen? ⟨gS, i, none⟩ = false := fun i => P2.out.c.frozen i
                go_wp2_with fail
                refine (rdraw_spec _ (nextS s) 4 (nextS_in _).1 (nextS_in _).2 (by omega)).mono ?_
                rintro e w9 ⟨rfl, m2, rfl⟩
                have P3 := Lib.hid (P2.out.drewN m2)
                clear z0 z1 z2 z3 zf
                generalize w2.drewN m2 = w3 at *
                have z0 : w3.cell? ⟨gS, 0, none⟩ = some (.int .i64 (0)) := P3.out.c.cell 0
                have z1 : w3.cell? ⟨gS, 1, none⟩ = some (.int .i64 (0)) := P3.out.c.cell 1
                have z2 : w3.cell? ⟨gS, 2, none⟩ = some (.int .i64 (0)) := P3.out.c.cell 2
                have z3 : w3.cell? ⟨gS, 3, none⟩ = some (.int .i64 (0)) := P3.out.c.cell 3
                have zf : ∀ i, w3.frozen? ⟨gS, i, none⟩ = false := fun i => P3.out.c.frozen i
                go_upto_region 37 with fail
                have PE := Lib.hid ((((P3.out.set_ 0 (.int .i64 (5))).set_ 1 (.int .i64 (0))).set_ 2 (.int .i64 (drawN (nextS s) 4))).set_ 3 (.int .i64 (0)))
                clear z0 z1 z2 z3 zf
                generalize ((((w3.setCell ⟨gS, 0, none⟩ (.int .i64 (5))).setCell ⟨gS, 1, none⟩ (.int .i64 (0))).setCell ⟨gS, 2, none⟩ (.int .i64 (drawN (nextS s) 4))).setCell ⟨gS, 3, none⟩ (.int .i64 (0))) = wE at *
                have z0 : wE.cell? ⟨gS, 0, none⟩ = some (.int .i64 (5)) := PE.out.c.cell 0
                have z1 : wE.cell? ⟨gS, 1, none⟩ = some (.int .i64 (0)) := PE.out.c.cell 1
                have z2 : wE.cell? ⟨gS, 2, none⟩ = some (.int .i64 (drawN (nextS s) 4)) := PE.out.c.cell 2
                have z3 : wE.cell? ⟨gS, 3, none⟩ = some (.int .i64 (0)) := PE.out.c.cell 3
                have zf : ∀ i, wE.frozen? ⟨gS, i, none⟩ = false := fun i => PE.out.c.frozen i
                have Ho6 := Lib.hid (PE.out.o.keep ((Keep.refl [] wE).alloc (.cells #[.int .i64 (5), .int .i64 (0), .int .i64 (drawN (nextS s) 4), .int .i64 (0)] 38)) (by simp))
                have hbn : Blk (wE.alloc (.cells #[.int .i64 (5), .int .i64 (0), .int .i64 (drawN (nextS s) 4), .int .i64 (0)] 38)) wE.heap.size 38 (stC (⟨5, 0, drawN (nextS s) 4, 0⟩ : ST)) := Blk.new' _ _ _ _ rfl
                have Hsrc := Lib.hid (src_row4 hbn)
                have Hz : Hid (w.heap.size ≤ (wE.alloc (.cells #[.int .i64 (5), .int .i64 (0), .int .i64 (drawN (nextS s) 4), .int .i64 (0)] 38)).heap.size) := Lib.hid ((PE.out.k.alloc _).size)
                clear hbn
                go_wp2_with (at_builtin; refine wpList_append_off rfl _ _ rfl Tryd.sts35 w.heap.size (.slice ao acc.length co) acc.length _ rfl Ho6.out _ 1 (stC (⟨5, 0, drawN (nextS s) 4, 0⟩ : ST)) rfl Hsrc.out (by simp [stC, Value.oneCell']) (by unfold maxLen; omega) (by omega) Hz.out ?_)
                intro v7 w7 ho7 hk7 hb7
                rw [stC_snoc] at ho7
                have HF := Lib.hid (And.intro ho7 ((PE.out.k.alloc _).trans hk7 (fun x hx => Or.inr (Ho6.out.lt x (mem_own.1 hx)).1)))
                clear ho7 hk7 hb7 Hsrc Hz Ho6 z0 z1 z2 z3 zf
                go_wp2
                go_roundw
                case rel =>
                  have hg := Hgr.out
                  rw [scriptL, Hst.out] at hg
                  exact ⟨i + 1, acc ++ [(⟨5, 0, drawN (nextS s) 4, 0⟩ : ST)], nextS (nextS s), v7, by go_num, by omega, rfl, by simp [Hai.out], by simpa using HF.out.1, nextS_in _, HF.out.2, by rw [← hg]; simp, rfl⟩
                case measure => simp [intOf]; omega
              · skip
                by_cases c5 : x < 98
                · skip
                  have b0 : decide (x < 45) = false := by simp; omega
                  have b1 : decide (x < 60) = false := by simp; omega
                  have b2 : decide (x < 85) = false := by simp; omega
                  have b3 : decide (x < 90) = false := by simp; omega
                  have b4 : decide (x < 94) = false := by simp; omega
                  have b5 : decide (x < 98) = true := by simp; omega
                  have Hst := Lib.hid (show stepS 1 s = (⟨6, 0, drawN (nextS s) 4, drawN (nextS (nextS s)) 200⟩, nextS (nextS (nextS s))) by unfold stepS; rw [if_neg (show ¬ drawN s 100 < 45 by rw [HX.out]; omega), if_neg (show ¬ drawN s 100 < 60 by rw [HX.out]; omega), if_neg (show ¬ drawN s 100 < 85 by rw [HX.out]; omega), if_neg (show ¬ drawN s 100 < 90 by rw [HX.out]; omega), if_neg (show ¬ drawN s 100 < 94 by rw [HX.out]; omega), if_pos (show drawN s 100 < 98 by rw [HX.out]; omega)])
                  have z0 : w2.cell? ⟨gS, 0, none⟩ = some (.int .i64 (0)) := P2.out.c.cell 0
                  have z1 : w2.cell? ⟨gS, 1, none⟩ = some (.int .i64 (0)) := P2.out.c.cell 1
                  have z2 : w2.cell? ⟨gS, 2, none⟩ = some (.int .i64 (0)) := P2.out.c.cell 2
                  have z3 : w2.cell? ⟨gS, 3, none⟩ = some (.int .i64 (0)) := P2.out.c.cell 3
                  have zf : ∀ i, w2.frozen? ⟨gS, i, none⟩ = false := fun i => P2.out.c.frozen i
                  go_wp2_with fail
                  refine (rdraw_spec _ (nextS s) 4 (nextS_in _).1 (nextS_in _).2 (by omega)).mono ?_
                  rintro e w9 ⟨rfl, m2, rfl⟩
                  have P3 := Lib.hid (P2.out.drewN m2)
                  clear z0 z1 z2 z3 zf
                  generalize w2.drewN m2 = w3 at *
                  have z0 : w3.cell? ⟨gS, 0, none⟩ = some (.int .i64 (0)) := P3.out.c.cell 0
                  have z1 : w3.cell? ⟨gS, 1, none⟩ = some (.int .i64 (0)) := P3.out.c.cell 1
                  have z2 : w3.cell? ⟨gS, 2, none⟩ = some (.int .i64 (0)) := P3.out.c.cell 2
                  have z3 : w3.cell? ⟨gS, 3, none⟩ = some (.int .i64 (0)) := P3.out.c.cell 3
                  have zf : ∀ i, w3.frozen? ⟨gS, i, none⟩ = false := fun i => P3.out.c.frozen i
                  go_wp2_with fail
                  refine (rdraw_spec _ (nextS (nextS s)) 200 (nextS_in _).1 (nextS_in _).2 (by omega)).mono ?_
                  rintro e w9 ⟨rfl, m3, rfl⟩
                  have P4 := Lib.hid (P3.out.drewN m3)
                  clear z0 z1 z2 z3 zf
                  generalize w3.drewN m3 = w4 at *
                  have z0 : w4.cell? ⟨gS, 0, none⟩ = some (.int .i64 (0)) := P4.out.c.cell 0
                  have z1 : w4.cell? ⟨gS, 1, none⟩ = some (.int .i64 (0)) := P4.out.c.cell 1
                  have z2 : w4.cell? ⟨gS, 2, none⟩ = some (.int .i64 (0)) := P4.out.c.cell 2
                  have z3 : w4.cell? ⟨gS, 3, none⟩ = some (.int .i64 (0)) := P4.out.c.cell 3
                  have zf : ∀ i, w4.frozen? ⟨gS, i, none⟩ = false := fun i => P4.out.c.frozen i
                  go_upto_region 37 with fail
                  have PE := Lib.hid ((((P4.out.set_ 0 (.int .i64 (6))).set_ 1 (.int .i64 (0))).set_ 2 (.int .i64 (drawN (nextS s) 4))).set_ 3 (.int .i64 (drawN (nextS (nextS s)) 200)))
                  clear z0 z1 z2 z3 zf
                  generalize ((((w4.setCell ⟨gS, 0, none⟩ (.int .i64 (6))).setCell ⟨gS, 1, none⟩ (.int .i64 (0))).setCell ⟨gS, 2, none⟩ (.int .i64 (drawN (nextS s) 4))).setCell ⟨gS, 3, none⟩ (.int .i64 (drawN (nextS (nextS s)) 200))) = wE at *
                  have z0 : wE.cell? ⟨gS, 0, none⟩ = some (.int .i64 (6)) := PE.out.c.cell 0
                  have z1 : wE.cell? ⟨gS, 1, none⟩ = some (.int .i64 (0)) := PE.out.c.cell 1
                  have z2 : wE.cell? ⟨gS, 2, none⟩ = some (.int .i64 (drawN (nextS s) 4)) := PE.out.c.cell 2
                  have z3 : wE.cell? ⟨gS, 3, none⟩ = some (.int .i64 (drawN (nextS (nextS s)) 200)) := PE.out.c.cell 3
                  have zf : ∀ i, wE.frozen? ⟨gS, i, none⟩ = false := fun i => PE.out.c.frozen i
                  have Ho6 := Lib.hid (PE.out.o.keep ((Keep.refl [] wE).alloc (.cells #[.int .i64 (6), .int .i64 (0), .int .i64 (drawN (nextS s) 4), .int .i64 (drawN (nextS (nextS s)) 200)] 38)) (by simp))
                  have hbn : Blk (wE.alloc (.cells #[.int .i64 (6), .int .i64 (0), .int .i64 (drawN (nextS s) 4), .int .i64 (drawN (nextS (nextS s)) 200)] 38)) wE.heap.size 38 (stC (⟨6, 0, drawN (nextS s) 4, drawN (nextS (nextS s)) 200⟩ : ST)) := Blk.new' _ _ _ _ rfl
                  have Hsrc := Lib.hid (src_row4 hbn)
                  have Hz : Hid (w.heap.size ≤ (wE.alloc (.cells #[.int .i64 (6), .int .i64 (0), .int .i64 (drawN (nextS s) 4), .int .i64 (drawN (nextS (nextS s)) 200)] 38)).heap.size) := Lib.hid ((PE.out.k.alloc _).size)
                  clear hbn
                  go_wp2_with (at_builtin; refine wpList_append_off rfl _ _ rfl Tryd.sts35 w.heap.size (.slice ao acc.length co) acc.length _ rfl Ho6.out _ 1 (stC (⟨6, 0, drawN (nextS s) 4, drawN (nextS (nextS s)) 200⟩ : ST)) rfl Hsrc.out (by simp [stC, Value.oneCell']) (by unfold maxLen; omega) (by omega) Hz.out ?_)
                  intro v7 w7 ho7 hk7 hb7
                  rw [stC_snoc] at ho7
                  have HF := Lib.hid (And.intro ho7 ((PE.out.k.alloc _).trans hk7 (fun x hx => Or.inr (Ho6.out.lt x (mem_own.1 hx)).1)))
                  clear ho7 hk7 hb7 Hsrc Hz Ho6 z0 z1 z2 z3 zf
                  go_wp2
                  go_roundw
                  case rel =>
                    have hg := Hgr.out
                    rw [scriptL, Hst.out] at hg
                    exact ⟨i + 1, acc ++ [(⟨6, 0, drawN (nextS s) 4, drawN (nextS (nextS s)) 200⟩ : ST)], nextS (nextS (nextS s)), v7, by go_num, by omega, rfl, by simp [Hai.out], by simpa using HF.out.1, nextS_in _, HF.out.2, by rw [← hg]; simp, rfl⟩
                  case measure => simp [intOf]; omega
                · skip
                  have b0 : decide (x < 45) = false := by simp; omega
                  have b1 : decide (x < 60) = false := by simp; omega
                  have b2 : decide (x < 85) = false := by simp; omega
                  have b3 : decide (x < 90) = false := by simp; omega
                  have b4 : decide (x < 94) = false := by simp; omega
                  have b5 : decide (x < 98) = false := by simp; omega
                  have Hst := Lib.hid (show stepS 1 s = (⟨7, drawN (nextS s) 1, 0, 0⟩, nextS (nextS s)) by unfold stepS; rw [if_neg (show ¬ drawN s 100 < 45 by rw [HX.out]; omega), if_neg (show ¬ drawN s 100 < 60 by rw [HX.out]; omega), if_neg (show ¬ drawN s 100 < 85 by rw [HX.out]; omega), if_neg (show ¬ drawN s 100 < 90 by rw [HX.out]; omega), if_neg (show ¬ drawN s 100 < 94 by rw [HX.out]; omega), if_neg (show ¬ drawN s 100 < 98 by rw [HX.out]; omega)])
                  have z0 : w2.cell? ⟨gS, 0, none⟩ = some (.int .i64 (0)) := P2.out.c.cell 0
                  have z1 : w2.cell? ⟨gS, 1, none⟩ = some (.int .i64 (0)) := P2.out.c.cell 1
                  have z2 : w2.cell? ⟨gS, 2, none⟩ = some (.int .i64 (0)) := P2.out.c.cell 2
                  have z3 : w2.cell? ⟨gS, 3, none⟩ = some (.int .i64 (0)) := P2.out.c.cell 3
                  have zf : ∀ i, w2.frozen? ⟨gS, i, none⟩ = false := fun i => P2.out.c.frozen i
                  go_wp2_with fail
                  refine (rdraw_spec _ (nextS s) 1 (nextS_in _).1 (nextS_in _).2 (by omega)).mono ?_
                  rintro e w9 ⟨rfl, m2, rfl⟩
                  have P3 := Lib.hid (P2.out.drewN m2)
                  clear z0 z1 z2 z3 zf
                  generalize w2.drewN m2 = w3 at *
                  have z0 : w3.cell? ⟨gS, 0, none⟩ = some (.int .i64 (0)) := P3.out.c.cell 0
                  have z1 : w3.cell? ⟨gS, 1, none⟩ = some (.int .i64 (0)) := P3.out.c.cell 1
                  have z2 : w3.cell? ⟨gS, 2, none⟩ = some (.int .i64 (0)) := P3.out.c.cell 2
                  have z3 : w3.cell? ⟨gS, 3, none⟩ = some (.int .i64 (0)) := P3.out.c.cell 3
                  have zf : ∀ i, w3.frozen? ⟨gS, i, none⟩ = false := fun i => P3.out.c.frozen i
                  go_upto_region 37 with fail
                  have PE := Lib.hid ((((P3.out.set_ 0 (.int .i64 (7))).set_ 1 (.int .i64 (drawN (nextS s) 1))).set_ 2 (.int .i64 (0))).set_ 3 (.int .i64 (0)))
                  clear z0 z1 z2 z3 zf
                  generalize ((((w3.setCell ⟨gS, 0, none⟩ (.int .i64 (7))).setCell ⟨gS, 1, none⟩ (.int .i64 (drawN (nextS s) 1))).setCell ⟨gS, 2, none⟩ (.int .i64 (0))).setCell ⟨gS, 3, none⟩ (.int .i64 (0))) = wE at *
                  have z0 : wE.cell? ⟨gS, 0, none⟩ = some (.int .i64 (7)) := PE.out.c.cell 0
                  have z1 : wE.cell? ⟨gS, 1, none⟩ = some (.int .i64 (drawN (nextS s) 1)) := PE.out.c.cell 1
                  have z2 : wE.cell? ⟨gS, 2, none⟩ = some (.int .i64 (0)) := PE.out.c.cell 2
                  have z3 : wE.cell? ⟨gS, 3, none⟩ = some (.int .i64 (0)) := PE.out.c.cell 3
                  have zf : ∀ i, wE.frozen? ⟨gS, i, none⟩ = false := fun i => PE.out.c.frozen i
                  have Ho6 := Lib.hid (PE.out.o.keep ((Keep.refl [] wE).alloc (.cells #[.int .i64 (7), .int .i64 (drawN (nextS s) 1), .int .i64 (0), .int .i64 (0)] 38)) (by simp))
                  have hbn : Blk (wE.alloc (.cells #[.int .i64 (7), .int .i64 (drawN (nextS s) 1), .int .i64 (0), .int .i64 (0)] 38)) wE.heap.size 38 (stC (⟨7, drawN (nextS s) 1, 0, 0⟩ : ST)) := Blk.new' _ _ _ _ rfl
                  have Hsrc := Lib.hid (src_row4 hbn)
                  have Hz : Hid (w.heap.size ≤ (wE.alloc (.cells #[.int .i64 (7), .int .i64 (drawN (nextS s) 1), .int .i64 (0), .int .i64 (0)] 38)).heap.size) := Lib.hid ((PE.out.k.alloc _).size)
                  clear hbn
                  go_wp2_with (at_builtin; refine wpList_append_off rfl _ _ rfl Tryd.sts35 w.heap.size (.slice ao acc.length co) acc.length _ rfl Ho6.out _ 1 (stC (⟨7, drawN (nextS s) 1, 0, 0⟩ : ST)) rfl Hsrc.out (by simp [stC, Value.oneCell']) (by unfold maxLen; omega) (by omega) Hz.out ?_)
                  intro v7 w7 ho7 hk7 hb7
                  rw [stC_snoc] at ho7
                  have HF := Lib.hid (And.intro ho7 ((PE.out.k.alloc _).trans hk7 (fun x hx => Or.inr (Ho6.out.lt x (mem_own.1 hx)).1)))
                  clear ho7 hk7 hb7 Hsrc Hz Ho6 z0 z1 z2 z3 zf
                  go_wp2
                  go_roundw
                  case rel =>
                    have hg := Hgr.out
                    rw [scriptL, Hst.out] at hg
                    exact ⟨i + 1, acc ++ [(⟨7, drawN (nextS s) 1, 0, 0⟩ : ST)], nextS (nextS s), v7, by go_num, by omega, rfl, by simp [Hai.out], by simpa using HF.out.1, nextS_in _, HF.out.2, by rw [← hg]; simp, rfl⟩
                  case measure => simp [intOf]; omega
    · obtain rfl : i = M := by omega
      have hgeI : ¬ (i : Int) < 10000 := by omega
      have hgeI2 : 10000 ≤ (i : Int) := by omega
      rw [Nat.sub_self, scriptL, List.append_nil] at hgr
      have HO := Lib.hid (And.intro ho (And.intro hk hgr))
      clear ho hk hgr k1 k2 hai hiM hlt hla hiI
      go_wp2
      go_ret
      obtain ⟨ho, hk, hgr⟩ := HO.out
      exact ⟨_, rfl, by rw [← hgr]; exact StepsAt.of_own ho, hk⟩
set_option maxHeartbeats 12800000 in
set_option maxRecDepth 100000 in
theorem rscript_b1 (w : World) (seed nodes n : Int) (hN : 1 ≤ nodes ∧ nodes ≤ 16) (hBd : n ≤ 10000) : Calls Tryd.prog 18 #[.int .i64 seed, .int .i64 nodes, .int .i64 n] w (ScriptPost (scriptL (nodes) (cutK n) (seed % 4294967296)) w) := by
  obtain ⟨k1, k2⟩ := cutK_in n
  have s0 : 0 ≤ seed % 4294967296 := Int.emod_nonneg _ (by decide)
  have s9 : seed % 4294967296 < 4294967296 := Int.emod_lt_of_pos _ (by decide)
  have hbit : bits .and .i64 seed 4294967295 = seed % 4294967296 := by
    have := bits_and_mask seed 32 (by decide)
    simpa using this
  generalize cutK n = M at *
  generalize seed % 4294967296 = S0 at *
  go_enter Tryd.func18, Tryd.ntmps18
  go_wp2_with fail
  go_loopw [7, 8, 9, 10, 11, 12, 13, 14] (fun v7 v8 v9 _ _ _ _ _ wr => ∃ (i : Nat) (acc : List ST) (s : Int) (vv : Value), v9 = .int .i64 i ∧ i ≤ M ∧ v7 = .int .i64 s ∧ acc.length = i ∧ OwnsAt wr w.heap.size 38 4 v8 acc.length (acc.flatMap stC) ∧ (0 ≤ s ∧ s < 4294967296) ∧ Keep [] w wr ∧ acc ++ scriptL nodes (M - i) s = scriptL nodes M S0 ∧ vv = v8) (fun _ _ v _ _ _ _ _ _ => M - (intOf v).toNat)
  case atStart => exact ⟨0, [], S0, _, rfl, by omega, rfl, rfl, OwnsAt.nil _ _ _ _, ⟨s0, s9⟩, Keep.refl _ _, rfl, rfl⟩
  case round =>
    obtain ⟨i, acc, s, vv, rfl, hiM, rfl, hai, ho, ⟨hs0, hs1⟩, hk, hgr, rfl⟩ := hrel
    obtain ⟨ao, co, rfl⟩ := ho.shape
    have hla : acc.length ≤ 10000 := by omega
    have hiI : (i : Int) ≤ 10000 := by omega
    by_cases hlt : i < M
    · have hltI : (i : Int) < n := by omega
      obtain ⟨m', hm'⟩ : ∃ m', M - i = m' + 1 := ⟨M - i - 1, by omega⟩
      have hm2 : M - (i + 1) = m' := by omega
      rw [hm'] at hgr
      rw [← hm2] at hgr
      have Hgr := Lib.hid hgr
      have Hai := Lib.hid hai
      have H0 := Lib.hid (And.intro ho hk)
      clear ho hk hgr hai hm' hm2
      go_wp2_with fail
      refine (rdraw_spec _ s 100 hs0 hs1 (by decide)).mono ?_
      rintro e w9 ⟨rfl, m1, rfl⟩
      have HD := Lib.hid (And.intro (H0.out.1.keep ((Keep.refl [] wr).drewN m1) (by simp)) (H0.out.2.drewN m1))
      clear H0
      generalize wr.drewN m1 = wd at *
      have P2 : Hid (PR w wd.heap.size (.slice ao acc.length co) acc [.int .i64 0, .int .i64 0, .int .i64 0, .int .i64 0] (wd.alloc (.cells #[.int .i64 0, .int .i64 0, .int .i64 0, .int .i64 0] 38))) :=
        Lib.hid ⟨Blk.new' _ _ _ _ rfl, HD.out.1.keep ((Keep.refl [] wd).alloc _) (by simp), HD.out.2.alloc _, HD.out.2.size, fun x hx => Nat.ne_of_lt (HD.out.1.lt x hx).2⟩
      clear HD
      go_upto_region 18 with fail
      generalize wd.alloc (.cells #[.int .i64 0, .int .i64 0, .int .i64 0, .int .i64 0] 38) = w2 at *
      generalize wd.heap.size = gS at *
      obtain ⟨hx0, hx1⟩ := drawN_in s 100 (by decide)
      generalize hx : drawN s 100 = x at *
      have HX := Lib.hid hx
      clear hx
      by_cases c0 : x < 45
      · skip
        have b0 : decide (x < 45) = true := by simp; omega
        have Hst := Lib.hid (show stepS nodes s = (⟨1, drawN (nextS s) nodes, 0, 0⟩, nextS (nextS s)) by unfold stepS; rw [if_pos (show drawN s 100 < 45 by rw [HX.out]; omega)])
        have z0 : w2.cell? ⟨gS, 0, none⟩ = some (.int .i64 (0)) := P2.out.c.cell 0
        have z1 : w2.cell? ⟨gS, 1, none⟩ = some (.int .i64 (0)) := P2.out.c.cell 1
        have z2 : w2.cell? ⟨gS, 2, none⟩ = some (.int .i64 (0)) := P2.out.c.cell 2
        have z3 : w2.cell? ⟨gS, 3, none⟩ = some (.int .i64 (0)) := P2.out.c.cell 3
        have zf : ∀ i, w2.frozen? ⟨gS, i, none⟩ = false := fun i => P2.out.c.frozen i
        go_wp2_with fail
        refine (rdraw_spec _ (nextS s) nodes (nextS_in _).1 (nextS_in _).2 (by omega)).mono ?_
        rintro e w9 ⟨rfl, m2, rfl⟩
        have P3 := Lib.hid (P2.out.drewN m2)
        clear z0 z1 z2 z3 zf
        generalize w2.drewN m2 = w3 at *
        have z0 : w3.cell? ⟨gS, 0, none⟩ = some (.int .i64 (0)) := P3.out.c.cell 0
        have z1 : w3.cell? ⟨gS, 1, none⟩ = some (.int .i64 (0)) := P3.out.c.cell 1
        have z2 : w3.cell? ⟨gS, 2, none⟩ = some (.int .i64 (0)) := P3.out.c.cell 2
        have z3 : w3.cell? ⟨gS, 3, none⟩ = some (.int .i64 (0)) := P3.out.c.cell 3
        have zf : ∀ i, w3.frozen? ⟨gS, i, none⟩ = false := fun i => P3.out.c.frozen i
        go_upto_region 37 with fail
        have PE := Lib.hid ((((P3.out.set_ 0 (.int .i64 (1))).set_ 1 (.int .i64 (drawN (nextS s) nodes))).set_ 2 (.int .i64 (0))).set_ 3 (.int .i64 (0)))
        clear z0 z1 z2 z3 zf
        generalize ((((w3.setCell ⟨gS, 0, none⟩ (.int .i64 (1))).setCell ⟨gS, 1, none⟩ (.int .i64 (drawN (nextS s) nodes))).setCell ⟨gS, 2, none⟩ (.int .i64 (0))).setCell ⟨gS, 3, none⟩ (.int .i64 (0))) = wE at *
        have z0 : wE.cell? ⟨gS, 0, none⟩ = some (.int .i64 (1)) := PE.out.c.cell 0
        have z1 : wE.cell? ⟨gS, 1, none⟩ = some (.int .i64 (drawN (nextS s) nodes)) := PE.out.c.cell 1
        have z2 : wE.cell? ⟨gS, 2, none⟩ = some (.int .i64 (0)) := PE.out.c.cell 2
        have z3 : wE.cell? ⟨gS, 3, none⟩ = some (.int .i64 (0)) := PE.out.c.cell 3
        have zf : ∀ i, wE.frozen? ⟨gS, i, none⟩ = false := fun i => PE.out.c.frozen i
        have Ho6 := Lib.hid (PE.out.o.keep ((Keep.refl [] wE).alloc (.cells #[.int .i64 (1), .int .i64 (drawN (nextS s) nodes), .int .i64 (0), .int .i64 (0)] 38)) (by simp))
        have hbn : Blk (wE.alloc (.cells #[.int .i64 (1), .int .i64 (drawN (nextS s) nodes), .int .i64 (0), .int .i64 (0)] 38)) wE.heap.size 38 (stC (⟨1, drawN (nextS s) nodes, 0, 0⟩ : ST)) := Blk.new' _ _ _ _ rfl
        have Hsrc := Lib.hid (src_row4 hbn)
        have Hz : Hid (w.heap.size ≤ (wE.alloc (.cells #[.int .i64 (1), .int .i64 (drawN (nextS s) nodes), .int .i64 (0), .int .i64 (0)] 38)).heap.size) := Lib.hid ((PE.out.k.alloc _).size)
        clear hbn
        go_wp2_with (at_builtin; refine wpList_append_off rfl _ _ rfl Tryd.sts35 w.heap.size (.slice ao acc.length co) acc.length _ rfl Ho6.out _ 1 (stC (⟨1, drawN (nextS s) nodes, 0, 0⟩ : ST)) rfl Hsrc.out (by simp [stC, Value.oneCell']) (by unfold maxLen; omega) (by omega) Hz.out ?_)
        intro v7 w7 ho7 hk7 hb7
        rw [stC_snoc] at ho7
        have HF := Lib.hid (And.intro ho7 ((PE.out.k.alloc _).trans hk7 (fun x hx => Or.inr (Ho6.out.lt x (mem_own.1 hx)).1)))
        clear ho7 hk7 hb7 Hsrc Hz Ho6 z0 z1 z2 z3 zf
        go_wp2
        go_roundw
        case rel =>
          have hg := Hgr.out
          rw [scriptL, Hst.out] at hg
          exact ⟨i + 1, acc ++ [(⟨1, drawN (nextS s) nodes, 0, 0⟩ : ST)], nextS (nextS s), v7, by go_num, by omega, rfl, by simp [Hai.out], by simpa using HF.out.1, nextS_in _, HF.out.2, by rw [← hg]; simp, rfl⟩
        case measure => simp [intOf]; omega
      · skip
        by_cases c1 : x < 60
        · skip
          have b0 : decide (x < 45) = false := by simp; omega
          have b1 : decide (x < 60) = true := by simp; omega
          have Hst := Lib.hid (show stepS nodes s = (⟨2, 0, 0, 0⟩, nextS s) by unfold stepS; rw [if_neg (show ¬ drawN s 100 < 45 by rw [HX.out]; omega), if_pos (show drawN s 100 < 60 by rw [HX.out]; omega)])
          have z0 : w2.cell? ⟨gS, 0, none⟩ = some (.int .i64 (0)) := P2.out.c.cell 0
          have z1 : w2.cell? ⟨gS, 1, none⟩ = some (.int .i64 (0)) := P2.out.c.cell 1
          have z2 : w2.cell? ⟨gS, 2, none⟩ = some (.int .i64 (0)) := P2.out.c.cell 2
          have z3 : w2.cell? ⟨gS, 3, none⟩ = some (.int .i64 (0)) := P2.out.c.cell 3
          have zf : ∀ i, w2.frozen? ⟨gS, i, none⟩ = false := fun i => P2.out.c.frozen i
          go_upto_region 37 with fail
          have PE := Lib.hid ((((P2.out.set_ 0 (.int .i64 (2))).set_ 1 (.int .i64 (0))).set_ 2 (.int .i64 (0))).set_ 3 (.int .i64 (0)))
          clear z0 z1 z2 z3 zf
          generalize ((((w2.setCell ⟨gS, 0, none⟩ (.int .i64 (2))).setCell ⟨gS, 1, none⟩ (.int .i64 (0))).setCell ⟨gS, 2, none⟩ (.int .i64 (0))).setCell ⟨gS, 3, none⟩ (.int .i64 (0))) = wE at *
          have z0 : wE.cell? ⟨gS, 0, none⟩ = some (.int .i64 (2)) := PE.out.c.cell 0
          have z1 : wE.cell? ⟨gS, 1, none⟩ = some (.int .i64 (0)) := PE.out.c.cell 1
          have z2 : wE.cell? ⟨gS, 2, none⟩ = some (.int .i64 (0)) := PE.out.c.cell 2
          have z3 : wE.cell? ⟨gS, 3, none⟩ = some (.int .i64 (0)) := PE.out.c.cell 3
          have zf : ∀ i, wE.frozen? ⟨gS, i, none⟩ = false := fun i => PE.out.c.frozen i
          have Ho6 := Lib.hid (PE.out.o.keep ((Keep.refl [] wE).alloc (.cells #[.int .i64 (2), .int .i64 (0), .int .i64 (0), .int .i64 (0)] 38)) (by simp))
          have hbn : Blk (wE.alloc (.cells #[.int .i64 (2), .int .i64 (0), .int .i64 (0), .int .i64 (0)] 38)) wE.heap.size 38 (stC (⟨2, 0, 0, 0⟩ : ST)) := Blk.new' _ _ _ _ rfl
          have Hsrc := Lib.hid (src_row4 hbn)
          have Hz : Hid (w.heap.size ≤ (wE.alloc (.cells #[.int .i64 (2), .int .i64 (0), .int .i64 (0), .int .i64 (0)] 38)).heap.size) := Lib.hid ((PE.out.k.alloc _).size)
          clear hbn
          go_wp2_with (at_builtin; refine wpList_append_off rfl _ _ rfl Tryd.sts35 w.heap.size (.slice ao acc.length co) acc.length _ rfl Ho6.out _ 1 (stC (⟨2, 0, 0, 0⟩ : ST)) rfl Hsrc.out (by simp [stC, Value.oneCell']) (by unfold maxLen; omega) (by omega) Hz.out ?_)
          intro v7 w7 ho7 hk7 hb7
          rw [stC_snoc] at ho7
          have HF := Lib.hid (And.intro ho7 ((PE.out.k.alloc _).trans hk7 (fun x hx => Or.inr (Ho6.out.lt x (mem_own.1 hx)).1)))
          clear ho7 hk7 hb7 Hsrc Hz Ho6 z0 z1 z2 z3 zf
          go_wp2
          go_roundw
          case rel =>
            have hg := Hgr.out
            rw [scriptL, Hst.out] at hg
            exact ⟨i + 1, acc ++ [(⟨2, 0, 0, 0⟩ : ST)], nextS s, v7, by go_num, by omega, rfl, by simp [Hai.out], by simpa using HF.out.1, nextS_in _, HF.out.2, by rw [← hg]; simp, rfl⟩
          case measure => simp [intOf]; omega
        · skip
          by_cases c2 : x < 85
          · skip
            have b0 : decide (x < 45) = false := by simp; omega
            have b1 : decide (x < 60) = false := by simp; omega
            have b2 : decide (x < 85) = true := by simp; omega
            have Hst := Lib.hid (show stepS nodes s = (⟨3, 0, drawN (nextS s) 4, 0⟩, nextS (nextS s)) by unfold stepS; rw [if_neg (show ¬ drawN s 100 < 45 by rw [HX.out]; omega), if_neg (show ¬ drawN s 100 < 60 by rw [HX.out]; omega), if_pos (show drawN s 100 < 85 by rw [HX.out]; omega)])
            have z0 : w2.cell? ⟨gS, 0, none⟩ = some (.int .i64 (0)) := P2.out.c.cell 0
            have z1 : w2.cell? ⟨gS, 1, none⟩ = some (.int .i64 (0)) := P2.out.c.cell 1
            have z2 : w2.cell? ⟨gS, 2, none⟩ = some (.int .i64 (0)) := P2.out.c.cell 2
            have z3 : w2.cell? ⟨gS, 3, none⟩ = some (.int .i64 (0)) := P2.out.c.cell 3
            have zf : ∀ i, w2.frozen? ⟨gS, i, none⟩ = false := fun i => P2.out.c.frozen i
            go_wp2_with fail
            refine (rdraw_spec _ (nextS s) 4 (nextS_in _).1 (nextS_in _).2 (by omega)).mono ?_
            rintro e w9 ⟨rfl, m2, rfl⟩
            have P3 := Lib.hid (P2.out.drewN m2)
            clear z0 z1 z2 z3 zf
            generalize w2.drewN m2 = w3 at *
            have z0 : w3.cell? ⟨gS, 0, none⟩ = some (.int .i64 (0)) := P3.out.c.cell 0
            have z1 : w3.cell? ⟨gS, 1, none⟩ = some (.int .i64 (0)) := P3.out.c.cell 1
            have z2 : w3.cell? ⟨gS, 2, none⟩ = some (.int .i64 (0)) := P3.out.c.cell 2
            have z3 : w3.cell? ⟨gS, 3, none⟩ = some (.int .i64 (0)) := P3.out.c.cell 3
            have zf : ∀ i, w3.frozen? ⟨gS, i, none⟩ = false := fun i => P3.out.c.frozen i
            go_upto_region 37 with fail
            have PE := Lib.hid ((((P3.out.set_ 0 (.int .i64 (3))).set_ 1 (.int .i64 (0))).set_ 2 (.int .i64 (drawN (nextS s) 4))).set_ 3 (.int .i64 (0)))
            clear z0 z1 z2 z3 zf
            generalize ((((w3.setCell ⟨gS, 0, none⟩ (.int .i64 (3))).setCell ⟨gS, 1, none⟩ (.int .i64 (0))).setCell ⟨gS, 2, none⟩ (.int .i64 (drawN (nextS s) 4))).setCell ⟨gS, 3, none⟩ (.int .i64 (0))) = wE at *
            have z0 : wE.cell? ⟨gS, 0, none⟩ = some (.int .i64 (3)) := PE.out.c.cell 0
            have z1 : wE.cell? ⟨gS, 1, none⟩ = some (.int .i64 (0)) := PE.out.c.cell 1
            have z2 : wE.cell? ⟨gS, 2, none⟩ = some (.int .i64 (drawN (nextS s) 4)) := PE.out.c.cell 2
            have z3 : wE.cell? ⟨gS, 3, none⟩ = some (.int .i64 (0)) := PE.out.c.cell 3
            have zf : ∀ i, wE.frozen? ⟨gS, i, none⟩ = false := fun i => PE.out.c.frozen i
            have Ho6 := Lib.hid (PE.out.o.keep ((Keep.refl [] wE).alloc (.cells #[.int .i64 (3), .int .i64 (0), .int .i64 (drawN (nextS s) 4), .int .i64 (0)] 38)) (by simp))
            have hbn : Blk (wE.alloc (.cells #[.int .i64 (3), .int .i64 (0), .int .i64 (drawN (nextS s) 4), .int .i64 (0)] 38)) wE.heap.size 38 (stC (⟨3, 0, drawN (nextS s) 4, 0⟩ : ST)) := Blk.new' _ _ _ _ rfl
            have Hsrc := Lib.hid (src_row4 hbn)
            have Hz : Hid (w.heap.size ≤ (wE.alloc (.cells #[.int .i64 (3), .int .i64 (0), .int .i64 (drawN (nextS s) 4), .int .i64 (0)] 38)).heap.size) := Lib.hid ((PE.out.k.alloc _).size)
            clear hbn
            go_wp2_with (at_builtin; refine wpList_append_off rfl _ _ rfl Tryd.sts35 w.heap.size (.slice ao acc.length co) acc.length _ rfl Ho6.out _ 1 (stC (⟨3, 0, drawN (nextS s) 4, 0⟩ : ST)) rfl Hsrc.out (by simp [stC, Value.oneCell']) (by unfold maxLen; omega) (by omega) Hz.out ?_)
            intro v7 w7 ho7 hk7 hb7
            rw [stC_snoc] at ho7
            have HF := Lib.hid (And.intro ho7 ((PE.out.k.alloc _).trans hk7 (fun x hx => Or.inr (Ho6.out.lt x (mem_own.1 hx)).1)))
            clear ho7 hk7 hb7 Hsrc Hz Ho6 z0 z1 z2 z3 zf
            go_wp2
            go_roundw
            case rel =>
              have hg := Hgr.out
              rw [scriptL, Hst.out] at hg
              exact ⟨i + 1, acc ++ [(⟨3, 0, drawN (nextS s) 4, 0⟩ : ST)], nextS (nextS s), v7, by go_num, by omega, rfl, by simp [Hai.out], by simpa using HF.out.1, nextS_in _, HF.out.2, by rw [← hg]; simp, rfl⟩
            case measure => simp [intOf]; omega
          · skip
            by_cases c3 : x < 90
            · skip
              have b0 : decide (x < 45) = false := by simp; omega
              have b1 : decide (x < 60) = false := by simp; omega
              have b2 : decide (x < 85) = false := by simp; omega
              have b3 : decide (x < 90) = true := by simp; omega
              have Hst := Lib.hid (show stepS nodes s = (⟨4, 0, drawN (nextS s) 4, 0⟩, nextS (nextS s)) by unfold stepS; rw [if_neg (show ¬ drawN s 100 < 45 by rw [HX.out]; omega), if_neg (show ¬ drawN s 100 < 60 by rw [HX.out]; omega), if_neg (show ¬ drawN s 100 < 85 by rw [HX.out]; omega), if_pos (show drawN s 100 < 90 by rw [HX.out]; omega)])
              have z0 : w2.cell? ⟨gS, 0, none⟩ = some (.int .i64 (0)) := P2.out.c.cell 0
              have z1 : w2.cell? ⟨gS, 1, none⟩ = some (.int .i64 (0)) := P2.out.c.cell 1
              have z2 : w2.cell? ⟨gS, 2, none⟩ = some (.int .i64 (0)) := P2.out.c.cell 2
              have z3 : w2.cell? ⟨gS, 3, none⟩ = some (.int .i64 (0)) := P2.out.c.cell 3
              have zf : ∀ i, w2.frozen? ⟨gS, i, none⟩ = false := fun i => P2.out.c.frozen i
              go_wp2_with fail
              refine (rdraw_spec _ (nextS s) 4 (nextS_in _).1 (nextS_in _).2 (by omega)).mono ?_
              rintro e w9 ⟨rfl, m2, rfl⟩
              have P3 := Lib.hid (P2.out.drewN m2)
              clear z0 z1 z2 z3 zf
              generalize w2.drewN m2 = w3 at *
              have z0 : w3.cell? ⟨gS, 0, none⟩ = some (.int .i64 (0)) := P3.out.c.cell 0
              have z1 : w3.cell? ⟨gS, 1, none⟩ = some (.int .i64 (0)) := P3.out.c.cell 1
              have z2 : w3.cell? ⟨gS, 2, none⟩ = some (.int .i64 (0)) := P3.out.c.cell 2
              have z3 : w3.cell? ⟨gS, 3, none⟩ = some (.int .i64 (0)) := P3.out.c.cell 3
              have zf : ∀ i, w3.frozen? ⟨gS, i, none⟩ = false := fun i => P3.out.c.frozen i
              go_upto_region 37 with fail
              have PE := Lib.hid ((((P3.out.set_ 0 (.int .i64 (4))).set_ 1 (.int .i64 (0))).set_ 2 (.int .i64 (drawN (nextS s) 4))).set_ 3 (.int .i64 (0)))
              clear z0 z1 z2 z3 zf
              generalize ((((w3.setCell ⟨gS, 0, none⟩ (.int .i64 (4))).setCell ⟨gS, 1, none⟩ (.int .i64 (0))).setCell ⟨gS, 2, none⟩ (.int .i64 (drawN (nextS s) 4))).setCell ⟨gS, 3, none⟩ (.int .i64 (0))) = wE at *
              have z0 : wE.cell? ⟨gS, 0, none⟩ = some (.int .i64 (4)) := PE.out.c.cell 0
              have z1 : wE.cell? ⟨gS, 1, none⟩ = some (.int .i64 (0)) := PE.out.c.cell 1
              have z2 : wE.cell? ⟨gS, 2, none⟩ = some (.int .i64 (drawN (nextS s) 4)) := PE.out.c.cell 2
              have z3 : wE.cell? ⟨gS, 3, none⟩ = some (.int .i64 (0)) := PE.out.c.cell 3
              have zf : ∀ i, wE.frozen? ⟨gS, i, none⟩ = false := fun i => PE.out.c.frozen i
              have Ho6 := Lib.hid (PE.out.o.keep ((Keep.refl [] wE).alloc (.cells #[.int .i64 (4), .int .i64 (0), .int .i64 (drawN (nextS s) 4), .int .i64 (0)] 38)) (by simp))
              have hbn : Blk (wE.alloc (.cells #[.int .i64 (4), .int .i64 (0), .int .i64 (drawN (nextS s) 4), .int .i64 (0)] 38)) wE.heap.size 38 (stC (⟨4, 0, drawN (nextS s) 4, 0⟩ : ST)) := Blk.new' _ _ _ _ rfl
              have Hsrc := Lib.hid (src_row4 hbn)
              have Hz : Hid (w.heap.size ≤ (wE.alloc (.cells #[.int .i64 (4), .int .i64 (0), .int .i64 (drawN (nextS s) 4), .int .i64 (0)] 38)).heap.size) := Lib.hid ((PE.out.k.alloc _).size)
              clear hbn
              go_wp2_with (at_builtin; refine wpList_append_off rfl _ _ rfl Tryd.sts35 w.heap.size (.slice ao acc.length co) acc.length _ rfl Ho6.out _ 1 (stC (⟨4, 0, drawN (nextS s) 4, 0⟩ : ST)) rfl Hsrc.out (by simp [stC, Value.oneCell']) (by unfold maxLen; omega) (by omega) Hz.out ?_)
              intro v7 w7 ho7 hk7 hb7
              rw [stC_snoc] at ho7
              have HF := Lib.hid (And.intro ho7 ((PE.out.k.alloc _).trans hk7 (fun x hx => Or.inr (Ho6.out.lt x (mem_own.1 hx)).1)))
              clear ho7 hk7 hb7 Hsrc Hz Ho6 z0 z1 z2 z3 zf
              go_wp2
              go_roundw
              case rel =>
                have hg := Hgr.out
                rw [scriptL, Hst.out] at hg
                exact ⟨i + 1, acc ++ [(⟨4, 0, drawN (nextS s) 4, 0⟩ : ST)], nextS (nextS s), v7, by go_num, by omega, rfl, by simp [Hai.out], by simpa using HF.out.1, nextS_in _, HF.out.2, by rw [← hg]; simp, rfl⟩
              case measure => simp [intOf]; omega
            · skip
              by_cases c4 : x < 94
              · skip
                have b0 : decide (x < 45) = false := by simp; omega
                have b1 : decide (x < 60) = false := by simp; omega
                have b2 : decide (x < 85) = false := by simp; omega
                have b3 : decide (x < 90) = false := by simp; omega
                have b4 : decide (x < 94) = true := by simp; omega
                have Hst := Lib.hid (show stepS nodes s = (⟨5, 0, drawN (nextS s) 4, 0⟩, nextS (nextS s)) by unfold stepS; rw [if_neg (show ¬ drawN s 100 < 45 by rw [HX.out]; omega), if_neg (show ¬ drawN s 100 < 60 by rw [HX.out]; omega), if_neg (show ¬ drawN s 100 < 85 by rw [HX.out]; omega), if_neg (show ¬ drawN s 100 < 90 by rw [HX.out]; omega), if_pos (show drawN s 100 < 94 by rw [HX.out]; omega)])
                have z0 : w2.cell? ⟨gS, 0, none⟩ = some (.int .i64 (0)) := P2.out.c.cell 0
                have z1 : w2.cell? ⟨gS, 1, none⟩ = some (.int .i64 (0)) := P2.out.c.cell 1
                have z2 : w2.cell? ⟨gS, 2, none⟩ = some (.int .i64 (0)) := P2.out.c.cell 2
                have z3 : w2.cell? ⟨gS, 3, none⟩ = some (.int .i64 (0)) := P2.out.c.cell 3
                have zf : ∀ i, w2.frozen? ⟨gS, i, none⟩ = false := fun i => P2.out.c.frozen i
                go_wp2_with fail
                refine (rdraw_spec _ (nextS s) 4 (nextS_in _).1 (nextS_in _).2 (by omega)).mono ?_
                rintro e w9 ⟨rfl, m2, rfl⟩
                have P3 := Lib.hid (P2.out.drewN m2)
                clear z0 z1 z2 z3 zf
                generalize w2.drewN m2 = w3 at *
                have z0 : w3.cell? ⟨gS, 0, none⟩ = some (.int .i64 (0)) := P3.out.c.cell 0
                have z1 : w3.cell? ⟨gS, 1, none⟩ = some (.int .i64 (0)) := P3.out.c.cell 1
                have z2 : w3.cell? ⟨gS, 2, none⟩ = some (.int .i64 (0)) := P3.out.c.cell 2
                have z3 : w3.cell? ⟨gS, 3, none⟩ = some (.int .i64 (0)) := P3.out.c.cell 3
                have zf : ∀ i, w3.frozen? ⟨gS, i, none⟩ = false := fun i => P3.out.c.frozen i
                go_upto_region 37 with fail
                have PE := Lib.hid ((((P3.out.set_ 0 (.int .i64 (5))).set_ 1 (.int .i64 (0))).set_ 2 (.int .i64 (drawN (nextS s) 4))).set_ 3 (.int .i64 (0)))
                clear z0 z1 z2 z3 zf
                generalize ((((w3.setCell ⟨gS, 0, none⟩ (.int .i64 (5))).setCell ⟨gS, 1, none⟩ (.int .i64 (0))).setCell ⟨gS, 2, none⟩ (.int .i64 (drawN (nextS s) 4))).setCell ⟨gS, 3, none⟩ (.int .i64 (0))) = wE at *
                have z0 : wE.cell? ⟨gS, 0, none⟩ = some (.int .i64 (5)) := PE.out.c.cell 0
                have z1 : wE.cell? ⟨gS, 1, none⟩ = some (.int .i64 (0)) := PE.out.c.cell 1
                have z2 : wE.cell? ⟨gS, 2, none⟩ = some (.int .i64 (drawN (nextS s) 4)) := PE.out.c.cell 2
                have z3 : wE.cell? ⟨gS, 3, none⟩ = some (.int .i64 (0)) := PE.out.c.cell 3
                have zf : ∀ i, wE.frozen? ⟨gS, i, none⟩ = false := fun i => PE.out.c.frozen i
                have Ho6 := Lib.hid (PE.out.o.keep ((Keep.refl [] wE).alloc (.cells #[.int .i64 (5), .int .i64 (0), .int .i64 (drawN (nextS s) 4), .int .i64 (0)] 38)) (by simp))
                have hbn : Blk (wE.alloc (.cells #[.int .i64 (5), .int .i64 (0), .int .i64 (drawN (nextS s) 4), .int .i64 (0)] 38)) wE.heap.size 38 (stC (⟨5, 0, drawN (nextS s) 4, 0⟩ : ST)) := Blk.new' _ _ _ _ rfl
                have Hsrc := Lib.hid (src_row4 hbn)
                have Hz : Hid (w.heap.size ≤ (wE.alloc (.cells #[.int .i64 (5), .int .i64 (0), .int .i64 (drawN (nextS s) 4), .int .i64 (0)] 38)).heap.size) := Lib.hid ((PE.out.k.alloc _).size)
                clear hbn
                go_wp2_with (at_builtin; refine wpList_append_off rfl _ _ rfl Tryd.sts35 w.heap.size (.slice ao acc.length co) acc.length _ rfl Ho6.out _ 1 (stC (⟨5, 0, drawN (nextS s) 4, 0⟩ : ST)) rfl Hsrc.out (by simp [stC, Value.oneCell']) (by unfold maxLen; omega) (by omega) Hz.out ?_)
                intro v7 w7 ho7 hk7 hb7
                rw [stC_snoc] at ho7
                have HF := Lib.hid (And.intro ho7 ((PE.out.k.alloc _).trans hk7 (fun x hx => Or.inr (Ho6.out.lt x (mem_own.1 hx)).1)))
                clear ho7 hk7 hb7 Hsrc Hz Ho6 z0 z1 z2 z3 zf
                go_wp2
                go_roundw
                case rel =>
                  have hg := Hgr.out
                  rw [scriptL, Hst.out] at hg
                  exact ⟨i + 1, acc ++ [(⟨5, 0, drawN (nextS s) 4, 0⟩ : ST)], nextS (nextS s), v7, by go_num, by omega, rfl, by simp [Hai.out], by simpa using HF.out.1, nextS_in _, HF.out.2, by rw [← hg]; simp, rfl⟩
                case measure => simp [intOf]; omega
              · skip
                by_cases c5 : x < 98
                · skip
                  have b0 : decide (x < 45) = false := by simp; omega
                  have b1 : decide (x < 60) = false := by simp; omega
                  have b2 : decide (x < 85) = false := by simp; omega
                  have b3 : decide (x < 90) = false := by simp; omega
                  have b4 : decide (x < 94) = false := by simp; omega
                  have b5 : decide (x < 98) = true := by simp; omega
                  have Hst := Lib.hid (show stepS nodes s = (⟨6, 0, drawN (nextS s) 4, drawN (nextS (nextS s)) 200⟩, nextS (nextS (nextS s))) by unfold stepS; rw [if_neg (show ¬ drawN s 100 < 45 by rw [HX.out]; omega), if_neg (show ¬ drawN s 100 < 60 by rw [HX.out]; omega), if_neg (show ¬ drawN s 100 < 85 by rw [HX.out]; omega), if_neg (show ¬ drawN s 100 < 90 by rw [HX.out]; omega), if_neg (show ¬ drawN s 100 < 94 by rw [HX.out]; omega), if_pos (show drawN s 100 < 98 by rw [HX.out]; omega)])
                  have z0 : w2.cell? ⟨gS, 0, none⟩ = some (.int .i64 (0)) := P2.out.c.cell 0
                  have z1 : w2.cell? ⟨gS, 1, none⟩ = some (.int .i64 (0)) := P2.out.c.cell 1
                  have z2 : w2.cell? ⟨gS, 2, none⟩ = some (.int .i64 (0)) := P2.out.c.cell 2
                  have z3 : w2.cell? ⟨gS, 3, none⟩ = some (.int .i64 (0)) := P2.out.c.cell 3
                  have zf : ∀ i, w2.frozen? ⟨gS, i, none⟩ = false := fun i => P2.out.c.frozen i
                  go_wp2_with fail
                  refine (rdraw_spec _ (nextS s) 4 (nextS_in _).1 (nextS_in _).2 (by omega)).mono ?_
                  rintro e w9 ⟨rfl, m2, rfl⟩
                  have P3 := Lib.hid (P2.out.drewN m2)
                  clear z0 z1 z2 z3 zf
                  generalize w2.drewN m2 = w3 at *
                  have z0 : w3.cell? ⟨gS, 0, none⟩ = some (.int .i64 (0)) := P3.out.c.cell 0
                  have z1 : w3.cell? ⟨gS, 1, none⟩ = some (.int .i64 (0)) := P3.out.c.cell 1
                  have z2 : w3.cell? ⟨gS, 2, none⟩ = some (.int .i64 (0)) := P3.out.c.cell 2
                  have z3 : w3.cell? ⟨gS, 3, none⟩ = some (.int .i64 (0)) := P3.out.c.cell 3
                  have zf : ∀ i, w3.frozen? ⟨gS, i, none⟩ = false := fun i => P3.out.c.frozen i
                  go_wp2_with fail
                  refine (rdraw_spec _ (nextS (nextS s)) 200 (nextS_in _).1 (nextS_in _).2 (by omega)).mono ?_
                  rintro e w9 ⟨rfl, m3, rfl⟩
                  have P4 := Lib.hid (P3.out.drewN m3)
                  clear z0 z1 z2 z3 zf
                  generalize w3.drewN m3 = w4 at *
                  have z0 : w4.cell? ⟨gS, 0, none⟩ = some (.int .i64 (0)) := P4.out.c.cell 0
                  have z1 : w4.cell? ⟨gS, 1, none⟩ = some (.int .i64 (0)) := P4.out.c.cell 1
                  have z2 : w4.cell? ⟨gS, 2, none⟩ = some (.int .i64 (0)) := P4.out.c.cell 2
                  have z3 : w4.cell? ⟨gS, 3, none⟩ = some (.int .i64 (0)) := P4.out.c.cell 3
                  have zf : ∀ i, w4.frozen? ⟨gS, i, none⟩ = false := fun i => P4.out.c.frozen i
                  go_upto_region 37 with fail
                  have PE := Lib.hid ((((P4.out.set_ 0 (.int .i64 (6))).set_ 1 (.int .i64 (0))).set_ 2 (.int .i64 (drawN (nextS s) 4))).set_ 3 (.int .i64 (drawN (nextS (nextS s)) 200)))
                  clear z0 z1 z2 z3 zf
                  generalize ((((w4.setCell ⟨gS, 0, none⟩ (.int .i64 (6))).setCell ⟨gS, 1, none⟩ (.int .i64 (0))).setCell ⟨gS, 2, none⟩ (.int .i64 (drawN (nextS s) 4))).setCell ⟨gS, 3, none⟩ (.int .i64 (drawN (nextS (nextS s)) 200))) = wE at *
                  have z0 : wE.cell? ⟨gS, 0, none⟩ = some (.int .i64 (6)) := PE.out.c.cell 0
                  have z1 : wE.cell? ⟨gS, 1, none⟩ = some (.int .i64 (0)) := PE.out.c.cell 1
                  have z2 : wE.cell? ⟨gS, 2, none⟩ = some (.int .i64 (drawN (nextS s) 4)) := PE.out.c.cell 2
                  have z3 : wE.cell? ⟨gS, 3, none⟩ = some (.int .i64 (drawN (nextS (nextS s)) 200)) := PE.out.c.cell 3
                  have zf : ∀ i, wE.frozen? ⟨gS, i, none⟩ = false := fun i => PE.out.c.frozen i
                  have Ho6 := Lib.hid (PE.out.o.keep ((Keep.refl [] wE).alloc (.cells #[.int .i64 (6), .int .i64 (0), .int .i64 (drawN (nextS s) 4), .int .i64 (drawN (nextS (nextS s)) 200)] 38)) (by simp))
                  have hbn : Blk (wE.alloc (.cells #[.int .i64 (6), .int .i64 (0), .int .i64 (drawN (nextS s) 4), .int .i64 (drawN (nextS (nextS s)) 200)] 38)) wE.heap.size 38 (stC (⟨6, 0, drawN (nextS s) 4, drawN (nextS (nextS s)) 200⟩ : ST)) := Blk.new' _ _ _ _ rfl
                  have Hsrc := Lib.hid (src_row4 hbn)
                  have Hz : Hid (w.heap.size ≤ (wE.alloc (.cells #[.int .i64 (6), .int .i64 (0), .int .i64 (drawN (nextS s) 4), .int .i64 (drawN (nextS (nextS s)) 200)] 38)).heap.size) := Lib.hid ((PE.out.k.alloc _).size)
                  clear hbn
                  go_wp2_with (at_builtin; refine wpList_append_off rfl _ _ rfl Tryd.sts35 w.heap.size (.slice ao acc.length co) acc.length _ rfl Ho6.out _ 1 (stC (⟨6, 0, drawN (nextS s) 4, drawN (nextS (nextS s)) 200⟩ : ST)) rfl Hsrc.out (by simp [stC, Value.oneCell']) (by unfold maxLen; omega) (by omega) Hz.out ?_)
                  intro v7 w7 ho7 hk7 hb7
                  rw [stC_snoc] at ho7
                  have HF := Lib.hid (And.intro ho7 ((PE.out.k.alloc _).trans hk7 (fun x hx => Or.inr (Ho6.out.lt x (mem_own.1 hx)).1)))
                  clear ho7 hk7 hb7 Hsrc Hz Ho6 z0 z1 z2 z3 zf
                  go_wp2
                  go_roundw
                  case rel =>
                    have hg := Hgr.out
                    rw [scriptL, Hst.out] at hg
                    exact ⟨i + 1, acc ++ [(⟨6, 0, drawN (nextS s) 4, drawN (nextS (nextS s)) 200⟩ : ST)], nextS (nextS (nextS s)), v7, by go_num, by omega, rfl, by simp [Hai.out], by simpa using HF.out.1, nextS_in _, HF.out.2, by rw [← hg]; simp, rfl⟩
                  case measure => simp [intOf]; omega
                · skip
                  have b0 : decide (x < 45) = false := by simp; omega
                  have b1 : decide (x < 60) = false := by simp; omega
                  have b2 : decide (x < 85) = false := by simp; omega
                  have b3 : decide (x < 90) = false := by simp; omega
                  have b4 : decide (x < 94) = false := by simp; omega
                  have b5 : decide (x < 98) = false := by simp; omega
                  have Hst := Lib.hid (show stepS nodes s = (⟨7, drawN (nextS s) nodes, 0, 0⟩, nextS (nextS s)) by unfold stepS; rw [if_neg (show ¬ drawN s 100 < 45 by rw [HX.out]; omega), if_neg (show ¬ drawN s 100 < 60 by rw [HX.out]; omega), if_neg (show ¬ drawN s 100 < 85 by rw [HX.out]; omega), if_neg (show ¬ drawN s 100 < 90 by rw [HX.out]; omega), if_neg (show ¬ drawN s 100 < 94 by rw [HX.out]; omega), if_neg (show ¬ drawN s 100 < 98 by rw [HX.out]; omega)])
                  have z0 : w2.cell? ⟨gS, 0, none⟩ = some (.int .i64 (0)) := P2.out.c.cell 0
                  have z1 : w2.cell? ⟨gS, 1, none⟩ = some (.int .i64 (0)) := P2.out.c.cell 1
                  have z2 : w2.cell? ⟨gS, 2, none⟩ = some (.int .i64 (0)) := P2.out.c.cell 2
                  have z3 : w2.cell? ⟨gS, 3, none⟩ = some (.int .i64 (0)) := P2.out.c.cell 3
                  have zf : ∀ i, w2.frozen? ⟨gS, i, none⟩ = false := fun i => P2.out.c.frozen i
                  go_wp2_with fail
                  refine (rdraw_spec _ (nextS s) nodes (nextS_in _).1 (nextS_in _).2 (by omega)).mono ?_
                  rintro e w9 ⟨rfl, m2, rfl⟩
                  have P3 := Lib.hid (P2.out.drewN m2)
                  clear z0 z1 z2 z3 zf
                  generalize w2.drewN m2 = w3 at *
                  have z0 : w3.cell? ⟨gS, 0, none⟩ = some (.int .i64 (0)) := P3.out.c.cell 0
                  have z1 : w3.cell? ⟨gS, 1, none⟩ = some (.int .i64 (0)) := P3.out.c.cell 1
                  have z2 : w3.cell? ⟨gS, 2, none⟩ = some (.int .i64 (0)) := P3.out.c.cell 2
                  have z3 : w3.cell? ⟨gS, 3, none⟩ = some (.int .i64 (0)) := P3.out.c.cell 3
                  have zf : ∀ i, w3.frozen? ⟨gS, i, none⟩ = false := fun i => P3.out.c.frozen i
                  go_upto_region 37 with fail
                  have PE := Lib.hid ((((P3.out.set_ 0 (.int .i64 (7))).set_ 1 (.int .i64 (drawN (nextS s) nodes))).set_ 2 (.int .i64 (0))).set_ 3 (.int .i64 (0)))
                  clear z0 z1 z2 z3 zf
                  generalize ((((w3.setCell ⟨gS, 0, none⟩ (.int .i64 (7))).setCell ⟨gS, 1, none⟩ (.int .i64 (drawN (nextS s) nodes))).setCell ⟨gS, 2, none⟩ (.int .i64 (0))).setCell ⟨gS, 3, none⟩ (.int .i64 (0))) = wE at *
                  have z0 : wE.cell? ⟨gS, 0, none⟩ = some (.int .i64 (7)) := PE.out.c.cell 0
                  have z1 : wE.cell? ⟨gS, 1, none⟩ = some (.int .i64 (drawN (nextS s) nodes)) := PE.out.c.cell 1
                  have z2 : wE.cell? ⟨gS, 2, none⟩ = some (.int .i64 (0)) := PE.out.c.cell 2
                  have z3 : wE.cell? ⟨gS, 3, none⟩ = some (.int .i64 (0)) := PE.out.c.cell 3
                  have zf : ∀ i, wE.frozen? ⟨gS, i, none⟩ = false := fun i => PE.out.c.frozen i
                  have Ho6 := Lib.hid (PE.out.o.keep ((Keep.refl [] wE).alloc (.cells #[.int .i64 (7), .int .i64 (drawN (nextS s) nodes), .int .i64 (0), .int .i64 (0)] 38)) (by simp))
                  have hbn : Blk (wE.alloc (.cells #[.int .i64 (7), .int .i64 (drawN (nextS s) nodes), .int .i64 (0), .int .i64 (0)] 38)) wE.heap.size 38 (stC (⟨7, drawN (nextS s) nodes, 0, 0⟩ : ST)) := Blk.new' _ _ _ _ rfl
                  have Hsrc := Lib.hid (src_row4 hbn)
                  have Hz : Hid (w.heap.size ≤ (wE.alloc (.cells #[.int .i64 (7), .int .i64 (drawN (nextS s) nodes), .int .i64 (0), .int .i64 (0)] 38)).heap.size) := Lib.hid ((PE.out.k.alloc _).size)
                  clear hbn
                  go_wp2_with (at_builtin; refine wpList_append_off rfl _ _ rfl Tryd.sts35 w.heap.size (.slice ao acc.length co) acc.length _ rfl Ho6.out _ 1 (stC (⟨7, drawN (nextS s) nodes, 0, 0⟩ : ST)) rfl Hsrc.out (by simp [stC, Value.oneCell']) (by unfold maxLen; omega) (by omega) Hz.out ?_)
                  intro v7 w7 ho7 hk7 hb7
                  rw [stC_snoc] at ho7
                  have HF := Lib.hid (And.intro ho7 ((PE.out.k.alloc _).trans hk7 (fun x hx => Or.inr (Ho6.out.lt x (mem_own.1 hx)).1)))
                  clear ho7 hk7 hb7 Hsrc Hz Ho6 z0 z1 z2 z3 zf
                  go_wp2
                  go_roundw
                  case rel =>
                    have hg := Hgr.out
                    rw [scriptL, Hst.out] at hg
                    exact ⟨i + 1, acc ++ [(⟨7, drawN (nextS s) nodes, 0, 0⟩ : ST)], nextS (nextS s), v7, by go_num, by omega, rfl, by simp [Hai.out], by simpa using HF.out.1, nextS_in _, HF.out.2, by rw [← hg]; simp, rfl⟩
                  case measure => simp [intOf]; omega
    · obtain rfl : i = M := by omega
      have hgeI : ¬ (i : Int) < n := by omega
      have hgeI2 : n ≤ (i : Int) := by omega
      rw [Nat.sub_self, scriptL, List.append_nil] at hgr
      have HO := Lib.hid (And.intro ho (And.intro hk hgr))
      clear ho hk hgr k1 k2 hai hiM hlt hla hiI
      go_wp2
      go_ret
      obtain ⟨ho, hk, hgr⟩ := HO.out
      exact ⟨_, rfl, by rw [← hgr]; exact StepsAt.of_own ho, hk⟩
end Go.Proofs.YtndpbkhpllmhmaaDoor
