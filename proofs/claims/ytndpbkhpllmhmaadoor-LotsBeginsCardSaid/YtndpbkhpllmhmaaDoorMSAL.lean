/- lots.Script: the walk. -/
import Derived.Test.YtndpbkhpllmhmaaDoorRows
import Derived.WalkKit
import Derived.WalkSpells
import Derived.WalkLawsBesides
import Derived.RegionTactic
import Derived.ChangeAlike
import Derived.BigQuiet
import Derived.Deep.QuietTactic
import Derived.StillTailTactics
import Derived.IntWalk
import Derived.Handy
import Derived.Lib.Hide
import Derived.Deep.AppendLies
import Derived.Deep.RegionWith
import Derived.Test.YtndpbkhpllmhmaaDoorMSAA
import Derived.Test.YtndpbkhpllmhmaaDoorMSAB
import Derived.Carry
import Derived.Deep.RegionHeld3
import Derived.BigRegion
import Derived.Maps.OwnSet
import Derived.Maps.Views
import Derived.Maps.StringElems
import Derived.Test.YtndpbkhpllmhmaaDoorMSAC
import Derived.Test.YtndpbkhpllmhmaaDoorMSAD
import Derived.Test.YtndpbkhpllmhmaaDoorMSAK
namespace Go.Proofs.YtndpbkhpllmhmaaDoor
set_option linter.unusedSimpArgs false
set_option linter.unnecessarySimpa false
set_option linter.unusedVariables false
open Go.RowKit
def cutN (n : Int) : Int := min (max 1 n) 16
def cutK (n : Int) : Nat := (min (max 0 n) 10000).toNat
theorem cutN_in (n : Int) : 1 ≤ cutN n ∧ cutN n ≤ 16 := by unfold cutN; omega
theorem cutK_in (n : Int) : ((cutK n : Nat) : Int) = min (max 0 n) 10000 ∧ cutK n ≤ 10000 := by unfold cutK; omega
theorem stC_snoc (l : List ST) (s : ST) : l.flatMap stC ++ stC s = (l ++ [s]).flatMap stC := by simp [List.flatMap_append]
theorem src_row4 {w : World} {g : Nat} {s : ST} (h : Blk w g 38 (stC s)) : SrcOf w (.slice (some ⟨g, 0, none⟩) 1 1) 4 1 (stC s) := by
  refine ⟨_, _, rfl, rfl, fun _ => ⟨_, rfl, fun j u hu => ?_⟩⟩
  rw [add_none, Nat.zero_add]
  exact (h.cell j).trans hu
def ScriptPost (l : List ST) (w : World) (e : Ending) (w' : World) : Prop := ∃ v, e = .returned v ∧ StepsAt w' v l ∧ Keep [] w w'
/-- at work in a round: the draws' state in g, the step in gS, the steps so far -/
structure PK (w0 : World) (g gS : Nat) (v : Value) (acc : List ST) (s : Int) (cells : List Value) (w : World) : Prop where
  b : Blk w g 72 [.int .i64 s]
  c : Blk w gS 38 cells
  o : OwnsAt w w0.heap.size 38 4 v acc.length (acc.flatMap stC)
  k : Keep [] w0 w
  g1 : w0.heap.size ≤ g
  g2 : w0.heap.size ≤ gS
  ne : ∀ x, v.ownBlock = some x → x ≠ gS
theorem PK.draw {w0 : World} {g gS : Nat} {v : Value} {acc : List ST} {s : Int} {cells : List Value} {w : World} (h : PK w0 g gS v acc s cells w) (s' : Int) : PK w0 g gS v acc s' cells (w.setCell ⟨g, 0, none⟩ (.int .i64 s')) := by
  have q := own_ne h.b h.o (by decide)
  have q2 : gS ≠ g := by
    rintro rfl
    have h1 := h.b
    have h2 := h.c
    unfold Blk at h1 h2
    rw [h1] at h2
    injection h2 with h2
    injection h2 with _ h3
    exact absurd h3 (by decide)
  exact ⟨h.b.set_ 0 _, h.c.far (p := ⟨g, 0, none⟩) q2 _, h.o.keep ((Keep.refl [g] w).setCell (by simp) _) (fun x hx hm => q x hx (List.mem_singleton.1 hm)), h.k.setCell (Or.inr h.g1) _, h.g1, h.g2, h.ne⟩
theorem PK.ne2 {w0 : World} {g gS : Nat} {v : Value} {acc : List ST} {s : Int} {cells : List Value} {w : World} (h : PK w0 g gS v acc s cells w) : g ≠ gS := by
  rintro rfl
  have h1 := h.b
  have h2 := h.c
  unfold Blk at h1 h2
  rw [h1] at h2
  injection h2 with h2
  injection h2 with _ h3
  exact absurd h3 (by decide)
theorem PK.set_ {w0 : World} {g gS : Nat} {v : Value} {acc : List ST} {s : Int} {cells : List Value} {w : World} (h : PK w0 g gS v acc s cells w) (i : Nat) (u : Value) : PK w0 g gS v acc s (cells.set i u) (w.setCell ⟨gS, i, none⟩ u) :=
  ⟨h.b.far (p := ⟨gS, i, none⟩) h.ne2 _, h.c.set_ i u, h.o.keep ((Keep.refl [gS] w).setCell (by simp) _) (fun x hx hm => h.ne x hx (List.mem_singleton.1 hm)), h.k.setCell (Or.inr h.g2) _, h.g1, h.g2, h.ne⟩
set_option maxHeartbeats 12800000 in
set_option maxRecDepth 100000 in
theorem script_spec (w : World) (seed nodes n : Int) : Calls Tryd.prog 17 #[.int .i64 seed, .int .i64 nodes, .int .i64 n] w (ScriptPost (scriptL (cutN nodes) (cutK n) (seed % 4294967296)) w) := by
  obtain ⟨n1, n2⟩ := cutN_in nodes
  obtain ⟨k1, k2⟩ := cutK_in n
  have e1 : min (max 1 nodes) 16 = cutN nodes := rfl
  have s0 : 0 ≤ seed % 4294967296 := Int.emod_nonneg _ (by decide)
  have s9 : seed % 4294967296 < 4294967296 := Int.emod_lt_of_pos _ (by decide)
  generalize cutN nodes = N at *
  generalize cutK n = M at *
  generalize hs : seed % 4294967296 = S0 at *
  have Hs := Lib.hid hs
  have He := Lib.hid (And.intro e1 k1)
  clear hs e1 k1
  go_enter Tryd.func17, Tryd.ntmps17
  go_wp2_with fail
  refine (from_spec _ _).mono ?_
  rintro e w1 ⟨rfl, hk1⟩
  rw [Hs.out]
  have Hk1 := Lib.hid hk1
  clear hk1
  go_wp2_with fail
  refine (cut_spec _ _ _ _).mono ?_
  rintro e w2 ⟨rfl, rfl⟩
  rw [He.out.1]
  go_wp2_with fail
  refine (cut_spec _ _ _ _).mono ?_
  rintro e w2 ⟨rfl, rfl⟩
  rw [← He.out.2]
  have hb1 : Blk (w1.alloc (.cells #[.int .i64 S0] 72)) w1.heap.size 72 [.int .i64 S0] := Blk.new' _ _ _ _ rfl
  have HB := Lib.hid (And.intro hb1 (And.intro (Hk1.out.alloc (.cells #[.int .i64 S0] 72)) Hk1.out.size))
  clear hb1
  go_wp2_with fail
  generalize w1.alloc (.cells #[.int .i64 S0] 72) = w3 at *
  generalize w1.heap.size = g at *
  go_loopw [8, 9, 10, 17] (fun v8 _ _ v17 wr => ∃ (i : Nat) (acc : List ST) (s : Int) (vv : Value), v17 = .int .i64 i ∧ i ≤ M ∧ acc.length = i ∧ OwnsAt wr w.heap.size 38 4 v8 acc.length (acc.flatMap stC) ∧ Blk wr g 72 [.int .i64 s] ∧ (0 ≤ s ∧ s < 4294967296) ∧ Keep [] w wr ∧ acc ++ scriptL N (M - i) s = scriptL N M S0 ∧ vv = v8) (fun _ _ _ v _ => M - (intOf v).toNat)
  case atStart => exact ⟨0, [], S0, _, rfl, by omega, rfl, OwnsAt.nil _ _ _ _, HB.out.1, ⟨s0, s9⟩, HB.out.2.1, rfl, rfl⟩
  case round =>
    obtain ⟨i, acc, s, vv, rfl, hiM, hai, ho, hb, ⟨hs0, hs1⟩, hk, hgr, rfl⟩ := hrel
    obtain ⟨ao, co, rfl⟩ := ho.shape
    have hla : acc.length ≤ 10000 := by omega
    have hiI : (i : Int) ≤ 10000 := by omega
    have hMI : (M : Int) ≤ 10000 := by omega
    by_cases hlt : i < M
    · have hltI : (i : Int) < (M : Int) := by omega
      obtain ⟨m', hm'⟩ : ∃ m', M - i = m' + 1 := ⟨M - i - 1, by omega⟩
      have hm2 : M - (i + 1) = m' := by omega
      rw [hm'] at hgr
      have P1 : PK w g wr.heap.size (.slice ao acc.length co) acc s [.int .i64 0, .int .i64 0, .int .i64 0, .int .i64 0] (wr.alloc (.cells #[.int .i64 0, .int .i64 0, .int .i64 0, .int .i64 0] 38)) :=
        ⟨hb.alloc _, Blk.new' _ _ _ _ rfl, ho.keep ((Keep.refl [] wr).alloc _) (by simp), hk.alloc _, HB.out.2.2, hk.size, fun x hx => Nat.ne_of_lt (ho.lt x hx).2⟩
      have HP1 := Lib.hid P1
      rw [← hm2] at hgr
      have Hgr := Lib.hid hgr
      have Hai := Lib.hid hai
      clear ho hb hk hgr P1 hai hm' hm2
      go_wp2_with fail
      refine (draw_spec _ g s 100 HP1.out.b hs0 hs1 (by decide)).mono ?_
      rintro e w9 ⟨rfl, rfl⟩
      have P2 := Lib.hid (HP1.out.draw (nextS s))
      generalize (wr.alloc (.cells #[.int .i64 0, .int .i64 0, .int .i64 0, .int .i64 0] 38)).setCell ⟨g, 0, none⟩ (.int .i64 (nextS s)) = w2 at *
      generalize wr.heap.size = gS at *
      obtain ⟨hx0, hx1⟩ := drawN_in s 100 (by decide)
      generalize hx : drawN s 100 = x at *
      have HX := Lib.hid hx
      clear hx HP1
      by_cases c0 : x < 45
      · skip
        have b0 : decide (x < 45) = true := by simp; omega
        have Hst := Lib.hid (show stepS N s = (⟨1, drawN (nextS s) N, 0, 0⟩, nextS (nextS s)) by unfold stepS; rw [if_pos (show drawN s 100 < 45 by rw [HX.out]; omega)])
        have z0 : w2.cell? ⟨gS, 0, none⟩ = some (.int .i64 (0)) := P2.out.c.cell 0
        have z1 : w2.cell? ⟨gS, 1, none⟩ = some (.int .i64 (0)) := P2.out.c.cell 1
        have z2 : w2.cell? ⟨gS, 2, none⟩ = some (.int .i64 (0)) := P2.out.c.cell 2
        have z3 : w2.cell? ⟨gS, 3, none⟩ = some (.int .i64 (0)) := P2.out.c.cell 3
        have zf : ∀ i, w2.frozen? ⟨gS, i, none⟩ = false := fun i => P2.out.c.frozen i
        go_wp2_with fail
        refine (draw_spec _ g (nextS s) N P2.out.b (nextS_in _).1 (nextS_in _).2 (by omega)).mono ?_
        rintro e w9 ⟨rfl, rfl⟩
        have P3 := Lib.hid (P2.out.draw (nextS (nextS s)))
        clear z0 z1 z2 z3 zf
        generalize w2.setCell ⟨g, 0, none⟩ (.int .i64 (nextS (nextS s))) = w3 at *
        have z0 : w3.cell? ⟨gS, 0, none⟩ = some (.int .i64 (0)) := P3.out.c.cell 0
        have z1 : w3.cell? ⟨gS, 1, none⟩ = some (.int .i64 (0)) := P3.out.c.cell 1
        have z2 : w3.cell? ⟨gS, 2, none⟩ = some (.int .i64 (0)) := P3.out.c.cell 2
        have z3 : w3.cell? ⟨gS, 3, none⟩ = some (.int .i64 (0)) := P3.out.c.cell 3
        have zf : ∀ i, w3.frozen? ⟨gS, i, none⟩ = false := fun i => P3.out.c.frozen i
        go_upto_region 22 with fail
        have PE := Lib.hid ((((P3.out.set_ 0 (.int .i64 (1))).set_ 1 (.int .i64 (drawN (nextS s) N))).set_ 2 (.int .i64 (0))).set_ 3 (.int .i64 (0)))
        clear z0 z1 z2 z3 zf
        generalize ((((w3.setCell ⟨gS, 0, none⟩ (.int .i64 (1))).setCell ⟨gS, 1, none⟩ (.int .i64 (drawN (nextS s) N))).setCell ⟨gS, 2, none⟩ (.int .i64 (0))).setCell ⟨gS, 3, none⟩ (.int .i64 (0))) = wE at *
        have z0 : wE.cell? ⟨gS, 0, none⟩ = some (.int .i64 (1)) := PE.out.c.cell 0
        have z1 : wE.cell? ⟨gS, 1, none⟩ = some (.int .i64 (drawN (nextS s) N)) := PE.out.c.cell 1
        have z2 : wE.cell? ⟨gS, 2, none⟩ = some (.int .i64 (0)) := PE.out.c.cell 2
        have z3 : wE.cell? ⟨gS, 3, none⟩ = some (.int .i64 (0)) := PE.out.c.cell 3
        have zf : ∀ i, wE.frozen? ⟨gS, i, none⟩ = false := fun i => PE.out.c.frozen i
        have Ho6 := Lib.hid (PE.out.o.keep ((Keep.refl [] wE).alloc (.cells #[.int .i64 (1), .int .i64 (drawN (nextS s) N), .int .i64 (0), .int .i64 (0)] 38)) (by simp))
        have hbn : Blk (wE.alloc (.cells #[.int .i64 (1), .int .i64 (drawN (nextS s) N), .int .i64 (0), .int .i64 (0)] 38)) wE.heap.size 38 (stC (⟨1, drawN (nextS s) N, 0, 0⟩ : ST)) := Blk.new' _ _ _ _ rfl
        have Hsrc := Lib.hid (src_row4 hbn)
        have Hz : Hid (w.heap.size ≤ (wE.alloc (.cells #[.int .i64 (1), .int .i64 (drawN (nextS s) N), .int .i64 (0), .int .i64 (0)] 38)).heap.size) := Lib.hid ((PE.out.k.alloc _).size)
        clear hbn
        go_wp2_with (at_builtin; refine wpList_append_off rfl _ _ rfl Tryd.sts35 w.heap.size (.slice ao acc.length co) acc.length _ rfl Ho6.out _ 1 (stC (⟨1, drawN (nextS s) N, 0, 0⟩ : ST)) rfl Hsrc.out (by simp [stC, Value.oneCell']) (by unfold maxLen; omega) (by omega) Hz.out ?_)
        intro v7 w7 ho7 hk7 hb7
        rw [stC_snoc] at ho7
        have hne7 := own_ne ((PE.out.b.alloc (.cells #[.int .i64 (1), .int .i64 (drawN (nextS s) N), .int .i64 (0), .int .i64 (0)] 38))) Ho6.out (by decide)
        have HF := Lib.hid (And.intro ho7 (And.intro ((PE.out.k.alloc _).trans hk7 (fun x hx => Or.inr (Ho6.out.lt x (mem_own.1 hx)).1)) ((PE.out.b.alloc _).keep hk7 (fun hx => hne7 g (mem_own.1 hx) rfl))))
        clear ho7 hk7 hb7 hne7 Hsrc Hz Ho6 z0 z1 z2 z3 zf
        go_wp2
        go_roundw
        case rel =>
          have hg := Hgr.out
          rw [scriptL, Hst.out] at hg
          exact ⟨i + 1, acc ++ [(⟨1, drawN (nextS s) N, 0, 0⟩ : ST)], nextS (nextS s), v7, by go_num, by omega, by simp [Hai.out], by simpa using HF.out.1, HF.out.2.2, nextS_in _, HF.out.2.1, by rw [← hg]; simp, rfl⟩
        case measure => simp [intOf]; omega
      · skip
        by_cases c1 : x < 60
        · skip
          have b0 : decide (x < 45) = false := by simp; omega
          have b1 : decide (x < 60) = true := by simp; omega
          have Hst := Lib.hid (show stepS N s = (⟨2, 0, 0, 0⟩, nextS s) by unfold stepS; rw [if_neg (show ¬ drawN s 100 < 45 by rw [HX.out]; omega), if_pos (show drawN s 100 < 60 by rw [HX.out]; omega)])
          have z0 : w2.cell? ⟨gS, 0, none⟩ = some (.int .i64 (0)) := P2.out.c.cell 0
          have z1 : w2.cell? ⟨gS, 1, none⟩ = some (.int .i64 (0)) := P2.out.c.cell 1
          have z2 : w2.cell? ⟨gS, 2, none⟩ = some (.int .i64 (0)) := P2.out.c.cell 2
          have z3 : w2.cell? ⟨gS, 3, none⟩ = some (.int .i64 (0)) := P2.out.c.cell 3
          have zf : ∀ i, w2.frozen? ⟨gS, i, none⟩ = false := fun i => P2.out.c.frozen i
          go_upto_region 22 with fail
          have PE := Lib.hid ((((P2.out.set_ 0 (.int .i64 (2))).set_ 1 (.int .i64 (0))).set_ 2 (.int .i64 (0))).set_ 3 (.int .i64 (0)))
          clear z0 z1 z2 z3 zf
          generalize ((((w2.setCell ⟨gS, 0, none⟩ (.int .i64 (2))).setCell ⟨gS, 1, none⟩ (.int .i64 (0))).setCell ⟨gS, 2, none⟩ (.int .i64 (0))).setCell ⟨gS, 3, none⟩ (.int .i64 (0))) = wE at *
          have z0 : wE.cell? ⟨gS, 0, none⟩ = some (.int .i64 (2)) := PE.out.c.cell 0
          have z1 : wE.cell? ⟨gS, 1, none⟩ = some (.int .i64 (0)) := PE.out.c.cell 1
          have z2 : wE.cell? ⟨gS, 2, none⟩ = some (.int .i64 (0)) := PE.out.c.cell 2
          have z3 : wE.cell? ⟨gS, 3, none⟩ = some (.int .i64 (0)) := PE.out.c.cell 3
          have zf : ∀ i, wE.frozen? ⟨gS, i, none⟩ = false := fun i => PE.out.c.frozen i
          have Ho6 := Lib.hid (PE.out.o.keep ((Keep.refl [] wE).alloc (.cells #[.int .i64 (2), .int .i64 (0), .int .i64 (0), .int .i64 (0)] 38)) (by simp))
          have hbn : Blk (wE.alloc (.cells #[.int .i64 (2), .int .i64 (0), .int .i64 (0), .int .i64 (0)] 38)) wE.heap.size 38 (stC (⟨2, 0, 0, 0⟩ : ST)) := Blk.new' _ _ _ _ rfl
          have Hsrc := Lib.hid (src_row4 hbn)
          have Hz : Hid (w.heap.size ≤ (wE.alloc (.cells #[.int .i64 (2), .int .i64 (0), .int .i64 (0), .int .i64 (0)] 38)).heap.size) := Lib.hid ((PE.out.k.alloc _).size)
          clear hbn
          go_wp2_with (at_builtin; refine wpList_append_off rfl _ _ rfl Tryd.sts35 w.heap.size (.slice ao acc.length co) acc.length _ rfl Ho6.out _ 1 (stC (⟨2, 0, 0, 0⟩ : ST)) rfl Hsrc.out (by simp [stC, Value.oneCell']) (by unfold maxLen; omega) (by omega) Hz.out ?_)
          intro v7 w7 ho7 hk7 hb7
          rw [stC_snoc] at ho7
          have hne7 := own_ne ((PE.out.b.alloc (.cells #[.int .i64 (2), .int .i64 (0), .int .i64 (0), .int .i64 (0)] 38))) Ho6.out (by decide)
          have HF := Lib.hid (And.intro ho7 (And.intro ((PE.out.k.alloc _).trans hk7 (fun x hx => Or.inr (Ho6.out.lt x (mem_own.1 hx)).1)) ((PE.out.b.alloc _).keep hk7 (fun hx => hne7 g (mem_own.1 hx) rfl))))
          clear ho7 hk7 hb7 hne7 Hsrc Hz Ho6 z0 z1 z2 z3 zf
          go_wp2
          go_roundw
          case rel =>
            have hg := Hgr.out
            rw [scriptL, Hst.out] at hg
            exact ⟨i + 1, acc ++ [(⟨2, 0, 0, 0⟩ : ST)], nextS s, v7, by go_num, by omega, by simp [Hai.out], by simpa using HF.out.1, HF.out.2.2, nextS_in _, HF.out.2.1, by rw [← hg]; simp, rfl⟩
          case measure => simp [intOf]; omega
        · skip
          by_cases c2 : x < 85
          · skip
            have b0 : decide (x < 45) = false := by simp; omega
            have b1 : decide (x < 60) = false := by simp; omega
            have b2 : decide (x < 85) = true := by simp; omega
            have Hst := Lib.hid (show stepS N s = (⟨3, 0, drawN (nextS s) 4, 0⟩, nextS (nextS s)) by unfold stepS; rw [if_neg (show ¬ drawN s 100 < 45 by rw [HX.out]; omega), if_neg (show ¬ drawN s 100 < 60 by rw [HX.out]; omega), if_pos (show drawN s 100 < 85 by rw [HX.out]; omega)])
            have z0 : w2.cell? ⟨gS, 0, none⟩ = some (.int .i64 (0)) := P2.out.c.cell 0
            have z1 : w2.cell? ⟨gS, 1, none⟩ = some (.int .i64 (0)) := P2.out.c.cell 1
            have z2 : w2.cell? ⟨gS, 2, none⟩ = some (.int .i64 (0)) := P2.out.c.cell 2
            have z3 : w2.cell? ⟨gS, 3, none⟩ = some (.int .i64 (0)) := P2.out.c.cell 3
            have zf : ∀ i, w2.frozen? ⟨gS, i, none⟩ = false := fun i => P2.out.c.frozen i
            go_wp2_with fail
            refine (draw_spec _ g (nextS s) 4 P2.out.b (nextS_in _).1 (nextS_in _).2 (by omega)).mono ?_
            rintro e w9 ⟨rfl, rfl⟩
            have P3 := Lib.hid (P2.out.draw (nextS (nextS s)))
            clear z0 z1 z2 z3 zf
            generalize w2.setCell ⟨g, 0, none⟩ (.int .i64 (nextS (nextS s))) = w3 at *
            have z0 : w3.cell? ⟨gS, 0, none⟩ = some (.int .i64 (0)) := P3.out.c.cell 0
            have z1 : w3.cell? ⟨gS, 1, none⟩ = some (.int .i64 (0)) := P3.out.c.cell 1
            have z2 : w3.cell? ⟨gS, 2, none⟩ = some (.int .i64 (0)) := P3.out.c.cell 2
            have z3 : w3.cell? ⟨gS, 3, none⟩ = some (.int .i64 (0)) := P3.out.c.cell 3
            have zf : ∀ i, w3.frozen? ⟨gS, i, none⟩ = false := fun i => P3.out.c.frozen i
            go_upto_region 22 with fail
            have PE := Lib.hid ((((P3.out.set_ 0 (.int .i64 (3))).set_ 1 (.int .i64 (0))).set_ 2 (.int .i64 (drawN (nextS s) 4))).set_ 3 (.int .i64 (0)))
            clear z0 z1 z2 z3 zf
            generalize ((((w3.setCell ⟨gS, 0, none⟩ (.int .i64 (3))).setCell ⟨gS, 1, none⟩ (.int .i64 (0))).setCell ⟨gS, 2, none⟩ (.int .i64 (drawN (nextS s) 4))).setCell ⟨gS, 3, none⟩ (.int .i64 (0))) = wE at *
            have z0 : wE.cell? ⟨gS, 0, none⟩ = some (.int .i64 (3)) := PE.out.c.cell 0
            have z1 : wE.cell? ⟨gS, 1, none⟩ = some (.int .i64 (0)) := PE.out.c.cell 1
            have z2 : wE.cell? ⟨gS, 2, none⟩ = some (.int .i64 (drawN (nextS s) 4)) := PE.out.c.cell 2
            have z3 : wE.cell? ⟨gS, 3, none⟩ = some (.int .i64 (0)) := PE.out.c.cell 3
            have zf : ∀ i, wE.frozen? ⟨gS, i, none⟩ = false := fun i => PE.out.c.frozen i
            have Ho6 := Lib.hid (PE.out.o.keep ((Keep.refl [] wE).alloc (.cells #[.int .i64 (3), .int .i64 (0), .int .i64 (drawN (nextS s) 4), .int .i64 (0)] 38)) (by simp))
            have hbn : Blk (wE.alloc (.cells #[.int .i64 (3), .int .i64 (0), .int .i64 (drawN (nextS s) 4), .int .i64 (0)] 38)) wE.heap.size 38 (stC (⟨3, 0, drawN (nextS s) 4, 0⟩ : ST)) := Blk.new' _ _ _ _ rfl
            have Hsrc := Lib.hid (src_row4 hbn)
            have Hz : Hid (w.heap.size ≤ (wE.alloc (.cells #[.int .i64 (3), .int .i64 (0), .int .i64 (drawN (nextS s) 4), .int .i64 (0)] 38)).heap.size) := Lib.hid ((PE.out.k.alloc _).size)
            clear hbn
            go_wp2_with (at_builtin; refine wpList_append_off rfl _ _ rfl Tryd.sts35 w.heap.size (.slice ao acc.length co) acc.length _ rfl Ho6.out _ 1 (stC (⟨3, 0, drawN (nextS s) 4, 0⟩ : ST)) rfl Hsrc.out (by simp [stC, Value.oneCell']) (by unfold maxLen; omega) (by omega) Hz.out ?_)
            intro v7 w7 ho7 hk7 hb7
            rw [stC_snoc] at ho7
            have hne7 := own_ne ((PE.out.b.alloc (.cells #[.int .i64 (3), .int .i64 (0), .int .i64 (drawN (nextS s) 4), .int .i64 (0)] 38))) Ho6.out (by decide)
            have HF := Lib.hid (And.intro ho7 (And.intro ((PE.out.k.alloc _).trans hk7 (fun x hx => Or.inr (Ho6.out.lt x (mem_own.1 hx)).1)) ((PE.out.b.alloc _).keep hk7 (fun hx => hne7 g (mem_own.1 hx) rfl))))
            clear ho7 hk7 hb7 hne7 Hsrc Hz Ho6 z0 z1 z2 z3 zf
            go_wp2
            go_roundw
            case rel =>
              have hg := Hgr.out
              rw [scriptL, Hst.out] at hg
              exact ⟨i + 1, acc ++ [(⟨3, 0, drawN (nextS s) 4, 0⟩ : ST)], nextS (nextS s), v7, by go_num, by omega, by simp [Hai.out], by simpa using HF.out.1, HF.out.2.2, nextS_in _, HF.out.2.1, by rw [← hg]; simp, rfl⟩
            case measure => simp [intOf]; omega
          · skip
            by_cases c3 : x < 90
            · skip
              have b0 : decide (x < 45) = false := by simp; omega
              have b1 : decide (x < 60) = false := by simp; omega
              have b2 : decide (x < 85) = false := by simp; omega
              have b3 : decide (x < 90) = true := by simp; omega
              have Hst := Lib.hid (show stepS N s = (⟨4, 0, drawN (nextS s) 4, 0⟩, nextS (nextS s)) by unfold stepS; rw [if_neg (show ¬ drawN s 100 < 45 by rw [HX.out]; omega), if_neg (show ¬ drawN s 100 < 60 by rw [HX.out]; omega), if_neg (show ¬ drawN s 100 < 85 by rw [HX.out]; omega), if_pos (show drawN s 100 < 90 by rw [HX.out]; omega)])
              have z0 : w2.cell? ⟨gS, 0, none⟩ = some (.int .i64 (0)) := P2.out.c.cell 0
              have z1 : w2.cell? ⟨gS, 1, none⟩ = some (.int .i64 (0)) := P2.out.c.cell 1
              have z2 : w2.cell? ⟨gS, 2, none⟩ = some (.int .i64 (0)) := P2.out.c.cell 2
              have z3 : w2.cell? ⟨gS, 3, none⟩ = some (.int .i64 (0)) := P2.out.c.cell 3
              have zf : ∀ i, w2.frozen? ⟨gS, i, none⟩ = false := fun i => P2.out.c.frozen i
              go_wp2_with fail
              refine (draw_spec _ g (nextS s) 4 P2.out.b (nextS_in _).1 (nextS_in _).2 (by omega)).mono ?_
              rintro e w9 ⟨rfl, rfl⟩
              have P3 := Lib.hid (P2.out.draw (nextS (nextS s)))
              clear z0 z1 z2 z3 zf
              generalize w2.setCell ⟨g, 0, none⟩ (.int .i64 (nextS (nextS s))) = w3 at *
              have z0 : w3.cell? ⟨gS, 0, none⟩ = some (.int .i64 (0)) := P3.out.c.cell 0
              have z1 : w3.cell? ⟨gS, 1, none⟩ = some (.int .i64 (0)) := P3.out.c.cell 1
              have z2 : w3.cell? ⟨gS, 2, none⟩ = some (.int .i64 (0)) := P3.out.c.cell 2
              have z3 : w3.cell? ⟨gS, 3, none⟩ = some (.int .i64 (0)) := P3.out.c.cell 3
              have zf : ∀ i, w3.frozen? ⟨gS, i, none⟩ = false := fun i => P3.out.c.frozen i
              go_upto_region 22 with fail
              have PE := Lib.hid ((((P3.out.set_ 0 (.int .i64 (4))).set_ 1 (.int .i64 (0))).set_ 2 (.int .i64 (drawN (nextS s) 4))).set_ 3 (.int .i64 (0)))
              clear z0 z1 z2 z3 zf
              generalize ((((w3.setCell ⟨gS, 0, none⟩ (.int .i64 (4))).setCell ⟨gS, 1, none⟩ (.int .i64 (0))).setCell ⟨gS, 2, none⟩ (.int .i64 (drawN (nextS s) 4))).setCell ⟨gS, 3, none⟩ (.int .i64 (0))) = wE at *
              have z0 : wE.cell? ⟨gS, 0, none⟩ = some (.int .i64 (4)) := PE.out.c.cell 0
              have z1 : wE.cell? ⟨gS, 1, none⟩ = some (.int .i64 (0)) := PE.out.c.cell 1
              have z2 : wE.cell? ⟨gS, 2, none⟩ = some (.int .i64 (drawN (nextS s) 4)) := PE.out.c.cell 2
              have z3 : wE.cell? ⟨gS, 3, none⟩ = some (.int .i64 (0)) := PE.out.c.cell 3
              have zf : ∀ i, wE.frozen? ⟨gS, i, none⟩ = false := fun i => PE.out.c.frozen i
              have Ho6 := Lib.hid (PE.out.o.keep ((Keep.refl [] wE).alloc (.cells #[.int .i64 (4), .int .i64 (0), .int .i64 (drawN (nextS s) 4), .int .i64 (0)] 38)) (by simp))
              have hbn : Blk (wE.alloc (.cells #[.int .i64 (4), .int .i64 (0), .int .i64 (drawN (nextS s) 4), .int .i64 (0)] 38)) wE.heap.size 38 (stC (⟨4, 0, drawN (nextS s) 4, 0⟩ : ST)) := Blk.new' _ _ _ _ rfl
              have Hsrc := Lib.hid (src_row4 hbn)
              have Hz : Hid (w.heap.size ≤ (wE.alloc (.cells #[.int .i64 (4), .int .i64 (0), .int .i64 (drawN (nextS s) 4), .int .i64 (0)] 38)).heap.size) := Lib.hid ((PE.out.k.alloc _).size)
              clear hbn
              go_wp2_with (at_builtin; refine wpList_append_off rfl _ _ rfl Tryd.sts35 w.heap.size (.slice ao acc.length co) acc.length _ rfl Ho6.out _ 1 (stC (⟨4, 0, drawN (nextS s) 4, 0⟩ : ST)) rfl Hsrc.out (by simp [stC, Value.oneCell']) (by unfold maxLen; omega) (by omega) Hz.out ?_)
              intro v7 w7 ho7 hk7 hb7
              rw [stC_snoc] at ho7
              have hne7 := own_ne ((PE.out.b.alloc (.cells #[.int .i64 (4), .int .i64 (0), .int .i64 (drawN (nextS s) 4), .int .i64 (0)] 38))) Ho6.out (by decide)
              have HF := Lib.hid (And.intro ho7 (And.intro ((PE.out.k.alloc _).trans hk7 (fun x hx => Or.inr (Ho6.out.lt x (mem_own.1 hx)).1)) ((PE.out.b.alloc _).keep hk7 (fun hx => hne7 g (mem_own.1 hx) rfl))))
              clear ho7 hk7 hb7 hne7 Hsrc Hz Ho6 z0 z1 z2 z3 zf
              go_wp2
              go_roundw
              case rel =>
                have hg := Hgr.out
                rw [scriptL, Hst.out] at hg
                exact ⟨i + 1, acc ++ [(⟨4, 0, drawN (nextS s) 4, 0⟩ : ST)], nextS (nextS s), v7, by go_num, by omega, by simp [Hai.out], by simpa using HF.out.1, HF.out.2.2, nextS_in _, HF.out.2.1, by rw [← hg]; simp, rfl⟩
              case measure => simp [intOf]; omega
            · skip
              by_cases c4 : x < 94
              · skip
                have b0 : decide (x < 45) = false := by simp; omega
                have b1 : decide (x < 60) = false := by simp; omega
                have b2 : decide (x < 85) = false := by simp; omega
                have b3 : decide (x < 90) = false := by simp; omega
                have b4 : decide (x < 94) = true := by simp; omega
                have Hst := Lib.hid (show stepS N s = (⟨5, 0, drawN (nextS s) 4, 0⟩, nextS (nextS s)) by unfold stepS; rw [if_neg (show ¬ drawN s 100 < 45 by rw [HX.out]; omega), if_neg (show ¬ drawN s 100 < 60 by rw [HX.out]; omega), if_neg (show ¬ drawN s 100 < 85 by rw [HX.out]; omega), if_neg (show ¬ drawN s 100 < 90 by rw [HX.out]; omega), if_pos (show drawN s 100 < 94 by rw [HX.out]; omega)])
                have z0 : w2.cell? ⟨gS, 0, none⟩ = some (.int .i64 (0)) := P2.out.c.cell 0
                have z1 : w2.cell? ⟨gS, 1, none⟩ = some (.int .i64 (0)) := P2.out.c.cell 1
                have z2 : w2.cell? ⟨gS, 2, none⟩ = some (.int .i64 (0)) := P2.out.c.cell 2
                have z3 : w2.cell? ⟨gS, 3, none⟩ = some (.int .i64 (0)) := P2.out.c.cell 3
                have zf : ∀ i, w2.frozen? ⟨gS, i, none⟩ = false := fun i => P2.out.c.frozen i
                go_wp2_with fail
                refine (draw_spec _ g (nextS s) 4 P2.out.b (nextS_in _).1 (nextS_in _).2 (by omega)).mono ?_
                rintro e w9 ⟨rfl, rfl⟩
                have P3 := Lib.hid (P2.out.draw (nextS (nextS s)))
                clear z0 z1 z2 z3 zf
                generalize w2.setCell ⟨g, 0, none⟩ (.int .i64 (nextS (nextS s))) = w3 at *
                have z0 : w3.cell? ⟨gS, 0, none⟩ = some (.int .i64 (0)) := P3.out.c.cell 0
                have z1 : w3.cell? ⟨gS, 1, none⟩ = some (.int .i64 (0)) := P3.out.c.cell 1
                have z2 : w3.cell? ⟨gS, 2, none⟩ = some (.int .i64 (0)) := P3.out.c.cell 2
                have z3 : w3.cell? ⟨gS, 3, none⟩ = some (.int .i64 (0)) := P3.out.c.cell 3
                have zf : ∀ i, w3.frozen? ⟨gS, i, none⟩ = false := fun i => P3.out.c.frozen i
                go_upto_region 22 with fail
                have PE := Lib.hid ((((P3.out.set_ 0 (.int .i64 (5))).set_ 1 (.int .i64 (0))).set_ 2 (.int .i64 (drawN (nextS s) 4))).set_ 3 (.int .i64 (0)))
                clear z0 z1 z2 z3 zf
                generalize ((((w3.setCell ⟨gS, 0, none⟩ (.int .i64 (5))).setCell ⟨gS, 1, none⟩ (.int .i64 (0))).setCell ⟨gS, 2, none⟩ (.int .i64 (drawN (nextS s) 4))).setCell ⟨gS, 3, none⟩ (.int .i64 (0))) = wE at *
                have z0 : wE.cell? ⟨gS, 0, none⟩ = some (.int .i64 (5)) := PE.out.c.cell 0
                have z1 : wE.cell? ⟨gS, 1, none⟩ = some (.int .i64 (0)) := PE.out.c.cell 1
                have z2 : wE.cell? ⟨gS, 2, none⟩ = some (.int .i64 (drawN (nextS s) 4)) := PE.out.c.cell 2
                have z3 : wE.cell? ⟨gS, 3, none⟩ = some (.int .i64 (0)) := PE.out.c.cell 3
                have zf : ∀ i, wE.frozen? ⟨gS, i, none⟩ = false := fun i => PE.out.c.frozen i
                have Ho6 := Lib.hid (PE.out.o.keep ((Keep.refl [] wE).alloc (.cells #[.int .i64 (5), .int .i64 (0), .int .i64 (drawN (nextS s) 4), .int .i64 (0)] 38)) (by simp))
                have hbn : Blk (wE.alloc (.cells #[.int .i64 (5), .int .i64 (0), .int .i64 (drawN (nextS s) 4), .int .i64 (0)] 38)) wE.heap.size 38 (stC (⟨5, 0, drawN (nextS s) 4, 0⟩ : ST)) := Blk.new' _ _ _ _ rfl
                have Hsrc := Lib.hid (src_row4 hbn)
                have Hz : Hid (w.heap.size ≤ (wE.alloc (.cells #[.int .i64 (5), .int .i64 (0), .int .i64 (drawN (nextS s) 4), .int .i64 (0)] 38)).heap.size) := Lib.hid ((PE.out.k.alloc _).size)
                clear hbn
                go_wp2_with (at_builtin; refine wpList_append_off rfl _ _ rfl Tryd.sts35 w.heap.size (.slice ao acc.length co) acc.length _ rfl Ho6.out _ 1 (stC (⟨5, 0, drawN (nextS s) 4, 0⟩ : ST)) rfl Hsrc.out (by simp [stC, Value.oneCell']) (by unfold maxLen; omega) (by omega) Hz.out ?_)
                intro v7 w7 ho7 hk7 hb7
                rw [stC_snoc] at ho7
                have hne7 := own_ne ((PE.out.b.alloc (.cells #[.int .i64 (5), .int .i64 (0), .int .i64 (drawN (nextS s) 4), .int .i64 (0)] 38))) Ho6.out (by decide)
                have HF := Lib.hid (And.intro ho7 (And.intro ((PE.out.k.alloc _).trans hk7 (fun x hx => Or.inr (Ho6.out.lt x (mem_own.1 hx)).1)) ((PE.out.b.alloc _).keep hk7 (fun hx => hne7 g (mem_own.1 hx) rfl))))
                clear ho7 hk7 hb7 hne7 Hsrc Hz Ho6 z0 z1 z2 z3 zf
                go_wp2
                go_roundw
                case rel =>
                  have hg := Hgr.out
                  rw [scriptL, Hst.out] at hg
                  exact ⟨i + 1, acc ++ [(⟨5, 0, drawN (nextS s) 4, 0⟩ : ST)], nextS (nextS s), v7, by go_num, by omega, by simp [Hai.out], by simpa using HF.out.1, HF.out.2.2, nextS_in _, HF.out.2.1, by rw [← hg]; simp, rfl⟩
                case measure => simp [intOf]; omega
              · skip
                by_cases c5 : x < 98
                · skip
                  have b0 : decide (x < 45) = false := by simp; omega
                  have b1 : decide (x < 60) = false := by simp; omega
                  have b2 : decide (x < 85) = false := by simp; omega
                  have b3 : decide (x < 90) = false := by simp; omega
                  have b4 : decide (x < 94) = false := by simp; omega
                  have b5 : decide (x < 98) = true := by simp; omega
                  have Hst := Lib.hid (show stepS N s = (⟨6, 0, drawN (nextS s) 4, drawN (nextS (nextS s)) 200⟩, nextS (nextS (nextS s))) by unfold stepS; rw [if_neg (show ¬ drawN s 100 < 45 by rw [HX.out]; omega), if_neg (show ¬ drawN s 100 < 60 by rw [HX.out]; omega), if_neg (show ¬ drawN s 100 < 85 by rw [HX.out]; omega), if_neg (show ¬ drawN s 100 < 90 by rw [HX.out]; omega), if_neg (show ¬ drawN s 100 < 94 by rw [HX.out]; omega), if_pos (show drawN s 100 < 98 by rw [HX.out]; omega)])
                  have z0 : w2.cell? ⟨gS, 0, none⟩ = some (.int .i64 (0)) := P2.out.c.cell 0
                  have z1 : w2.cell? ⟨gS, 1, none⟩ = some (.int .i64 (0)) := P2.out.c.cell 1
                  have z2 : w2.cell? ⟨gS, 2, none⟩ = some (.int .i64 (0)) := P2.out.c.cell 2
                  have z3 : w2.cell? ⟨gS, 3, none⟩ = some (.int .i64 (0)) := P2.out.c.cell 3
                  have zf : ∀ i, w2.frozen? ⟨gS, i, none⟩ = false := fun i => P2.out.c.frozen i
                  go_wp2_with fail
                  refine (draw_spec _ g (nextS s) 4 P2.out.b (nextS_in _).1 (nextS_in _).2 (by omega)).mono ?_
                  rintro e w9 ⟨rfl, rfl⟩
                  have P3 := Lib.hid (P2.out.draw (nextS (nextS s)))
                  clear z0 z1 z2 z3 zf
                  generalize w2.setCell ⟨g, 0, none⟩ (.int .i64 (nextS (nextS s))) = w3 at *
                  have z0 : w3.cell? ⟨gS, 0, none⟩ = some (.int .i64 (0)) := P3.out.c.cell 0
                  have z1 : w3.cell? ⟨gS, 1, none⟩ = some (.int .i64 (0)) := P3.out.c.cell 1
                  have z2 : w3.cell? ⟨gS, 2, none⟩ = some (.int .i64 (0)) := P3.out.c.cell 2
                  have z3 : w3.cell? ⟨gS, 3, none⟩ = some (.int .i64 (0)) := P3.out.c.cell 3
                  have zf : ∀ i, w3.frozen? ⟨gS, i, none⟩ = false := fun i => P3.out.c.frozen i
                  go_upto_region 21 with fail
                  have P4 := Lib.hid ((((P3.out.set_ 0 (.int .i64 6)).set_ 1 (.int .i64 0)).set_ 2 (.int .i64 (drawN (nextS s) 4))).set_ 3 (.int .i64 0))
                  clear z0 z1 z2 z3 zf
                  generalize ((((w3.setCell ⟨gS, 0, none⟩ (.int .i64 (6))).setCell ⟨gS, 1, none⟩ (.int .i64 (0))).setCell ⟨gS, 2, none⟩ (.int .i64 (drawN (nextS s) 4))).setCell ⟨gS, 3, none⟩ (.int .i64 (0))) = w4 at *
                  have z0 : w4.cell? ⟨gS, 0, none⟩ = some (.int .i64 (6)) := P4.out.c.cell 0
                  have z1 : w4.cell? ⟨gS, 1, none⟩ = some (.int .i64 (0)) := P4.out.c.cell 1
                  have z2 : w4.cell? ⟨gS, 2, none⟩ = some (.int .i64 (drawN (nextS s) 4)) := P4.out.c.cell 2
                  have z3 : w4.cell? ⟨gS, 3, none⟩ = some (.int .i64 (0)) := P4.out.c.cell 3
                  have zf : ∀ i, w4.frozen? ⟨gS, i, none⟩ = false := fun i => P4.out.c.frozen i
                  go_wp2_with fail
                  refine (draw_spec _ g (nextS (nextS s)) 200 P4.out.b (nextS_in _).1 (nextS_in _).2 (by omega)).mono ?_
                  rintro e w9 ⟨rfl, rfl⟩
                  have P5 := Lib.hid (P4.out.draw (nextS (nextS (nextS s))))
                  clear z0 z1 z2 z3 zf
                  generalize w4.setCell ⟨g, 0, none⟩ (.int .i64 (nextS (nextS (nextS s)))) = w5 at *
                  have z0 : w5.cell? ⟨gS, 0, none⟩ = some (.int .i64 (6)) := P5.out.c.cell 0
                  have z1 : w5.cell? ⟨gS, 1, none⟩ = some (.int .i64 (0)) := P5.out.c.cell 1
                  have z2 : w5.cell? ⟨gS, 2, none⟩ = some (.int .i64 (drawN (nextS s) 4)) := P5.out.c.cell 2
                  have z3 : w5.cell? ⟨gS, 3, none⟩ = some (.int .i64 (0)) := P5.out.c.cell 3
                  have zf : ∀ i, w5.frozen? ⟨gS, i, none⟩ = false := fun i => P5.out.c.frozen i
                  go_upto_region 22 with fail
                  have PE := Lib.hid (P5.out.set_ 3 (.int .i64 (drawN (nextS (nextS s)) 200)))
                  clear z0 z1 z2 z3 zf
                  generalize w5.setCell ⟨gS, 3, none⟩ (.int .i64 (drawN (nextS (nextS s)) 200)) = wE at *
                  have z0 : wE.cell? ⟨gS, 0, none⟩ = some (.int .i64 (6)) := PE.out.c.cell 0
                  have z1 : wE.cell? ⟨gS, 1, none⟩ = some (.int .i64 (0)) := PE.out.c.cell 1
                  have z2 : wE.cell? ⟨gS, 2, none⟩ = some (.int .i64 (drawN (nextS s) 4)) := PE.out.c.cell 2
                  have z3 : wE.cell? ⟨gS, 3, none⟩ = some (.int .i64 (drawN (nextS (nextS s)) 200)) := PE.out.c.cell 3
                  have zf : ∀ i, wE.frozen? ⟨gS, i, none⟩ = false := fun i => PE.out.c.frozen i
                  have Ho6 := Lib.hid (PE.out.o.keep ((Keep.refl [] wE).alloc (.cells #[.int .i64 (6), .int .i64 (0), .int .i64 (drawN (nextS s) 4), .int .i64 (drawN (nextS (nextS s)) 200)] 38)) (by simp))
                  have hbn : Blk (wE.alloc (.cells #[.int .i64 (6), .int .i64 (0), .int .i64 (drawN (nextS s) 4), .int .i64 (drawN (nextS (nextS s)) 200)] 38)) wE.heap.size 38 (stC (⟨6, 0, drawN (nextS s) 4, drawN (nextS (nextS s)) 200⟩ : ST)) := Blk.new' _ _ _ _ rfl
                  have Hsrc := Lib.hid (src_row4 hbn)
                  have Hz : Hid (w.heap.size ≤ (wE.alloc (.cells #[.int .i64 (6), .int .i64 (0), .int .i64 (drawN (nextS s) 4), .int .i64 (drawN (nextS (nextS s)) 200)] 38)).heap.size) := Lib.hid ((PE.out.k.alloc _).size)
                  clear hbn
                  go_wp2_with (at_builtin; refine wpList_append_off rfl _ _ rfl Tryd.sts35 w.heap.size (.slice ao acc.length co) acc.length _ rfl Ho6.out _ 1 (stC (⟨6, 0, drawN (nextS s) 4, drawN (nextS (nextS s)) 200⟩ : ST)) rfl Hsrc.out (by simp [stC, Value.oneCell']) (by unfold maxLen; omega) (by omega) Hz.out ?_)
                  intro v7 w7 ho7 hk7 hb7
                  rw [stC_snoc] at ho7
                  have hne7 := own_ne ((PE.out.b.alloc (.cells #[.int .i64 (6), .int .i64 (0), .int .i64 (drawN (nextS s) 4), .int .i64 (drawN (nextS (nextS s)) 200)] 38))) Ho6.out (by decide)
                  have HF := Lib.hid (And.intro ho7 (And.intro ((PE.out.k.alloc _).trans hk7 (fun x hx => Or.inr (Ho6.out.lt x (mem_own.1 hx)).1)) ((PE.out.b.alloc _).keep hk7 (fun hx => hne7 g (mem_own.1 hx) rfl))))
                  clear ho7 hk7 hb7 hne7 Hsrc Hz Ho6 z0 z1 z2 z3 zf
                  go_wp2
                  go_roundw
                  case rel =>
                    have hg := Hgr.out
                    rw [scriptL, Hst.out] at hg
                    exact ⟨i + 1, acc ++ [(⟨6, 0, drawN (nextS s) 4, drawN (nextS (nextS s)) 200⟩ : ST)], nextS (nextS (nextS s)), v7, by go_num, by omega, by simp [Hai.out], by simpa using HF.out.1, HF.out.2.2, nextS_in _, HF.out.2.1, by rw [← hg]; simp, rfl⟩
                  case measure => simp [intOf]; omega
                · skip
                  have b0 : decide (x < 45) = false := by simp; omega
                  have b1 : decide (x < 60) = false := by simp; omega
                  have b2 : decide (x < 85) = false := by simp; omega
                  have b3 : decide (x < 90) = false := by simp; omega
                  have b4 : decide (x < 94) = false := by simp; omega
                  have b5 : decide (x < 98) = false := by simp; omega
                  have Hst := Lib.hid (show stepS N s = (⟨7, drawN (nextS s) N, 0, 0⟩, nextS (nextS s)) by unfold stepS; rw [if_neg (show ¬ drawN s 100 < 45 by rw [HX.out]; omega), if_neg (show ¬ drawN s 100 < 60 by rw [HX.out]; omega), if_neg (show ¬ drawN s 100 < 85 by rw [HX.out]; omega), if_neg (show ¬ drawN s 100 < 90 by rw [HX.out]; omega), if_neg (show ¬ drawN s 100 < 94 by rw [HX.out]; omega), if_neg (show ¬ drawN s 100 < 98 by rw [HX.out]; omega)])
                  have z0 : w2.cell? ⟨gS, 0, none⟩ = some (.int .i64 (0)) := P2.out.c.cell 0
                  have z1 : w2.cell? ⟨gS, 1, none⟩ = some (.int .i64 (0)) := P2.out.c.cell 1
                  have z2 : w2.cell? ⟨gS, 2, none⟩ = some (.int .i64 (0)) := P2.out.c.cell 2
                  have z3 : w2.cell? ⟨gS, 3, none⟩ = some (.int .i64 (0)) := P2.out.c.cell 3
                  have zf : ∀ i, w2.frozen? ⟨gS, i, none⟩ = false := fun i => P2.out.c.frozen i
                  go_wp2_with fail
                  refine (draw_spec _ g (nextS s) N P2.out.b (nextS_in _).1 (nextS_in _).2 (by omega)).mono ?_
                  rintro e w9 ⟨rfl, rfl⟩
                  have P3 := Lib.hid (P2.out.draw (nextS (nextS s)))
                  clear z0 z1 z2 z3 zf
                  generalize w2.setCell ⟨g, 0, none⟩ (.int .i64 (nextS (nextS s))) = w3 at *
                  have z0 : w3.cell? ⟨gS, 0, none⟩ = some (.int .i64 (0)) := P3.out.c.cell 0
                  have z1 : w3.cell? ⟨gS, 1, none⟩ = some (.int .i64 (0)) := P3.out.c.cell 1
                  have z2 : w3.cell? ⟨gS, 2, none⟩ = some (.int .i64 (0)) := P3.out.c.cell 2
                  have z3 : w3.cell? ⟨gS, 3, none⟩ = some (.int .i64 (0)) := P3.out.c.cell 3
                  have zf : ∀ i, w3.frozen? ⟨gS, i, none⟩ = false := fun i => P3.out.c.frozen i
                  go_upto_region 22 with fail
                  have PE := Lib.hid ((((P3.out.set_ 0 (.int .i64 (7))).set_ 1 (.int .i64 (drawN (nextS s) N))).set_ 2 (.int .i64 (0))).set_ 3 (.int .i64 (0)))
                  clear z0 z1 z2 z3 zf
                  generalize ((((w3.setCell ⟨gS, 0, none⟩ (.int .i64 (7))).setCell ⟨gS, 1, none⟩ (.int .i64 (drawN (nextS s) N))).setCell ⟨gS, 2, none⟩ (.int .i64 (0))).setCell ⟨gS, 3, none⟩ (.int .i64 (0))) = wE at *
                  have z0 : wE.cell? ⟨gS, 0, none⟩ = some (.int .i64 (7)) := PE.out.c.cell 0
                  have z1 : wE.cell? ⟨gS, 1, none⟩ = some (.int .i64 (drawN (nextS s) N)) := PE.out.c.cell 1
                  have z2 : wE.cell? ⟨gS, 2, none⟩ = some (.int .i64 (0)) := PE.out.c.cell 2
                  have z3 : wE.cell? ⟨gS, 3, none⟩ = some (.int .i64 (0)) := PE.out.c.cell 3
                  have zf : ∀ i, wE.frozen? ⟨gS, i, none⟩ = false := fun i => PE.out.c.frozen i
                  have Ho6 := Lib.hid (PE.out.o.keep ((Keep.refl [] wE).alloc (.cells #[.int .i64 (7), .int .i64 (drawN (nextS s) N), .int .i64 (0), .int .i64 (0)] 38)) (by simp))
                  have hbn : Blk (wE.alloc (.cells #[.int .i64 (7), .int .i64 (drawN (nextS s) N), .int .i64 (0), .int .i64 (0)] 38)) wE.heap.size 38 (stC (⟨7, drawN (nextS s) N, 0, 0⟩ : ST)) := Blk.new' _ _ _ _ rfl
                  have Hsrc := Lib.hid (src_row4 hbn)
                  have Hz : Hid (w.heap.size ≤ (wE.alloc (.cells #[.int .i64 (7), .int .i64 (drawN (nextS s) N), .int .i64 (0), .int .i64 (0)] 38)).heap.size) := Lib.hid ((PE.out.k.alloc _).size)
                  clear hbn
                  go_wp2_with (at_builtin; refine wpList_append_off rfl _ _ rfl Tryd.sts35 w.heap.size (.slice ao acc.length co) acc.length _ rfl Ho6.out _ 1 (stC (⟨7, drawN (nextS s) N, 0, 0⟩ : ST)) rfl Hsrc.out (by simp [stC, Value.oneCell']) (by unfold maxLen; omega) (by omega) Hz.out ?_)
                  intro v7 w7 ho7 hk7 hb7
                  rw [stC_snoc] at ho7
                  have hne7 := own_ne ((PE.out.b.alloc (.cells #[.int .i64 (7), .int .i64 (drawN (nextS s) N), .int .i64 (0), .int .i64 (0)] 38))) Ho6.out (by decide)
                  have HF := Lib.hid (And.intro ho7 (And.intro ((PE.out.k.alloc _).trans hk7 (fun x hx => Or.inr (Ho6.out.lt x (mem_own.1 hx)).1)) ((PE.out.b.alloc _).keep hk7 (fun hx => hne7 g (mem_own.1 hx) rfl))))
                  clear ho7 hk7 hb7 hne7 Hsrc Hz Ho6 z0 z1 z2 z3 zf
                  go_wp2
                  go_roundw
                  case rel =>
                    have hg := Hgr.out
                    rw [scriptL, Hst.out] at hg
                    exact ⟨i + 1, acc ++ [(⟨7, drawN (nextS s) N, 0, 0⟩ : ST)], nextS (nextS s), v7, by go_num, by omega, by simp [Hai.out], by simpa using HF.out.1, HF.out.2.2, nextS_in _, HF.out.2.1, by rw [← hg]; simp, rfl⟩
                  case measure => simp [intOf]; omega
    · obtain rfl : i = M := by omega
      rw [Nat.sub_self, scriptL, List.append_nil] at hgr
      have HO := Lib.hid (And.intro ho (And.intro hk hgr))
      clear ho hb hk hgr
      go_wp2
      go_ret
      obtain ⟨ho, hk, hgr⟩ := HO.out
      exact ⟨_, rfl, by rw [← hgr]; exact StepsAt.of_own ho, hk⟩
end Go.Proofs.YtndpbkhpllmhmaaDoor
