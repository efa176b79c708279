/- The reference's tasks: a spawn. -/
import Derived.Test.YtndpbkhpllmhmaaDoorRows
import Derived.WalkKit
import Derived.WalkSpells
import Derived.WalkLawsBesides
import Derived.RegionTactic
import Derived.ChangeAlike
import Derived.BigQuiet
import Derived.Deep.QuietTactic
import Derived.StillTailTactics
import Derived.IntWalk
import Derived.Handy
import Derived.Lib.Hide
import Derived.Deep.AppendLies
import Derived.Deep.RegionWith
import Derived.Test.YtndpbkhpllmhmaaDoorMSAA
import Derived.Test.YtndpbkhpllmhmaaDoorMSAB
import Derived.Carry
import Derived.Deep.RegionHeld3
import Derived.BigRegion
import Derived.Maps.OwnSet
import Derived.Maps.Views
import Derived.Maps.StringElems
import Derived.Test.YtndpbkhpllmhmaaDoorMSAC
import Derived.Test.YtndpbkhpllmhmaaDoorMSAD
namespace Go.Proofs.YtndpbkhpllmhmaaDoor
set_option linter.unusedSimpArgs false
set_option linter.unnecessarySimpa false
set_option linter.unusedVariables false
open Go.RowKit
def SpawnPost (B sp : Nat) (S' : SS) (oev : Option EV) (sv : Value) (w : World) (e : Ending) (w' : World) : Prop := StepPost B sp S' oev w e w' ∧ Keep (sp :: ownBlocks sv) w w'
set_option maxHeartbeats 6400000 in
set_option maxRecDepth 100000 in
theorem spawn_none (w : World) (B B0 kg sp deep n : Nat) (J : JB) (S : SS) {f : FN} (hK : KnownAt B0 w kg J) (hB0 : B0 ≤ w.heap.size) (hS : StAt B w sp S (.slice none 0 0)) (hB : B ≤ w.heap.size) (hc : S.pc ≤ 1000) (hf : J.fs[n]? = some f) (hd : deep < 12) (hk : S.kids < 16) (hlen : S.stack.length ≤ 32) (hl : S.stack = []) :
    Calls Tryd.prog 109 #[.pointer (some ⟨kg, 0, none⟩), .pointer (some ⟨sp, 0, none⟩), .int .i64 n, .int .i64 deep] w (SpawnPost B sp { S with stack := S.stack ++ [(S.kids : Int)], pc := S.pc + 1, kids := S.kids + 1 } (some (.spawned n S.kids)) (.slice none 0 0) w) := by
  obtain ⟨fv, dv, hg, hblk, hfs, _⟩ := hK
  obtain ⟨hBs, hsb, hown⟩ := hS
  obtain ⟨fn, pc, fuel, stack, kids, waits⟩ := S
  simp only at hsb hown hc hk hlen hl ⊢
  subst hl
  obtain ⟨af, cf, rfl⟩ := hfs.shape
  obtain ⟨b, off, cv, rfl, hb, f0, f1, f2, f3, _⟩ := hfs.fn hf
  have k0 : w.cell? ⟨kg, 0, none⟩ = some (.slice (some ⟨b, off, none⟩) J.fs.length cf) := hblk.cell 0
  have l1 : n < J.fs.length := (List.getElem?_eq_some_iff.1 hf).1
  have i1 : (n : Int) < (J.fs.length : Int) := by omega
  have n1 : (0 : Int) ≤ (n : Int) := by omega
  have i3 : (pc : Int) ≤ 1000 := by omega
  have i4 : (deep : Int) < 12 := by omega
  have i5 : ((kids : Int) == 16) = false := by simp; omega
  have i6 : (kids : Int) ≤ 16 := by omega
  have n3 : (0 : Int) ≤ (kids : Int) := by omega
  have hbw : b < w.heap.size := by omega
  have hgw : kg < w.heap.size := by omega
  have hspw : sp < w.heap.size := hsb.lt
  have hbw1 : b < w.heap.size + 1 := by omega
  have hgw1 : kg < w.heap.size + 1 := by omega
  have hspw1 : sp < w.heap.size + 1 := by omega
  have z0 : w.cell? ⟨sp, 0, none⟩ = some (.int .i64 fn) := hsb.cell 0
  have z1 : w.cell? ⟨sp, 1, none⟩ = some (.int .i64 pc) := hsb.cell 1
  have z2 : w.cell? ⟨sp, 2, none⟩ = some (.int .i64 fuel) := hsb.cell 2
  have z3 : w.cell? ⟨sp, 3, none⟩ = some (.slice none 0 0) := hsb.cell 3
  have z4 : w.cell? ⟨sp, 4, none⟩ = some (.slice none 0 0) := hsb.cell 4
  have z5 : w.cell? ⟨sp, 5, none⟩ = some (.int .i64 kids) := hsb.cell 5
  have z6 : w.cell? ⟨sp, 6, none⟩ = some (.bool waits) := hsb.cell 6
  have zf : ∀ i, w.frozen? ⟨sp, i, none⟩ = false := fun i => hsb.frozen i
  have H := Lib.hid (And.intro (show StAt B w sp ⟨fn, pc, fuel, [], kids, waits⟩ (.slice none 0 0) from ⟨hBs, hsb, by simpa using hown⟩) hlen)
  generalize hS2 : (⟨fn, pc + 1, fuel, [] ++ [(kids : Int)], kids + 1, waits⟩ : SS) = S2
  have HS2 := Lib.hid hS2
  clear hS2 hBs hsb hown hblk hfs hf hb hg f0 f2 f3
  go_enter Tryd.func109, Tryd.ntmps109
  go_upto_region 5 with fail
  go_quiet (fail)
  go_upto_region 6 with fail
  go_region
  go_upto_region 7 with fail
  have hk0 : Keep [] w (((w.alloc (.cells #[.int .i64 0, .int .i64 0, .int .i64 0, .int .i64 0, .slice none 0 0, .int .i64 0, .int .i64 0] 138)).drewN (nq + 1)).alloc (.cells #[.int .i64 1, .int .i64 n, .int .i64 kids, .int .i64 0, .slice none 0 0, .int .i64 0, .int .i64 0] 138)) := (((Keep.refl [] w).alloc _).drewN (nq + 1)).alloc _
  have hev : Blk (((w.alloc (.cells #[.int .i64 0, .int .i64 0, .int .i64 0, .int .i64 0, .slice none 0 0, .int .i64 0, .int .i64 0] 138)).drewN (nq + 1)).alloc (.cells #[.int .i64 1, .int .i64 n, .int .i64 kids, .int .i64 0, .slice none 0 0, .int .i64 0, .int .i64 0] 138)) (w.heap.size + 1) 138 [.int .i64 1, .int .i64 n, .int .i64 kids, .int .i64 0, .slice none 0 0, .int .i64 0, .int .i64 0] := by
    have := Blk.new' ((w.alloc (.cells #[.int .i64 0, .int .i64 0, .int .i64 0, .int .i64 0, .slice none 0 0, .int .i64 0, .int .i64 0] 138)).drewN (nq + 1)) 138 #[.int .i64 1, .int .i64 n, .int .i64 kids, .int .i64 0, .slice none 0 0, .int .i64 0, .int .i64 0] [.int .i64 1, .int .i64 n, .int .i64 kids, .int .i64 0, .slice none 0 0, .int .i64 0, .int .i64 0] rfl
    simpa using this
  have HO := Lib.hid (And.intro (H.out.1.keep hk0 (by simp)) (And.intro (((Blk.new' w 138 #[.int .i64 0, .int .i64 0, .int .i64 0, .int .i64 0, .slice none 0 0, .int .i64 0, .int .i64 0] [.int .i64 0, .int .i64 0, .int .i64 0, .int .i64 0, .slice none 0 0, .int .i64 0, .int .i64 0] rfl).drewN (nq + 1)).alloc (.cells #[.int .i64 1, .int .i64 n, .int .i64 kids, .int .i64 0, .slice none 0 0, .int .i64 0, .int .i64 0] 138)) (And.intro (Bel.keep (Bel.refl B sp w) hk0 hB (by simp)) (And.intro (Nat.le_trans hB hk0.size) (And.intro hev (And.intro (show (((w.alloc (.cells #[.int .i64 0, .int .i64 0, .int .i64 0, .int .i64 0, .slice none 0 0, .int .i64 0, .int .i64 0] 138)).drewN (nq + 1)).alloc (.cells #[.int .i64 1, .int .i64 n, .int .i64 kids, .int .i64 0, .slice none 0 0, .int .i64 0, .int .i64 0] 138)).heap.size = w.heap.size + 2 by simp) hk0))))))
  clear hk0 hev
  generalize ((w.alloc (.cells #[.int .i64 0, .int .i64 0, .int .i64 0, .int .i64 0, .slice none 0 0, .int .i64 0, .int .i64 0] 138)).drewN (nq + 1)).alloc (.cells #[.int .i64 1, .int .i64 n, .int .i64 kids, .int .i64 0, .slice none 0 0, .int .i64 0, .int .i64 0] 138) = w7 at *
  obtain ⟨hS7, hr7, hb7, hB7, hev7, hz7, hk07⟩ := HO.out
  have hs7 := hS7.2.1
  have y0 : w7.cell? ⟨sp, 0, none⟩ = some (.int .i64 fn) := hs7.cell 0
  have y1 : w7.cell? ⟨sp, 1, none⟩ = some (.int .i64 pc) := hs7.cell 1
  have y2 : w7.cell? ⟨sp, 2, none⟩ = some (.int .i64 fuel) := hs7.cell 2
  have y3 : w7.cell? ⟨sp, 3, none⟩ = some (.slice none 0 0) := hs7.cell 3
  have y4 : w7.cell? ⟨sp, 4, none⟩ = some (.slice none 0 0) := hs7.cell 4
  have y5 : w7.cell? ⟨sp, 5, none⟩ = some (.int .i64 kids) := hs7.cell 5
  have y6 : w7.cell? ⟨sp, 6, none⟩ = some (.bool waits) := hs7.cell 6
  have yf : ∀ i, w7.frozen? ⟨sp, i, none⟩ = false := fun i => hs7.frozen i
  have r0 : w7.cell? ⟨w.heap.size, 0, none⟩ = some (.int .i64 0) := hr7.cell 0
  have r1 : w7.cell? ⟨w.heap.size, 1, none⟩ = some (.int .i64 0) := hr7.cell 1
  have r2 : w7.cell? ⟨w.heap.size, 2, none⟩ = some (.int .i64 0) := hr7.cell 2
  have r3 : w7.cell? ⟨w.heap.size, 3, none⟩ = some (.int .i64 0) := hr7.cell 3
  have r4 : w7.cell? ⟨w.heap.size, 4, none⟩ = some (.slice none 0 0) := hr7.cell 4
  have r5 : w7.cell? ⟨w.heap.size, 5, none⟩ = some (.int .i64 0) := hr7.cell 5
  have r6 : w7.cell? ⟨w.heap.size, 6, none⟩ = some (.int .i64 0) := hr7.cell 6
  have rf : ∀ i, w7.frozen? ⟨w.heap.size, i, none⟩ = false := fun i => hr7.frozen i
  have e0 : w7.cell? ⟨w.heap.size + 1, 0, none⟩ = some (.int .i64 1) := hev7.cell 0
  have e1 : w7.cell? ⟨w.heap.size + 1, 1, none⟩ = some (.int .i64 n) := hev7.cell 1
  have e2 : w7.cell? ⟨w.heap.size + 1, 2, none⟩ = some (.int .i64 kids) := hev7.cell 2
  have e3 : w7.cell? ⟨w.heap.size + 1, 3, none⟩ = some (.int .i64 0) := hev7.cell 3
  have e4 : w7.cell? ⟨w.heap.size + 1, 4, none⟩ = some (.slice none 0 0) := hev7.cell 4
  have e5 : w7.cell? ⟨w.heap.size + 1, 5, none⟩ = some (.int .i64 0) := hev7.cell 5
  have e6 : w7.cell? ⟨w.heap.size + 1, 6, none⟩ = some (.int .i64 0) := hev7.cell 6
  have ef : ∀ i, w7.frozen? ⟨w.heap.size + 1, i, none⟩ = false := fun i => hev7.frozen i
  have hsp7 : sp < w7.heap.size := by omega
  have hk8 : Keep [] w7 ((w7.alloc (.cells #[.int .i64 kids] 3)).drew) := ((Keep.refl [] w7).alloc _).drew
  have hO : OwnsAt ((w7.alloc (.cells #[.int .i64 kids] 3)).drew) B 3 1 (.slice none 0 0) 0 ([].map (.int .i64)) := (show OwnsAt w7 B 3 1 (.slice none 0 0) 0 ([].map (.int .i64)) from hS7.2.2).keep hk8 (by simp)
  have hc0 : ((w7.alloc (.cells #[.int .i64 kids] 3)).drew).cell? ⟨w7.heap.size, 0, none⟩ = some (.int .i64 kids) := ((Blk.new w7 3 [.int .i64 kids]).drew).cell 0
  have hn1 : sp ∉ ownBlocks (.slice none 0 0) := fun h => own_ne hs7 hS7.2.2 (by decide) sp (by simpa [ownBlocks] using h) rfl
  have hn2 : w.heap.size ∉ ownBlocks (.slice none 0 0) := fun h => own_ne hr7 hS7.2.2 (by decide) _ (by simpa [ownBlocks] using h) rfl
  have hn3 : w.heap.size + 1 ∉ ownBlocks (.slice none 0 0) := fun h => own_ne hev7 hS7.2.2 (by decide) _ (by simpa [ownBlocks] using h) rfl
  have HP := Lib.hid (And.intro hO (And.intro (src_int6 hc0) (And.intro hk8 (And.intro (Nat.le_trans hB7 hk8.size) (And.intro hn1 (And.intro hn2 hn3))))))
  have q1 : sp ≠ w.heap.size := by omega
  have q2 : sp ≠ w.heap.size + 1 := by omega
  clear hO hc0 hk8 hn1 hn2 hn3 hs7 hS7 hr7 hb7 hB7 hev7 hk07
  go_wp2_with fail
  go_region_law (refine step_append_off rfl (.tmp 55) (.tmp 60) rfl Tryd.sts24L B (.slice none 0 0) 0 ([].map (.int .i64)) (by simp [Act.eval, Act.put]) HP.out.1 (.slice (some ⟨w7.heap.size, 0, none⟩) 1 1) 1 [.int .i64 kids] (by simp [Act.eval, Act.put]) HP.out.2.1 (by simp [Value.oneCell']) (by unfold maxLen; omega) (by omega) HP.out.2.2.2.1 ?_; intro v' w4 hown4 hk4 hat4; obtain ⟨a5, c5, rfl⟩ := hown4.shape; have hs4 := (HO.out.1.2.1.keep HP.out.2.2.1 (by simp)).keep hk4 HP.out.2.2.2.2.1; have hr4 := (HO.out.2.1.keep HP.out.2.2.1 (by simp)).keep hk4 HP.out.2.2.2.2.2.1; have he4 := (HO.out.2.2.2.2.1.keep HP.out.2.2.1 (by simp)).keep hk4 HP.out.2.2.2.2.2.2; have x0 : w4.cell? ⟨sp, 0, none⟩ = some (.int .i64 fn) := hs4.cell 0; have x1 : w4.cell? ⟨sp, 1, none⟩ = some (.int .i64 pc) := hs4.cell 1; have x2 : w4.cell? ⟨sp, 2, none⟩ = some (.int .i64 fuel) := hs4.cell 2; have x3 : w4.cell? ⟨sp, 3, none⟩ = some (.slice none 0 0) := hs4.cell 3; have x4 : w4.cell? ⟨sp, 4, none⟩ = some (.slice none 0 0) := hs4.cell 4; have x5 : w4.cell? ⟨sp, 5, none⟩ = some (.int .i64 kids) := hs4.cell 5; have x6 : w4.cell? ⟨sp, 6, none⟩ = some (.bool waits) := hs4.cell 6; have xf : ∀ i, w4.frozen? ⟨sp, i, none⟩ = false := fun i => hs4.frozen i; have s0 : w4.cell? ⟨w.heap.size, 0, none⟩ = some (.int .i64 0) := hr4.cell 0; have s1 : w4.cell? ⟨w.heap.size, 1, none⟩ = some (.int .i64 0) := hr4.cell 1; have s2 : w4.cell? ⟨w.heap.size, 2, none⟩ = some (.int .i64 0) := hr4.cell 2; have s3 : w4.cell? ⟨w.heap.size, 3, none⟩ = some (.int .i64 0) := hr4.cell 3; have s4 : w4.cell? ⟨w.heap.size, 4, none⟩ = some (.slice none 0 0) := hr4.cell 4; have s5 : w4.cell? ⟨w.heap.size, 5, none⟩ = some (.int .i64 0) := hr4.cell 5; have s6 : w4.cell? ⟨w.heap.size, 6, none⟩ = some (.int .i64 0) := hr4.cell 6; have sf : ∀ i, w4.frozen? ⟨w.heap.size, i, none⟩ = false := fun i => hr4.frozen i; have v0 : w4.cell? ⟨w.heap.size + 1, 0, none⟩ = some (.int .i64 1) := he4.cell 0; have v1 : w4.cell? ⟨w.heap.size + 1, 1, none⟩ = some (.int .i64 n) := he4.cell 1; have v2 : w4.cell? ⟨w.heap.size + 1, 2, none⟩ = some (.int .i64 kids) := he4.cell 2; have v3 : w4.cell? ⟨w.heap.size + 1, 3, none⟩ = some (.int .i64 0) := he4.cell 3; have v4 : w4.cell? ⟨w.heap.size + 1, 4, none⟩ = some (.slice none 0 0) := he4.cell 4; have v5 : w4.cell? ⟨w.heap.size + 1, 5, none⟩ = some (.int .i64 0) := he4.cell 5; have v6 : w4.cell? ⟨w.heap.size + 1, 6, none⟩ = some (.int .i64 0) := he4.cell 6; have vf : ∀ i, w4.frozen? ⟨w.heap.size + 1, i, none⟩ = false := fun i => he4.frozen i; have G := Lib.hid (And.intro hown4 (And.intro hk4 (And.intro hs4 (And.intro hr4 he4)))); clear hown4 hk4 hat4 hs4 hr4 he4)
  all_goals
    go_wp2_with fail
    have e2 := HS2.out
    subst e2
    obtain ⟨ho4, hk4, hs4, hr4, he4⟩ := G.out
    obtain ⟨hS7, hr7, hb7, hB7, hev7, hz7, hk07⟩ := HO.out
    have b2 := Bel.keep (Bel.keep hb7 HP.out.2.2.1 hB7 (by simp)) hk4 HP.out.2.2.2.1 (fun x hx => Or.inl (HP.out.1.lt x (by simpa [ownBlocks] using hx)).1)
    have hS4 : StAt B (w4.setCell ⟨sp, 3, none⟩ (.slice a5 (0 + 1) c5)) sp ⟨fn, pc, fuel, [] ++ [(kids : Int)], kids, waits⟩ (.slice a5 (0 + 1) c5) := by
      refine ⟨H.out.1.1, hs4.set_ 3 _, ?_⟩
      have q := own_ne hs4 ho4 (by decide)
      have := ho4.keep ((Keep.refl [sp] w4).setCell (p := ⟨sp, 3, none⟩) (by simp) (.slice a5 (0 + 1) c5)) (fun g hg hx => q g hg (List.mem_singleton.1 hx))
      simpa using this
    have hS5 := hS4.set_ (S' := ⟨fn, pc, fuel, [] ++ [(kids : Int)], kids + 1, waits⟩) (i := 5) (u := .int .i64 (kids + 1 : Nat)) rfl hS4.2.2
    have hS6 := hS5.set_ (S' := ⟨fn, pc + 1, fuel, [] ++ [(kids : Int)], kids + 1, waits⟩) (i := 1) (u := .int .i64 (pc + 1 : Nat)) rfl hS5.2.2
    obtain ⟨F1, F2, D⟩ := fin7 hS6 (((hr4.far (p := ⟨sp, 3, none⟩) (Ne.symm q1) _).far (p := ⟨sp, 5, none⟩) (Ne.symm q1) _).far (p := ⟨sp, 1, none⟩) (Ne.symm q1) _) (bel_set (bel_set (bel_set b2 (Or.inl rfl) _) (Or.inl rfl) _) (Or.inl rfl) _) hB (by have := Nat.le_trans HP.out.2.2.2.1 hk4.size; simpa [World.setCell] using this) (.int .i64 1) (.int .i64 n) (.int .i64 kids) (.int .i64 0) (.slice none 0 0) (.int .i64 0) (.int .i64 0)
    have K1 := (((hk07.mono (T := sp :: ownBlocks (.slice none 0 0)) (by simp)).trans HP.out.2.2.1 (by simp)).trans hk4 (fun x hx => Or.inl (List.mem_cons_of_mem _ hx)))
    have F3 := (((K1.setCell (p := ⟨sp, 3, none⟩) (Or.inl (List.mem_cons_self ..)) (.slice a5 (0 + 1) c5)).setCell (p := ⟨sp, 5, none⟩) (Or.inl (List.mem_cons_self ..)) (.int .i64 (kids + 1 : Nat))).setCell (p := ⟨sp, 1, none⟩) (Or.inl (List.mem_cons_self ..)) (.int .i64 (pc + 1 : Nat))).trans (keep7 (g := w.heap.size) (.int .i64 1) (.int .i64 n) (.int .i64 kids) (.int .i64 0) (.slice none 0 0) (.int .i64 0) (.int .i64 0)) (fun x hx => Or.inr (by rw [List.mem_singleton.1 hx]; exact Nat.le_refl _))
    push_cast at F1 F2 F3 D
    have d0 := D.cell 0; have d1 := D.cell 1; have d2 := D.cell 2; have d3 := D.cell 3; have d4 := D.cell 4; have d5 := D.cell 5; have d6 := D.cell 6
    exact bodyPost_ret (v := .tuple #[.agg #[.int .i64 1, .int .i64 n, .int .i64 kids, .int .i64 0, .slice none 0 0, .int .i64 0, .int .i64 0], .bool true]) (by simp [results, Tryd.results109, go_sem, d0, d1, d2, d3, d4, d5, d6]) rfl ⟨⟨_, _, rfl, ⟨0, 0, 0, rfl⟩, F1, F2⟩, F3⟩
set_option maxHeartbeats 6400000 in
set_option maxRecDepth 100000 in
theorem spawn_some (w : World) (B B0 kg sp deep n : Nat) (J : JB) (S : SS) {f : FN} {gs offs cs : Nat} (hK : KnownAt B0 w kg J) (hB0 : B0 ≤ w.heap.size) (hS : StAt B w sp S (.slice (some ⟨gs, offs, none⟩) S.stack.length cs)) (hB : B ≤ w.heap.size) (hc : S.pc ≤ 1000) (hf : J.fs[n]? = some f) (hd : deep < 12) (hk : S.kids < 16) (hlen : S.stack.length ≤ 32) :
    Calls Tryd.prog 109 #[.pointer (some ⟨kg, 0, none⟩), .pointer (some ⟨sp, 0, none⟩), .int .i64 n, .int .i64 deep] w (SpawnPost B sp { S with stack := S.stack ++ [(S.kids : Int)], pc := S.pc + 1, kids := S.kids + 1 } (some (.spawned n S.kids)) (.slice (some ⟨gs, offs, none⟩) S.stack.length cs) w) := by
  obtain ⟨fv, dv, hg, hblk, hfs, _⟩ := hK
  obtain ⟨hBs, hsb, hown⟩ := hS
  obtain ⟨fn, pc, fuel, stack, kids, waits⟩ := S
  simp only at hsb hown hc hk hlen  ⊢
  obtain ⟨af, cf, rfl⟩ := hfs.shape
  obtain ⟨b, off, cv, rfl, hb, f0, f1, f2, f3, _⟩ := hfs.fn hf
  have k0 : w.cell? ⟨kg, 0, none⟩ = some (.slice (some ⟨b, off, none⟩) J.fs.length cf) := hblk.cell 0
  have l1 : n < J.fs.length := (List.getElem?_eq_some_iff.1 hf).1
  have i1 : (n : Int) < (J.fs.length : Int) := by omega
  have n1 : (0 : Int) ≤ (n : Int) := by omega
  have i3 : (pc : Int) ≤ 1000 := by omega
  have i4 : (deep : Int) < 12 := by omega
  have i5 : ((kids : Int) == 16) = false := by simp; omega
  have i6 : (kids : Int) ≤ 16 := by omega
  have n3 : (0 : Int) ≤ (kids : Int) := by omega
  have i7 : (stack.length : Int) ≤ 32 := by omega
  have n4 : (0 : Int) ≤ (stack.length : Int) := by omega
  have hbw : b < w.heap.size := by omega
  have hgw : kg < w.heap.size := by omega
  have hspw : sp < w.heap.size := hsb.lt
  have hbw1 : b < w.heap.size + 1 := by omega
  have hgw1 : kg < w.heap.size + 1 := by omega
  have hspw1 : sp < w.heap.size + 1 := by omega
  have z0 : w.cell? ⟨sp, 0, none⟩ = some (.int .i64 fn) := hsb.cell 0
  have z1 : w.cell? ⟨sp, 1, none⟩ = some (.int .i64 pc) := hsb.cell 1
  have z2 : w.cell? ⟨sp, 2, none⟩ = some (.int .i64 fuel) := hsb.cell 2
  have z3 : w.cell? ⟨sp, 3, none⟩ = some (.slice (some ⟨gs, offs, none⟩) stack.length cs) := hsb.cell 3
  have z4 : w.cell? ⟨sp, 4, none⟩ = some (.slice none 0 0) := hsb.cell 4
  have z5 : w.cell? ⟨sp, 5, none⟩ = some (.int .i64 kids) := hsb.cell 5
  have z6 : w.cell? ⟨sp, 6, none⟩ = some (.bool waits) := hsb.cell 6
  have zf : ∀ i, w.frozen? ⟨sp, i, none⟩ = false := fun i => hsb.frozen i
  have i8 : stack.length ≤ cs := by
    rcases hown.2 with ⟨h0, _⟩ | ⟨g, o, c, cur, hv, _, _, h1, _⟩
    · cases h0
    · cases hv; exact h1
  have H := Lib.hid (And.intro (show StAt B w sp ⟨fn, pc, fuel, stack, kids, waits⟩ (.slice (some ⟨gs, offs, none⟩) stack.length cs) from ⟨hBs, hsb, by simpa using hown⟩) hlen)
  generalize hS2 : (⟨fn, pc + 1, fuel, stack ++ [(kids : Int)], kids + 1, waits⟩ : SS) = S2
  have HS2 := Lib.hid hS2
  clear hS2 hBs hsb hown hblk hfs hf hb hg f0 f2 f3
  obtain rfl | hcs : cs = stack.length ∨ ¬ cs = stack.length := by omega
  · go_enter Tryd.func109, Tryd.ntmps109
    go_upto_region 5 with fail
    go_quiet (fail)
    go_upto_region 6 with fail
    go_region
    go_upto_region 7 with fail
    have hk0 : Keep [] w (((w.alloc (.cells #[.int .i64 0, .int .i64 0, .int .i64 0, .int .i64 0, .slice none 0 0, .int .i64 0, .int .i64 0] 138)).drewN (nq + 1)).alloc (.cells #[.int .i64 1, .int .i64 n, .int .i64 kids, .int .i64 0, .slice none 0 0, .int .i64 0, .int .i64 0] 138)) := (((Keep.refl [] w).alloc _).drewN (nq + 1)).alloc _
    have hev : Blk (((w.alloc (.cells #[.int .i64 0, .int .i64 0, .int .i64 0, .int .i64 0, .slice none 0 0, .int .i64 0, .int .i64 0] 138)).drewN (nq + 1)).alloc (.cells #[.int .i64 1, .int .i64 n, .int .i64 kids, .int .i64 0, .slice none 0 0, .int .i64 0, .int .i64 0] 138)) (w.heap.size + 1) 138 [.int .i64 1, .int .i64 n, .int .i64 kids, .int .i64 0, .slice none 0 0, .int .i64 0, .int .i64 0] := by
      have := Blk.new' ((w.alloc (.cells #[.int .i64 0, .int .i64 0, .int .i64 0, .int .i64 0, .slice none 0 0, .int .i64 0, .int .i64 0] 138)).drewN (nq + 1)) 138 #[.int .i64 1, .int .i64 n, .int .i64 kids, .int .i64 0, .slice none 0 0, .int .i64 0, .int .i64 0] [.int .i64 1, .int .i64 n, .int .i64 kids, .int .i64 0, .slice none 0 0, .int .i64 0, .int .i64 0] rfl
      simpa using this
    have HO := Lib.hid (And.intro (H.out.1.keep hk0 (by simp)) (And.intro (((Blk.new' w 138 #[.int .i64 0, .int .i64 0, .int .i64 0, .int .i64 0, .slice none 0 0, .int .i64 0, .int .i64 0] [.int .i64 0, .int .i64 0, .int .i64 0, .int .i64 0, .slice none 0 0, .int .i64 0, .int .i64 0] rfl).drewN (nq + 1)).alloc (.cells #[.int .i64 1, .int .i64 n, .int .i64 kids, .int .i64 0, .slice none 0 0, .int .i64 0, .int .i64 0] 138)) (And.intro (Bel.keep (Bel.refl B sp w) hk0 hB (by simp)) (And.intro (Nat.le_trans hB hk0.size) (And.intro hev (And.intro (show (((w.alloc (.cells #[.int .i64 0, .int .i64 0, .int .i64 0, .int .i64 0, .slice none 0 0, .int .i64 0, .int .i64 0] 138)).drewN (nq + 1)).alloc (.cells #[.int .i64 1, .int .i64 n, .int .i64 kids, .int .i64 0, .slice none 0 0, .int .i64 0, .int .i64 0] 138)).heap.size = w.heap.size + 2 by simp) hk0))))))
    clear hk0 hev
    generalize ((w.alloc (.cells #[.int .i64 0, .int .i64 0, .int .i64 0, .int .i64 0, .slice none 0 0, .int .i64 0, .int .i64 0] 138)).drewN (nq + 1)).alloc (.cells #[.int .i64 1, .int .i64 n, .int .i64 kids, .int .i64 0, .slice none 0 0, .int .i64 0, .int .i64 0] 138) = w7 at *
    obtain ⟨hS7, hr7, hb7, hB7, hev7, hz7, hk07⟩ := HO.out
    have hs7 := hS7.2.1
    have y0 : w7.cell? ⟨sp, 0, none⟩ = some (.int .i64 fn) := hs7.cell 0
    have y1 : w7.cell? ⟨sp, 1, none⟩ = some (.int .i64 pc) := hs7.cell 1
    have y2 : w7.cell? ⟨sp, 2, none⟩ = some (.int .i64 fuel) := hs7.cell 2
    have y3 : w7.cell? ⟨sp, 3, none⟩ = some (.slice (some ⟨gs, offs, none⟩) stack.length stack.length) := hs7.cell 3
    have y4 : w7.cell? ⟨sp, 4, none⟩ = some (.slice none 0 0) := hs7.cell 4
    have y5 : w7.cell? ⟨sp, 5, none⟩ = some (.int .i64 kids) := hs7.cell 5
    have y6 : w7.cell? ⟨sp, 6, none⟩ = some (.bool waits) := hs7.cell 6
    have yf : ∀ i, w7.frozen? ⟨sp, i, none⟩ = false := fun i => hs7.frozen i
    have r0 : w7.cell? ⟨w.heap.size, 0, none⟩ = some (.int .i64 0) := hr7.cell 0
    have r1 : w7.cell? ⟨w.heap.size, 1, none⟩ = some (.int .i64 0) := hr7.cell 1
    have r2 : w7.cell? ⟨w.heap.size, 2, none⟩ = some (.int .i64 0) := hr7.cell 2
    have r3 : w7.cell? ⟨w.heap.size, 3, none⟩ = some (.int .i64 0) := hr7.cell 3
    have r4 : w7.cell? ⟨w.heap.size, 4, none⟩ = some (.slice none 0 0) := hr7.cell 4
    have r5 : w7.cell? ⟨w.heap.size, 5, none⟩ = some (.int .i64 0) := hr7.cell 5
    have r6 : w7.cell? ⟨w.heap.size, 6, none⟩ = some (.int .i64 0) := hr7.cell 6
    have rf : ∀ i, w7.frozen? ⟨w.heap.size, i, none⟩ = false := fun i => hr7.frozen i
    have e0 : w7.cell? ⟨w.heap.size + 1, 0, none⟩ = some (.int .i64 1) := hev7.cell 0
    have e1 : w7.cell? ⟨w.heap.size + 1, 1, none⟩ = some (.int .i64 n) := hev7.cell 1
    have e2 : w7.cell? ⟨w.heap.size + 1, 2, none⟩ = some (.int .i64 kids) := hev7.cell 2
    have e3 : w7.cell? ⟨w.heap.size + 1, 3, none⟩ = some (.int .i64 0) := hev7.cell 3
    have e4 : w7.cell? ⟨w.heap.size + 1, 4, none⟩ = some (.slice none 0 0) := hev7.cell 4
    have e5 : w7.cell? ⟨w.heap.size + 1, 5, none⟩ = some (.int .i64 0) := hev7.cell 5
    have e6 : w7.cell? ⟨w.heap.size + 1, 6, none⟩ = some (.int .i64 0) := hev7.cell 6
    have ef : ∀ i, w7.frozen? ⟨w.heap.size + 1, i, none⟩ = false := fun i => hev7.frozen i
    have hsp7 : sp < w7.heap.size := by omega
    have hk8 : Keep [] w7 ((w7.alloc (.cells #[.int .i64 kids] 3)).drew) := ((Keep.refl [] w7).alloc _).drew
    have hO : OwnsAt ((w7.alloc (.cells #[.int .i64 kids] 3)).drew) B 3 1 (.slice (some ⟨gs, offs, none⟩) stack.length stack.length) stack.length (stack.map (.int .i64)) := (show OwnsAt w7 B 3 1 (.slice (some ⟨gs, offs, none⟩) stack.length stack.length) stack.length (stack.map (.int .i64)) from hS7.2.2).keep hk8 (by simp)
    have hc0 : ((w7.alloc (.cells #[.int .i64 kids] 3)).drew).cell? ⟨w7.heap.size, 0, none⟩ = some (.int .i64 kids) := ((Blk.new w7 3 [.int .i64 kids]).drew).cell 0
    have hn1 : sp ∉ ownBlocks (.slice (some ⟨gs, offs, none⟩) stack.length stack.length) := fun h => own_ne hs7 hS7.2.2 (by decide) sp (by simpa [ownBlocks] using h) rfl
    have hn2 : w.heap.size ∉ ownBlocks (.slice (some ⟨gs, offs, none⟩) stack.length stack.length) := fun h => own_ne hr7 hS7.2.2 (by decide) _ (by simpa [ownBlocks] using h) rfl
    have hn3 : w.heap.size + 1 ∉ ownBlocks (.slice (some ⟨gs, offs, none⟩) stack.length stack.length) := fun h => own_ne hev7 hS7.2.2 (by decide) _ (by simpa [ownBlocks] using h) rfl
    have HP := Lib.hid (And.intro hO (And.intro (src_int6 hc0) (And.intro hk8 (And.intro (Nat.le_trans hB7 hk8.size) (And.intro hn1 (And.intro hn2 hn3))))))
    have q1 : sp ≠ w.heap.size := by omega
    have q2 : sp ≠ w.heap.size + 1 := by omega
    clear hO hc0 hk8 hn1 hn2 hn3 hs7 hS7 hr7 hb7 hB7 hev7 hk07
    go_wp2_with fail
    go_region_law (refine step_append_off rfl (.tmp 55) (.tmp 60) rfl Tryd.sts24L B (.slice (some ⟨gs, offs, none⟩) stack.length stack.length) stack.length (stack.map (.int .i64)) (by simp [Act.eval, Act.put]) HP.out.1 (.slice (some ⟨w7.heap.size, 0, none⟩) 1 1) 1 [.int .i64 kids] (by simp [Act.eval, Act.put]) HP.out.2.1 (by simp [Value.oneCell']) (by unfold maxLen; omega) (by omega) HP.out.2.2.2.1 ?_; intro v' w4 hown4 hk4 hat4; obtain ⟨a5, c5, rfl⟩ := hown4.shape; have hs4 := (HO.out.1.2.1.keep HP.out.2.2.1 (by simp)).keep hk4 HP.out.2.2.2.2.1; have hr4 := (HO.out.2.1.keep HP.out.2.2.1 (by simp)).keep hk4 HP.out.2.2.2.2.2.1; have he4 := (HO.out.2.2.2.2.1.keep HP.out.2.2.1 (by simp)).keep hk4 HP.out.2.2.2.2.2.2; have x0 : w4.cell? ⟨sp, 0, none⟩ = some (.int .i64 fn) := hs4.cell 0; have x1 : w4.cell? ⟨sp, 1, none⟩ = some (.int .i64 pc) := hs4.cell 1; have x2 : w4.cell? ⟨sp, 2, none⟩ = some (.int .i64 fuel) := hs4.cell 2; have x3 : w4.cell? ⟨sp, 3, none⟩ = some (.slice (some ⟨gs, offs, none⟩) stack.length stack.length) := hs4.cell 3; have x4 : w4.cell? ⟨sp, 4, none⟩ = some (.slice none 0 0) := hs4.cell 4; have x5 : w4.cell? ⟨sp, 5, none⟩ = some (.int .i64 kids) := hs4.cell 5; have x6 : w4.cell? ⟨sp, 6, none⟩ = some (.bool waits) := hs4.cell 6; have xf : ∀ i, w4.frozen? ⟨sp, i, none⟩ = false := fun i => hs4.frozen i; have s0 : w4.cell? ⟨w.heap.size, 0, none⟩ = some (.int .i64 0) := hr4.cell 0; have s1 : w4.cell? ⟨w.heap.size, 1, none⟩ = some (.int .i64 0) := hr4.cell 1; have s2 : w4.cell? ⟨w.heap.size, 2, none⟩ = some (.int .i64 0) := hr4.cell 2; have s3 : w4.cell? ⟨w.heap.size, 3, none⟩ = some (.int .i64 0) := hr4.cell 3; have s4 : w4.cell? ⟨w.heap.size, 4, none⟩ = some (.slice none 0 0) := hr4.cell 4; have s5 : w4.cell? ⟨w.heap.size, 5, none⟩ = some (.int .i64 0) := hr4.cell 5; have s6 : w4.cell? ⟨w.heap.size, 6, none⟩ = some (.int .i64 0) := hr4.cell 6; have sf : ∀ i, w4.frozen? ⟨w.heap.size, i, none⟩ = false := fun i => hr4.frozen i; have v0 : w4.cell? ⟨w.heap.size + 1, 0, none⟩ = some (.int .i64 1) := he4.cell 0; have v1 : w4.cell? ⟨w.heap.size + 1, 1, none⟩ = some (.int .i64 n) := he4.cell 1; have v2 : w4.cell? ⟨w.heap.size + 1, 2, none⟩ = some (.int .i64 kids) := he4.cell 2; have v3 : w4.cell? ⟨w.heap.size + 1, 3, none⟩ = some (.int .i64 0) := he4.cell 3; have v4 : w4.cell? ⟨w.heap.size + 1, 4, none⟩ = some (.slice none 0 0) := he4.cell 4; have v5 : w4.cell? ⟨w.heap.size + 1, 5, none⟩ = some (.int .i64 0) := he4.cell 5; have v6 : w4.cell? ⟨w.heap.size + 1, 6, none⟩ = some (.int .i64 0) := he4.cell 6; have vf : ∀ i, w4.frozen? ⟨w.heap.size + 1, i, none⟩ = false := fun i => he4.frozen i; have G := Lib.hid (And.intro hown4 (And.intro hk4 (And.intro hs4 (And.intro hr4 he4)))); clear hown4 hk4 hat4 hs4 hr4 he4)
    all_goals
      go_wp2_with fail
      have e2 := HS2.out
      subst e2
      obtain ⟨ho4, hk4, hs4, hr4, he4⟩ := G.out
      obtain ⟨hS7, hr7, hb7, hB7, hev7, hz7, hk07⟩ := HO.out
      have b2 := Bel.keep (Bel.keep hb7 HP.out.2.2.1 hB7 (by simp)) hk4 HP.out.2.2.2.1 (fun x hx => Or.inl (HP.out.1.lt x (by simpa [ownBlocks] using hx)).1)
      have hS4 : StAt B (w4.setCell ⟨sp, 3, none⟩ (.slice a5 (stack.length + 1) c5)) sp ⟨fn, pc, fuel, stack ++ [(kids : Int)], kids, waits⟩ (.slice a5 (stack.length + 1) c5) := by
        refine ⟨H.out.1.1, hs4.set_ 3 _, ?_⟩
        have q := own_ne hs4 ho4 (by decide)
        have := ho4.keep ((Keep.refl [sp] w4).setCell (p := ⟨sp, 3, none⟩) (by simp) (.slice a5 (stack.length + 1) c5)) (fun g hg hx => q g hg (List.mem_singleton.1 hx))
        simpa using this
      have hS5 := hS4.set_ (S' := ⟨fn, pc, fuel, stack ++ [(kids : Int)], kids + 1, waits⟩) (i := 5) (u := .int .i64 (kids + 1 : Nat)) rfl hS4.2.2
      have hS6 := hS5.set_ (S' := ⟨fn, pc + 1, fuel, stack ++ [(kids : Int)], kids + 1, waits⟩) (i := 1) (u := .int .i64 (pc + 1 : Nat)) rfl hS5.2.2
      obtain ⟨F1, F2, D⟩ := fin7 hS6 (((hr4.far (p := ⟨sp, 3, none⟩) (Ne.symm q1) _).far (p := ⟨sp, 5, none⟩) (Ne.symm q1) _).far (p := ⟨sp, 1, none⟩) (Ne.symm q1) _) (bel_set (bel_set (bel_set b2 (Or.inl rfl) _) (Or.inl rfl) _) (Or.inl rfl) _) hB (by have := Nat.le_trans HP.out.2.2.2.1 hk4.size; simpa [World.setCell] using this) (.int .i64 1) (.int .i64 n) (.int .i64 kids) (.int .i64 0) (.slice none 0 0) (.int .i64 0) (.int .i64 0)
      have K1 := (((hk07.mono (T := sp :: ownBlocks (.slice (some ⟨gs, offs, none⟩) stack.length stack.length)) (by simp)).trans HP.out.2.2.1 (by simp)).trans hk4 (fun x hx => Or.inl (List.mem_cons_of_mem _ hx)))
      have F3 := (((K1.setCell (p := ⟨sp, 3, none⟩) (Or.inl (List.mem_cons_self ..)) (.slice a5 (stack.length + 1) c5)).setCell (p := ⟨sp, 5, none⟩) (Or.inl (List.mem_cons_self ..)) (.int .i64 (kids + 1 : Nat))).setCell (p := ⟨sp, 1, none⟩) (Or.inl (List.mem_cons_self ..)) (.int .i64 (pc + 1 : Nat))).trans (keep7 (g := w.heap.size) (.int .i64 1) (.int .i64 n) (.int .i64 kids) (.int .i64 0) (.slice none 0 0) (.int .i64 0) (.int .i64 0)) (fun x hx => Or.inr (by rw [List.mem_singleton.1 hx]; exact Nat.le_refl _))
      push_cast at F1 F2 F3 D
      have d0 := D.cell 0; have d1 := D.cell 1; have d2 := D.cell 2; have d3 := D.cell 3; have d4 := D.cell 4; have d5 := D.cell 5; have d6 := D.cell 6
      exact bodyPost_ret (v := .tuple #[.agg #[.int .i64 1, .int .i64 n, .int .i64 kids, .int .i64 0, .slice none 0 0, .int .i64 0, .int .i64 0], .bool true]) (by simp [results, Tryd.results109, go_sem, d0, d1, d2, d3, d4, d5, d6]) rfl ⟨⟨_, _, rfl, ⟨0, 0, 0, rfl⟩, F1, F2⟩, F3⟩
  · go_enter Tryd.func109, Tryd.ntmps109
    go_upto_region 5 with fail
    go_quiet (fail)
    go_upto_region 6 with fail
    go_region
    go_upto_region 7 with fail
    have hk0 : Keep [] w (((w.alloc (.cells #[.int .i64 0, .int .i64 0, .int .i64 0, .int .i64 0, .slice none 0 0, .int .i64 0, .int .i64 0] 138)).drewN (nq + 1)).alloc (.cells #[.int .i64 1, .int .i64 n, .int .i64 kids, .int .i64 0, .slice none 0 0, .int .i64 0, .int .i64 0] 138)) := (((Keep.refl [] w).alloc _).drewN (nq + 1)).alloc _
    have hev : Blk (((w.alloc (.cells #[.int .i64 0, .int .i64 0, .int .i64 0, .int .i64 0, .slice none 0 0, .int .i64 0, .int .i64 0] 138)).drewN (nq + 1)).alloc (.cells #[.int .i64 1, .int .i64 n, .int .i64 kids, .int .i64 0, .slice none 0 0, .int .i64 0, .int .i64 0] 138)) (w.heap.size + 1) 138 [.int .i64 1, .int .i64 n, .int .i64 kids, .int .i64 0, .slice none 0 0, .int .i64 0, .int .i64 0] := by
      have := Blk.new' ((w.alloc (.cells #[.int .i64 0, .int .i64 0, .int .i64 0, .int .i64 0, .slice none 0 0, .int .i64 0, .int .i64 0] 138)).drewN (nq + 1)) 138 #[.int .i64 1, .int .i64 n, .int .i64 kids, .int .i64 0, .slice none 0 0, .int .i64 0, .int .i64 0] [.int .i64 1, .int .i64 n, .int .i64 kids, .int .i64 0, .slice none 0 0, .int .i64 0, .int .i64 0] rfl
      simpa using this
    have HO := Lib.hid (And.intro (H.out.1.keep hk0 (by simp)) (And.intro (((Blk.new' w 138 #[.int .i64 0, .int .i64 0, .int .i64 0, .int .i64 0, .slice none 0 0, .int .i64 0, .int .i64 0] [.int .i64 0, .int .i64 0, .int .i64 0, .int .i64 0, .slice none 0 0, .int .i64 0, .int .i64 0] rfl).drewN (nq + 1)).alloc (.cells #[.int .i64 1, .int .i64 n, .int .i64 kids, .int .i64 0, .slice none 0 0, .int .i64 0, .int .i64 0] 138)) (And.intro (Bel.keep (Bel.refl B sp w) hk0 hB (by simp)) (And.intro (Nat.le_trans hB hk0.size) (And.intro hev (And.intro (show (((w.alloc (.cells #[.int .i64 0, .int .i64 0, .int .i64 0, .int .i64 0, .slice none 0 0, .int .i64 0, .int .i64 0] 138)).drewN (nq + 1)).alloc (.cells #[.int .i64 1, .int .i64 n, .int .i64 kids, .int .i64 0, .slice none 0 0, .int .i64 0, .int .i64 0] 138)).heap.size = w.heap.size + 2 by simp) hk0))))))
    clear hk0 hev
    generalize ((w.alloc (.cells #[.int .i64 0, .int .i64 0, .int .i64 0, .int .i64 0, .slice none 0 0, .int .i64 0, .int .i64 0] 138)).drewN (nq + 1)).alloc (.cells #[.int .i64 1, .int .i64 n, .int .i64 kids, .int .i64 0, .slice none 0 0, .int .i64 0, .int .i64 0] 138) = w7 at *
    obtain ⟨hS7, hr7, hb7, hB7, hev7, hz7, hk07⟩ := HO.out
    have hs7 := hS7.2.1
    have y0 : w7.cell? ⟨sp, 0, none⟩ = some (.int .i64 fn) := hs7.cell 0
    have y1 : w7.cell? ⟨sp, 1, none⟩ = some (.int .i64 pc) := hs7.cell 1
    have y2 : w7.cell? ⟨sp, 2, none⟩ = some (.int .i64 fuel) := hs7.cell 2
    have y3 : w7.cell? ⟨sp, 3, none⟩ = some (.slice (some ⟨gs, offs, none⟩) stack.length cs) := hs7.cell 3
    have y4 : w7.cell? ⟨sp, 4, none⟩ = some (.slice none 0 0) := hs7.cell 4
    have y5 : w7.cell? ⟨sp, 5, none⟩ = some (.int .i64 kids) := hs7.cell 5
    have y6 : w7.cell? ⟨sp, 6, none⟩ = some (.bool waits) := hs7.cell 6
    have yf : ∀ i, w7.frozen? ⟨sp, i, none⟩ = false := fun i => hs7.frozen i
    have r0 : w7.cell? ⟨w.heap.size, 0, none⟩ = some (.int .i64 0) := hr7.cell 0
    have r1 : w7.cell? ⟨w.heap.size, 1, none⟩ = some (.int .i64 0) := hr7.cell 1
    have r2 : w7.cell? ⟨w.heap.size, 2, none⟩ = some (.int .i64 0) := hr7.cell 2
    have r3 : w7.cell? ⟨w.heap.size, 3, none⟩ = some (.int .i64 0) := hr7.cell 3
    have r4 : w7.cell? ⟨w.heap.size, 4, none⟩ = some (.slice none 0 0) := hr7.cell 4
    have r5 : w7.cell? ⟨w.heap.size, 5, none⟩ = some (.int .i64 0) := hr7.cell 5
    have r6 : w7.cell? ⟨w.heap.size, 6, none⟩ = some (.int .i64 0) := hr7.cell 6
    have rf : ∀ i, w7.frozen? ⟨w.heap.size, i, none⟩ = false := fun i => hr7.frozen i
    have e0 : w7.cell? ⟨w.heap.size + 1, 0, none⟩ = some (.int .i64 1) := hev7.cell 0
    have e1 : w7.cell? ⟨w.heap.size + 1, 1, none⟩ = some (.int .i64 n) := hev7.cell 1
    have e2 : w7.cell? ⟨w.heap.size + 1, 2, none⟩ = some (.int .i64 kids) := hev7.cell 2
    have e3 : w7.cell? ⟨w.heap.size + 1, 3, none⟩ = some (.int .i64 0) := hev7.cell 3
    have e4 : w7.cell? ⟨w.heap.size + 1, 4, none⟩ = some (.slice none 0 0) := hev7.cell 4
    have e5 : w7.cell? ⟨w.heap.size + 1, 5, none⟩ = some (.int .i64 0) := hev7.cell 5
    have e6 : w7.cell? ⟨w.heap.size + 1, 6, none⟩ = some (.int .i64 0) := hev7.cell 6
    have ef : ∀ i, w7.frozen? ⟨w.heap.size + 1, i, none⟩ = false := fun i => hev7.frozen i
    have hsp7 : sp < w7.heap.size := by omega
    have hk8 : Keep [] w7 ((w7.alloc (.cells #[.int .i64 kids] 3)).drew) := ((Keep.refl [] w7).alloc _).drew
    have hO : OwnsAt ((w7.alloc (.cells #[.int .i64 kids] 3)).drew) B 3 1 (.slice (some ⟨gs, offs, none⟩) stack.length cs) stack.length (stack.map (.int .i64)) := (show OwnsAt w7 B 3 1 (.slice (some ⟨gs, offs, none⟩) stack.length cs) stack.length (stack.map (.int .i64)) from hS7.2.2).keep hk8 (by simp)
    have hc0 : ((w7.alloc (.cells #[.int .i64 kids] 3)).drew).cell? ⟨w7.heap.size, 0, none⟩ = some (.int .i64 kids) := ((Blk.new w7 3 [.int .i64 kids]).drew).cell 0
    have hn1 : sp ∉ ownBlocks (.slice (some ⟨gs, offs, none⟩) stack.length cs) := fun h => own_ne hs7 hS7.2.2 (by decide) sp (by simpa [ownBlocks] using h) rfl
    have hn2 : w.heap.size ∉ ownBlocks (.slice (some ⟨gs, offs, none⟩) stack.length cs) := fun h => own_ne hr7 hS7.2.2 (by decide) _ (by simpa [ownBlocks] using h) rfl
    have hn3 : w.heap.size + 1 ∉ ownBlocks (.slice (some ⟨gs, offs, none⟩) stack.length cs) := fun h => own_ne hev7 hS7.2.2 (by decide) _ (by simpa [ownBlocks] using h) rfl
    have HP := Lib.hid (And.intro hO (And.intro (src_int6 hc0) (And.intro hk8 (And.intro (Nat.le_trans hB7 hk8.size) (And.intro hn1 (And.intro hn2 hn3))))))
    have q1 : sp ≠ w.heap.size := by omega
    have q2 : sp ≠ w.heap.size + 1 := by omega
    clear hO hc0 hk8 hn1 hn2 hn3 hs7 hS7 hr7 hb7 hB7 hev7 hk07
    go_wp2_with fail
    go_region_law (refine step_append_off rfl (.tmp 55) (.tmp 60) rfl Tryd.sts24L B (.slice (some ⟨gs, offs, none⟩) stack.length cs) stack.length (stack.map (.int .i64)) (by simp [Act.eval, Act.put]) HP.out.1 (.slice (some ⟨w7.heap.size, 0, none⟩) 1 1) 1 [.int .i64 kids] (by simp [Act.eval, Act.put]) HP.out.2.1 (by simp [Value.oneCell']) (by unfold maxLen; omega) (by omega) HP.out.2.2.2.1 ?_; intro v' w4 hown4 hk4 hat4; obtain ⟨a5, c5, rfl⟩ := hown4.shape; have hs4 := (HO.out.1.2.1.keep HP.out.2.2.1 (by simp)).keep hk4 HP.out.2.2.2.2.1; have hr4 := (HO.out.2.1.keep HP.out.2.2.1 (by simp)).keep hk4 HP.out.2.2.2.2.2.1; have he4 := (HO.out.2.2.2.2.1.keep HP.out.2.2.1 (by simp)).keep hk4 HP.out.2.2.2.2.2.2; have x0 : w4.cell? ⟨sp, 0, none⟩ = some (.int .i64 fn) := hs4.cell 0; have x1 : w4.cell? ⟨sp, 1, none⟩ = some (.int .i64 pc) := hs4.cell 1; have x2 : w4.cell? ⟨sp, 2, none⟩ = some (.int .i64 fuel) := hs4.cell 2; have x3 : w4.cell? ⟨sp, 3, none⟩ = some (.slice (some ⟨gs, offs, none⟩) stack.length cs) := hs4.cell 3; have x4 : w4.cell? ⟨sp, 4, none⟩ = some (.slice none 0 0) := hs4.cell 4; have x5 : w4.cell? ⟨sp, 5, none⟩ = some (.int .i64 kids) := hs4.cell 5; have x6 : w4.cell? ⟨sp, 6, none⟩ = some (.bool waits) := hs4.cell 6; have xf : ∀ i, w4.frozen? ⟨sp, i, none⟩ = false := fun i => hs4.frozen i; have s0 : w4.cell? ⟨w.heap.size, 0, none⟩ = some (.int .i64 0) := hr4.cell 0; have s1 : w4.cell? ⟨w.heap.size, 1, none⟩ = some (.int .i64 0) := hr4.cell 1; have s2 : w4.cell? ⟨w.heap.size, 2, none⟩ = some (.int .i64 0) := hr4.cell 2; have s3 : w4.cell? ⟨w.heap.size, 3, none⟩ = some (.int .i64 0) := hr4.cell 3; have s4 : w4.cell? ⟨w.heap.size, 4, none⟩ = some (.slice none 0 0) := hr4.cell 4; have s5 : w4.cell? ⟨w.heap.size, 5, none⟩ = some (.int .i64 0) := hr4.cell 5; have s6 : w4.cell? ⟨w.heap.size, 6, none⟩ = some (.int .i64 0) := hr4.cell 6; have sf : ∀ i, w4.frozen? ⟨w.heap.size, i, none⟩ = false := fun i => hr4.frozen i; have v0 : w4.cell? ⟨w.heap.size + 1, 0, none⟩ = some (.int .i64 1) := he4.cell 0; have v1 : w4.cell? ⟨w.heap.size + 1, 1, none⟩ = some (.int .i64 n) := he4.cell 1; have v2 : w4.cell? ⟨w.heap.size + 1, 2, none⟩ = some (.int .i64 kids) := he4.cell 2; have v3 : w4.cell? ⟨w.heap.size + 1, 3, none⟩ = some (.int .i64 0) := he4.cell 3; have v4 : w4.cell? ⟨w.heap.size + 1, 4, none⟩ = some (.slice none 0 0) := he4.cell 4; have v5 : w4.cell? ⟨w.heap.size + 1, 5, none⟩ = some (.int .i64 0) := he4.cell 5; have v6 : w4.cell? ⟨w.heap.size + 1, 6, none⟩ = some (.int .i64 0) := he4.cell 6; have vf : ∀ i, w4.frozen? ⟨w.heap.size + 1, i, none⟩ = false := fun i => he4.frozen i; have G := Lib.hid (And.intro hown4 (And.intro hk4 (And.intro hs4 (And.intro hr4 he4)))); clear hown4 hk4 hat4 hs4 hr4 he4)
    all_goals
      go_wp2_with fail
      have e2 := HS2.out
      subst e2
      obtain ⟨ho4, hk4, hs4, hr4, he4⟩ := G.out
      obtain ⟨hS7, hr7, hb7, hB7, hev7, hz7, hk07⟩ := HO.out
      have b2 := Bel.keep (Bel.keep hb7 HP.out.2.2.1 hB7 (by simp)) hk4 HP.out.2.2.2.1 (fun x hx => Or.inl (HP.out.1.lt x (by simpa [ownBlocks] using hx)).1)
      have hS4 : StAt B (w4.setCell ⟨sp, 3, none⟩ (.slice a5 (stack.length + 1) c5)) sp ⟨fn, pc, fuel, stack ++ [(kids : Int)], kids, waits⟩ (.slice a5 (stack.length + 1) c5) := by
        refine ⟨H.out.1.1, hs4.set_ 3 _, ?_⟩
        have q := own_ne hs4 ho4 (by decide)
        have := ho4.keep ((Keep.refl [sp] w4).setCell (p := ⟨sp, 3, none⟩) (by simp) (.slice a5 (stack.length + 1) c5)) (fun g hg hx => q g hg (List.mem_singleton.1 hx))
        simpa using this
      have hS5 := hS4.set_ (S' := ⟨fn, pc, fuel, stack ++ [(kids : Int)], kids + 1, waits⟩) (i := 5) (u := .int .i64 (kids + 1 : Nat)) rfl hS4.2.2
      have hS6 := hS5.set_ (S' := ⟨fn, pc + 1, fuel, stack ++ [(kids : Int)], kids + 1, waits⟩) (i := 1) (u := .int .i64 (pc + 1 : Nat)) rfl hS5.2.2
      obtain ⟨F1, F2, D⟩ := fin7 hS6 (((hr4.far (p := ⟨sp, 3, none⟩) (Ne.symm q1) _).far (p := ⟨sp, 5, none⟩) (Ne.symm q1) _).far (p := ⟨sp, 1, none⟩) (Ne.symm q1) _) (bel_set (bel_set (bel_set b2 (Or.inl rfl) _) (Or.inl rfl) _) (Or.inl rfl) _) hB (by have := Nat.le_trans HP.out.2.2.2.1 hk4.size; simpa [World.setCell] using this) (.int .i64 1) (.int .i64 n) (.int .i64 kids) (.int .i64 0) (.slice none 0 0) (.int .i64 0) (.int .i64 0)
      have K1 := (((hk07.mono (T := sp :: ownBlocks (.slice (some ⟨gs, offs, none⟩) stack.length cs)) (by simp)).trans HP.out.2.2.1 (by simp)).trans hk4 (fun x hx => Or.inl (List.mem_cons_of_mem _ hx)))
      have F3 := (((K1.setCell (p := ⟨sp, 3, none⟩) (Or.inl (List.mem_cons_self ..)) (.slice a5 (stack.length + 1) c5)).setCell (p := ⟨sp, 5, none⟩) (Or.inl (List.mem_cons_self ..)) (.int .i64 (kids + 1 : Nat))).setCell (p := ⟨sp, 1, none⟩) (Or.inl (List.mem_cons_self ..)) (.int .i64 (pc + 1 : Nat))).trans (keep7 (g := w.heap.size) (.int .i64 1) (.int .i64 n) (.int .i64 kids) (.int .i64 0) (.slice none 0 0) (.int .i64 0) (.int .i64 0)) (fun x hx => Or.inr (by rw [List.mem_singleton.1 hx]; exact Nat.le_refl _))
      push_cast at F1 F2 F3 D
      have d0 := D.cell 0; have d1 := D.cell 1; have d2 := D.cell 2; have d3 := D.cell 3; have d4 := D.cell 4; have d5 := D.cell 5; have d6 := D.cell 6
      exact bodyPost_ret (v := .tuple #[.agg #[.int .i64 1, .int .i64 n, .int .i64 kids, .int .i64 0, .slice none 0 0, .int .i64 0, .int .i64 0], .bool true]) (by simp [results, Tryd.results109, go_sem, d0, d1, d2, d3, d4, d5, d6]) rfl ⟨⟨_, _, rfl, ⟨0, 0, 0, rfl⟩, F1, F2⟩, F3⟩
theorem spawn_spec (w : World) (B B0 kg sp deep n : Nat) (J : JB) (S : SS) (sv : Value) {f : FN} (hK : KnownAt B0 w kg J) (hB0 : B0 ≤ w.heap.size) (hS : StAt B w sp S sv) (hB : B ≤ w.heap.size) (hc : S.pc ≤ 1000) (hf : J.fs[n]? = some f) (hd : deep < 12) (hk : S.kids < 16) (hlen : S.stack.length ≤ 32) :
    Calls Tryd.prog 109 #[.pointer (some ⟨kg, 0, none⟩), .pointer (some ⟨sp, 0, none⟩), .int .i64 n, .int .i64 deep] w (SpawnPost B sp { S with stack := S.stack ++ [(S.kids : Int)], pc := S.pc + 1, kids := S.kids + 1 } (some (.spawned n S.kids)) sv w) := by
  rcases hS.2.2.2 with ⟨h0, h1⟩ | ⟨g, off, cap, cur, h0, _⟩
  · subst h0
    exact spawn_none w B B0 kg sp deep n J S hK hB0 hS hB hc hf hd hk hlen (List.eq_nil_of_length_eq_zero h1)
  · subst h0
    exact spawn_some w B B0 kg sp deep n J S hK hB0 hS hB hc hf hd hk hlen
end Go.Proofs.YtndpbkhpllmhmaaDoor
