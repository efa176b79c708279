/- The reference's tasks: a step, spawn. The reference's tasks: whichever step. The reference's tasks: a run. The reference's tasks: Begin. The reference's tasks: May, of a task that waits. The reference's tasks: Resume. The reference's evaluation: what 'do' has, plain. A region that draws its order, whose last operation waits for all the others: the others first, in whatever order, then the last one. No program in sight. -/
import Derived.Test.YtndpbkhpllmhmaaDoorRows
import Derived.WalkKit
import Derived.WalkSpells
import Derived.WalkLawsBesides
import Derived.RegionTactic
import Derived.ChangeAlike
import Derived.BigQuiet
import Derived.Deep.QuietTactic
import Derived.StillTailTactics
import Derived.IntWalk
import Derived.Handy
import Derived.Lib.Hide
import Derived.Deep.AppendLies
import Derived.Deep.RegionWith
import Derived.Test.YtndpbkhpllmhmaaDoorMSAA
import Derived.Test.YtndpbkhpllmhmaaDoorMSAB
import Derived.Carry
import Derived.Deep.RegionHeld3
import Derived.BigRegion
import Derived.Maps.OwnSet
import Derived.Maps.Views
import Derived.Maps.StringElems
import Derived.Test.YtndpbkhpllmhmaaDoorMSAC
import Derived.Test.YtndpbkhpllmhmaaDoorMSAE
import Derived.Test.YtndpbkhpllmhmaaDoorMSAD
import Derived.StillTail
namespace Go.Proofs.YtndpbkhpllmhmaaDoor
set_option linter.unusedSimpArgs false
set_option linter.unnecessarySimpa false
set_option linter.unusedVariables false
open Go.RowKit
set_option maxHeartbeats 6400000 in
set_option maxRecDepth 100000 in
theorem step_spawn1 (w : World) (B B0 kg sp deep : Nat) (J : JB) (S : SS) (sv : Value) {l : List Int} {x : Int} {n : Nat} {fx : FN} (hK : KnownAt B0 w kg J) (hB0 : B0 ≤ w.heap.size) (hS : StAt B w sp S sv) (hB : B ≤ w.heap.size) (hc : S.pc ≤ 1000) (hat : J.at_ S ⟨16, n⟩) (hl : S.stack = l ++ [x]) (hlen : S.stack.length ≤ 32) (hfn : J.fs[n]? = some fx) (hdeep : deep < 12) (hkk : S.kids < 16) :
    Calls Tryd.prog 90 #[.pointer (some ⟨kg, 0, none⟩), .pointer (some ⟨sp, 0, none⟩), .int .i64 deep] w (StepPost B sp { S with stack := S.stack ++ [(S.kids : Int)], pc := S.pc + 1, kids := S.kids + 1 } (some (.spawned n S.kids)) w) := by
  have hKn := hK
  obtain ⟨fv, dv, hg, hblk, hfs, _⟩ := hK
  obtain ⟨hBs, hsb, hown⟩ := hS
  obtain ⟨f, hf, hi⟩ := hat
  obtain ⟨fn, pc, fuel, stack, kids, waits⟩ := S
  simp only at hsb hown hi hf hc hlen hl hkk ⊢
  subst hl
  obtain ⟨af, cf, rfl⟩ := hfs.shape
  obtain ⟨b, off, cv, rfl, hb, f0, f1, f2, f3, hcode⟩ := hfs.fn hf
  obtain ⟨a3, c3, rfl⟩ := hcode.shape
  obtain ⟨b7, off7, rfl, hb7, g0, g1⟩ := hcode.at_ hi
  simp only at g0 g1
  have k0 : w.cell? ⟨kg, 0, none⟩ = some (.slice (some ⟨b, off, none⟩) J.fs.length cf) := hblk.cell 0
  have l1 : fn < J.fs.length := (List.getElem?_eq_some_iff.1 hf).1
  have l2 : pc < f.code.length := (List.getElem?_eq_some_iff.1 hi).1
  have i1 : (fn : Int) < (J.fs.length : Int) := by omega
  have i2 : (pc : Int) < (f.code.length : Int) := by omega
  have n1 : (0 : Int) ≤ (fn : Int) := by omega
  have n2 : (0 : Int) ≤ (pc : Int) := by omega
  have i3 : (pc : Int) ≤ 1000000 := by omega
  have hbw : b < w.heap.size := by omega
  have hb7w : b7 < w.heap.size := by omega
  have hgw : kg < w.heap.size := by omega
  have hspw : sp < w.heap.size := hsb.lt
  have ln : (l ++ [x]).length = l.length + 1 := by simp
  obtain ⟨gs, offs, cs, rfl, hcap, _, hBg, hgs, hcell⟩ := hown.form (by rw [ln]; omega)
  have hne := own_ne hsb hown (by decide) gs rfl
  have t0 : w.cell? ⟨gs, offs + l.length, none⟩ = some (.int .i64 x) := hcell l.length _ (by simp)
  have hll : (l.length : Int) ≤ 32 := by simp at hlen; omega
  have tf : ∀ i, w.frozen? ⟨gs, i, none⟩ = false := fun i => hown.free i
  rw [ln] at hsb hown
  have z0 : w.cell? ⟨sp, 0, none⟩ = some (.int .i64 fn) := hsb.cell 0
  have z1 : w.cell? ⟨sp, 1, none⟩ = some (.int .i64 pc) := hsb.cell 1
  have z2 : w.cell? ⟨sp, 2, none⟩ = some (.int .i64 fuel) := hsb.cell 2
  have z3 : w.cell? ⟨sp, 3, none⟩ = some (.slice (some ⟨gs, offs, none⟩) (l.length + 1) cs) := hsb.cell 3
  have z4 : w.cell? ⟨sp, 4, none⟩ = some (.slice none 0 0) := hsb.cell 4
  have z5 : w.cell? ⟨sp, 5, none⟩ = some (.int .i64 kids) := hsb.cell 5
  have z6 : w.cell? ⟨sp, 6, none⟩ = some (.bool waits) := hsb.cell 6
  have zf : ∀ i, w.frozen? ⟨sp, i, none⟩ = false := fun i => hsb.frozen i
  have H := Lib.hid (And.intro (show StAt B w sp ⟨fn, pc, fuel, l ++ [x], kids, waits⟩ (.slice (some ⟨gs, offs, none⟩) (l.length + 1) cs) from ⟨hBs, hsb, by simpa using hown⟩) hlen)
  clear hBs hsb hown hblk hfs hcode hf hi hb hb7 hg f0 f1 f2
  generalize hS2 : ({ (⟨fn, pc, fuel, l ++ [x], kids, waits⟩ : SS) with stack := (l ++ [x]) ++ [(kids : Int)], pc := pc + 1, kids := kids + 1 } : SS) = S2
  have HS2 := Lib.hid hS2
  clear hS2
  go_enter Tryd.func90, Tryd.ntmps90
  go_upto_region 1 with fail
  go_region
  have hk0 : Keep [] w (((w.alloc (.cells #[.int .i64 0, .int .i64 0, .int .i64 0, .int .i64 0, .slice none 0 0, .int .i64 0, .int .i64 0] 138)).alloc (.cells #[.int .i64 16, .int .i64 n] 67)).drew) := ((((Keep.refl [] w).alloc _).alloc _)).drew
  have hr0 := ((((Blk.new' w 138 #[.int .i64 0, .int .i64 0, .int .i64 0, .int .i64 0, .slice none 0 0, .int .i64 0, .int .i64 0] [.int .i64 0, .int .i64 0, .int .i64 0, .int .i64 0, .slice none 0 0, .int .i64 0, .int .i64 0] rfl).alloc (.cells #[.int .i64 16, .int .i64 n] 67)).drew))
  have hnr : w.heap.size ∉ sp :: ownBlocks (.slice (some ⟨gs, offs, none⟩) (l.length + 1) cs) := by
    intro h
    rcases List.mem_cons.1 h with h | h
    · omega
    · have := (H.out.1.2.2.lt w.heap.size (by simpa [ownBlocks] using h)).2; omega
  have HO := Lib.hid (And.intro hk0 (And.intro hr0 hnr))
  clear hk0 hr0 hnr
  go_wp2_with fail
  have hsz : w.heap.size ≤ (((w.alloc (.cells #[.int .i64 0, .int .i64 0, .int .i64 0, .int .i64 0, .slice none 0 0, .int .i64 0, .int .i64 0] 138)).alloc (.cells #[.int .i64 16, .int .i64 n] 67)).drew).heap.size := HO.out.1.size
  refine (spawn_spec (((w.alloc (.cells #[.int .i64 0, .int .i64 0, .int .i64 0, .int .i64 0, .slice none 0 0, .int .i64 0, .int .i64 0] 138)).alloc (.cells #[.int .i64 16, .int .i64 n] 67)).drew) B B0 kg sp deep n J ⟨fn, pc, fuel, (l ++ [x]), kids, waits⟩ (.slice (some ⟨gs, offs, none⟩) (l.length + 1) cs) (hKn.below (below_of HO.out.1 hB0)) (Nat.le_trans hB0 hsz) (H.out.1.keep HO.out.1 (by simp)) (Nat.le_trans hB hsz) hc hfn hdeep hkk H.out.2).mono ?_
  rintro e w2 ⟨⟨v, sv2, rfl, ⟨nn, ex, ey, rfl⟩, hS2, hb2⟩, hk2⟩
  have hr := HO.out.2.1.keep hk2 HO.out.2.2
  have r0 : w2.cell? ⟨w.heap.size, 0, none⟩ = some (.int .i64 0) := hr.cell 0
  have r1 : w2.cell? ⟨w.heap.size, 1, none⟩ = some (.int .i64 0) := hr.cell 1
  have r2 : w2.cell? ⟨w.heap.size, 2, none⟩ = some (.int .i64 0) := hr.cell 2
  have r3 : w2.cell? ⟨w.heap.size, 3, none⟩ = some (.int .i64 0) := hr.cell 3
  have r4 : w2.cell? ⟨w.heap.size, 4, none⟩ = some (.slice none 0 0) := hr.cell 4
  have r5 : w2.cell? ⟨w.heap.size, 5, none⟩ = some (.int .i64 0) := hr.cell 5
  have r6 : w2.cell? ⟨w.heap.size, 6, none⟩ = some (.int .i64 0) := hr.cell 6
  have rf : ∀ i, w2.frozen? ⟨w.heap.size, i, none⟩ = false := fun i => hr.frozen i
  have hBw2 : B ≤ w2.heap.size := Nat.le_trans (Nat.le_trans hB hsz) hk2.size
  have hb3 := (Bel.keep (Bel.refl B sp w) HO.out.1 hB (by simp)).trans hb2
  obtain ⟨F1, F2, D⟩ := fin7 hS2 hr hb3 hB hBw2 (.int .i64 1) (.int .i64 n) (.int .i64 kids) (.int .i64 nn) (.slice none 0 0) (.int .i64 ex) (.int .i64 ey)
  have d0 := D.cell 0; have d1 := D.cell 1; have d2 := D.cell 2; have d3 := D.cell 3; have d4 := D.cell 4; have d5 := D.cell 5; have d6 := D.cell 6
  have F := Lib.hid (And.intro d0 (And.intro d1 (And.intro d2 (And.intro d3 (And.intro d4 (And.intro d5 (And.intro d6 (And.intro F1 F2))))))))
  clear hr D hk2 hS2 hb2 hb3 d0 d1 d2 d3 d4 d5 d6 F1 F2 hsz
  go_wp2_with fail
  obtain ⟨d0, d1, d2, d3, d4, d5, d6, F1, F2⟩ := F.out
  have e2 := HS2.out
  subst e2
  exact bodyPost_ret (v := .tuple #[.agg #[.int .i64 1, .int .i64 n, .int .i64 kids, .int .i64 nn, .slice none 0 0, .int .i64 ex, .int .i64 ey], .bool true]) (by simp [results, Tryd.results90, go_sem, d0, d1, d2, d3, d4, d5, d6]) rfl ⟨_, _, rfl, ⟨nn, ex, ey, rfl⟩, F1, F2⟩
set_option maxHeartbeats 6400000 in
set_option maxRecDepth 100000 in
theorem step_spawn0 (w : World) (B B0 kg sp deep : Nat) (J : JB) (S : SS) (sv : Value) {n : Nat} {fx : FN} (hK : KnownAt B0 w kg J) (hB0 : B0 ≤ w.heap.size) (hS : StAt B w sp S sv) (hB : B ≤ w.heap.size) (hc : S.pc ≤ 1000) (hat : J.at_ S ⟨16, n⟩) (hl : S.stack = []) (hlen : S.stack.length ≤ 32) (hfn : J.fs[n]? = some fx) (hdeep : deep < 12) (hkk : S.kids < 16) :
    Calls Tryd.prog 90 #[.pointer (some ⟨kg, 0, none⟩), .pointer (some ⟨sp, 0, none⟩), .int .i64 deep] w (StepPost B sp { S with stack := S.stack ++ [(S.kids : Int)], pc := S.pc + 1, kids := S.kids + 1 } (some (.spawned n S.kids)) w) := by
  have hKn := hK
  obtain ⟨fv, dv, hg, hblk, hfs, _⟩ := hK
  obtain ⟨hBs, hsb, hown⟩ := hS
  obtain ⟨f, hf, hi⟩ := hat
  obtain ⟨fn, pc, fuel, stack, kids, waits⟩ := S
  simp only at hsb hown hi hf hc hlen hl hkk ⊢
  subst hl
  obtain ⟨af, cf, rfl⟩ := hfs.shape
  obtain ⟨b, off, cv, rfl, hb, f0, f1, f2, f3, hcode⟩ := hfs.fn hf
  obtain ⟨a3, c3, rfl⟩ := hcode.shape
  obtain ⟨b7, off7, rfl, hb7, g0, g1⟩ := hcode.at_ hi
  simp only at g0 g1
  have k0 : w.cell? ⟨kg, 0, none⟩ = some (.slice (some ⟨b, off, none⟩) J.fs.length cf) := hblk.cell 0
  have l1 : fn < J.fs.length := (List.getElem?_eq_some_iff.1 hf).1
  have l2 : pc < f.code.length := (List.getElem?_eq_some_iff.1 hi).1
  have i1 : (fn : Int) < (J.fs.length : Int) := by omega
  have i2 : (pc : Int) < (f.code.length : Int) := by omega
  have n1 : (0 : Int) ≤ (fn : Int) := by omega
  have n2 : (0 : Int) ≤ (pc : Int) := by omega
  have i3 : (pc : Int) ≤ 1000000 := by omega
  have hbw : b < w.heap.size := by omega
  have hb7w : b7 < w.heap.size := by omega
  have hgw : kg < w.heap.size := by omega
  have hspw : sp < w.heap.size := hsb.lt
  obtain ⟨gs, cs, rfl⟩ : ∃ gs cs, sv = .slice gs 0 cs := hown.shape
  have z0 : w.cell? ⟨sp, 0, none⟩ = some (.int .i64 fn) := hsb.cell 0
  have z1 : w.cell? ⟨sp, 1, none⟩ = some (.int .i64 pc) := hsb.cell 1
  have z2 : w.cell? ⟨sp, 2, none⟩ = some (.int .i64 fuel) := hsb.cell 2
  have z3 : w.cell? ⟨sp, 3, none⟩ = some (.slice gs 0 cs) := hsb.cell 3
  have z4 : w.cell? ⟨sp, 4, none⟩ = some (.slice none 0 0) := hsb.cell 4
  have z5 : w.cell? ⟨sp, 5, none⟩ = some (.int .i64 kids) := hsb.cell 5
  have z6 : w.cell? ⟨sp, 6, none⟩ = some (.bool waits) := hsb.cell 6
  have zf : ∀ i, w.frozen? ⟨sp, i, none⟩ = false := fun i => hsb.frozen i
  have H := Lib.hid (And.intro (show StAt B w sp ⟨fn, pc, fuel, [], kids, waits⟩ (.slice gs 0 cs) from ⟨hBs, hsb, by simpa using hown⟩) hlen)
  clear hBs hsb hown hblk hfs hcode hf hi hb hb7 hg f0 f1 f2
  generalize hS2 : ({ (⟨fn, pc, fuel, [], kids, waits⟩ : SS) with stack := ([]) ++ [(kids : Int)], pc := pc + 1, kids := kids + 1 } : SS) = S2
  have HS2 := Lib.hid hS2
  clear hS2
  go_enter Tryd.func90, Tryd.ntmps90
  go_upto_region 1 with fail
  go_region
  have hk0 : Keep [] w (((w.alloc (.cells #[.int .i64 0, .int .i64 0, .int .i64 0, .int .i64 0, .slice none 0 0, .int .i64 0, .int .i64 0] 138)).alloc (.cells #[.int .i64 16, .int .i64 n] 67)).drew) := ((((Keep.refl [] w).alloc _).alloc _)).drew
  have hr0 := ((((Blk.new' w 138 #[.int .i64 0, .int .i64 0, .int .i64 0, .int .i64 0, .slice none 0 0, .int .i64 0, .int .i64 0] [.int .i64 0, .int .i64 0, .int .i64 0, .int .i64 0, .slice none 0 0, .int .i64 0, .int .i64 0] rfl).alloc (.cells #[.int .i64 16, .int .i64 n] 67)).drew))
  have hnr : w.heap.size ∉ sp :: ownBlocks (.slice gs 0 cs) := by
    intro h
    rcases List.mem_cons.1 h with h | h
    · omega
    · have := (H.out.1.2.2.lt w.heap.size (by simpa [ownBlocks] using h)).2; omega
  have HO := Lib.hid (And.intro hk0 (And.intro hr0 hnr))
  clear hk0 hr0 hnr
  go_wp2_with fail
  have hsz : w.heap.size ≤ (((w.alloc (.cells #[.int .i64 0, .int .i64 0, .int .i64 0, .int .i64 0, .slice none 0 0, .int .i64 0, .int .i64 0] 138)).alloc (.cells #[.int .i64 16, .int .i64 n] 67)).drew).heap.size := HO.out.1.size
  refine (spawn_spec (((w.alloc (.cells #[.int .i64 0, .int .i64 0, .int .i64 0, .int .i64 0, .slice none 0 0, .int .i64 0, .int .i64 0] 138)).alloc (.cells #[.int .i64 16, .int .i64 n] 67)).drew) B B0 kg sp deep n J ⟨fn, pc, fuel, [], kids, waits⟩ (.slice gs 0 cs) (hKn.below (below_of HO.out.1 hB0)) (Nat.le_trans hB0 hsz) (H.out.1.keep HO.out.1 (by simp)) (Nat.le_trans hB hsz) hc hfn hdeep hkk H.out.2).mono ?_
  rintro e w2 ⟨⟨v, sv2, rfl, ⟨nn, ex, ey, rfl⟩, hS2, hb2⟩, hk2⟩
  have hr := HO.out.2.1.keep hk2 HO.out.2.2
  have r0 : w2.cell? ⟨w.heap.size, 0, none⟩ = some (.int .i64 0) := hr.cell 0
  have r1 : w2.cell? ⟨w.heap.size, 1, none⟩ = some (.int .i64 0) := hr.cell 1
  have r2 : w2.cell? ⟨w.heap.size, 2, none⟩ = some (.int .i64 0) := hr.cell 2
  have r3 : w2.cell? ⟨w.heap.size, 3, none⟩ = some (.int .i64 0) := hr.cell 3
  have r4 : w2.cell? ⟨w.heap.size, 4, none⟩ = some (.slice none 0 0) := hr.cell 4
  have r5 : w2.cell? ⟨w.heap.size, 5, none⟩ = some (.int .i64 0) := hr.cell 5
  have r6 : w2.cell? ⟨w.heap.size, 6, none⟩ = some (.int .i64 0) := hr.cell 6
  have rf : ∀ i, w2.frozen? ⟨w.heap.size, i, none⟩ = false := fun i => hr.frozen i
  have hBw2 : B ≤ w2.heap.size := Nat.le_trans (Nat.le_trans hB hsz) hk2.size
  have hb3 := (Bel.keep (Bel.refl B sp w) HO.out.1 hB (by simp)).trans hb2
  obtain ⟨F1, F2, D⟩ := fin7 hS2 hr hb3 hB hBw2 (.int .i64 1) (.int .i64 n) (.int .i64 kids) (.int .i64 nn) (.slice none 0 0) (.int .i64 ex) (.int .i64 ey)
  have d0 := D.cell 0; have d1 := D.cell 1; have d2 := D.cell 2; have d3 := D.cell 3; have d4 := D.cell 4; have d5 := D.cell 5; have d6 := D.cell 6
  have F := Lib.hid (And.intro d0 (And.intro d1 (And.intro d2 (And.intro d3 (And.intro d4 (And.intro d5 (And.intro d6 (And.intro F1 F2))))))))
  clear hr D hk2 hS2 hb2 hb3 d0 d1 d2 d3 d4 d5 d6 F1 F2 hsz
  go_wp2_with fail
  obtain ⟨d0, d1, d2, d3, d4, d5, d6, F1, F2⟩ := F.out
  have e2 := HS2.out
  subst e2
  exact bodyPost_ret (v := .tuple #[.agg #[.int .i64 1, .int .i64 n, .int .i64 kids, .int .i64 nn, .slice none 0 0, .int .i64 ex, .int .i64 ey], .bool true]) (by simp [results, Tryd.results90, go_sem, d0, d1, d2, d3, d4, d5, d6]) rfl ⟨_, _, rfl, ⟨nn, ex, ey, rfl⟩, F1, F2⟩
end Go.Proofs.YtndpbkhpllmhmaaDoor
namespace Go.Proofs.YtndpbkhpllmhmaaDoor
set_option linter.unusedSimpArgs false
set_option linter.unnecessarySimpa false
set_option linter.unusedVariables false
open Go.RowKit
theorem StepR.at_ {J : JB} {deep : Nat} {S S' : SS} {o : Option EV} (h : StepR J deep S S' o) : ∃ i, J.at_ S i := by
  cases h <;> exact ⟨_, by assumption⟩
theorem step_any (w : World) (B B0 kg sp deep : Nat) (J : JB) (S S' : SS) (oev : Option EV) (sv : Value) (hK : KnownAt B0 w kg J) (hB0 : B0 ≤ w.heap.size) (hS : StAt B w sp S sv) (hB : B ≤ w.heap.size) (hc : S.pc ≤ 1000) (hlen : S.stack.length ≤ 32) (hR : StepR J deep S S' oev) :
    Calls Tryd.prog 90 #[.pointer (some ⟨kg, 0, none⟩), .pointer (some ⟨sp, 0, none⟩), .int .i64 deep] w (StepPost B sp S' oev w) := by
  cases hR with
  | push h =>
    rcases List.eq_nil_or_concat S.stack with h0 | ⟨l, x, h0⟩
    · exact step_push0 w B B0 kg sp deep J S sv hK hB0 hS hB hc h h0 hlen
    · exact step_push1 w B B0 kg sp deep J S sv hK hB0 hS hB hc h (by simpa using h0) hlen
  | swap h h0 => exact step_swap w B B0 kg sp deep J S sv hK hB0 hS hB hc h h0 hlen
  | add h h0 h1 h2 h3 h4 => exact step_add w B B0 kg sp deep J S sv hK hB0 hS hB hc h h0 hlen h1 h2 h3 h4
  | spawn h hf hd hk =>
    rcases List.eq_nil_or_concat S.stack with h0 | ⟨l, x, h0⟩
    · exact step_spawn0 w B B0 kg sp deep J S sv hK hB0 hS hB hc h h0 hlen hf hd hk
    · exact step_spawn1 w B B0 kg sp deep J S sv hK hB0 hS hB hc h (by simpa using h0) hlen hf hd hk
  | await h h0 hk => exact step_await w B B0 kg sp deep J S sv hK hB0 hS hB hc h h0 hlen hk
  | ret h h0 => exact step_ret w B B0 kg sp deep J S sv hK hB0 hS hB hc h h0 hlen
end Go.Proofs.YtndpbkhpllmhmaaDoor
namespace Go.Proofs.YtndpbkhpllmhmaaDoor
set_option linter.unusedSimpArgs false
set_option linter.unnecessarySimpa false
set_option linter.unusedVariables false
open Go.RowKit
theorem OwnsAt.lower {w : World} {B B' : Nat} {e : TypeId} {size n : Nat} {v : Value} {xs : List Value} (h : OwnsAt w B e size v n xs) (hB : B' ≤ B) : OwnsAt w B' e size v n xs := by
  obtain ⟨h1, h2⟩ := h
  refine ⟨h1, ?_⟩
  rcases h2 with h2 | ⟨g, off, cap, cur, h3, h4, h5⟩
  · exact Or.inl h2
  · exact Or.inr ⟨g, off, cap, cur, h3, Nat.le_trans hB h4, h5⟩
theorem keep_bel {B sp : Nat} {w a b : World} (h : Keep [] w a) (k : Bel B sp a b) (h1 : w.heap.size ≤ B) (h2 : w.heap.size ≤ sp) : Keep [] w b :=
  ⟨k.os.trans h.os, k.tape.trans h.tape, k.output.trans h.output, Nat.le_trans h.size k.size, fun i hi _ => (k.block i (by omega) (by omega)).trans (h.block i hi (by simp))⟩
theorem Blk.bel {B sp g : Nat} {w w' : World} {t : TypeId} {cs : List Value} (h : Blk w g t cs) (k : Bel B sp w w') (h1 : g < B) (h2 : g ≠ sp) : Blk w' g t cs := (k.block g h1 h2).trans h
theorem run_cases {J : JB} {deep m : Nat} {S S' : SS} {ev : EV} (h : RunR J deep m S S' ev) : S.fuel < J.fuel ∧ S.stack.length ≤ 32 ∧ ∃ S2 o, StepR J deep { S with fuel := S.fuel + 1 } S2 o ∧ ((o = some ev ∧ S2 = S' ∧ 1 ≤ m) ∨ (o = none ∧ ∃ m2, m = m2 + 1 ∧ RunR J deep m2 S2 S' ev)) := by
  cases h with
  | last h1 h2 h3 => exact ⟨h1, h2, _, _, h3, Or.inl ⟨rfl, rfl, Nat.le_refl _⟩⟩
  | more h1 h2 h3 h4 => exact ⟨h1, h2, _, _, h3, Or.inr ⟨rfl, _, rfl, h4⟩⟩
theorem ev_agg {v : Value} {ev : EV} (h : EventIs v ev) : ∃ a b c n x y : Int, v = .agg #[.int .i64 a, .int .i64 b, .int .i64 c, .int .i64 n, .slice none 0 0, .int .i64 x, .int .i64 y] ∧ ∀ n' : Int, EventIs (.agg #[.int .i64 a, .int .i64 b, .int .i64 c, .int .i64 n', .slice none 0 0, .int .i64 x, .int .i64 y]) ev := by
  cases ev with
  | spawned f k => obtain ⟨n, x, y, rfl⟩ := h; exact ⟨_, _, _, _, _, _, rfl, fun n' => ⟨n', x, y, rfl⟩⟩
  | waiting k => obtain ⟨f, n, x, y, rfl⟩ := h; exact ⟨_, _, _, _, _, _, rfl, fun n' => ⟨f, n', x, y, rfl⟩⟩
  | ended r => obtain ⟨f, k, n, rfl⟩ := h; exact ⟨_, _, _, _, _, _, rfl, fun n' => ⟨f, k, n', rfl⟩⟩
theorem at_pc {J : JB} {S : SS} {i : IN} (hJ : ∀ f ∈ J.fs, f.code.length ≤ 1000) (h : J.at_ S i) : S.pc ≤ 1000 := by
  obtain ⟨f, h1, h2⟩ := h
  have := hJ f (List.mem_of_getElem? h1)
  have := (List.getElem?_eq_some_iff.1 h2).1
  omega
def RunPost (S' : SS) (ev : EV) (w : World) (e : Ending) (w' : World) : Prop :=
  ∃ sv ve, e = .returned (.tuple #[stV6 S' sv, ve]) ∧ EventIs ve ev ∧ StateIs w.heap.size w' (stV6 S' sv) S' ∧ Keep [] w w'
set_option maxHeartbeats 6400000 in
set_option maxRecDepth 100000 in
theorem run_spec (w : World) (B0 B2 kg deep : Nat) (J : JB) (S : SS) (v : Value) (hK : KnownAt B0 w kg J) (hB0 : B0 ≤ w.heap.size) (hS : StateIs B2 w v S) (hM : MayR J S) (hw : S.waits = false) {m : Nat} {S' : SS} {ev : EV} (hR : RunR J deep m S S' ev) (hm : m ≤ 6000) (hJ : ∀ f ∈ J.fs, f.code.length ≤ 1000) (hfu : J.fuel ≤ 5000) :
    Calls Tryd.prog 70 #[.pointer (some ⟨kg, 0, none⟩), v, .int .i64 deep, .int .i64 6000] w (RunPost S' ev w) := by
  obtain ⟨sv, rfl, hst, hsx⟩ := hS
  have HM := Lib.hid hM
  have hlen := hM.len
  have hfl : S.fuel ≤ 5000 := Nat.le_trans hM.fuel hfu
  obtain ⟨fn, pc, fuel, stack, kids, waits⟩ := S
  simp only at hst hw hlen hfl HM
  subst hw
  have hk1 : Keep [] w (((w.alloc (.cells #[.int .i64 fn, .int .i64 pc, .int .i64 fuel, sv, .slice none 0 0, .int .i64 kids, .bool false] 133)).alloc (.cells #[.int .i64 0, .int .i64 0, .int .i64 0, .slice none 0 0, .slice none 0 0, .int .i64 0, .bool false] 133)).alloc (.cells #[.int .i64 0, .int .i64 0, .int .i64 0, .int .i64 0, .slice none 0 0, .int .i64 0, .int .i64 0] 138)) := (((Keep.refl [] w).alloc _).alloc _).alloc _
  have hKn := hK.below (below_of hk1 hB0)
  have hS1 : StateIs 0 (((w.alloc (.cells #[.int .i64 fn, .int .i64 pc, .int .i64 fuel, sv, .slice none 0 0, .int .i64 kids, .bool false] 133)).alloc (.cells #[.int .i64 0, .int .i64 0, .int .i64 0, .slice none 0 0, .slice none 0 0, .int .i64 0, .bool false] 133)).alloc (.cells #[.int .i64 0, .int .i64 0, .int .i64 0, .int .i64 0, .slice none 0 0, .int .i64 0, .int .i64 0] 138)) (stV6 ⟨fn, pc, fuel, stack, kids, false⟩ sv) ⟨fn, pc, fuel, stack, kids, false⟩ := ⟨sv, rfl, hst.keep hk1 (by simp), fun _ _ => Nat.zero_le _⟩
  have b0 : Blk (((w.alloc (.cells #[.int .i64 fn, .int .i64 pc, .int .i64 fuel, sv, .slice none 0 0, .int .i64 kids, .bool false] 133)).alloc (.cells #[.int .i64 0, .int .i64 0, .int .i64 0, .slice none 0 0, .slice none 0 0, .int .i64 0, .bool false] 133)).alloc (.cells #[.int .i64 0, .int .i64 0, .int .i64 0, .int .i64 0, .slice none 0 0, .int .i64 0, .int .i64 0] 138)) w.heap.size 133 [.int .i64 fn, .int .i64 pc, .int .i64 fuel, sv, .slice none 0 0, .int .i64 kids, .bool false] := ((Blk.new' w 133 #[.int .i64 fn, .int .i64 pc, .int .i64 fuel, sv, .slice none 0 0, .int .i64 kids, .bool false] [.int .i64 fn, .int .i64 pc, .int .i64 fuel, sv, .slice none 0 0, .int .i64 kids, .bool false] rfl).alloc _).alloc _
  have b1 : Blk (((w.alloc (.cells #[.int .i64 fn, .int .i64 pc, .int .i64 fuel, sv, .slice none 0 0, .int .i64 kids, .bool false] 133)).alloc (.cells #[.int .i64 0, .int .i64 0, .int .i64 0, .slice none 0 0, .slice none 0 0, .int .i64 0, .bool false] 133)).alloc (.cells #[.int .i64 0, .int .i64 0, .int .i64 0, .int .i64 0, .slice none 0 0, .int .i64 0, .int .i64 0] 138)) (w.heap.size + 1) 133 [.int .i64 0, .int .i64 0, .int .i64 0, .slice none 0 0, .slice none 0 0, .int .i64 0, .bool false] := by
    have := (Blk.new' (w.alloc (.cells #[.int .i64 fn, .int .i64 pc, .int .i64 fuel, sv, .slice none 0 0, .int .i64 kids, .bool false] 133)) 133 #[.int .i64 0, .int .i64 0, .int .i64 0, .slice none 0 0, .slice none 0 0, .int .i64 0, .bool false] [.int .i64 0, .int .i64 0, .int .i64 0, .slice none 0 0, .slice none 0 0, .int .i64 0, .bool false] rfl).alloc (.cells #[.int .i64 0, .int .i64 0, .int .i64 0, .int .i64 0, .slice none 0 0, .int .i64 0, .int .i64 0] 138)
    simpa using this
  have b2 : Blk (((w.alloc (.cells #[.int .i64 fn, .int .i64 pc, .int .i64 fuel, sv, .slice none 0 0, .int .i64 kids, .bool false] 133)).alloc (.cells #[.int .i64 0, .int .i64 0, .int .i64 0, .slice none 0 0, .slice none 0 0, .int .i64 0, .bool false] 133)).alloc (.cells #[.int .i64 0, .int .i64 0, .int .i64 0, .int .i64 0, .slice none 0 0, .int .i64 0, .int .i64 0] 138)) (w.heap.size + 2) 138 [.int .i64 0, .int .i64 0, .int .i64 0, .int .i64 0, .slice none 0 0, .int .i64 0, .int .i64 0] := by
    have := Blk.new' ((w.alloc (.cells #[.int .i64 fn, .int .i64 pc, .int .i64 fuel, sv, .slice none 0 0, .int .i64 kids, .bool false] 133)).alloc (.cells #[.int .i64 0, .int .i64 0, .int .i64 0, .slice none 0 0, .slice none 0 0, .int .i64 0, .bool false] 133)) 138 #[.int .i64 0, .int .i64 0, .int .i64 0, .int .i64 0, .slice none 0 0, .int .i64 0, .int .i64 0] [.int .i64 0, .int .i64 0, .int .i64 0, .int .i64 0, .slice none 0 0, .int .i64 0, .int .i64 0] rfl
    simpa using this
  have hz1 : (((w.alloc (.cells #[.int .i64 fn, .int .i64 pc, .int .i64 fuel, sv, .slice none 0 0, .int .i64 kids, .bool false] 133)).alloc (.cells #[.int .i64 0, .int .i64 0, .int .i64 0, .slice none 0 0, .slice none 0 0, .int .i64 0, .bool false] 133)).alloc (.cells #[.int .i64 0, .int .i64 0, .int .i64 0, .int .i64 0, .slice none 0 0, .int .i64 0, .int .i64 0] 138)).heap.size = w.heap.size + 3 := by simp
  have HA := Lib.hid (And.intro hk1 (And.intro hKn (And.intro hS1 (And.intro b0 (And.intro b1 (And.intro b2 hz1))))))
  have hKO := Lib.hid hK
  have HR := Lib.hid hR
  have HJ := Lib.hid hJ
  clear hk1 hKn hS1 b0 b1 b2 hz1 hK hst hsx hM hR hJ
  unfold stV6
  simp only
  go_enter Tryd.func70, Tryd.ntmps70
  go_wp2_with fail
  generalize ((w.alloc (.cells #[.int .i64 fn, .int .i64 pc, .int .i64 fuel, sv, .slice none 0 0, .int .i64 kids, .bool false] 133)).alloc (.cells #[.int .i64 0, .int .i64 0, .int .i64 0, .slice none 0 0, .slice none 0 0, .int .i64 0, .bool false] 133)).alloc (.cells #[.int .i64 0, .int .i64 0, .int .i64 0, .int .i64 0, .slice none 0 0, .int .i64 0, .int .i64 0] 138) = w1 at *
  refine (may_run w1 B0 0 kg J ⟨fn, pc, fuel, stack, kids, false⟩ _ HA.out.2.1 HA.out.2.2.1 HM.out (Nat.le_trans hB0 HA.out.1.size) rfl).mono ?_
  rintro e w2 ⟨rfl, hk2⟩
  have hb0 := HA.out.2.2.2.1.keep hk2 (by simp)
  have a0 : w2.cell? ⟨w.heap.size, 0, none⟩ = some (.int .i64 fn) := hb0.cell 0
  have a1 : w2.cell? ⟨w.heap.size, 1, none⟩ = some (.int .i64 pc) := hb0.cell 1
  have a2 : w2.cell? ⟨w.heap.size, 2, none⟩ = some (.int .i64 fuel) := hb0.cell 2
  have a3 : w2.cell? ⟨w.heap.size, 3, none⟩ = some (sv) := hb0.cell 3
  have a4 : w2.cell? ⟨w.heap.size, 4, none⟩ = some (.slice none 0 0) := hb0.cell 4
  have a5 : w2.cell? ⟨w.heap.size, 5, none⟩ = some (.int .i64 kids) := hb0.cell 5
  have a6 : w2.cell? ⟨w.heap.size, 6, none⟩ = some (.bool false) := hb0.cell 6
  have af : ∀ i, w2.frozen? ⟨w.heap.size, i, none⟩ = false := fun i => hb0.frozen i
  have HB := Lib.hid hk2
  clear hk2 hb0
  go_wp2_with fail
  refine (copied_own w2 (stV6 ⟨fn, pc, fuel, stack, kids, false⟩ sv) ⟨fn, pc, fuel, stack, kids, false⟩ 0 (by obtain ⟨sv', h1, h2, h3⟩ := HA.out.2.2.1; exact ⟨sv', h1, h2.keep HB.out (by simp), h3⟩) hlen).mono ?_
  rintro e w3 ⟨sv2, rfl, ho3, hk3⟩
  obtain ⟨s2a, s2c, rfl⟩ := ho3.shape
  have hb0 := (HA.out.2.2.2.1.keep HB.out (by simp)).keep hk3 (by simp)
  have c0 : w3.cell? ⟨w.heap.size, 0, none⟩ = some (.int .i64 fn) := hb0.cell 0
  have c1 : w3.cell? ⟨w.heap.size, 1, none⟩ = some (.int .i64 pc) := hb0.cell 1
  have c2 : w3.cell? ⟨w.heap.size, 2, none⟩ = some (.int .i64 fuel) := hb0.cell 2
  have c3 : w3.cell? ⟨w.heap.size, 3, none⟩ = some (sv) := hb0.cell 3
  have c4 : w3.cell? ⟨w.heap.size, 4, none⟩ = some (.slice none 0 0) := hb0.cell 4
  have c5 : w3.cell? ⟨w.heap.size, 5, none⟩ = some (.int .i64 kids) := hb0.cell 5
  have c6 : w3.cell? ⟨w.heap.size, 6, none⟩ = some (.bool false) := hb0.cell 6
  have cf : ∀ i, w3.frozen? ⟨w.heap.size, i, none⟩ = false := fun i => hb0.frozen i
  have HC := Lib.hid (And.intro ho3 hk3)
  clear ho3 hk3 hb0 a0 a1 a2 a3 a4 a5 a6 af
  have hzz : w.heap.size + 3 ≤ w2.heap.size := by have := HB.out.size; have := HA.out.2.2.2.2.2.2; omega
  have hb4 := set7 (((HA.out.2.2.2.1.keep HB.out (by simp)).keep HC.out.2 (by simp))) (.int .i64 fn) (.int .i64 pc) (.int .i64 fuel) (.slice s2a stack.length s2c) (.slice none 0 0) (.int .i64 kids) (.bool false)
  have hK7 := keep7 (w := w3) (g := w.heap.size) (.int .i64 fn) (.int .i64 pc) (.int .i64 fuel) (.slice s2a stack.length s2c) (.slice none 0 0) (.int .i64 kids) (.bool false)
  have ho4 := HC.out.1.lower hzz
  have q4 := own_ne ((HA.out.2.2.2.1.keep HB.out (by simp)).keep HC.out.2 (by simp)) HC.out.1 (by decide)
  have hS4 : StAt (w.heap.size + 3) ((((((((w3.setCell ⟨w.heap.size, 0, none⟩ (.int .i64 fn)).setCell ⟨w.heap.size, 1, none⟩ (.int .i64 pc)).setCell ⟨w.heap.size, 2, none⟩ (.int .i64 fuel)).setCell ⟨w.heap.size, 3, none⟩ (.slice s2a stack.length s2c)).setCell ⟨w.heap.size, 4, none⟩ (.slice none 0 0)).setCell ⟨w.heap.size, 5, none⟩ (.int .i64 kids)).setCell ⟨w.heap.size, 6, none⟩ (.bool false))) w.heap.size ⟨fn, pc, fuel, stack, kids, false⟩ (.slice s2a stack.length s2c) := ⟨trivial, hb4, ho4.keep hK7 (fun g hg hx => q4 g hg (List.mem_singleton.1 hx))⟩
  have hkw : Keep [] w ((((((((w3.setCell ⟨w.heap.size, 0, none⟩ (.int .i64 fn)).setCell ⟨w.heap.size, 1, none⟩ (.int .i64 pc)).setCell ⟨w.heap.size, 2, none⟩ (.int .i64 fuel)).setCell ⟨w.heap.size, 3, none⟩ (.slice s2a stack.length s2c)).setCell ⟨w.heap.size, 4, none⟩ (.slice none 0 0)).setCell ⟨w.heap.size, 5, none⟩ (.int .i64 kids)).setCell ⟨w.heap.size, 6, none⟩ (.bool false))) := (((HA.out.1.trans HB.out (by simp)).trans HC.out.2 (by simp))).trans hK7 (fun x hx => Or.inr (by rw [List.mem_singleton.1 hx]; exact Nat.le_refl _))
  have hr1 := ((HA.out.2.2.2.2.1.keep HB.out (by simp)).keep HC.out.2 (by simp)).keep hK7 (fun hx => by have := List.mem_singleton.1 hx; omega)
  have hr2 := ((HA.out.2.2.2.2.2.1.keep HB.out (by simp)).keep HC.out.2 (by simp)).keep hK7 (fun hx => by have := List.mem_singleton.1 hx; omega)
  have HD := Lib.hid (And.intro hS4 (And.intro hkw (And.intro hr1 hr2)))
  clear hb4 hK7 ho4 q4 hS4 hkw hr1 hr2 hzz
  unfold stV6
  go_wp2_with fail
  go_loopw [11, 12, 13] (fun v11 _ _ wr => ∃ (k : Nat) (S1 : SS) (m1 : Nat) (sv1 : Value), v11 = .int .i64 k ∧ k + m1 ≤ 6000 ∧ RunR J deep m1 S1 S' ev ∧ StAt (w.heap.size + 3) wr w.heap.size S1 sv1 ∧ Keep [] w wr ∧ Blk wr (w.heap.size + 1) 133 [.int .i64 0, .int .i64 0, .int .i64 0, .slice none 0 0, .slice none 0 0, .int .i64 0, .bool false] ∧ Blk wr (w.heap.size + 2) 138 [.int .i64 0, .int .i64 0, .int .i64 0, .int .i64 0, .slice none 0 0, .int .i64 0, .int .i64 0]) (fun v _ _ _ => 6000 - (intOf v).toNat)
  case atStart => exact ⟨0, _, m, _, rfl, by omega, HR.out, HD.out.1, HD.out.2.1, HD.out.2.2.1, HD.out.2.2.2⟩
  case round =>
    obtain ⟨k, S1, m1, sv1, rfl, hkm, hrun, hst1, hkw, hr1, hr2⟩ := hrel
    obtain ⟨hfuel, hlen1, S2, o, hstep, hcase⟩ := run_cases hrun
    have hpc := (let ⟨i, hi⟩ := hstep.at_; at_pc HJ.out hi)
    have hm1 : 1 ≤ m1 := by rcases hcase with ⟨_, _, h⟩ | ⟨_, m2, h, _⟩ <;> omega
    have hkI : (k : Int) < 6000 := by omega
    obtain ⟨f1, p1, u1, st1, kd1, wt1⟩ := S1
    simp only at hfuel hlen1 hpc
    have hK1 := hKO.out.below (below_of hkw hB0)
    obtain ⟨fv, dv, hg, hblk, _, _⟩ := hK1
    have hgw : kg < wr.heap.size := by have := hkw.size; omega
    have k3 : wr.cell? ⟨kg, 3, none⟩ = some (.int .i64 J.fuel) := hblk.cell 3
    have hne : ((u1 : Int) == (J.fuel : Int)) = false := by simp; omega
    have huI : (u1 : Int) ≤ 5000 := by omega
    have hs1 := hst1.2.1
    have y0 : wr.cell? ⟨w.heap.size, 0, none⟩ = some (.int .i64 f1) := hs1.cell 0
    have y1 : wr.cell? ⟨w.heap.size, 1, none⟩ = some (.int .i64 p1) := hs1.cell 1
    have y2 : wr.cell? ⟨w.heap.size, 2, none⟩ = some (.int .i64 u1) := hs1.cell 2
    have y3 : wr.cell? ⟨w.heap.size, 3, none⟩ = some (sv1) := hs1.cell 3
    have y4 : wr.cell? ⟨w.heap.size, 4, none⟩ = some (.slice none 0 0) := hs1.cell 4
    have y5 : wr.cell? ⟨w.heap.size, 5, none⟩ = some (.int .i64 kd1) := hs1.cell 5
    have y6 : wr.cell? ⟨w.heap.size, 6, none⟩ = some (.bool wt1) := hs1.cell 6
    have yf : ∀ i, wr.frozen? ⟨w.heap.size, i, none⟩ = false := fun i => hs1.frozen i
    have HE := Lib.hid (And.intro hst1 (And.intro hkw (And.intro hr1 (And.intro hr2 (And.intro hstep (And.intro hcase (And.intro hlen1 hpc)))))))
    clear hst1 hkw hr1 hr2 hstep hcase hrun hblk hg hs1 hlen1 hpc
    go_wp2_with fail
    go_quiet (fail)
    have hst2 : StAt (w.heap.size + 3) ((wr.drewN nq).setCell ⟨w.heap.size, 2, none⟩ (.int .i64 (u1 + 1 : Nat))) w.heap.size ⟨f1, p1, u1 + 1, st1, kd1, wt1⟩ sv1 :=
      (HE.out.1.keep ((Keep.refl [] wr).drewN nq) (by simp)).set_ (i := 2) (u := .int .i64 (u1 + 1 : Nat)) rfl (HE.out.1.keep ((Keep.refl [] wr).drewN nq) (by simp)).2.2
    have hkw2 : Keep [] w ((wr.drewN nq).setCell ⟨w.heap.size, 2, none⟩ (.int .i64 (u1 + 1 : Nat))) := (HE.out.2.1.drewN nq).setCell (Or.inr (Nat.le_refl _)) _
    have hra := (HE.out.2.2.1.drewN nq).far (p := ⟨w.heap.size, 2, none⟩) (by simp) (.int .i64 (u1 + 1 : Nat))
    have hrb := (HE.out.2.2.2.1.drewN nq).far (p := ⟨w.heap.size, 2, none⟩) (by simp) (.int .i64 (u1 + 1 : Nat))
    push_cast at hst2 hkw2 hra hrb
    have HF := Lib.hid (And.intro hst2 (And.intro hkw2 (And.intro hra hrb)))
    clear hst2 hkw2 hra hrb
    go_wp2_with fail
    refine (step_any _ (w.heap.size + 3) B0 kg w.heap.size deep J ⟨f1, p1, u1 + 1, st1, kd1, wt1⟩ S2 o sv1 (hKO.out.below (below_of HF.out.2.1 hB0)) (Nat.le_trans hB0 HF.out.2.1.size) HF.out.1 (by have := HF.out.2.2.2.lt; omega) HE.out.2.2.2.2.2.2.2 HE.out.2.2.2.2.2.2.1 HE.out.2.2.2.2.1).mono ?_
    rintro e w5 ⟨v, sv5, rfl, hev, hst5, hb5⟩
    have hkw5 := keep_bel HF.out.2.1 hb5 (by omega) (Nat.le_refl _)
    have hra5 := HF.out.2.2.1.bel hb5 (by omega) (by omega)
    have hrb5 := HF.out.2.2.2.bel hb5 (by omega) (by omega)
    have HG := Lib.hid (And.intro hst5 (And.intro hkw5 (And.intro hra5 hrb5)))
    rcases HE.out.2.2.2.2.2.1 with ⟨rfl, rfl, _⟩ | ⟨rfl, m2, hm2, hrun2⟩
    · obtain ⟨ea, eb, ec, en, ex, ey, rfl, hev2⟩ := ev_agg hev
      obtain ⟨f5, p5, u5, st5, kd5, wt5⟩ := S2
      obtain ⟨z5a, z5c, rfl⟩ : ∃ a c, sv5 = .slice a st5.length c := hst5.2.2.shape
      have hs5 := hst5.2.1
      have q0 : w5.cell? ⟨w.heap.size, 0, none⟩ = some (.int .i64 f5) := hs5.cell 0
      have q1 : w5.cell? ⟨w.heap.size, 1, none⟩ = some (.int .i64 p5) := hs5.cell 1
      have q2 : w5.cell? ⟨w.heap.size, 2, none⟩ = some (.int .i64 u5) := hs5.cell 2
      have q3 : w5.cell? ⟨w.heap.size, 3, none⟩ = some (.slice z5a st5.length z5c) := hs5.cell 3
      have q4 : w5.cell? ⟨w.heap.size, 4, none⟩ = some (.slice none 0 0) := hs5.cell 4
      have q5 : w5.cell? ⟨w.heap.size, 5, none⟩ = some (.int .i64 kd5) := hs5.cell 5
      have q6 : w5.cell? ⟨w.heap.size, 6, none⟩ = some (.bool wt5) := hs5.cell 6
      have qf : ∀ i, w5.frozen? ⟨w.heap.size, i, none⟩ = false := fun i => hs5.frozen i
      have r0 : w5.cell? ⟨w.heap.size + 1, 0, none⟩ = some (.int .i64 0) := hra5.cell 0
      have r1 : w5.cell? ⟨w.heap.size + 1, 1, none⟩ = some (.int .i64 0) := hra5.cell 1
      have r2 : w5.cell? ⟨w.heap.size + 1, 2, none⟩ = some (.int .i64 0) := hra5.cell 2
      have r3 : w5.cell? ⟨w.heap.size + 1, 3, none⟩ = some (.slice none 0 0) := hra5.cell 3
      have r4 : w5.cell? ⟨w.heap.size + 1, 4, none⟩ = some (.slice none 0 0) := hra5.cell 4
      have r5 : w5.cell? ⟨w.heap.size + 1, 5, none⟩ = some (.int .i64 0) := hra5.cell 5
      have r6 : w5.cell? ⟨w.heap.size + 1, 6, none⟩ = some (.bool false) := hra5.cell 6
      have rf : ∀ i, w5.frozen? ⟨w.heap.size + 1, i, none⟩ = false := fun i => hra5.frozen i
      have t0 : w5.cell? ⟨w.heap.size + 1 + 1, 0, none⟩ = some (.int .i64 0) := hrb5.cell 0
      have t1 : w5.cell? ⟨w.heap.size + 1 + 1, 1, none⟩ = some (.int .i64 0) := hrb5.cell 1
      have t2 : w5.cell? ⟨w.heap.size + 1 + 1, 2, none⟩ = some (.int .i64 0) := hrb5.cell 2
      have t3 : w5.cell? ⟨w.heap.size + 1 + 1, 3, none⟩ = some (.int .i64 0) := hrb5.cell 3
      have t4 : w5.cell? ⟨w.heap.size + 1 + 1, 4, none⟩ = some (.slice none 0 0) := hrb5.cell 4
      have t5 : w5.cell? ⟨w.heap.size + 1 + 1, 5, none⟩ = some (.int .i64 0) := hrb5.cell 5
      have t6 : w5.cell? ⟨w.heap.size + 1 + 1, 6, none⟩ = some (.int .i64 0) := hrb5.cell 6
      have tf : ∀ i, w5.frozen? ⟨w.heap.size + 1 + 1, i, none⟩ = false := fun i => hrb5.frozen i
      have g1 : w.heap.size < w5.heap.size := hs5.lt
      have g2 : w.heap.size + 1 < w5.heap.size := hra5.lt
      have g3 : w.heap.size + 1 + 1 < w5.heap.size := hrb5.lt
      have HV := Lib.hid hev2
      clear hst5 hkw5 hra5 hrb5 hs5 hb5 hev hev2 y0 y1 y2 y3 y4 y5 y6 yf
      have x1 : Blk (w5.alloc (.cells #[.int .i64 ea, .int .i64 eb, .int .i64 ec, .int .i64 (k + 1), .slice none 0 0, .int .i64 ex, .int .i64 ey] 138)) w.heap.size 133 [.int .i64 f5, .int .i64 p5, .int .i64 u5, .slice z5a st5.length z5c, .slice none 0 0, .int .i64 kd5, .bool wt5] := HG.out.1.2.1.alloc _
      have x2 : Blk (w5.alloc (.cells #[.int .i64 ea, .int .i64 eb, .int .i64 ec, .int .i64 (k + 1), .slice none 0 0, .int .i64 ex, .int .i64 ey] 138)) w5.heap.size 138 [.int .i64 ea, .int .i64 eb, .int .i64 ec, .int .i64 (k + 1), .slice none 0 0, .int .i64 ex, .int .i64 ey] := Blk.new' w5 138 #[.int .i64 ea, .int .i64 eb, .int .i64 ec, .int .i64 (k + 1), .slice none 0 0, .int .i64 ex, .int .i64 ey] [.int .i64 ea, .int .i64 eb, .int .i64 ec, .int .i64 (k + 1), .slice none 0 0, .int .i64 ex, .int .i64 ey] rfl
      have x3 : Blk (w5.alloc (.cells #[.int .i64 ea, .int .i64 eb, .int .i64 ec, .int .i64 (k + 1), .slice none 0 0, .int .i64 ex, .int .i64 ey] 138)) (w.heap.size + 1) 133 [.int .i64 0, .int .i64 0, .int .i64 0, .slice none 0 0, .slice none 0 0, .int .i64 0, .bool false] := HG.out.2.2.1.alloc _
      have x4 : Blk (w5.alloc (.cells #[.int .i64 ea, .int .i64 eb, .int .i64 ec, .int .i64 (k + 1), .slice none 0 0, .int .i64 ex, .int .i64 ey] 138)) (w.heap.size + 1 + 1) 138 [.int .i64 0, .int .i64 0, .int .i64 0, .int .i64 0, .slice none 0 0, .int .i64 0, .int .i64 0] := HG.out.2.2.2.alloc _
      have x5 : Keep [] w (w5.alloc (.cells #[.int .i64 ea, .int .i64 eb, .int .i64 ec, .int .i64 (k + 1), .slice none 0 0, .int .i64 ex, .int .i64 ey] 138)) := HG.out.2.1.alloc _
      have x6 : OwnsAt (w5.alloc (.cells #[.int .i64 ea, .int .i64 eb, .int .i64 ec, .int .i64 (k + 1), .slice none 0 0, .int .i64 ex, .int .i64 ey] 138)) (w.heap.size + 3) 3 1 (.slice z5a st5.length z5c) st5.length (st5.map (.int .i64)) := HG.out.1.2.2.keep ((Keep.refl [] w5).alloc _) (by simp)
      go_wp2_with fail
      generalize (w5.alloc (.cells #[.int .i64 ea, .int .i64 eb, .int .i64 ec, .int .i64 (k + 1), .slice none 0 0, .int .i64 ex, .int .i64 ey] 138)) = w6 at *
      generalize hwe : w5.heap.size = gE at *
      have n1 : gE ≠ w.heap.size := by omega
      have n2 : gE ≠ w.heap.size + 1 := by omega
      have n3 : gE ≠ w.heap.size + 1 + 1 := by omega
      have n1' : w.heap.size ≠ gE := Ne.symm n1
      have n2' : w.heap.size + 1 ≠ gE := Ne.symm n2
      have n3' : w.heap.size + 1 + 1 ≠ gE := Ne.symm n3
      have aa0 : w6.cell? ⟨w.heap.size, 0, none⟩ = some (.int .i64 f5) := x1.cell 0
      have aa1 : w6.cell? ⟨w.heap.size, 1, none⟩ = some (.int .i64 p5) := x1.cell 1
      have aa2 : w6.cell? ⟨w.heap.size, 2, none⟩ = some (.int .i64 u5) := x1.cell 2
      have aa3 : w6.cell? ⟨w.heap.size, 3, none⟩ = some (.slice z5a st5.length z5c) := x1.cell 3
      have aa4 : w6.cell? ⟨w.heap.size, 4, none⟩ = some (.slice none 0 0) := x1.cell 4
      have aa5 : w6.cell? ⟨w.heap.size, 5, none⟩ = some (.int .i64 kd5) := x1.cell 5
      have aa6 : w6.cell? ⟨w.heap.size, 6, none⟩ = some (.bool wt5) := x1.cell 6
      have aaf : ∀ i, w6.frozen? ⟨w.heap.size, i, none⟩ = false := fun i => x1.frozen i
      have bb0 : w6.cell? ⟨gE, 0, none⟩ = some (.int .i64 ea) := x2.cell 0
      have bb1 : w6.cell? ⟨gE, 1, none⟩ = some (.int .i64 eb) := x2.cell 1
      have bb2 : w6.cell? ⟨gE, 2, none⟩ = some (.int .i64 ec) := x2.cell 2
      have bb3 : w6.cell? ⟨gE, 3, none⟩ = some (.int .i64 (k + 1)) := x2.cell 3
      have bb4 : w6.cell? ⟨gE, 4, none⟩ = some (.slice none 0 0) := x2.cell 4
      have bb5 : w6.cell? ⟨gE, 5, none⟩ = some (.int .i64 ex) := x2.cell 5
      have bb6 : w6.cell? ⟨gE, 6, none⟩ = some (.int .i64 ey) := x2.cell 6
      have bbf : ∀ i, w6.frozen? ⟨gE, i, none⟩ = false := fun i => x2.frozen i
      have cc0 : w6.cell? ⟨w.heap.size + 1, 0, none⟩ = some (.int .i64 0) := x3.cell 0
      have cc1 : w6.cell? ⟨w.heap.size + 1, 1, none⟩ = some (.int .i64 0) := x3.cell 1
      have cc2 : w6.cell? ⟨w.heap.size + 1, 2, none⟩ = some (.int .i64 0) := x3.cell 2
      have cc3 : w6.cell? ⟨w.heap.size + 1, 3, none⟩ = some (.slice none 0 0) := x3.cell 3
      have cc4 : w6.cell? ⟨w.heap.size + 1, 4, none⟩ = some (.slice none 0 0) := x3.cell 4
      have cc5 : w6.cell? ⟨w.heap.size + 1, 5, none⟩ = some (.int .i64 0) := x3.cell 5
      have cc6 : w6.cell? ⟨w.heap.size + 1, 6, none⟩ = some (.bool false) := x3.cell 6
      have ccf : ∀ i, w6.frozen? ⟨w.heap.size + 1, i, none⟩ = false := fun i => x3.frozen i
      have dd0 : w6.cell? ⟨w.heap.size + 1 + 1, 0, none⟩ = some (.int .i64 0) := x4.cell 0
      have dd1 : w6.cell? ⟨w.heap.size + 1 + 1, 1, none⟩ = some (.int .i64 0) := x4.cell 1
      have dd2 : w6.cell? ⟨w.heap.size + 1 + 1, 2, none⟩ = some (.int .i64 0) := x4.cell 2
      have dd3 : w6.cell? ⟨w.heap.size + 1 + 1, 3, none⟩ = some (.int .i64 0) := x4.cell 3
      have dd4 : w6.cell? ⟨w.heap.size + 1 + 1, 4, none⟩ = some (.slice none 0 0) := x4.cell 4
      have dd5 : w6.cell? ⟨w.heap.size + 1 + 1, 5, none⟩ = some (.int .i64 0) := x4.cell 5
      have dd6 : w6.cell? ⟨w.heap.size + 1 + 1, 6, none⟩ = some (.int .i64 0) := x4.cell 6
      have ddf : ∀ i, w6.frozen? ⟨w.heap.size + 1 + 1, i, none⟩ = false := fun i => x4.frozen i
      have HQ := Lib.hid (And.intro x1 (And.intro x2 (And.intro x3 (And.intro x4 (And.intro x5 x6)))))
      clear x1 x2 x3 x4 x5 x6 q0 q1 q2 q3 q4 q5 q6 qf r0 r1 r2 r3 r4 r5 r6 rf t0 t1 t2 t3 t4 t5 t6 tf hwe g1 g2 g3 HE HF HG HB HC HA HD HM
      go_region
      all_goals
        go_wp2_with fail
        obtain ⟨x1, x2, x3, x4, x5, x6⟩ := HQ.out
        have hK1 := keep7 (w := w6) (g := w.heap.size + 1) (.int .i64 f5) (.int .i64 p5) (.int .i64 u5) (.slice z5a st5.length z5c) (.slice none 0 0) (.int .i64 kd5) (.bool wt5)
        have hya := set7 x3 (.int .i64 f5) (.int .i64 p5) (.int .i64 u5) (.slice z5a st5.length z5c) (.slice none 0 0) (.int .i64 kd5) (.bool wt5)
        have hyt := x4.keep hK1 (by simp)
        have hK2 := keep7 (w := (((((((w6.setCell ⟨w.heap.size + 1, 0, none⟩ (.int .i64 f5)).setCell ⟨w.heap.size + 1, 1, none⟩ (.int .i64 p5)).setCell ⟨w.heap.size + 1, 2, none⟩ (.int .i64 u5)).setCell ⟨w.heap.size + 1, 3, none⟩ (.slice z5a st5.length z5c)).setCell ⟨w.heap.size + 1, 4, none⟩ (.slice none 0 0)).setCell ⟨w.heap.size + 1, 5, none⟩ (.int .i64 kd5)).setCell ⟨w.heap.size + 1, 6, none⟩ (.bool wt5))) (g := w.heap.size + 1 + 1) (.int .i64 ea) (.int .i64 eb) (.int .i64 ec) (.int .i64 (k + 1)) (.slice none 0 0) (.int .i64 ex) (.int .i64 ey)
        have D2 := (set7 hyt (.int .i64 ea) (.int .i64 eb) (.int .i64 ec) (.int .i64 (k + 1)) (.slice none 0 0) (.int .i64 ex) (.int .i64 ey)).drew
        have D1 := (hya.keep hK2 (by simp)).drew
        have hKF := ((x5.trans hK1 (fun x hx => Or.inr (by rw [List.mem_singleton.1 hx]; omega))).trans hK2 (fun x hx => Or.inr (by rw [List.mem_singleton.1 hx]; omega))).drew
        have hS5 := ((x6.keep hK1 (fun g hg hx => by have := (x6.lt g hg).1; have := List.mem_singleton.1 hx; omega)).keep hK2 (fun g hg hx => by have := (x6.lt g hg).1; have := List.mem_singleton.1 hx; omega)).keep ((Keep.refl [] _).drew) (by simp)
        have d0 := D1.cell 0; have d1 := D1.cell 1; have d2 := D1.cell 2; have d3 := D1.cell 3; have d4 := D1.cell 4; have d5 := D1.cell 5; have d6 := D1.cell 6; have e0 := D2.cell 0; have e1 := D2.cell 1; have e2 := D2.cell 2; have e3 := D2.cell 3; have e4 := D2.cell 4; have e5 := D2.cell 5; have e6 := D2.cell 6
        exact bodyPost_ret (v := .tuple #[.agg #[.int .i64 f5, .int .i64 p5, .int .i64 u5, .slice z5a st5.length z5c, .slice none 0 0, .int .i64 kd5, .bool wt5], .agg #[.int .i64 ea, .int .i64 eb, .int .i64 ec, .int .i64 (k + 1), .slice none 0 0, .int .i64 ex, .int .i64 ey]]) (by simp [results, Tryd.results70, go_sem, d0, d1, d2, d3, d4, d5, d6, e0, e1, e2, e3, e4, e5, e6]) rfl ⟨.slice z5a st5.length z5c, _, rfl, HV.out _, ⟨_, rfl, (own_src hS5).1, fun x hx => Nat.le_trans (by omega) ((own_src hS5).2 x hx)⟩, hKF⟩
    · obtain rfl : v = .agg #[.int .i64 0, .int .i64 0, .int .i64 0, .int .i64 0, .slice none 0 0, .int .i64 0, .int .i64 0] := hev
      have hrun3 := Lib.hid hrun2
      clear hst5 hkw5 hra5 hrb5 hb5 hrun2 y0 y1 y2 y3 y4 y5 y6 yf
      go_wp2_with fail
      go_roundw
      case rel => exact ⟨k + 1, S2, m2, sv5, by go_num, by omega, hrun3.out, HG.out.1.keep ((Keep.refl [] w5).alloc _) (by simp), HG.out.2.1.alloc _, HG.out.2.2.1.alloc _, HG.out.2.2.2.alloc _⟩
      case measure => simp [intOf]; omega
end Go.Proofs.YtndpbkhpllmhmaaDoor
namespace Go.Proofs.YtndpbkhpllmhmaaDoor
set_option linter.unusedSimpArgs false
set_option linter.unnecessarySimpa false
set_option linter.unusedVariables false
open Go.RowKit
set_option maxHeartbeats 3200000 in
set_option maxRecDepth 100000 in
theorem begin_spec (w : World) (B0 kg fn : Nat) (J : JB) {f : FN} (hK : KnownAt B0 w kg J) (hB0 : B0 ≤ w.heap.size) (hf : J.fs[fn]? = some f) :
    Calls Tryd.prog 69 #[.pointer (some ⟨kg, 0, none⟩), .int .i64 fn, .slice none 0 0] w fun e w' => e = .returned (.tuple #[stV6 ⟨fn, 0, 0, [], 0, false⟩ (.slice none 0 0), .int .i64 0]) ∧ Keep [] w w' := by
  obtain ⟨fv, dv, hg, hblk, hfs, _⟩ := hK
  obtain ⟨af, cf, rfl⟩ := hfs.shape
  obtain ⟨b, off, cv, rfl, hb, f0, f1, f2, f3, _⟩ := hfs.fn hf
  have k0 : w.cell? ⟨kg, 0, none⟩ = some (.slice (some ⟨b, off, none⟩) J.fs.length cf) := hblk.cell 0
  have l1 : fn < J.fs.length := (List.getElem?_eq_some_iff.1 hf).1
  have i1 : (fn : Int) < (J.fs.length : Int) := by omega
  have n1 : (0 : Int) ≤ (fn : Int) := by omega
  have hbw : b < w.heap.size := by omega
  have hgw : kg < w.heap.size := by omega
  have hbw1 : b < w.heap.size + 1 := by omega
  have hgw1 : kg < w.heap.size + 1 := by omega
  clear hblk hfs hf hb hg f0 f3
  go_enter Tryd.func69, Tryd.ntmps69
  go_wp2_with fail
  go_loopw [55] (fun _ wr => wr = (w.alloc (.cells #[.int .i64 0, .int .i64 0, .int .i64 0, .slice none 0 0, .slice none 0 0, .int .i64 0, .bool false] 133)).alloc (.cells #[.int .i64 fn, .int .i64 0, .int .i64 0, .slice none 0 0, .slice none 0 0, .int .i64 0, .bool false] 133)) (fun _ _ => 0)
  case atStart => exact rfl
  case round =>
    subst hrel
    go_wp2_with fail
    go_quiet (fail)
    go_wp2_with fail
    have hr : Blk (((w.alloc (.cells #[.int .i64 0, .int .i64 0, .int .i64 0, .slice none 0 0, .slice none 0 0, .int .i64 0, .bool false] 133)).alloc (.cells #[.int .i64 fn, .int .i64 0, .int .i64 0, .slice none 0 0, .slice none 0 0, .int .i64 0, .bool false] 133)).drewN nq) w.heap.size 133 [.int .i64 0, .int .i64 0, .int .i64 0, .slice none 0 0, .slice none 0 0, .int .i64 0, .bool false] := (((Blk.new' w 133 #[.int .i64 0, .int .i64 0, .int .i64 0, .slice none 0 0, .slice none 0 0, .int .i64 0, .bool false] [.int .i64 0, .int .i64 0, .int .i64 0, .slice none 0 0, .slice none 0 0, .int .i64 0, .bool false] rfl).alloc _).drewN nq)
    have hK : Keep [] w (((w.alloc (.cells #[.int .i64 0, .int .i64 0, .int .i64 0, .slice none 0 0, .slice none 0 0, .int .i64 0, .bool false] 133)).alloc (.cells #[.int .i64 fn, .int .i64 0, .int .i64 0, .slice none 0 0, .slice none 0 0, .int .i64 0, .bool false] 133)).drewN nq) := (((Keep.refl [] w).alloc _).alloc _).drewN nq
    have D := set7 hr (.int .i64 fn) (.int .i64 0) (.int .i64 0) (.slice none 0 0) (.slice none 0 0) (.int .i64 0) (.bool false)
    have hKF := hK.trans (keep7 (g := w.heap.size) (.int .i64 fn) (.int .i64 0) (.int .i64 0) (.slice none 0 0) (.slice none 0 0) (.int .i64 0) (.bool false)) (by simp)
    have d0 := D.cell 0; have d1 := D.cell 1; have d2 := D.cell 2; have d3 := D.cell 3; have d4 := D.cell 4; have d5 := D.cell 5; have d6 := D.cell 6
    exact bodyPost_ret (v := .tuple #[stV6 ⟨fn, 0, 0, [], 0, false⟩ (.slice none 0 0), .int .i64 0]) (by simp [results, Tryd.results69, go_sem, stV6, d0, d1, d2, d3, d4, d5, d6]) rfl ⟨rfl, hKF⟩
end Go.Proofs.YtndpbkhpllmhmaaDoor
namespace Go.Proofs.YtndpbkhpllmhmaaDoor
set_option linter.unusedSimpArgs false
set_option linter.unnecessarySimpa false
set_option linter.unusedVariables false
open Go.RowKit
set_option maxHeartbeats 3200000 in
set_option maxRecDepth 100000 in
theorem may_wait (w : World) (B B2 : Nat) (kg : Nat) (J : JB) (S : SS) (v : Value) (hK : KnownAt B w kg J) (hS : StateIs B2 w v S) (hM : MayR J S) (hB : B ≤ w.heap.size) (hw : S.waits = true) {l : List Int} {k : Nat} (h17 : ∃ i : IN, J.at_ S i ∧ i.op = 17) (hl : S.stack = l ++ [(k : Int)]) (hkk : k < S.kids) :
    Calls Tryd.prog 87 #[.pointer (some ⟨kg, 0, none⟩), v] w fun e w' => e = .returned (.bool true) ∧ Keep [] w w' := by
  obtain ⟨i, ⟨f, hf, hi⟩, hop⟩ := h17
  obtain ⟨_, ⟨d, hd, hdp⟩, hk, hfu, hlen⟩ := hM
  obtain ⟨fv, dv, hg, hblk, hfs, hds⟩ := hK
  obtain ⟨sv, rfl, hst, _⟩ := hS
  obtain ⟨fn, pc, fuel, stack, kids, waits⟩ := S
  simp only at *
  subst hw
  obtain ⟨af, cf, rfl⟩ := hfs.shape
  obtain ⟨b, off, cv, rfl, hb, f0, f1, f2, f3, hcode⟩ := hfs.fn hf
  obtain ⟨bd, offd, cd, b2, off2, c2, rfl, hbd, e0, e1⟩ := hds.at_ hd hdp
  obtain ⟨a3, c3, rfl⟩ := hcode.shape
  obtain ⟨a4, c4, rfl⟩ := hst.shape
  obtain ⟨b7, off7, rfl, hb7, g0, _⟩ := hcode.at_ hi
  rw [hop] at g0
  have hb7w : b7 < w.heap.size := by omega
  have ln : stack.length = l.length + 1 := by rw [hl]; simp
  obtain ⟨b8, off8, rfl, hb8w, hc8⟩ := hst.at_ (k := l.length) (by omega)
  have g1 := hc8 l.length (k : Int) (by rw [hl]; simp)
  have hkI : (k : Int) < (kids : Int) := by omega
  have hkN : (0 : Int) ≤ (k : Int) := by omega
  rw [ln] at e1 hlen
  have k0 : w.cell? ⟨kg, 0, none⟩ = some (.slice (some ⟨b, off, none⟩) J.fs.length cf) := hblk.cell 0
  have k3 : w.cell? ⟨kg, 3, none⟩ = some (.int .i64 J.fuel) := hblk.cell 3
  have k5 : w.cell? ⟨kg, 5, none⟩ = some (.slice (some ⟨bd, offd, none⟩) J.ds.length cd) := hblk.cell 5
  have l1 : fn < J.fs.length := (List.getElem?_eq_some_iff.1 hf).1
  have l2 : pc < f.code.length := (List.getElem?_eq_some_iff.1 hi).1
  have l3 : fn < J.ds.length := (List.getElem?_eq_some_iff.1 hd).1
  have l4 : pc < d.length := (List.getElem?_eq_some_iff.1 hdp).1
  have i1 : (fn : Int) < (J.fs.length : Int) := by omega
  have i2 : (pc : Int) < (f.code.length : Int) := by omega
  have i3 : (kids : Int) ≤ 16 := by omega
  have i4 : (fuel : Int) ≤ (J.fuel : Int) := by omega
  have n1 : (0 : Int) ≤ (fn : Int) := by omega
  have n2 : (0 : Int) ≤ (pc : Int) := by omega
  have n3 : (0 : Int) ≤ (kids : Int) := by omega
  have n4 : (0 : Int) ≤ (fuel : Int) := by omega
  have n5 : (l.length : Int) ≤ 32 := by omega
  have n6 : IntKind.i64.wrap ((l.length : Int) + 1 - 1) = (l.length : Int) := by rw [show (l.length : Int) + 1 - 1 = (l.length : Int) by omega]; exact IntWalk.i64_in _ (by omega)
  have hbw : b < w.heap.size := by omega
  have hbdw : bd < w.heap.size := by omega
  have hgw : kg < w.heap.size := by omega
  have hb2w : b2 < w.heap.size := cell_lt6 e1
  clear hl hkk hop hc8 hb7 hblk hfs hds hcode hst hf hi hd hdp hk hfu hb hbd hg hB hlen
  unfold stV6
  simp only
  rw [ln]
  clear ln
  go_enter Tryd.func87, Tryd.ntmps87
  go_upto_region 1 with fail
  go_quiet (fail)
  go_upto_region 3 with fail
  go_region
  clear f0 f1
  go_upto_region 4 with fail
  go_quiet (fail)
  go_wp2_with fail
  go_ret
  exact ⟨rfl, ((((Keep.refl _ _).alloc _).drewN _).alloc _).drewN _⟩
end Go.Proofs.YtndpbkhpllmhmaaDoor
namespace Go.Proofs.YtndpbkhpllmhmaaDoor
set_option linter.unusedSimpArgs false
set_option linter.unnecessarySimpa false
set_option linter.unusedVariables false
open Go.RowKit
theorem own_src2 {w : World} {B n : Nat} {v : Value} {ys : List Int} (h : OwnsAt w B 3 1 v n (ys.map (.int .i64))) (hn : n = ys.length) : IntsOf w v ys ∧ ∀ x ∈ sliceBlock v, B ≤ x := by
  subst hn
  exact own_src h
def ResumePost (S' : SS) (w : World) (e : Ending) (w' : World) : Prop :=
  ∃ sv, e = .returned (.tuple #[stV6 S' sv, .agg #[.int .i64 0, .int .i64 0, .int .i64 0, .int .i64 0, .slice none 0 0, .int .i64 0, .int .i64 0]]) ∧ StateIs w.heap.size w' (stV6 S' sv) S' ∧ Keep [] w w'
set_option maxHeartbeats 6400000 in
set_option maxRecDepth 100000 in
theorem resume_spec (w : World) (B0 B2 kg : Nat) (J : JB) (S : SS) (v : Value) (rv : Int) {l : List Int} {k : Nat} (hK : KnownAt B0 w kg J) (hB0 : B0 ≤ w.heap.size) (hS : StateIs B2 w v S) (hM : MayR J S) (hw : S.waits = true) (h17 : ∃ i : IN, J.at_ S i ∧ i.op = 17) (hl : S.stack = l ++ [(k : Int)]) (hkk : k < S.kids) (hpc : S.pc ≤ 1000) :
    Calls Tryd.prog 72 #[.pointer (some ⟨kg, 0, none⟩), v, .agg #[.int .i64 0, .int .i64 rv]] w (ResumePost { S with stack := l ++ [rv], pc := S.pc + 1, waits := false } w) := by
  obtain ⟨sv, rfl, hst, hsx⟩ := hS
  have HM := Lib.hid hM
  have hlen := hM.len
  obtain ⟨fn, pc, fuel, stack, kids, waits⟩ := S
  simp only at hst hw hlen hl hkk hpc HM h17 ⊢
  subst hw
  subst hl
  generalize hS2 : (⟨fn, pc + 1, fuel, l ++ [rv], kids, false⟩ : SS) = S2
  have HS2 := Lib.hid hS2
  have hk1 : Keep [] w ((((w.alloc (.cells #[.int .i64 fn, .int .i64 pc, .int .i64 fuel, sv, .slice none 0 0, .int .i64 kids, .bool true] 133)).alloc (.cells #[.int .i64 0, .int .i64 rv] 61)).alloc (.cells #[.int .i64 0, .int .i64 0, .int .i64 0, .slice none 0 0, .slice none 0 0, .int .i64 0, .bool false] 133)).alloc (.cells #[.int .i64 0, .int .i64 0, .int .i64 0, .int .i64 0, .slice none 0 0, .int .i64 0, .int .i64 0] 138)) := ((((Keep.refl [] w).alloc _).alloc _).alloc _).alloc _
  have hKn := hK.below (below_of hk1 hB0)
  have hS1 : StateIs 0 ((((w.alloc (.cells #[.int .i64 fn, .int .i64 pc, .int .i64 fuel, sv, .slice none 0 0, .int .i64 kids, .bool true] 133)).alloc (.cells #[.int .i64 0, .int .i64 rv] 61)).alloc (.cells #[.int .i64 0, .int .i64 0, .int .i64 0, .slice none 0 0, .slice none 0 0, .int .i64 0, .bool false] 133)).alloc (.cells #[.int .i64 0, .int .i64 0, .int .i64 0, .int .i64 0, .slice none 0 0, .int .i64 0, .int .i64 0] 138)) (stV6 ⟨fn, pc, fuel, l ++ [(k : Int)], kids, true⟩ sv) ⟨fn, pc, fuel, l ++ [(k : Int)], kids, true⟩ := ⟨sv, rfl, hst.keep hk1 (by simp), fun _ _ => Nat.zero_le _⟩
  have b0 : Blk ((((w.alloc (.cells #[.int .i64 fn, .int .i64 pc, .int .i64 fuel, sv, .slice none 0 0, .int .i64 kids, .bool true] 133)).alloc (.cells #[.int .i64 0, .int .i64 rv] 61)).alloc (.cells #[.int .i64 0, .int .i64 0, .int .i64 0, .slice none 0 0, .slice none 0 0, .int .i64 0, .bool false] 133)).alloc (.cells #[.int .i64 0, .int .i64 0, .int .i64 0, .int .i64 0, .slice none 0 0, .int .i64 0, .int .i64 0] 138)) w.heap.size 133 [.int .i64 fn, .int .i64 pc, .int .i64 fuel, sv, .slice none 0 0, .int .i64 kids, .bool true] := (((Blk.new' w 133 #[.int .i64 fn, .int .i64 pc, .int .i64 fuel, sv, .slice none 0 0, .int .i64 kids, .bool true] [.int .i64 fn, .int .i64 pc, .int .i64 fuel, sv, .slice none 0 0, .int .i64 kids, .bool true] rfl).alloc _).alloc _).alloc _
  have bR : Blk ((((w.alloc (.cells #[.int .i64 fn, .int .i64 pc, .int .i64 fuel, sv, .slice none 0 0, .int .i64 kids, .bool true] 133)).alloc (.cells #[.int .i64 0, .int .i64 rv] 61)).alloc (.cells #[.int .i64 0, .int .i64 0, .int .i64 0, .slice none 0 0, .slice none 0 0, .int .i64 0, .bool false] 133)).alloc (.cells #[.int .i64 0, .int .i64 0, .int .i64 0, .int .i64 0, .slice none 0 0, .int .i64 0, .int .i64 0] 138)) (w.heap.size + 1) 61 [.int .i64 0, .int .i64 rv] := by
    have := ((Blk.new' (w.alloc (.cells #[.int .i64 fn, .int .i64 pc, .int .i64 fuel, sv, .slice none 0 0, .int .i64 kids, .bool true] 133)) 61 #[.int .i64 0, .int .i64 rv] [.int .i64 0, .int .i64 rv] rfl).alloc (.cells #[.int .i64 0, .int .i64 0, .int .i64 0, .slice none 0 0, .slice none 0 0, .int .i64 0, .bool false] 133)).alloc (.cells #[.int .i64 0, .int .i64 0, .int .i64 0, .int .i64 0, .slice none 0 0, .int .i64 0, .int .i64 0] 138)
    simpa using this
  have b1 : Blk ((((w.alloc (.cells #[.int .i64 fn, .int .i64 pc, .int .i64 fuel, sv, .slice none 0 0, .int .i64 kids, .bool true] 133)).alloc (.cells #[.int .i64 0, .int .i64 rv] 61)).alloc (.cells #[.int .i64 0, .int .i64 0, .int .i64 0, .slice none 0 0, .slice none 0 0, .int .i64 0, .bool false] 133)).alloc (.cells #[.int .i64 0, .int .i64 0, .int .i64 0, .int .i64 0, .slice none 0 0, .int .i64 0, .int .i64 0] 138)) (w.heap.size + 2) 133 [.int .i64 0, .int .i64 0, .int .i64 0, .slice none 0 0, .slice none 0 0, .int .i64 0, .bool false] := by
    have := (Blk.new' ((w.alloc (.cells #[.int .i64 fn, .int .i64 pc, .int .i64 fuel, sv, .slice none 0 0, .int .i64 kids, .bool true] 133)).alloc (.cells #[.int .i64 0, .int .i64 rv] 61)) 133 #[.int .i64 0, .int .i64 0, .int .i64 0, .slice none 0 0, .slice none 0 0, .int .i64 0, .bool false] [.int .i64 0, .int .i64 0, .int .i64 0, .slice none 0 0, .slice none 0 0, .int .i64 0, .bool false] rfl).alloc (.cells #[.int .i64 0, .int .i64 0, .int .i64 0, .int .i64 0, .slice none 0 0, .int .i64 0, .int .i64 0] 138)
    simpa using this
  have b2 : Blk ((((w.alloc (.cells #[.int .i64 fn, .int .i64 pc, .int .i64 fuel, sv, .slice none 0 0, .int .i64 kids, .bool true] 133)).alloc (.cells #[.int .i64 0, .int .i64 rv] 61)).alloc (.cells #[.int .i64 0, .int .i64 0, .int .i64 0, .slice none 0 0, .slice none 0 0, .int .i64 0, .bool false] 133)).alloc (.cells #[.int .i64 0, .int .i64 0, .int .i64 0, .int .i64 0, .slice none 0 0, .int .i64 0, .int .i64 0] 138)) (w.heap.size + 3) 138 [.int .i64 0, .int .i64 0, .int .i64 0, .int .i64 0, .slice none 0 0, .int .i64 0, .int .i64 0] := by
    have := Blk.new' (((w.alloc (.cells #[.int .i64 fn, .int .i64 pc, .int .i64 fuel, sv, .slice none 0 0, .int .i64 kids, .bool true] 133)).alloc (.cells #[.int .i64 0, .int .i64 rv] 61)).alloc (.cells #[.int .i64 0, .int .i64 0, .int .i64 0, .slice none 0 0, .slice none 0 0, .int .i64 0, .bool false] 133)) 138 #[.int .i64 0, .int .i64 0, .int .i64 0, .int .i64 0, .slice none 0 0, .int .i64 0, .int .i64 0] [.int .i64 0, .int .i64 0, .int .i64 0, .int .i64 0, .slice none 0 0, .int .i64 0, .int .i64 0] rfl
    simpa using this
  have hz1 : ((((w.alloc (.cells #[.int .i64 fn, .int .i64 pc, .int .i64 fuel, sv, .slice none 0 0, .int .i64 kids, .bool true] 133)).alloc (.cells #[.int .i64 0, .int .i64 rv] 61)).alloc (.cells #[.int .i64 0, .int .i64 0, .int .i64 0, .slice none 0 0, .slice none 0 0, .int .i64 0, .bool false] 133)).alloc (.cells #[.int .i64 0, .int .i64 0, .int .i64 0, .int .i64 0, .slice none 0 0, .int .i64 0, .int .i64 0] 138)).heap.size = w.heap.size + 4 := by simp
  have HA := Lib.hid (And.intro hk1 (And.intro hKn (And.intro hS1 (And.intro b0 (And.intro bR (And.intro b1 (And.intro b2 hz1)))))))
  have hll : (l.length : Int) ≤ 31 := by simp at hlen; omega
  have hpI : (pc : Int) ≤ 1000 := by omega
  clear hk1 hKn hS1 b0 bR b1 b2 hz1 hK hst hsx hM hS2
  unfold stV6
  simp only
  go_enter Tryd.func72, Tryd.ntmps72
  go_wp2_with fail
  generalize (((w.alloc (.cells #[.int .i64 fn, .int .i64 pc, .int .i64 fuel, sv, .slice none 0 0, .int .i64 kids, .bool true] 133)).alloc (.cells #[.int .i64 0, .int .i64 rv] 61)).alloc (.cells #[.int .i64 0, .int .i64 0, .int .i64 0, .slice none 0 0, .slice none 0 0, .int .i64 0, .bool false] 133)).alloc (.cells #[.int .i64 0, .int .i64 0, .int .i64 0, .int .i64 0, .slice none 0 0, .int .i64 0, .int .i64 0] 138) = w1 at *
  refine (may_wait w1 B0 0 kg J ⟨fn, pc, fuel, l ++ [(k : Int)], kids, true⟩ _ HA.out.2.1 HA.out.2.2.1 HM.out (Nat.le_trans hB0 HA.out.1.size) rfl h17 rfl hkk).mono ?_
  rintro e w2 ⟨rfl, hk2⟩
  have hb0 := HA.out.2.2.2.1.keep hk2 (by simp)
  have a0 : w2.cell? ⟨w.heap.size, 0, none⟩ = some (.int .i64 fn) := hb0.cell 0
  have a1 : w2.cell? ⟨w.heap.size, 1, none⟩ = some (.int .i64 pc) := hb0.cell 1
  have a2 : w2.cell? ⟨w.heap.size, 2, none⟩ = some (.int .i64 fuel) := hb0.cell 2
  have a3 : w2.cell? ⟨w.heap.size, 3, none⟩ = some (sv) := hb0.cell 3
  have a4 : w2.cell? ⟨w.heap.size, 4, none⟩ = some (.slice none 0 0) := hb0.cell 4
  have a5 : w2.cell? ⟨w.heap.size, 5, none⟩ = some (.int .i64 kids) := hb0.cell 5
  have a6 : w2.cell? ⟨w.heap.size, 6, none⟩ = some (.bool true) := hb0.cell 6
  have af : ∀ i, w2.frozen? ⟨w.heap.size, i, none⟩ = false := fun i => hb0.frozen i
  have HB := Lib.hid hk2
  clear hk2 hb0
  go_wp2_with fail
  refine (copied_own w2 (stV6 ⟨fn, pc, fuel, l ++ [(k : Int)], kids, true⟩ sv) ⟨fn, pc, fuel, l ++ [(k : Int)], kids, true⟩ 0 (by obtain ⟨sv', h1, h2, h3⟩ := HA.out.2.2.1; exact ⟨sv', h1, h2.keep HB.out (by simp), h3⟩) hlen).mono ?_
  rintro e w3 ⟨sv2, rfl, ho3, hk3⟩
  have ho4 : OwnsAt w3 w2.heap.size 3 1 sv2 (l.length + 1) ((l ++ [(k : Int)]).map (.int .i64)) := by simpa using ho3
  obtain ⟨gs, offs, cs, rfl, hcap, _, hBg, hgs, hcell⟩ := ho4.form (by omega)
  have t0 : w3.cell? ⟨gs, offs + l.length, none⟩ = some (.int .i64 (k : Int)) := hcell l.length _ (by simp)
  have tf : ∀ i, w3.frozen? ⟨gs, i, none⟩ = false := fun i => ho4.free i
  have hb0 := (HA.out.2.2.2.1.keep HB.out (by simp)).keep hk3 (by simp)
  have hbR := (HA.out.2.2.2.2.1.keep HB.out (by simp)).keep hk3 (by simp)
  have hb1 := (HA.out.2.2.2.2.2.1.keep HB.out (by simp)).keep hk3 (by simp)
  have hb2 := (HA.out.2.2.2.2.2.2.1.keep HB.out (by simp)).keep hk3 (by simp)
  have hzz : w.heap.size + 4 ≤ w2.heap.size := by have := HB.out.size; have := HA.out.2.2.2.2.2.2.2; omega
  have q0 : gs ≠ w.heap.size := by omega
  have q4 : w.heap.size ≤ gs := by omega
  have q1 : gs ≠ w.heap.size + 1 := by omega
  have q2 : gs ≠ w.heap.size + 2 := by omega
  have q3 : gs ≠ w.heap.size + 3 := by omega
  have W4E := keep7 (w := w3) (g := w.heap.size) (.int .i64 fn) (.int .i64 pc) (.int .i64 fuel) (.slice (some ⟨gs, offs, none⟩) (l.length + 1) cs) (.slice none 0 0) (.int .i64 kids) (.bool true)
  have x0 := set7 hb0 (.int .i64 fn) (.int .i64 pc) (.int .i64 fuel) (.slice (some ⟨gs, offs, none⟩) (l.length + 1) cs) (.slice none 0 0) (.int .i64 kids) (.bool true)
  have x1 := hbR.keep W4E (by simp)
  have x2 := hb1.keep W4E (by simp)
  have x3 := hb2.keep W4E (by simp)
  have x4 := ho4.keep W4E (fun g hg hx => by have := (ho4.lt g hg).1; have := List.mem_singleton.1 hx; omega)
  have x5 := ((HA.out.1.trans HB.out (by simp)).trans hk3 (by simp)).trans W4E (fun x hx => Or.inr (by rw [List.mem_singleton.1 hx]; exact Nat.le_refl _))
  have c0 : w3.cell? ⟨w.heap.size, 0, none⟩ = some (.int .i64 fn) := hb0.cell 0
  have c1 : w3.cell? ⟨w.heap.size, 1, none⟩ = some (.int .i64 pc) := hb0.cell 1
  have c2 : w3.cell? ⟨w.heap.size, 2, none⟩ = some (.int .i64 fuel) := hb0.cell 2
  have c3 : w3.cell? ⟨w.heap.size, 3, none⟩ = some (sv) := hb0.cell 3
  have c4 : w3.cell? ⟨w.heap.size, 4, none⟩ = some (.slice none 0 0) := hb0.cell 4
  have c5 : w3.cell? ⟨w.heap.size, 5, none⟩ = some (.int .i64 kids) := hb0.cell 5
  have c6 : w3.cell? ⟨w.heap.size, 6, none⟩ = some (.bool true) := hb0.cell 6
  have cf : ∀ i, w3.frozen? ⟨w.heap.size, i, none⟩ = false := fun i => hb0.frozen i
  clear ho3 ho4 hk3 hb0 hbR hb1 hb2 hcell a0 a1 a2 a3 a4 a5 a6 af t0 tf W4E
  unfold stV6
  go_upto_region 3 with fail
  clear c0 c1 c2 c3 c4 c5 c6 cf
  generalize (((((((w3.setCell ⟨w.heap.size, 0, none⟩ (.int .i64 fn)).setCell ⟨w.heap.size, 1, none⟩ (.int .i64 pc)).setCell ⟨w.heap.size, 2, none⟩ (.int .i64 fuel)).setCell ⟨w.heap.size, 3, none⟩ (.slice (some ⟨gs, offs, none⟩) (l.length + 1) cs)).setCell ⟨w.heap.size, 4, none⟩ (.slice none 0 0)).setCell ⟨w.heap.size, 5, none⟩ (.int .i64 kids)).setCell ⟨w.heap.size, 6, none⟩ (.bool true)) = w4 at *
  have t0 : w4.cell? ⟨gs, offs + l.length, none⟩ = some (.int .i64 (k : Int)) := by
    obtain ⟨g, o, c, hv, _, _, _, _, hc⟩ := x4.form (by omega)
    cases hv
    exact hc l.length _ (by simp)
  have tf : ∀ i, w4.frozen? ⟨gs, i, none⟩ = false := fun i => x4.free i
  have r0 : w4.cell? ⟨w.heap.size + 1, 0, none⟩ = some (.int .i64 0) := x1.cell 0
  have r1 : w4.cell? ⟨w.heap.size + 1, 1, none⟩ = some (.int .i64 rv) := x1.cell 1
  have y0 : w4.cell? ⟨w.heap.size, 0, none⟩ = some (.int .i64 fn) := x0.cell 0
  have y1 : w4.cell? ⟨w.heap.size, 1, none⟩ = some (.int .i64 pc) := x0.cell 1
  have y2 : w4.cell? ⟨w.heap.size, 2, none⟩ = some (.int .i64 fuel) := x0.cell 2
  have y3 : w4.cell? ⟨w.heap.size, 3, none⟩ = some (.slice (some ⟨gs, offs, none⟩) (l.length + 1) cs) := x0.cell 3
  have y4 : w4.cell? ⟨w.heap.size, 4, none⟩ = some (.slice none 0 0) := x0.cell 4
  have y5 : w4.cell? ⟨w.heap.size, 5, none⟩ = some (.int .i64 kids) := x0.cell 5
  have y6 : w4.cell? ⟨w.heap.size, 6, none⟩ = some (.bool true) := x0.cell 6
  have yf : ∀ i, w4.frozen? ⟨w.heap.size, i, none⟩ = false := fun i => x0.frozen i
  have e0 : w4.cell? ⟨w.heap.size + 2, 0, none⟩ = some (.int .i64 0) := x2.cell 0
  have e1 : w4.cell? ⟨w.heap.size + 2, 1, none⟩ = some (.int .i64 0) := x2.cell 1
  have e2 : w4.cell? ⟨w.heap.size + 2, 2, none⟩ = some (.int .i64 0) := x2.cell 2
  have e3 : w4.cell? ⟨w.heap.size + 2, 3, none⟩ = some (.slice none 0 0) := x2.cell 3
  have e4 : w4.cell? ⟨w.heap.size + 2, 4, none⟩ = some (.slice none 0 0) := x2.cell 4
  have e5 : w4.cell? ⟨w.heap.size + 2, 5, none⟩ = some (.int .i64 0) := x2.cell 5
  have e6 : w4.cell? ⟨w.heap.size + 2, 6, none⟩ = some (.bool false) := x2.cell 6
  have ef : ∀ i, w4.frozen? ⟨w.heap.size + 2, i, none⟩ = false := fun i => x2.frozen i
  have f0 : w4.cell? ⟨w.heap.size + 3, 0, none⟩ = some (.int .i64 0) := x3.cell 0
  have f1 : w4.cell? ⟨w.heap.size + 3, 1, none⟩ = some (.int .i64 0) := x3.cell 1
  have f2 : w4.cell? ⟨w.heap.size + 3, 2, none⟩ = some (.int .i64 0) := x3.cell 2
  have f3 : w4.cell? ⟨w.heap.size + 3, 3, none⟩ = some (.int .i64 0) := x3.cell 3
  have f4 : w4.cell? ⟨w.heap.size + 3, 4, none⟩ = some (.slice none 0 0) := x3.cell 4
  have f5 : w4.cell? ⟨w.heap.size + 3, 5, none⟩ = some (.int .i64 0) := x3.cell 5
  have f6 : w4.cell? ⟨w.heap.size + 3, 6, none⟩ = some (.int .i64 0) := x3.cell 6
  have ff : ∀ i, w4.frozen? ⟨w.heap.size + 3, i, none⟩ = false := fun i => x3.frozen i
  have HC := Lib.hid (And.intro x0 (And.intro x2 (And.intro x3 (And.intro x4 x5))))
  clear x0 x1 x2 x3 x4 x5 hcap hBg
  go_wp2_with fail
  obtain ⟨x0, x2, x3, x4, x5⟩ := HC.out
  have e2 := HS2.out
  subst e2
  have p1 := x4.set_ l.length (.int .i64 rv)
  have p2 := ((x0.far (p := ⟨gs, offs + l.length, none⟩) (Ne.symm q0) (.int .i64 rv)).set_ 1 (.int .i64 (pc + 1 : Nat))).set_ 6 (.bool false)
  have kS := ((Keep.refl [w.heap.size] (w4.setCell ⟨gs, offs + l.length, none⟩ (.int .i64 rv))).setCell (p := ⟨w.heap.size, 1, none⟩) (by simp) (.int .i64 (pc + 1 : Nat))).setCell (p := ⟨w.heap.size, 6, none⟩) (by simp) (.bool false)
  have p3 := (x2.far (p := ⟨gs, offs + l.length, none⟩) (Ne.symm q2) (.int .i64 rv)).keep kS (by simp)
  have p4 := (x3.far (p := ⟨gs, offs + l.length, none⟩) (Ne.symm q3) (.int .i64 rv)).keep kS (by simp)
  have p5 := p1.keep kS (fun g hg hx => by have := (x4.lt g hg).1; have := List.mem_singleton.1 hx; omega)
  have p6 : Keep [] w _ := (x5.setCell (p := ⟨gs, offs + l.length, none⟩) (Or.inr q4) (.int .i64 rv)).trans kS (fun x hx => Or.inr (by rw [List.mem_singleton.1 hx]; exact Nat.le_refl _))
  push_cast at p2 p3 p4 p5 p6
  have k2 := fun ww => keep7 (w := ww) (g := w.heap.size + 2) (.int .i64 fn) (.int .i64 (pc + 1)) (.int .i64 fuel) (.slice (some ⟨gs, offs, none⟩) (l.length + 1) cs) (.slice none 0 0) (.int .i64 kids) (.bool false)
  have k3 := fun ww => keep7 (w := ww) (g := w.heap.size + 3) (.int .i64 0) (.int .i64 0) (.int .i64 0) (.int .i64 0) (.slice none 0 0) (.int .i64 0) (.int .i64 0)
  have D1 := (set7 p3 (.int .i64 fn) (.int .i64 (pc + 1)) (.int .i64 fuel) (.slice (some ⟨gs, offs, none⟩) (l.length + 1) cs) (.slice none 0 0) (.int .i64 kids) (.bool false)).keep (k3 _) (by simp)
  have D2 := set7 (p4.keep (k2 _) (by simp)) (.int .i64 0) (.int .i64 0) (.int .i64 0) (.int .i64 0) (.slice none 0 0) (.int .i64 0) (.int .i64 0)
  have hKF := (p6.trans (k2 _) (fun x hx => Or.inr (by rw [List.mem_singleton.1 hx]; omega))).trans (k3 _) (fun x hx => Or.inr (by rw [List.mem_singleton.1 hx]; omega))
  have hS5 := (p5.keep (k2 _) (fun g hg hx => by have := (p5.lt g hg).1; have := List.mem_singleton.1 hx; omega)).keep (k3 _) (fun g hg hx => by have := (p5.lt g hg).1; have := List.mem_singleton.1 hx; omega)
  have hm : ((l ++ [(k : Int)]).map (Value.int .i64)).set l.length (.int .i64 rv) = (l ++ [rv]).map (Value.int .i64) := by simp
  rw [hm] at hS5
  have hS6 := own_src2 hS5 (by simp)
  have d0 := D1.cell 0; have d1 := D1.cell 1; have d2 := D1.cell 2; have d3 := D1.cell 3; have d4 := D1.cell 4; have d5 := D1.cell 5; have d6 := D1.cell 6; have e0 := D2.cell 0; have e1 := D2.cell 1; have e2 := D2.cell 2; have e3 := D2.cell 3; have e4 := D2.cell 4; have e5 := D2.cell 5; have e6 := D2.cell 6
  exact bodyPost_ret (v := .tuple #[.agg #[.int .i64 fn, .int .i64 (pc + 1), .int .i64 fuel, .slice (some ⟨gs, offs, none⟩) (l.length + 1) cs, .slice none 0 0, .int .i64 kids, .bool false], .agg #[.int .i64 0, .int .i64 0, .int .i64 0, .int .i64 0, .slice none 0 0, .int .i64 0, .int .i64 0]]) (by simp [results, Tryd.results72, go_sem, d0, d1, d2, d3, d4, d5, d6, e0, e1, e2, e3, e4, e5, e6]) rfl ⟨.slice (some ⟨gs, offs, none⟩) (l.length + 1) cs, rfl, ⟨_, rfl, hS6.1, fun x hx => Nat.le_trans (by omega) (hS6.2 x hx)⟩, hKF⟩
end Go.Proofs.YtndpbkhpllmhmaaDoor
namespace Go.Proofs.YtndpbkhpllmhmaaDoor
set_option linter.unusedSimpArgs false
set_option linter.unnecessarySimpa false
set_option linter.unusedVariables false
open Go.RowKit
theorem Tryd.sts57 : SliceTy Tryd.prog 57 64 (.agg #[.string ⟨#[]⟩, .int .i64 0, .slice none 0 0, .int .i64 0, .int .i64 0, .int .i64 0, .int .i64 0, .slice none 0 0]) 8 104 := ⟨Tryd.underlying57, by kernel_rfl, by kernel_rfl, by decide⟩
theorem Tryd.sts136 : SliceTy Tryd.prog 136 61 (.agg #[.int .i64 0, .int .i64 0]) 2 16 := ⟨Tryd.underlying136, by kernel_rfl, by kernel_rfl, by decide⟩
/-- what a call of 'do' leaves -/
def DoPost (B g kg : Nat) (ev : Value) (R : List ER) (E2 : List EK) (r : Int) (w : World) (e : Ending) (w' : World) : Prop :=
  ∃ (R2 : List ER) (ev2 : Value), e = .returned (.agg #[.int .i64 0, .int .i64 r]) ∧ R2.map ER.k = E2 ∧ R.length ≤ R2.length ∧ (∀ i, i < R.length → R2[i]? = R[i]?) ∧ Keep (g :: ownBlocks ev) w w' ∧
    Blk w' g 106 [.pointer (some ⟨kg, 0, none⟩), ev2, .bool false] ∧ OwnsAt w' B 64 8 ev2 R2.length (R2.flatMap ER.c) ∧ ∀ x ∈ ownBlocks ev2, x ∈ ownBlocks ev ∨ w.heap.size ≤ x
structure DoArgs (J : JB) (w : World) (B g kg f : Nat) (ev : Value) (id : BS) (R : List ER) : Prop where
  known : KnownAt B w kg J
  base : B ≤ w.heap.size
  gB : B ≤ g
  blk : Blk w g 106 [.pointer (some ⟨kg, 0, none⟩), ev, .bool false]
  ents : OwnsAt w B 64 8 ev R.length (R.flatMap ER.c)
  room : R.length < J.tasks
  fn : f < J.fs.length
  small : ∀ f ∈ J.fs, f.code.length ≤ 1000
  fuel : J.fuel ≤ 5000
  tasks : J.tasks ≤ 500
  id : id.length ≤ 12
def DoSpec (J : JB) (n : Nat) : Prop := ∀ (w : World) (B g kg f : Nat) (ev : Value) (id : BS) (R : List ER) (E2 : List EK) (r : Int), DoArgs J w B g kg f ev id R → LoopR J n id R.length ⟨f, 0, 0, [], 0, false⟩ [] (R.map ER.k ++ [(id, 0)]) E2 r →
  Calls Tryd.prog 53 #[.pointer (some ⟨g, 0, none⟩), .string (strB id), .int .i64 f, .slice none 0 0] w (DoPost B g kg ev R E2 r w)
def ER0 (id : BS) (f : Nat) : ER := ⟨(id, 0), f, 0, 0, .slice none 0 0⟩
def Post6 (B g kg f : Nat) (id : BS) (ev0 : Value) (R : List ER) (w wx : World) : Prop :=
  ∃ a5 c5, Keep (g :: ownBlocks ev0) w wx ∧ Blk wx g 106 [.pointer (some ⟨kg, 0, none⟩), .slice a5 (R.length + 1) c5, .bool false] ∧ OwnsAt wx B 64 8 (.slice a5 (R.length + 1) c5) (R.length + 1) ((R ++ [ER0 id f]).flatMap ER.c) ∧ (∀ x ∈ ownBlocks (.slice a5 (R.length + 1) c5), x ∈ ownBlocks ev0 ∨ w.heap.size ≤ x) ∧ Blk wx w.heap.size 61 [.int .i64 0, .int .i64 0]
theorem post6 {J : JB} {w w6 w7 w4 : World} {B g kg f c5 : Nat} {ev0 : Value} {id : BS} {R : List ER} {a5 : Option Addr} (hA : DoArgs J w B g kg f ev0 id R) (k6 : Keep [] w w6) (hb6 : Blk w6 w.heap.size 61 [.int .i64 0, .int .i64 0]) (k7 : Keep [] w6 w7)
    (ho : OwnsAt w4 B 64 8 (.slice a5 (R.length + 1) c5) (R.length + 1) (R.flatMap ER.c ++ (ER0 id f).c)) (k4 : Keep (ownBlocks ev0) w7 w4) (hat : (Value.slice a5 (R.length + 1) c5).ownBlock = ev0.ownBlock ∨ (Value.slice a5 (R.length + 1) c5).ownBlock = some w7.heap.size) :
    Post6 B g kg f id ev0 R w (w4.setCell ⟨g, 1, none⟩ (.slice a5 (R.length + 1) c5)) := by
  have k47 := k6.trans k7 (by simp)
  have hb := (hA.blk.keep k47 (by simp)).keep k4 (own_apart (hA.ents.keep k47 (by simp)) (hA.blk.keep k47 (by simp)) (by decide))
  have hr := (hb6.keep k7 (by simp)).keep k4 (own_apart (hA.ents.keep k47 (by simp)) (hb6.keep k7 (by simp)) (by decide))
  refine ⟨a5, c5, ((k47.mono (T := g :: ownBlocks ev0) (by simp)).trans k4 (fun x hx => Or.inl (List.mem_cons_of_mem _ hx))).setCell (p := ⟨g, 1, none⟩) (Or.inl (List.mem_cons_self ..)) _, hb.set_ 1 _, ?_, ?_, hr.far (hr.ne_ hb (by decide)) _⟩
  · rw [List.flatMap_append]
    have h1 : (R.flatMap ER.c ++ [ER0 id f].flatMap ER.c) = R.flatMap ER.c ++ (ER0 id f).c := by simp
    rw [h1]
    refine ho.keep ((Keep.refl [g] w4).setCell (by simp) _) (fun x hx hm => ?_)
    rw [List.mem_singleton] at hm
    subst hm
    exact own_apart ho hb (by decide) (mem_ownD.2 hx)
  · intro x hx
    rw [mem_ownD] at hx
    rcases hat with h | h
    · rw [h] at hx
      exact Or.inl (mem_ownD.2 hx)
    · rw [h] at hx
      injection hx with hx
      subst hx
      exact Or.inr k47.size
theorem DoArgs.bel {J : JB} {w wx : World} {B g kg f : Nat} {ev : Value} {id : BS} {R : List ER} (hA : DoArgs J w B g kg f ev id R) (k : Keep (g :: ownBlocks ev) w wx) : Below B w wx :=
  Keep.below (Below.refl _ _) k hA.base (fun x hx => by
    rcases List.mem_cons.1 hx with rfl | hx
    · exact hA.gB
    · exact own_base hA.ents x hx)
def Least (P : Nat → Prop) (n : Nat) : Prop := P n ∧ ∀ m, m < n → ¬ P m
theorem least_ex {P : Nat → Prop} : ∀ n, P n → ∃ m, Least P m := by
  intro n
  induction n using Nat.strongRecOn with
  | _ n ih =>
    intro hP
    by_cases h : ∃ m, m < n ∧ P m
    · obtain ⟨m, h1, h2⟩ := h
      exact ih m h1 h2
    · exact ⟨n, hP, fun m h1 h2 => h ⟨m, h1, h2⟩⟩
theorem least_eps {P : Nat → Prop} {n : Nat} (h : P n) : Least P (Classical.epsilon (Least P)) := Classical.epsilon_spec (least_ex n h)
theorem least_le {P : Nat → Prop} {n : Nat} (h : P n) : Classical.epsilon (Least P) ≤ n := by
  have h1 := least_eps h
  rcases Nat.lt_or_ge n (Classical.epsilon (Least P)) with h2 | h2
  · exact absurd h (h1.2 n h2)
  · exact h2
def stCells (S : SS) (sv : Value) : List Value := [.int .i64 S.fn, .int .i64 S.pc, .int .i64 S.fuel, sv, .slice none 0 0, .int .i64 S.kids, .bool S.waits]
/-- what holds at the head of the loop -/
def DoHead (J : JB) (N : Nat) (id : BS) (E2 : List EK) (r : Int) (w : World) (B g kg sb : Nat) (ev0 : Value) (R0 : List ER) (n : Nat) (kv : Value) (wr : World) : Prop :=
  ∃ (S : SS) (ks : List Int) (R : List ER) (ev sv : Value) (m : Nat) (ys : List Value) (x : ER), m + n ≤ N ∧ ks.length + n ≤ N ∧ LoopR J n id R0.length S ks (R.map ER.k) E2 r ∧ DoW w B g kg w.heap.size sb ev0 R ev kv ks (stCells S sv) x.aw m ys wr ∧ IntsOf wr sv S.stack ∧ R[R0.length]? = some x ∧ x.k.1 = id ∧ ∀ i, i < R0.length → R[i]? = R0[i]?
/-- how it goes on behind an event -/
def After (J : JB) (n : Nat) (id : BS) (a : Nat) (S1 : SS) (ks : List Int) (E E2 : List EK) (r : Int) : EV → Prop
  | .spawned f k => k < 2 ∧ id.length < 12 ∧ (∀ x ∈ id, x < 16) ∧ E.length < J.tasks ∧ f < J.fs.length ∧ ∃ (E1 : List EK) (r1 : Int), LoopR J n (id ++ [UInt8.ofNat k]) E.length ⟨f, 0, 0, [], 0, false⟩ [] (E ++ [(id ++ [UInt8.ofNat k], 0)]) E1 r1 ∧ LoopR J n id a S1 (ks ++ [r1]) E1 E2 r
  | .waiting k => ∃ (v : Int) (l : List Int), ks[k]? = some v ∧ MayR J S1 ∧ (∃ i : IN, J.at_ S1 i ∧ i.op = 17) ∧ S1.stack = l ++ [(k : Int)] ∧ k < S1.kids ∧ S1.waits = true ∧ LoopR J n id a { S1 with stack := l ++ [v], pc := S1.pc + 1, waits := false } ks E E2 r
  | .ended v => r = v ∧ E2 = E.set a (id, r)
theorem loop_cases {J : JB} {n a : Nat} {id : BS} {S : SS} {ks : List Int} {E E2 : List EK} {r : Int} (h : LoopR J n id a S ks E E2 r) : MayR J S ∧ S.waits = false ∧ ∃ (n' m : Nat) (S1 : SS) (ev : EV), n = n' + 1 ∧ m ≤ 6000 ∧ RunR J id.length m S S1 ev ∧ After J n' id a S1 ks E E2 r ev := by
  cases h with
  | spawn h1 h2 h3 h4 h5 h6 h7 h8 h9 h10 h11 => exact ⟨h1, h2, _, _, _, _, rfl, h3, h4, h5, h6, h7, h8, h9, _, _, h10, h11⟩
  | await h1 h2 h3 h4 h5 h6 h7 h8 h9 h10 h11 h12 => subst h9; exact ⟨h1, h2, _, _, _, _, rfl, h3, h4, _, _, h5, h6, h7, h8, h10, h11, h12⟩
  | ended h1 h2 h3 h4 => exact ⟨h1, h2, _, _, _, _, rfl, h3, h4, rfl, rfl⟩
/-- behind 't, ev := Run(..)' -/
def Post10 (w : World) (B g kg sb : Nat) (ev0 : Value) (R : List ER) (ev kv : Value) (ks : List Int) (sc : List Value) (aw : Value) (m : Nat) (ys : List Value) (S1 : SS) (e : EV) (wr : World) (v13 v14 : Value) (wx : World) : Prop :=
  ∃ (p1 p2 : Nat) (sv1 : Value) (a b c n x y : Int), v13 = .pointer (some ⟨p1, 0, none⟩) ∧ v14 = .pointer (some ⟨p2, 0, none⟩) ∧ DoW w B g kg w.heap.size sb ev0 R ev kv ks sc aw m ys wx ∧ Blk wx p1 133 (stCells S1 sv1) ∧ Blk wx p2 138 [.int .i64 a, .int .i64 b, .int .i64 c, .int .i64 n, .slice none 0 0, .int .i64 x, .int .i64 y] ∧ EventIs (.agg #[.int .i64 a, .int .i64 b, .int .i64 c, .int .i64 n, .slice none 0 0, .int .i64 x, .int .i64 y]) e ∧ IntsOf wx sv1 S1.stack ∧ (∀ x ∈ sliceBlock sv1, wr.heap.size ≤ x) ∧ wr.heap.size ≤ p1 ∧ wr.heap.size ≤ p2 ∧ Keep [] wr wx
def RunPost2 (S' : SS) (ev : EV) (w : World) (e : Ending) (w' : World) : Prop :=
  ∃ (sv : Value) (a b c n x y : Int), e = .returned (.tuple #[.agg #[.int .i64 S'.fn, .int .i64 S'.pc, .int .i64 S'.fuel, sv, .slice none 0 0, .int .i64 S'.kids, .bool S'.waits], .agg #[.int .i64 a, .int .i64 b, .int .i64 c, .int .i64 n, .slice none 0 0, .int .i64 x, .int .i64 y]]) ∧
    EventIs (.agg #[.int .i64 a, .int .i64 b, .int .i64 c, .int .i64 n, .slice none 0 0, .int .i64 x, .int .i64 y]) ev ∧ IntsOf w' sv S'.stack ∧ (∀ x ∈ sliceBlock sv, w.heap.size ≤ x) ∧ Keep [] w w'
theorem run_spec2 (w : World) (B0 kg deep : Nat) (J : JB) (S : SS) (sv : Value) (hK : KnownAt B0 w kg J) (hB0 : B0 ≤ w.heap.size) (hs : IntsOf w sv S.stack) (hM : MayR J S) (hw : S.waits = false) {m : Nat} {S' : SS} {ev : EV} (hR : RunR J deep m S S' ev) (hm : m ≤ 6000) (hJ : ∀ f ∈ J.fs, f.code.length ≤ 1000) (hfu : J.fuel ≤ 5000) :
    Calls Tryd.prog 70 #[.pointer (some ⟨kg, 0, none⟩), .agg #[.int .i64 S.fn, .int .i64 S.pc, .int .i64 S.fuel, sv, .slice none 0 0, .int .i64 S.kids, .bool S.waits], .int .i64 deep, .int .i64 6000] w (RunPost2 S' ev w) := by
  refine (run_spec w B0 0 kg deep J S _ hK hB0 ⟨sv, rfl, hs, fun _ _ => Nat.zero_le _⟩ hM hw hR hm hJ hfu).mono ?_
  rintro e w' ⟨sv1, ve, rfl, hev, hst, hk⟩
  obtain ⟨sv2, h1, h2, h3⟩ := hst
  obtain ⟨a, b, c, n, x, y, rfl, _⟩ := ev_agg hev
  have : sv1 = sv2 := by
    unfold stV6 at h1
    simp at h1
    exact h1
  subst this
  exact ⟨sv1, a, b, c, n, x, y, rfl, hev, h2, h3, hk⟩
/-- RUNH: the call of 'Run' at any world with nothing but new blocks -/
def RunH (kg : Nat) (id : BS) (S : SS) (sv : Value) (S1 : SS) (e : EV) (wr : World) : Prop :=
  ∀ w', Keep [] wr w' → Calls Tryd.prog 70 #[.pointer (some ⟨kg, 0, none⟩), .agg #[.int .i64 S.fn, .int .i64 S.pc, .int .i64 S.fuel, sv, .slice none 0 0, .int .i64 S.kids, .bool S.waits], .int .i64 (strB id).size, .int .i64 6000] w' (RunPost2 S1 e w')
theorem RunH.at_ {kg : Nat} {id : BS} {S S1 : SS} {sv : Value} {e : EV} {wr w' : World} (h : RunH kg id S sv S1 e wr) (k : Keep [] wr w') : Calls Tryd.prog 70 #[.pointer (some ⟨kg, 0, none⟩), .agg #[.int .i64 S.fn, .int .i64 S.pc, .int .i64 S.fuel, sv, .slice none 0 0, .int .i64 S.kids, .bool S.waits], .int .i64 (strB id).size, .int .i64 6000] w' (RunPost2 S1 e w') := h w' k
theorem cells8_alloc {w : World} {g q : Nat} {a0 a1 a2 a3 a4 a5 a6 a7 : Value} (o : Obj) (h : w.cell? ⟨g, 0, none⟩ = some a0 ∧ w.cell? ⟨q, 0, none⟩ = some a1 ∧ w.cell? ⟨q, 1, none⟩ = some a2 ∧ w.cell? ⟨q, 2, none⟩ = some a3 ∧ w.cell? ⟨q, 3, none⟩ = some a4 ∧ w.cell? ⟨q, 4, none⟩ = some a5 ∧ w.cell? ⟨q, 5, none⟩ = some a6 ∧ w.cell? ⟨q, 6, none⟩ = some a7) : (w.alloc o).cell? ⟨g, 0, none⟩ = some a0 ∧ (w.alloc o).cell? ⟨q, 0, none⟩ = some a1 ∧ (w.alloc o).cell? ⟨q, 1, none⟩ = some a2 ∧ (w.alloc o).cell? ⟨q, 2, none⟩ = some a3 ∧ (w.alloc o).cell? ⟨q, 3, none⟩ = some a4 ∧ (w.alloc o).cell? ⟨q, 4, none⟩ = some a5 ∧ (w.alloc o).cell? ⟨q, 5, none⟩ = some a6 ∧ (w.alloc o).cell? ⟨q, 6, none⟩ = some a7 := by
  have k : Keep [] w (w.alloc o) := (Keep.refl [] w).alloc o
  obtain ⟨h0, h1, h2, h3, h4, h5, h6, h7⟩ := h
  exact ⟨cell_keep0 k h0, cell_keep0 k h1, cell_keep0 k h2, cell_keep0 k h3, cell_keep0 k h4, cell_keep0 k h5, cell_keep0 k h6, cell_keep0 k h7⟩
theorem cells8_set {w : World} {g q p : Nat} {a0 a1 a2 a3 a4 a5 a6 a7 x0 x1 x2 x3 x4 x5 x6 : Value} (hg : g ≠ p) (hq : q ≠ p) (h : w.cell? ⟨g, 0, none⟩ = some a0 ∧ w.cell? ⟨q, 0, none⟩ = some a1 ∧ w.cell? ⟨q, 1, none⟩ = some a2 ∧ w.cell? ⟨q, 2, none⟩ = some a3 ∧ w.cell? ⟨q, 3, none⟩ = some a4 ∧ w.cell? ⟨q, 4, none⟩ = some a5 ∧ w.cell? ⟨q, 5, none⟩ = some a6 ∧ w.cell? ⟨q, 6, none⟩ = some a7) : (((((((w.setCell ⟨p, 0, none⟩ x0).setCell ⟨p, 1, none⟩ x1).setCell ⟨p, 2, none⟩ x2).setCell ⟨p, 3, none⟩ x3).setCell ⟨p, 4, none⟩ x4).setCell ⟨p, 5, none⟩ x5).setCell ⟨p, 6, none⟩ x6).cell? ⟨g, 0, none⟩ = some a0 ∧ (((((((w.setCell ⟨p, 0, none⟩ x0).setCell ⟨p, 1, none⟩ x1).setCell ⟨p, 2, none⟩ x2).setCell ⟨p, 3, none⟩ x3).setCell ⟨p, 4, none⟩ x4).setCell ⟨p, 5, none⟩ x5).setCell ⟨p, 6, none⟩ x6).cell? ⟨q, 0, none⟩ = some a1 ∧ (((((((w.setCell ⟨p, 0, none⟩ x0).setCell ⟨p, 1, none⟩ x1).setCell ⟨p, 2, none⟩ x2).setCell ⟨p, 3, none⟩ x3).setCell ⟨p, 4, none⟩ x4).setCell ⟨p, 5, none⟩ x5).setCell ⟨p, 6, none⟩ x6).cell? ⟨q, 1, none⟩ = some a2 ∧ (((((((w.setCell ⟨p, 0, none⟩ x0).setCell ⟨p, 1, none⟩ x1).setCell ⟨p, 2, none⟩ x2).setCell ⟨p, 3, none⟩ x3).setCell ⟨p, 4, none⟩ x4).setCell ⟨p, 5, none⟩ x5).setCell ⟨p, 6, none⟩ x6).cell? ⟨q, 2, none⟩ = some a3 ∧ (((((((w.setCell ⟨p, 0, none⟩ x0).setCell ⟨p, 1, none⟩ x1).setCell ⟨p, 2, none⟩ x2).setCell ⟨p, 3, none⟩ x3).setCell ⟨p, 4, none⟩ x4).setCell ⟨p, 5, none⟩ x5).setCell ⟨p, 6, none⟩ x6).cell? ⟨q, 3, none⟩ = some a4 ∧ (((((((w.setCell ⟨p, 0, none⟩ x0).setCell ⟨p, 1, none⟩ x1).setCell ⟨p, 2, none⟩ x2).setCell ⟨p, 3, none⟩ x3).setCell ⟨p, 4, none⟩ x4).setCell ⟨p, 5, none⟩ x5).setCell ⟨p, 6, none⟩ x6).cell? ⟨q, 4, none⟩ = some a5 ∧ (((((((w.setCell ⟨p, 0, none⟩ x0).setCell ⟨p, 1, none⟩ x1).setCell ⟨p, 2, none⟩ x2).setCell ⟨p, 3, none⟩ x3).setCell ⟨p, 4, none⟩ x4).setCell ⟨p, 5, none⟩ x5).setCell ⟨p, 6, none⟩ x6).cell? ⟨q, 5, none⟩ = some a6 ∧ (((((((w.setCell ⟨p, 0, none⟩ x0).setCell ⟨p, 1, none⟩ x1).setCell ⟨p, 2, none⟩ x2).setCell ⟨p, 3, none⟩ x3).setCell ⟨p, 4, none⟩ x4).setCell ⟨p, 5, none⟩ x5).setCell ⟨p, 6, none⟩ x6).cell? ⟨q, 6, none⟩ = some a7 := by
  have k := keep7 (w := w) (g := p) x0 x1 x2 x3 x4 x5 x6
  have c : ∀ {b i : Nat} {u : Value}, w.cell? ⟨b, i, none⟩ = some u → b ≠ p → (((((((w.setCell ⟨p, 0, none⟩ x0).setCell ⟨p, 1, none⟩ x1).setCell ⟨p, 2, none⟩ x2).setCell ⟨p, 3, none⟩ x3).setCell ⟨p, 4, none⟩ x4).setCell ⟨p, 5, none⟩ x5).setCell ⟨p, 6, none⟩ x6).cell? ⟨b, i, none⟩ = some u := fun hu hb => (k.cell (World.block_lt_of_cell? _ _ hu) (by simpa using hb)).trans hu
  obtain ⟨h0, h1, h2, h3, h4, h5, h6, h7⟩ := h
  exact ⟨c h0 hg, c h1 hq, c h2 hq, c h3 hq, c h4 hq, c h5 hq, c h6 hq, c h7 hq⟩
theorem Blk.far7 {w : World} {g p : Nat} {t : TypeId} {cs : List Value} (h : Blk w g t cs) (hp : g ≠ p) (x0 x1 x2 x3 x4 x5 x6 : Value) : Blk (((((((w.setCell ⟨p, 0, none⟩ x0).setCell ⟨p, 1, none⟩ x1).setCell ⟨p, 2, none⟩ x2).setCell ⟨p, 3, none⟩ x3).setCell ⟨p, 4, none⟩ x4).setCell ⟨p, 5, none⟩ x5).setCell ⟨p, 6, none⟩ x6) g t cs :=
  h.keep (keep7 (w := w) (g := p) x0 x1 x2 x3 x4 x5 x6) (by simpa using hp)
theorem cells8_drew {w : World} {g q : Nat} {a0 a1 a2 a3 a4 a5 a6 a7 : Value} (h : w.cell? ⟨g, 0, none⟩ = some a0 ∧ w.cell? ⟨q, 0, none⟩ = some a1 ∧ w.cell? ⟨q, 1, none⟩ = some a2 ∧ w.cell? ⟨q, 2, none⟩ = some a3 ∧ w.cell? ⟨q, 3, none⟩ = some a4 ∧ w.cell? ⟨q, 4, none⟩ = some a5 ∧ w.cell? ⟨q, 5, none⟩ = some a6 ∧ w.cell? ⟨q, 6, none⟩ = some a7) : w.drew.cell? ⟨g, 0, none⟩ = some a0 ∧ w.drew.cell? ⟨q, 0, none⟩ = some a1 ∧ w.drew.cell? ⟨q, 1, none⟩ = some a2 ∧ w.drew.cell? ⟨q, 2, none⟩ = some a3 ∧ w.drew.cell? ⟨q, 3, none⟩ = some a4 ∧ w.drew.cell? ⟨q, 4, none⟩ = some a5 ∧ w.drew.cell? ⟨q, 5, none⟩ = some a6 ∧ w.drew.cell? ⟨q, 6, none⟩ = some a7 := h
theorem keep77 {w : World} {p q : Nat} (x0 x1 x2 x3 x4 x5 x6 y0 y1 y2 y3 y4 y5 y6 : Value) : Keep [p, q] w (((((((((((((((w.setCell ⟨p, 0, none⟩ x0).setCell ⟨p, 1, none⟩ x1).setCell ⟨p, 2, none⟩ x2).setCell ⟨p, 3, none⟩ x3).setCell ⟨p, 4, none⟩ x4).setCell ⟨p, 5, none⟩ x5).setCell ⟨p, 6, none⟩ x6).setCell ⟨q, 0, none⟩ y0).setCell ⟨q, 1, none⟩ y1).setCell ⟨q, 2, none⟩ y2).setCell ⟨q, 3, none⟩ y3).setCell ⟨q, 4, none⟩ y4).setCell ⟨q, 5, none⟩ y5).setCell ⟨q, 6, none⟩ y6)) :=
  ((keep7 (w := w) (g := p) x0 x1 x2 x3 x4 x5 x6).mono (T := [p, q]) (by simp)).trans (keep7 (g := q) y0 y1 y2 y3 y4 y5 y6) (by simp)
theorem size7 (w : World) (p : Nat) (x0 x1 x2 x3 x4 x5 x6 : Value) : (((((((w.setCell ⟨p, 0, none⟩ x0).setCell ⟨p, 1, none⟩ x1).setCell ⟨p, 2, none⟩ x2).setCell ⟨p, 3, none⟩ x3).setCell ⟨p, 4, none⟩ x4).setCell ⟨p, 5, none⟩ x5).setCell ⟨p, 6, none⟩ x6).heap.size = w.heap.size := by simp [World.setCell]
theorem post10_of {w wr w9 wx : World} {B g kg sb m lo p1 p2 : Nat} {ev0 ev kv aw sv1 : Value} {R : List ER} {ks : List Int} {sc ys : List Value} {S1 : SS} {e : EV} {a b c n x y : Int} (T : List Nat) (hD : DoW w B g kg w.heap.size sb ev0 R ev kv ks sc aw m ys wr)
    (h9 : EventIs (.agg #[.int .i64 a, .int .i64 b, .int .i64 c, .int .i64 n, .slice none 0 0, .int .i64 x, .int .i64 y]) e ∧ IntsOf w9 sv1 S1.stack ∧ (∀ x ∈ sliceBlock sv1, lo ≤ x) ∧ Keep [] wr w9) (hlo : wr.heap.size ≤ lo) (k9 : Keep T w9 wx) (hT : ∀ x ∈ T, wr.heap.size ≤ x ∧ x < lo)
    (b1 : Blk wx p1 133 [.int .i64 S1.fn, .int .i64 S1.pc, .int .i64 S1.fuel, sv1, .slice none 0 0, .int .i64 S1.kids, .bool S1.waits]) (b2 : Blk wx p2 138 [.int .i64 a, .int .i64 b, .int .i64 c, .int .i64 n, .slice none 0 0, .int .i64 x, .int .i64 y]) (hp1 : wr.heap.size ≤ p1) (hp2 : wr.heap.size ≤ p2) :
    Post10 w B g kg sb ev0 R ev kv ks sc aw m ys S1 e wr (.pointer (some ⟨p1, 0, none⟩)) (.pointer (some ⟨p2, 0, none⟩)) wx := by
  obtain ⟨hev, hiv, hbv, hkk⟩ := h9
  have k : Keep [] wr wx := hkk.trans k9 (fun x hx => Or.inr (hT x hx).1)
  exact ⟨p1, p2, sv1, a, b, c, n, x, y, rfl, rfl, hD.more k, b1, b2, hev, hiv.keep k9 (fun x hx hx2 => by have := hbv x hx; have := (hT x hx2).2; omega), fun x hx => Nat.le_trans hlo (hbv x hx), hp1, hp2, k⟩
theorem rel1 {w wr w9 : World} {B g kg sb m lo : Nat} {ev0 ev kv aw sv1 : Value} {R : List ER} {ks : List Int} {sc ys : List Value} {S1 : SS} {e : EV} {a b c n x y : Int} (hD : DoW w B g kg w.heap.size sb ev0 R ev kv ks sc aw m ys wr)
    (h9 : EventIs (.agg #[.int .i64 a, .int .i64 b, .int .i64 c, .int .i64 n, .slice none 0 0, .int .i64 x, .int .i64 y]) e ∧ IntsOf w9 sv1 S1.stack ∧ (∀ x ∈ sliceBlock sv1, lo ≤ x) ∧ Keep [] wr w9) (hlo : wr.heap.size ≤ lo) : Post10 w B g kg sb ev0 R ev kv ks sc aw m ys S1 e wr (.pointer (some ⟨w9.heap.size, 0, none⟩)) (.pointer (some ⟨w9.heap.size + 1, 0, none⟩)) ((w9.alloc (.cells #[.int .i64 S1.fn, .int .i64 S1.pc, .int .i64 S1.fuel, sv1, .slice none 0 0, .int .i64 S1.kids, .bool S1.waits] 133)).alloc (.cells #[.int .i64 a, .int .i64 b, .int .i64 c, .int .i64 n, .slice none 0 0, .int .i64 x, .int .i64 y] 138)) := by
  have hsz := h9.2.2.2.size
  exact post10_of [] hD h9 hlo (((Keep.refl [] w9).alloc _).alloc _) (by simp) ((Blk.new' _ _ _ _ rfl).alloc _) (blk_at (by simp) rfl) (by omega) (by omega)
theorem rel2 {w wr w9 : World} {B g kg sb m lo : Nat} {ev0 ev kv aw sv1 : Value} {R : List ER} {ks : List Int} {sc ys : List Value} {S1 : SS} {e : EV} {a b c n x y : Int} (hD : DoW w B g kg w.heap.size sb ev0 R ev kv ks sc aw m ys wr)
    (h9 : EventIs (.agg #[.int .i64 a, .int .i64 b, .int .i64 c, .int .i64 n, .slice none 0 0, .int .i64 x, .int .i64 y]) e ∧ IntsOf w9 sv1 S1.stack ∧ (∀ x ∈ sliceBlock sv1, lo ≤ x) ∧ Keep [] wr w9) (hlo : wr.heap.size ≤ lo) : Post10 w B g kg sb ev0 R ev kv ks sc aw m ys S1 e wr (.pointer (some ⟨w9.heap.size + 1, 0, none⟩)) (.pointer (some ⟨w9.heap.size, 0, none⟩)) ((w9.alloc (.cells #[.int .i64 a, .int .i64 b, .int .i64 c, .int .i64 n, .slice none 0 0, .int .i64 x, .int .i64 y] 138)).alloc (.cells #[.int .i64 S1.fn, .int .i64 S1.pc, .int .i64 S1.fuel, sv1, .slice none 0 0, .int .i64 S1.kids, .bool S1.waits] 133)) := by
  have hsz := h9.2.2.2.size
  exact post10_of [] hD h9 hlo (((Keep.refl [] w9).alloc _).alloc _) (by simp) (blk_at (by simp) rfl) ((Blk.new' _ _ _ _ rfl).alloc _) (by omega) (by omega)
theorem rel3 {w wr w9 : World} {B g kg sb m lo : Nat} {ev0 ev kv aw sv1 : Value} {R : List ER} {ks : List Int} {sc ys : List Value} {S1 : SS} {e : EV} {a b c n x y : Int} (hD : DoW w B g kg w.heap.size sb ev0 R ev kv ks sc aw m ys wr)
    (h9 : EventIs (.agg #[.int .i64 a, .int .i64 b, .int .i64 c, .int .i64 n, .slice none 0 0, .int .i64 x, .int .i64 y]) e ∧ IntsOf w9 sv1 S1.stack ∧ (∀ x ∈ sliceBlock sv1, lo ≤ x) ∧ Keep [] wr w9) (hlo : wr.heap.size + 1 ≤ lo) (ht : Blk w9 wr.heap.size 133 [.int .i64 0, .int .i64 0, .int .i64 0, .slice none 0 0, .slice none 0 0, .int .i64 0, .bool false]) : Post10 w B g kg sb ev0 R ev kv ks sc aw m ys S1 e wr (.pointer (some ⟨wr.heap.size, 0, none⟩)) (.pointer (some ⟨w9.heap.size, 0, none⟩)) ((((((((w9.setCell ⟨wr.heap.size, 0, none⟩ (.int .i64 S1.fn)).setCell ⟨wr.heap.size, 1, none⟩ (.int .i64 S1.pc)).setCell ⟨wr.heap.size, 2, none⟩ (.int .i64 S1.fuel)).setCell ⟨wr.heap.size, 3, none⟩ (sv1)).setCell ⟨wr.heap.size, 4, none⟩ (.slice none 0 0)).setCell ⟨wr.heap.size, 5, none⟩ (.int .i64 S1.kids)).setCell ⟨wr.heap.size, 6, none⟩ (.bool S1.waits)).alloc (.cells #[.int .i64 a, .int .i64 b, .int .i64 c, .int .i64 n, .slice none 0 0, .int .i64 x, .int .i64 y] 138)) := by
  have hsz := h9.2.2.2.size
  exact post10_of [wr.heap.size] hD h9 (by omega) ((keep7 (w := w9) _ _ _ _ _ _ _).alloc _) (by simp; omega) ((set7 ht _ _ _ _ _ _ _).alloc _) (blk_at (size7 w9 _ _ _ _ _ _ _ _) rfl) (by omega) (by omega)
theorem rel4 {w wr w9 : World} {B g kg sb m lo : Nat} {ev0 ev kv aw sv1 : Value} {R : List ER} {ks : List Int} {sc ys : List Value} {S1 : SS} {e : EV} {a b c n x y : Int} (hD : DoW w B g kg w.heap.size sb ev0 R ev kv ks sc aw m ys wr)
    (h9 : EventIs (.agg #[.int .i64 a, .int .i64 b, .int .i64 c, .int .i64 n, .slice none 0 0, .int .i64 x, .int .i64 y]) e ∧ IntsOf w9 sv1 S1.stack ∧ (∀ x ∈ sliceBlock sv1, lo ≤ x) ∧ Keep [] wr w9) (hlo : wr.heap.size + 1 ≤ lo) (he : Blk w9 wr.heap.size 138 [.int .i64 0, .int .i64 0, .int .i64 0, .int .i64 0, .slice none 0 0, .int .i64 0, .int .i64 0]) : Post10 w B g kg sb ev0 R ev kv ks sc aw m ys S1 e wr (.pointer (some ⟨w9.heap.size, 0, none⟩)) (.pointer (some ⟨wr.heap.size, 0, none⟩)) ((((((((w9.setCell ⟨wr.heap.size, 0, none⟩ (.int .i64 a)).setCell ⟨wr.heap.size, 1, none⟩ (.int .i64 b)).setCell ⟨wr.heap.size, 2, none⟩ (.int .i64 c)).setCell ⟨wr.heap.size, 3, none⟩ (.int .i64 n)).setCell ⟨wr.heap.size, 4, none⟩ (.slice none 0 0)).setCell ⟨wr.heap.size, 5, none⟩ (.int .i64 x)).setCell ⟨wr.heap.size, 6, none⟩ (.int .i64 y)).alloc (.cells #[.int .i64 S1.fn, .int .i64 S1.pc, .int .i64 S1.fuel, sv1, .slice none 0 0, .int .i64 S1.kids, .bool S1.waits] 133)) := by
  have hsz := h9.2.2.2.size
  exact post10_of [wr.heap.size] hD h9 (by omega) ((keep7 (w := w9) _ _ _ _ _ _ _).alloc _) (by simp; omega) (blk_at (size7 w9 _ _ _ _ _ _ _ _) rfl) ((set7 he _ _ _ _ _ _ _).alloc _) (by omega) (by omega)
theorem rel5 {w wr w9 : World} {B g kg sb m lo : Nat} {ev0 ev kv aw sv1 : Value} {R : List ER} {ks : List Int} {sc ys : List Value} {S1 : SS} {e : EV} {a b c n x y : Int} (hD : DoW w B g kg w.heap.size sb ev0 R ev kv ks sc aw m ys wr)
    (h9 : EventIs (.agg #[.int .i64 a, .int .i64 b, .int .i64 c, .int .i64 n, .slice none 0 0, .int .i64 x, .int .i64 y]) e ∧ IntsOf w9 sv1 S1.stack ∧ (∀ x ∈ sliceBlock sv1, lo ≤ x) ∧ Keep [] wr w9) (hlo : wr.heap.size + 2 ≤ lo) (ht : Blk w9 wr.heap.size 133 [.int .i64 0, .int .i64 0, .int .i64 0, .slice none 0 0, .slice none 0 0, .int .i64 0, .bool false]) (he : Blk w9 (wr.heap.size + 1) 138 [.int .i64 0, .int .i64 0, .int .i64 0, .int .i64 0, .slice none 0 0, .int .i64 0, .int .i64 0]) : Post10 w B g kg sb ev0 R ev kv ks sc aw m ys S1 e wr (.pointer (some ⟨wr.heap.size, 0, none⟩)) (.pointer (some ⟨wr.heap.size + 1, 0, none⟩)) ((((((((((((((w9.setCell ⟨wr.heap.size, 0, none⟩ (.int .i64 S1.fn)).setCell ⟨wr.heap.size, 1, none⟩ (.int .i64 S1.pc)).setCell ⟨wr.heap.size, 2, none⟩ (.int .i64 S1.fuel)).setCell ⟨wr.heap.size, 3, none⟩ (sv1)).setCell ⟨wr.heap.size, 4, none⟩ (.slice none 0 0)).setCell ⟨wr.heap.size, 5, none⟩ (.int .i64 S1.kids)).setCell ⟨wr.heap.size, 6, none⟩ (.bool S1.waits)).setCell ⟨wr.heap.size + 1, 0, none⟩ (.int .i64 a)).setCell ⟨wr.heap.size + 1, 1, none⟩ (.int .i64 b)).setCell ⟨wr.heap.size + 1, 2, none⟩ (.int .i64 c)).setCell ⟨wr.heap.size + 1, 3, none⟩ (.int .i64 n)).setCell ⟨wr.heap.size + 1, 4, none⟩ (.slice none 0 0)).setCell ⟨wr.heap.size + 1, 5, none⟩ (.int .i64 x)).setCell ⟨wr.heap.size + 1, 6, none⟩ (.int .i64 y)) := by
  have hsz := h9.2.2.2.size
  exact post10_of [wr.heap.size, wr.heap.size + 1] hD h9 (by omega) (keep77 (w := w9) _ _ _ _ _ _ _ _ _ _ _ _ _ _) (by simp; omega) ((set7 ht _ _ _ _ _ _ _).far7 (by omega) _ _ _ _ _ _ _) (set7 (he.far7 (by omega) _ _ _ _ _ _ _) _ _ _ _ _ _ _) (by omega) (by omega)
theorem rel6 {w wr w9 : World} {B g kg sb m lo : Nat} {ev0 ev kv aw sv1 : Value} {R : List ER} {ks : List Int} {sc ys : List Value} {S1 : SS} {e : EV} {a b c n x y : Int} (hD : DoW w B g kg w.heap.size sb ev0 R ev kv ks sc aw m ys wr)
    (h9 : EventIs (.agg #[.int .i64 a, .int .i64 b, .int .i64 c, .int .i64 n, .slice none 0 0, .int .i64 x, .int .i64 y]) e ∧ IntsOf w9 sv1 S1.stack ∧ (∀ x ∈ sliceBlock sv1, lo ≤ x) ∧ Keep [] wr w9) (hlo : wr.heap.size + 2 ≤ lo) (ht : Blk w9 (wr.heap.size + 1) 133 [.int .i64 0, .int .i64 0, .int .i64 0, .slice none 0 0, .slice none 0 0, .int .i64 0, .bool false]) (he : Blk w9 wr.heap.size 138 [.int .i64 0, .int .i64 0, .int .i64 0, .int .i64 0, .slice none 0 0, .int .i64 0, .int .i64 0]) : Post10 w B g kg sb ev0 R ev kv ks sc aw m ys S1 e wr (.pointer (some ⟨wr.heap.size + 1, 0, none⟩)) (.pointer (some ⟨wr.heap.size, 0, none⟩)) ((((((((((((((w9.setCell ⟨wr.heap.size + 1, 0, none⟩ (.int .i64 S1.fn)).setCell ⟨wr.heap.size + 1, 1, none⟩ (.int .i64 S1.pc)).setCell ⟨wr.heap.size + 1, 2, none⟩ (.int .i64 S1.fuel)).setCell ⟨wr.heap.size + 1, 3, none⟩ (sv1)).setCell ⟨wr.heap.size + 1, 4, none⟩ (.slice none 0 0)).setCell ⟨wr.heap.size + 1, 5, none⟩ (.int .i64 S1.kids)).setCell ⟨wr.heap.size + 1, 6, none⟩ (.bool S1.waits)).setCell ⟨wr.heap.size, 0, none⟩ (.int .i64 a)).setCell ⟨wr.heap.size, 1, none⟩ (.int .i64 b)).setCell ⟨wr.heap.size, 2, none⟩ (.int .i64 c)).setCell ⟨wr.heap.size, 3, none⟩ (.int .i64 n)).setCell ⟨wr.heap.size, 4, none⟩ (.slice none 0 0)).setCell ⟨wr.heap.size, 5, none⟩ (.int .i64 x)).setCell ⟨wr.heap.size, 6, none⟩ (.int .i64 y)) := by
  have hsz := h9.2.2.2.size
  exact post10_of [wr.heap.size + 1, wr.heap.size] hD h9 (by omega) (keep77 (w := w9) _ _ _ _ _ _ _ _ _ _ _ _ _ _) (by simp; omega) ((set7 ht _ _ _ _ _ _ _).far7 (by omega) _ _ _ _ _ _ _) (set7 (he.far7 (by omega) _ _ _ _ _ _ _) _ _ _ _ _ _ _) (by omega) (by omega)
/-- behind 's = t': what the round goes on with -/
structure Mid (w : World) (B g kg sb : Nat) (ev0 : Value) (R : List ER) (ev kv : Value) (ks : List Int) (sv1 : Value) (aw : Value) (m : Nat) (ys : List Value) (S1 : SS) (p1 p2 lo : Nat) (a b c n x y : Int) (wx : World) : Prop where
  d : DoW w B g kg w.heap.size sb ev0 R ev kv ks (stCells S1 sv1) aw m ys wx
  b1 : Blk wx p1 133 (stCells S1 sv1)
  b2 : Blk wx p2 138 [.int .i64 a, .int .i64 b, .int .i64 c, .int .i64 n, .slice none 0 0, .int .i64 x, .int .i64 y]
  iv : IntsOf wx sv1 S1.stack
  bv : ∀ x ∈ sliceBlock sv1, lo ≤ x
  sl : sb < lo
  gl : g < lo
  p1 : lo ≤ p1
  p2 : lo ≤ p2
  el : ∀ x ∈ ownBlocks ev, x < lo
  al : ∀ x ∈ ownBlocks aw, x < lo
  kl : ∀ x ∈ ownBlocks kv, x < lo
theorem mid_of {w wr wx : World} {B g kg sb m p1 p2 : Nat} {ev0 ev kv aw sv1 : Value} {R : List ER} {ks : List Int} {ys : List Value} {S S1 : SS} {sv : Value} {a b c n x y : Int} (hr : DoW w B g kg w.heap.size sb ev0 R ev kv ks (stCells S sv) aw m ys wr) (hD : DoW w B g kg w.heap.size sb ev0 R ev kv ks (stCells S sv) aw m ys wx) (hb1 : Blk wx p1 133 (stCells S1 sv1)) (hb2 : Blk wx p2 138 [.int .i64 a, .int .i64 b, .int .i64 c, .int .i64 n, .slice none 0 0, .int .i64 x, .int .i64 y])
    (hiv : IntsOf wx sv1 S1.stack) (hbv : ∀ x ∈ sliceBlock sv1, wr.heap.size ≤ x) (hp1 : wr.heap.size ≤ p1) (hp2 : wr.heap.size ≤ p2) :
    Mid w B g kg sb ev0 R ev kv ks sv1 aw m ys S1 p1 p2 wr.heap.size a b c n x y (((((((wx.setCell ⟨sb, 0, none⟩ (.int .i64 S1.fn)).setCell ⟨sb, 1, none⟩ (.int .i64 S1.pc)).setCell ⟨sb, 2, none⟩ (.int .i64 S1.fuel)).setCell ⟨sb, 3, none⟩ sv1).setCell ⟨sb, 4, none⟩ (.slice none 0 0)).setCell ⟨sb, 5, none⟩ (.int .i64 S1.kids)).setCell ⟨sb, 6, none⟩ (.bool S1.waits)) := by
  have hs := hr.st.lt
  have k := keep7 (w := wx) (g := sb) (.int .i64 S1.fn) (.int .i64 S1.pc) (.int .i64 S1.fuel) sv1 (.slice none 0 0) (.int .i64 S1.kids) (.bool S1.waits)
  have hst : Blk (((((((wx.setCell ⟨sb, 0, none⟩ (.int .i64 S1.fn)).setCell ⟨sb, 1, none⟩ (.int .i64 S1.pc)).setCell ⟨sb, 2, none⟩ (.int .i64 S1.fuel)).setCell ⟨sb, 3, none⟩ sv1).setCell ⟨sb, 4, none⟩ (.slice none 0 0)).setCell ⟨sb, 5, none⟩ (.int .i64 S1.kids)).setCell ⟨sb, 6, none⟩ (.bool S1.waits)) sb 133 (stCells S1 sv1) := by
    exact set7 (a := .int .i64 S.fn) (b := .int .i64 S.pc) (c := .int .i64 S.fuel) (d := sv) (e := .slice none 0 0) (f := .int .i64 S.kids) (h := .bool S.waits) hD.st _ _ _ _ _ _ _
  exact ⟨hD.state k hst, hb1.far7 (by omega) _ _ _ _ _ _ _, hb2.far7 (by omega) _ _ _ _ _ _ _, hiv.keep k (fun x hx hm => by have := hbv x hx; rw [List.mem_singleton] at hm; omega), hbv, hs, hr.blk.lt, hp1, hp2, fun x hx => (hr.ents.lt x (mem_ownD.1 hx)).2, fun x hx => (hr.aws.lt x (mem_ownD.1 hx)).2, fun x hx => (hr.kids.lt x (mem_ownD.1 hx)).2⟩
section
variable {w wx w' : World} {B g kg sb m p1 p2 lo : Nat} {ev0 ev kv aw sv1 : Value} {R : List ER} {ks : List Int} {ys : List Value} {S1 : SS} {a b c n x y : Int}
theorem Mid.more (h : Mid w B g kg sb ev0 R ev kv ks sv1 aw m ys S1 p1 p2 lo a b c n x y wx) (k : Keep [] wx w') : Mid w B g kg sb ev0 R ev kv ks sv1 aw m ys S1 p1 p2 lo a b c n x y w' :=
  ⟨h.d.more k, h.b1.keep k (by simp), h.b2.keep k (by simp), h.iv.keep k (by simp), h.bv, h.sl, h.gl, h.p1, h.p2, h.el, h.al, h.kl⟩
theorem Mid.entry (h : Mid w B g kg sb ev0 R ev kv ks sv1 aw m ys S1 p1 p2 lo a b c n x y wx) {ge off cap q : Nat} (he : ev = .slice (some ⟨ge, off, none⟩) q cap) {i j : Nat} {z z' : ER} {u : Value} (hi : R[i]? = some z) (hj : j < 8) (hc : z'.c = z.c.set j u) :
    Mid w B g kg sb ev0 (R.set i z') ev kv ks sv1 aw m ys S1 p1 p2 lo a b c n x y (wx.setCell ⟨ge, off + i * 8 + j, none⟩ u) := by
  have hgl : ge < lo := h.el ge (by rw [he]; exact mem_ownD.2 rfl)
  have h1 := h.p1
  have h2 := h.p2
  have hd := h.d.entry he hi hj hc
  rw [← Nat.add_assoc] at hd
  exact ⟨hd, h.b1.far (by simp; omega) _, h.b2.far (by simp; omega) _, h.iv.keep ((Keep.refl [ge] wx).setCell (by simp) _) (fun z hz hm => by have := h.bv z hz; rw [List.mem_singleton] at hm; omega), h.bv, h.sl, h.gl, h.p1, h.p2, h.el, h.al, h.kl⟩
end
theorem map_set_same {R : List ER} {i : Nat} {z z' : ER} (hi : R[i]? = some z) (hk : z'.k = z.k) : (R.set i z').map ER.k = R.map ER.k := by
  apply List.ext_getElem?
  intro j
  rw [List.getElem?_map, List.getElem?_map]
  by_cases hj : i = j
  · subst hj
    rw [List.getElem?_set_self (get_lt hi), hi]
    simp [hk]
  · rw [List.getElem?_set_ne hj]
theorem map_set_k {R : List ER} (i : Nat) (z' : ER) : (R.set i z').map ER.k = (R.map ER.k).set i z'.k := by
  rw [List.map_set]
/-- the task ends -/
theorem post_end {w wx : World} {B g kg sb m : Nat} {ev0 ev kv aw : Value} {R0 R : List ER} {ks : List Int} {sc ys : List Value} {E2 : List EK} {r : Int} (hD : DoW w B g kg w.heap.size sb ev0 R ev kv ks sc aw m ys wx) (hE : R.map ER.k = E2) (hl : R0.length < R.length) (hR : ∀ i, i < R0.length → R[i]? = R0[i]?) :
    DoPost B g kg ev0 R0 E2 r w (.returned (.agg #[.int .i64 0, .int .i64 r])) ((wx.setCell ⟨w.heap.size, 0, none⟩ (.int .i64 0)).setCell ⟨w.heap.size, 1, none⟩ (.int .i64 r)) := by
  have k : Keep [w.heap.size] wx ((wx.setCell ⟨w.heap.size, 0, none⟩ (.int .i64 0)).setCell ⟨w.heap.size, 1, none⟩ (.int .i64 r)) := ((Keep.refl _ wx).setCell (by simp) _).setCell (by simp) _
  refine ⟨R, ev, rfl, hE, Nat.le_of_lt hl, hR, hD.keep.trans k (fun x hx => Or.inr (by rw [List.mem_singleton] at hx; omega)), hD.blk.keep k (fun hm => hD.blk.ne_ hD.res (by decide) (List.mem_singleton.1 hm)), hD.ents.keep k (fun x hx hm => ?_), hD.evs⟩
  rw [List.mem_singleton] at hm
  subst hm
  exact own_apart hD.ents hD.res (by decide) (mem_ownD.2 hx)
/-- behind 'Awaits = append(Awaits, ev.Kid)' -/
def Post20 (w : World) (B g kg sb : Nat) (ev0 : Value) (R : List ER) (a : Nat) (x : ER) (ev kv : Value) (ks : List Int) (sv1 : Value) (m : Nat) (ys : List Value) (S1 : SS) (p1 p2 : Nat) (ea eb ec en ex ey : Int) (wx : World) : Prop :=
  ∃ aw' : Value, DoW w B g kg w.heap.size sb ev0 (R.set a { x with aw := aw' }) ev kv ks (stCells S1 sv1) aw' (m + 1) (ys ++ [.int .i64 ec]) wx ∧ Blk wx p1 133 (stCells S1 sv1) ∧ Blk wx p2 138 [.int .i64 ea, .int .i64 eb, .int .i64 ec, .int .i64 en, .slice none 0 0, .int .i64 ex, .int .i64 ey] ∧ IntsOf wx sv1 S1.stack
theorem post20 {w w3 w7 w4 : World} {B g kg sb m p1 p2 lo a ge off cap q c5 : Nat} {ev0 kv sv1 : Value} {a5 : Option Addr} {R : List ER} {x : ER} {ks : List Int} {ys : List Value} {S1 : SS} {ea eb ec en ex ey : Int} (h : Mid w B g kg sb ev0 R (.slice (some ⟨ge, off, none⟩) q cap) kv ks sv1 x.aw m ys S1 p1 p2 lo ea eb ec en ex ey w3) (hx : R[a]? = some x) (k7 : Keep [] w3 w7)
    (ho : OwnsAt w4 (w.heap.size + 1) 3 1 (.slice a5 (m + 1) c5) (m + 1) (ys ++ [.int .i64 ec])) (k4 : Keep (ownBlocks x.aw) w7 w4) :
    Post20 w B g kg sb ev0 R a x (.slice (some ⟨ge, off, none⟩) q cap) kv ks sv1 m ys S1 p1 p2 ea eb ec en ex ey (w4.setCell ⟨ge, off + a * 8 + 7, none⟩ (.slice a5 (m + 1) c5)) ∧ w4.cell? ⟨g, 1, none⟩ = some (.slice (some ⟨ge, off, none⟩) q cap) ∧ (∀ i, w4.frozen? ⟨ge, i, none⟩ = false) ∧ w4.cell? ⟨ge, off + a * 8 + 7, none⟩ = some x.aw := by
  have h7 := h.more k7
  have hd := h7.d.await k4 ho
  have hgl : ge < lo := h.el ge (mem_ownD.2 rfl)
  have h1 := h.p1
  have h2 := h.p2
  have hq : q = R.length := by
    rcases h.d.ents.2 with ⟨h0, _⟩ | ⟨g', off', cap', cur', h0, _⟩
    · cases h0
    · injection h0
  subst hq
  have hd2 := hd.entry rfl (i := a) (j := 7) (x := x) (x' := { x with aw := .slice a5 (m + 1) c5 }) (u := .slice a5 (m + 1) c5) hx (by omega) rfl
  rw [← Nat.add_assoc] at hd2
  have kk : Keep (ge :: ownBlocks x.aw) w7 (w4.setCell ⟨ge, off + a * 8 + 7, none⟩ (.slice a5 (m + 1) c5)) := (k4.mono (T := ge :: ownBlocks x.aw) (fun x hx => Or.inl (List.mem_cons_of_mem _ hx))).setCell (Or.inl (List.mem_cons_self ..)) _
  have hn : ∀ z, lo ≤ z → z ∉ ge :: ownBlocks x.aw := fun z hz hm => by
    rcases List.mem_cons.1 hm with rfl | hm
    · omega
    · have := h.al z hm; omega
  refine ⟨⟨_, hd2, h7.b1.keep kk (hn _ h1), h7.b2.keep kk (hn _ h2), h7.iv.keep kk (fun z hz => hn z (h.bv z hz))⟩, hd.blk.cell 1, fun i => hd.ents.free i, ?_⟩
  obtain ⟨_, _, _, hv6, _, _, _, _, hcells⟩ := hd.ents.form (by have := get_lt hx; omega)
  injection hv6 with e1 _ _
  injection e1 with e1
  injection e1 with e1 e2
  subst e1 e2
  have := hcells (a * 8 + 7) x.aw (by rw [flat_at ER.c_len R a x 7 hx (by omega)]; rfl)
  rw [Nat.add_assoc]; exact this
theorem DoW.box {w0 wr w' : World} {B g kg rb sb m p : Nat} {ev0 ev kv aw : Value} {R : List ER} {ks : List Int} {sc ys cs : List Value} {t : TypeId} (h : DoW w0 B g kg rb sb ev0 R ev kv ks sc aw m ys wr) (hb : Blk wr p t cs) (h1 : t ≠ 106) (h2 : t ≠ 64) (h3 : t ≠ 61) (h4 : t ≠ 3) (hp : p ≠ sb) (hp0 : w0.heap.size ≤ p) (k : Keep [p] wr w') : DoW w0 B g kg rb sb ev0 R ev kv ks sc aw m ys w' := by
  have ho : ∀ {e size n : Nat} {v : Value} {xs : List Value} {B' : Nat}, OwnsAt wr B' e size v n xs → t ≠ e → ∀ x, v.ownBlock = some x → x ∉ [p] := fun ho he x hx hm => by
    rw [List.mem_singleton] at hm
    subst hm
    exact own_apart ho hb he (mem_ownD.2 hx)
  refine ⟨h.keep.trans k (fun x hx => by rw [List.mem_singleton] at hx; subst hx; exact Or.inr hp0), h.blk.keep k (fun hm => hb.ne_ h.blk h1 (List.mem_singleton.1 hm).symm), h.ents.keep k (ho h.ents h2), h.evs, h.res.keep k (fun hm => hb.ne_ h.res h3 (List.mem_singleton.1 hm).symm), h.st.keep k (fun hm => hp (List.mem_singleton.1 hm).symm), h.kids.keep k (ho h.kids h3), h.aws.keep k (ho h.aws h4), h.base⟩
def ResumePost2 (S' : SS) (w : World) (e : Ending) (w' : World) : Prop :=
  ∃ (a : Option Addr) (c : Nat), e = .returned (.tuple #[.agg #[.int .i64 S'.fn, .int .i64 S'.pc, .int .i64 S'.fuel, .slice a S'.stack.length c, .slice none 0 0, .int .i64 S'.kids, .bool S'.waits], .agg #[.int .i64 0, .int .i64 0, .int .i64 0, .int .i64 0, .slice none 0 0, .int .i64 0, .int .i64 0]]) ∧
    IntsOf w' (.slice a S'.stack.length c) S'.stack ∧ (∀ x ∈ sliceBlock (.slice a S'.stack.length c), w.heap.size ≤ x) ∧ Keep [] w w'
theorem resume_spec2 (w : World) (B0 kg : Nat) (J : JB) (S : SS) (sv : Value) (rv : Int) {l : List Int} {k : Nat} (hK : KnownAt B0 w kg J) (hB0 : B0 ≤ w.heap.size) (hs : IntsOf w sv S.stack) (hM : MayR J S) (hw : S.waits = true) (h17 : ∃ i : IN, J.at_ S i ∧ i.op = 17) (hl : S.stack = l ++ [(k : Int)]) (hkk : k < S.kids) (hpc : S.pc ≤ 1000) :
    Calls Tryd.prog 72 #[.pointer (some ⟨kg, 0, none⟩), .agg #[.int .i64 S.fn, .int .i64 S.pc, .int .i64 S.fuel, sv, .slice none 0 0, .int .i64 S.kids, .bool S.waits], .agg #[.int .i64 0, .int .i64 rv]] w (ResumePost2 { S with stack := l ++ [rv], pc := S.pc + 1, waits := false } w) := by
  refine (resume_spec w B0 0 kg J S _ rv hK hB0 ⟨sv, rfl, hs, fun _ _ => Nat.zero_le _⟩ hM hw h17 hl hkk hpc).mono ?_
  rintro e w' ⟨sv1, rfl, ⟨sv2, h1, h2, h3⟩, hk⟩
  have : sv1 = sv2 := by
    unfold stV6 at h1
    simp at h1
    exact h1
  subst this
  obtain ⟨a, c, rfl⟩ := h2.shape
  exact ⟨a, c, rfl, h2, h3, hk⟩
theorem cells10_drew {w : World} {g q b o : Nat} {a0 a1 a2 a3 a4 a5 a6 a7 a8 a9 : Value} (h : w.cell? ⟨g, 0, none⟩ = some a0 ∧ w.cell? ⟨q, 0, none⟩ = some a1 ∧ w.cell? ⟨q, 1, none⟩ = some a2 ∧ w.cell? ⟨q, 2, none⟩ = some a3 ∧ w.cell? ⟨q, 3, none⟩ = some a4 ∧ w.cell? ⟨q, 4, none⟩ = some a5 ∧ w.cell? ⟨q, 5, none⟩ = some a6 ∧ w.cell? ⟨q, 6, none⟩ = some a7 ∧ w.cell? ⟨b, o, none⟩ = some a8 ∧ w.cell? ⟨b, o + 1, none⟩ = some a9) : w.drew.cell? ⟨g, 0, none⟩ = some a0 ∧ w.drew.cell? ⟨q, 0, none⟩ = some a1 ∧ w.drew.cell? ⟨q, 1, none⟩ = some a2 ∧ w.drew.cell? ⟨q, 2, none⟩ = some a3 ∧ w.drew.cell? ⟨q, 3, none⟩ = some a4 ∧ w.drew.cell? ⟨q, 4, none⟩ = some a5 ∧ w.drew.cell? ⟨q, 5, none⟩ = some a6 ∧ w.drew.cell? ⟨q, 6, none⟩ = some a7 ∧ w.drew.cell? ⟨b, o, none⟩ = some a8 ∧ w.drew.cell? ⟨b, o + 1, none⟩ = some a9 := h
theorem cells10_set {w : World} {g q b o p : Nat} {a0 a1 a2 a3 a4 a5 a6 a7 a8 a9 x0 x1 x2 x3 x4 x5 x6 : Value} (hg : g ≠ p) (hq : q ≠ p) (hb : b ≠ p) (h : w.cell? ⟨g, 0, none⟩ = some a0 ∧ w.cell? ⟨q, 0, none⟩ = some a1 ∧ w.cell? ⟨q, 1, none⟩ = some a2 ∧ w.cell? ⟨q, 2, none⟩ = some a3 ∧ w.cell? ⟨q, 3, none⟩ = some a4 ∧ w.cell? ⟨q, 4, none⟩ = some a5 ∧ w.cell? ⟨q, 5, none⟩ = some a6 ∧ w.cell? ⟨q, 6, none⟩ = some a7 ∧ w.cell? ⟨b, o, none⟩ = some a8 ∧ w.cell? ⟨b, o + 1, none⟩ = some a9) : (((((((w.setCell ⟨p, 0, none⟩ x0).setCell ⟨p, 1, none⟩ x1).setCell ⟨p, 2, none⟩ x2).setCell ⟨p, 3, none⟩ x3).setCell ⟨p, 4, none⟩ x4).setCell ⟨p, 5, none⟩ x5).setCell ⟨p, 6, none⟩ x6).cell? ⟨g, 0, none⟩ = some a0 ∧ (((((((w.setCell ⟨p, 0, none⟩ x0).setCell ⟨p, 1, none⟩ x1).setCell ⟨p, 2, none⟩ x2).setCell ⟨p, 3, none⟩ x3).setCell ⟨p, 4, none⟩ x4).setCell ⟨p, 5, none⟩ x5).setCell ⟨p, 6, none⟩ x6).cell? ⟨q, 0, none⟩ = some a1 ∧ (((((((w.setCell ⟨p, 0, none⟩ x0).setCell ⟨p, 1, none⟩ x1).setCell ⟨p, 2, none⟩ x2).setCell ⟨p, 3, none⟩ x3).setCell ⟨p, 4, none⟩ x4).setCell ⟨p, 5, none⟩ x5).setCell ⟨p, 6, none⟩ x6).cell? ⟨q, 1, none⟩ = some a2 ∧ (((((((w.setCell ⟨p, 0, none⟩ x0).setCell ⟨p, 1, none⟩ x1).setCell ⟨p, 2, none⟩ x2).setCell ⟨p, 3, none⟩ x3).setCell ⟨p, 4, none⟩ x4).setCell ⟨p, 5, none⟩ x5).setCell ⟨p, 6, none⟩ x6).cell? ⟨q, 2, none⟩ = some a3 ∧ (((((((w.setCell ⟨p, 0, none⟩ x0).setCell ⟨p, 1, none⟩ x1).setCell ⟨p, 2, none⟩ x2).setCell ⟨p, 3, none⟩ x3).setCell ⟨p, 4, none⟩ x4).setCell ⟨p, 5, none⟩ x5).setCell ⟨p, 6, none⟩ x6).cell? ⟨q, 3, none⟩ = some a4 ∧ (((((((w.setCell ⟨p, 0, none⟩ x0).setCell ⟨p, 1, none⟩ x1).setCell ⟨p, 2, none⟩ x2).setCell ⟨p, 3, none⟩ x3).setCell ⟨p, 4, none⟩ x4).setCell ⟨p, 5, none⟩ x5).setCell ⟨p, 6, none⟩ x6).cell? ⟨q, 4, none⟩ = some a5 ∧ (((((((w.setCell ⟨p, 0, none⟩ x0).setCell ⟨p, 1, none⟩ x1).setCell ⟨p, 2, none⟩ x2).setCell ⟨p, 3, none⟩ x3).setCell ⟨p, 4, none⟩ x4).setCell ⟨p, 5, none⟩ x5).setCell ⟨p, 6, none⟩ x6).cell? ⟨q, 5, none⟩ = some a6 ∧ (((((((w.setCell ⟨p, 0, none⟩ x0).setCell ⟨p, 1, none⟩ x1).setCell ⟨p, 2, none⟩ x2).setCell ⟨p, 3, none⟩ x3).setCell ⟨p, 4, none⟩ x4).setCell ⟨p, 5, none⟩ x5).setCell ⟨p, 6, none⟩ x6).cell? ⟨q, 6, none⟩ = some a7 ∧ (((((((w.setCell ⟨p, 0, none⟩ x0).setCell ⟨p, 1, none⟩ x1).setCell ⟨p, 2, none⟩ x2).setCell ⟨p, 3, none⟩ x3).setCell ⟨p, 4, none⟩ x4).setCell ⟨p, 5, none⟩ x5).setCell ⟨p, 6, none⟩ x6).cell? ⟨b, o, none⟩ = some a8 ∧ (((((((w.setCell ⟨p, 0, none⟩ x0).setCell ⟨p, 1, none⟩ x1).setCell ⟨p, 2, none⟩ x2).setCell ⟨p, 3, none⟩ x3).setCell ⟨p, 4, none⟩ x4).setCell ⟨p, 5, none⟩ x5).setCell ⟨p, 6, none⟩ x6).cell? ⟨b, o + 1, none⟩ = some a9 := by
  have k := keep7 (w := w) (g := p) x0 x1 x2 x3 x4 x5 x6
  have c : ∀ {b i : Nat} {u : Value}, w.cell? ⟨b, i, none⟩ = some u → b ≠ p → (((((((w.setCell ⟨p, 0, none⟩ x0).setCell ⟨p, 1, none⟩ x1).setCell ⟨p, 2, none⟩ x2).setCell ⟨p, 3, none⟩ x3).setCell ⟨p, 4, none⟩ x4).setCell ⟨p, 5, none⟩ x5).setCell ⟨p, 6, none⟩ x6).cell? ⟨b, i, none⟩ = some u := fun hu hb => (k.cell (World.block_lt_of_cell? _ _ hu) (by simpa using hb)).trans hu
  obtain ⟨h0, h1, h2, h3, h4, h5, h6, h7, h8, h9⟩ := h
  exact ⟨c h0 hg, c h1 hq, c h2 hq, c h3 hq, c h4 hq, c h5 hq, c h6 hq, c h7 hq, c h8 hb, c h9 hb⟩
theorem after_resume {w w7 w9 : World} {B g kg sb m p1 p2 : Nat} {ev0 ev kv aw sv2 : Value} {R : List ER} {ks : List Int} {ys sc c1 c2 : List Value} {S2 : SS} (hD : DoW w B g kg w.heap.size sb ev0 R ev kv ks sc aw m ys w7) (hb1 : Blk w7 p1 133 c1) (hb2 : Blk w7 p2 138 c2) (hl1 : c1.length = 7) (hl2 : c2.length = 7) (h1 : p1 ≠ sb) (h2 : p2 ≠ sb) (h3 : w.heap.size ≤ p1) (h4 : w.heap.size ≤ p2) (hk : Keep [] w7 w9) (hiv : IntsOf w9 sv2 S2.stack) (hbv : ∀ x ∈ sliceBlock sv2, w7.heap.size ≤ x) :
    DoW w B g kg w.heap.size sb ev0 R ev kv ks sc aw m ys (((((((((((((((w9.setCell ⟨p1, 0, none⟩ (.int .i64 S2.fn)).setCell ⟨p1, 1, none⟩ (.int .i64 S2.pc)).setCell ⟨p1, 2, none⟩ (.int .i64 S2.fuel)).setCell ⟨p1, 3, none⟩ sv2).setCell ⟨p1, 4, none⟩ (.slice none 0 0)).setCell ⟨p1, 5, none⟩ (.int .i64 S2.kids)).setCell ⟨p1, 6, none⟩ (.bool S2.waits)).setCell ⟨p2, 0, none⟩ (.int .i64 0)).setCell ⟨p2, 1, none⟩ (.int .i64 0)).setCell ⟨p2, 2, none⟩ (.int .i64 0)).setCell ⟨p2, 3, none⟩ (.int .i64 0)).setCell ⟨p2, 4, none⟩ (.slice none 0 0)).setCell ⟨p2, 5, none⟩ (.int .i64 0)).setCell ⟨p2, 6, none⟩ (.int .i64 0))) ∧ Blk (((((((((((((((w9.setCell ⟨p1, 0, none⟩ (.int .i64 S2.fn)).setCell ⟨p1, 1, none⟩ (.int .i64 S2.pc)).setCell ⟨p1, 2, none⟩ (.int .i64 S2.fuel)).setCell ⟨p1, 3, none⟩ sv2).setCell ⟨p1, 4, none⟩ (.slice none 0 0)).setCell ⟨p1, 5, none⟩ (.int .i64 S2.kids)).setCell ⟨p1, 6, none⟩ (.bool S2.waits)).setCell ⟨p2, 0, none⟩ (.int .i64 0)).setCell ⟨p2, 1, none⟩ (.int .i64 0)).setCell ⟨p2, 2, none⟩ (.int .i64 0)).setCell ⟨p2, 3, none⟩ (.int .i64 0)).setCell ⟨p2, 4, none⟩ (.slice none 0 0)).setCell ⟨p2, 5, none⟩ (.int .i64 0)).setCell ⟨p2, 6, none⟩ (.int .i64 0))) p1 133 (stCells S2 sv2) ∧ Blk (((((((((((((((w9.setCell ⟨p1, 0, none⟩ (.int .i64 S2.fn)).setCell ⟨p1, 1, none⟩ (.int .i64 S2.pc)).setCell ⟨p1, 2, none⟩ (.int .i64 S2.fuel)).setCell ⟨p1, 3, none⟩ sv2).setCell ⟨p1, 4, none⟩ (.slice none 0 0)).setCell ⟨p1, 5, none⟩ (.int .i64 S2.kids)).setCell ⟨p1, 6, none⟩ (.bool S2.waits)).setCell ⟨p2, 0, none⟩ (.int .i64 0)).setCell ⟨p2, 1, none⟩ (.int .i64 0)).setCell ⟨p2, 2, none⟩ (.int .i64 0)).setCell ⟨p2, 3, none⟩ (.int .i64 0)).setCell ⟨p2, 4, none⟩ (.slice none 0 0)).setCell ⟨p2, 5, none⟩ (.int .i64 0)).setCell ⟨p2, 6, none⟩ (.int .i64 0))) p2 138 [.int .i64 0, .int .i64 0, .int .i64 0, .int .i64 0, .slice none 0 0, .int .i64 0, .int .i64 0] ∧ IntsOf (((((((((((((((w9.setCell ⟨p1, 0, none⟩ (.int .i64 S2.fn)).setCell ⟨p1, 1, none⟩ (.int .i64 S2.pc)).setCell ⟨p1, 2, none⟩ (.int .i64 S2.fuel)).setCell ⟨p1, 3, none⟩ sv2).setCell ⟨p1, 4, none⟩ (.slice none 0 0)).setCell ⟨p1, 5, none⟩ (.int .i64 S2.kids)).setCell ⟨p1, 6, none⟩ (.bool S2.waits)).setCell ⟨p2, 0, none⟩ (.int .i64 0)).setCell ⟨p2, 1, none⟩ (.int .i64 0)).setCell ⟨p2, 2, none⟩ (.int .i64 0)).setCell ⟨p2, 3, none⟩ (.int .i64 0)).setCell ⟨p2, 4, none⟩ (.slice none 0 0)).setCell ⟨p2, 5, none⟩ (.int .i64 0)).setCell ⟨p2, 6, none⟩ (.int .i64 0))) sv2 S2.stack := by
  have e1 := hb1.keep hk (by simp)
  have e2 := hb2.keep hk (by simp)
  have ne : p1 ≠ p2 := e1.ne_ e2 (by decide)
  have l1 := hb1.lt
  have l2 := hb2.lt
  obtain ⟨x0, x1, x2, x3, x4, x5, x6, rfl⟩ : ∃ a b c d e f h, c1 = [a, b, c, d, e, f, h] := by
    match c1, hl1 with
    | [a, b, c, d, e, f, h], _ => exact ⟨a, b, c, d, e, f, h, rfl⟩
  obtain ⟨y0, y1, y2, y3, y4, y5, y6, rfl⟩ : ∃ a b c d e f h, c2 = [a, b, c, d, e, f, h] := by
    match c2, hl2 with
    | [a, b, c, d, e, f, h], _ => exact ⟨a, b, c, d, e, f, h, rfl⟩
  have k1 := keep7 (w := w9) (g := p1) (.int .i64 S2.fn) (.int .i64 S2.pc) (.int .i64 S2.fuel) sv2 (.slice none 0 0) (.int .i64 S2.kids) (.bool S2.waits)
  have f2 := e2.far7 (Ne.symm ne) (.int .i64 S2.fn) (.int .i64 S2.pc) (.int .i64 S2.fuel) sv2 (.slice none 0 0) (.int .i64 S2.kids) (.bool S2.waits)
  have D1 := (hD.more hk).box e1 (by decide) (by decide) (by decide) (by decide) h1 h3 k1
  refine ⟨D1.box f2 (by decide) (by decide) (by decide) (by decide) h2 h4 (keep7 (g := p2) _ _ _ _ _ _ _), (set7 e1 _ _ _ _ _ _ _).far7 ne _ _ _ _ _ _ _, set7 f2 _ _ _ _ _ _ _, hiv.keep (keep77 (w := w9) (p := p1) (q := p2) _ _ _ _ _ _ _ _ _ _ _ _ _ _) (fun z hz hm => ?_)⟩
  have := hbv z hz
  simp at hm
  omega
end Go.Proofs.YtndpbkhpllmhmaaDoor
namespace Go.Proofs.YtndpbkhpllmhmaaDoor
set_option linter.unusedSimpArgs false
set_option linter.unnecessarySimpa false
set_option linter.unusedVariables false
section
variable {P : Program} {md : Region.Mode}
/-- Q, but N behind a normal end -/
def Ahead (Q : Exit → Act → World → Prop) (N : Act → World → Prop) : Exit → Act → World → Prop
  | .normal, a, w => N a w
  | e, a, w => Q e a w
theorem wp_swap {o : Oper} {a : Act} {w : World} {K K' : Act → World → Prop} {Q : Exit → Act → World → Prop} {N : Act → World → Prop} (h : ∀ a w, K a w → K' a w) (hh : o.wp P a w K (Ahead Q N)) : o.wp P a w K' Q := by
  unfold Oper.wp at *
  generalize (execOp a.eval o).run P w = r at *
  unfold Oper.upon at *
  split at hh
  · exact h _ _ hh
  · exact h _ _ hh
  · exact h _ _ hh
  · refine hh.mono fun e w' hp => ?_
    cases e with
    | returned v => exact h _ _ hp
    | panicked c => exact hp
    | outgrown => obtain ⟨a', w'', h'⟩ := hp; exact ⟨a', w'', h'⟩
  · exact hh.mono fun v w' hp => h _ _ hp
  · exact hh
  · exact hh.elim
theorem lets_swap {Q : Exit → Act → World → Prop} {N : Act → World → Prop} (h : LetsOut (Ahead Q N)) : LetsOut Q := by obtain ⟨a', w'', h'⟩ := h; exact ⟨a', w'', h'⟩
theorem wanted_none {o : Oper} (h : o.guard = none) (x : Nat → Option Bool) : Region.wanted o x = true := by simp [Region.wanted, h]
theorem getD_in' {l : Array Bool} {i : Nat} (h : i < l.size) (a b : Bool) : l.getD i a = l.getD i b := by simp [Array.getD, h]
structure Same (n : Nat) (listed listed' : Array Bool) : Prop where
  s1 : listed.size = n + 1
  s2 : listed'.size = n
  at_ : ∀ j, j < n → listed'.getD j true = listed.getD j true
theorem Same.set {n i : Nat} {listed listed' : Array Bool} (h : Same n listed listed') (hi : i < n) : Same n (listed.setIfInBounds i true) (listed'.setIfInBounds i true) := by
  refine ⟨by simp [h.s1], by simp [h.s2], fun j hj => ?_⟩
  have h1 := h.s1
  have h2 := h.s2
  by_cases hij : i = j
  · subst hij
    simp [Array.getD, h1, h2, hj, show i < n + 1 by omega]
  · have := h.at_ j hj
    simpa [Array.getD, h1, h2, hj, show j < n + 1 by omega, Array.getElem_setIfInBounds, hij] using this
/-- what the program that prints the region's text answers for: no guards, edges lead back, the last one waits -/
def splitB (md : Region.Mode) (l : List Oper) (o : Oper) : Bool :=
  ((l ++ [o]).all fun x => x.guard.isNone) && ((List.range (l.length + 1)).all fun i => match (l ++ [o])[i]? with | some x => x.after.all (fun e => decide (e.on < i)) | none => true) &&
    Region.sinkB md (l ++ [o]).toArray l.length && Region.chainB md (l ++ [o]).toArray l.length
theorem wpAny_split {l : List Oper} {o : Oper} {Q : Exit → Act → World → Prop} (hB : splitB md l o = true) :
    ∀ (f : Nat) (listed listed' : Array Bool) (a : Act) (w : World), Same l.length listed listed' → HeadInv md (l ++ [o]).toArray l.length listed → wpAny P md l.toArray (Ahead Q (fun a w => o.wp P a w (Q .normal) Q)) f listed' a w →
      wpAny P md (l ++ [o]).toArray Q (f + 1) listed a w := by
  unfold splitB at hB
  simp only [Bool.and_eq_true] at hB
  obtain ⟨⟨⟨hg, hb⟩, hs⟩, hc⟩ := hB
  have hgd : ∀ (i : Nat) (x : Oper), (l ++ [o])[i]? = some x → x.guard = none := fun i x hx => by
    have := List.all_eq_true.1 hg x (List.mem_of_getElem? hx)
    simpa using this
  have hbk : ∀ (i : Nat) (x : Oper), (l ++ [o])[i]? = some x → ∀ e ∈ x.after, e.on < i := fun i x hx e he => by
    have hi : i < l.length + 1 := by
      rcases Nat.lt_or_ge i (l.length + 1) with h' | h'
      · exact h'
      · rw [List.getElem?_eq_none (by simpa using h')] at hx; cases hx
    have h1 := List.all_eq_true.1 hb i (List.mem_range.2 hi)
    rw [hx] at h1
    simp only at h1
    have := Array.all_eq_true'.1 h1 e he
    simpa using this
  have hlast : (l ++ [o])[l.length]? = some o := by simp
  have hhead : ∀ i, i < l.length → (l ++ [o])[i]? = l[i]? := fun i hi => List.getElem?_append_left hi
  -- which of the head may come up
  have hready : ∀ (listed listed' : Array Bool), Same l.length listed listed' → ∀ i, i < l.length → (i ∈ Region.ready md (l ++ [o]).toArray listed ↔ i ∈ Region.ready md l.toArray listed') := by
    intro listed listed' hS i hi
    have h1 := hS.s1
    have h2 := hS.s2
    rw [mem_ready, mem_ready, hS.at_ i hi]
    simp only [List.getElem?_toArray, hhead i hi]
    constructor
    · rintro ⟨hu, x, hx, hall⟩
      refine ⟨hu, x, hx, fun e he hbd => ?_⟩
      have hlt := hbk i x (by rw [hhead i hi]; exact hx) e he
      have := hall e he hbd
      rw [getD_in' (by omega) false true, hS.at_ _ (by omega), getD_in' (by omega) true false]
      exact this
    · rintro ⟨hu, x, hx, hall⟩
      refine ⟨hu, x, hx, fun e he hbd => ?_⟩
      have hlt := hbk i x (by rw [hhead i hi]; exact hx) e he
      have := hall e he hbd
      rw [getD_in' (by omega) false true, hS.at_ _ (by omega), getD_in' (by omega) true false] at this
      exact this
  -- something may come up as long as not all is listed
  have hsome : ∀ (listed listed' : Array Bool), Same l.length listed listed' → ∀ i, i ≤ l.length → listed.getD i true = false → Region.ready md (l ++ [o]).toArray listed ≠ [] := by
    intro listed listed' hS i
    induction i using Nat.strongRecOn with
    | _ i ih =>
      intro hi hu hnil
      have hx : ∃ x, (l ++ [o])[i]? = some x := ⟨_, List.getElem?_eq_getElem (by simp; omega)⟩
      obtain ⟨x, hx⟩ := hx
      by_cases hall : ∀ e ∈ x.after, listed.getD e.on true = true
      · have : i ∈ Region.ready md (l ++ [o]).toArray listed := mem_ready.2 ⟨hu, x, by simpa using hx, fun e he _ => by
          have hlt := hbk i x hx e he
          have h1 := hS.s1
          rw [getD_in' (by omega) false true]
          exact hall e he⟩
        rw [hnil] at this
        cases this
      · have : ∃ e ∈ x.after, listed.getD e.on true = false := by
          refine Classical.byContradiction fun hn => hall fun e he => ?_
          cases hv : listed.getD e.on true with
          | true => rfl
          | false => exact absurd ⟨e, he, hv⟩ hn
        obtain ⟨e, he, hv⟩ := this
        have hlt := hbk i x hx e he
        exact ih e.on hlt (by omega) hv hnil
  intro f
  induction f with
  | zero =>
    intro listed listed' a w hS inv h
    refine ⟨fun hnil => ?_, fun i hi => ?_⟩
    · exact absurd hnil (hsome _ _ hS l.length (Nat.le_refl _) (inv.tail _ (Nat.le_refl _) (by simp)))
    · obtain ⟨hu, x, hx, _⟩ := mem_ready.1 hi
      have hil : i < l.length + 1 := by
        rcases Nat.lt_or_ge i (l.length + 1) with h' | h'
        · exact h'
        · rw [List.getElem?_toArray, List.getElem?_eq_none (by simpa using h')] at hx; cases hx
      by_cases hin : i < l.length
      · have := (hready _ _ hS i hin).1 hi
        rw [h.1] at this
        cases this
      · obtain rfl : i = l.length := by omega
        have hN : o.wp P a w (Q .normal) Q := h.2
        unfold wpOp
        simp only [List.getElem?_toArray, hlast, wanted_none (hgd _ _ hlast), if_true]
        refine Or.inl (Oper.wp_mono (fun a' w' hq => ?_) hN)
        refine ⟨?_, hq⟩
        have hall : ∀ j, j < l.length → listed.getD j true = true := fun j hj => by
          cases hv : listed.getD j true with
          | true => rfl
          | false => exact absurd hi (tail_waits hs hc (by simp) inv _ j rfl hj hv l.length (Nat.le_refl _))
        refine List.eq_nil_iff_forall_not_mem.2 fun j hj => ?_
        obtain ⟨hu', x', hx', _⟩ := mem_ready.1 hj
        have h1 := hS.s1
        have hjl : j < l.length + 1 := by
          rcases Nat.lt_or_ge j (l.length + 1) with h' | h'
          · exact h'
          · rw [List.getElem?_toArray, List.getElem?_eq_none (by simpa using h')] at hx'; cases hx'
        by_cases hjn : l.length = j
        · subst hjn
          simp [Array.getD, h1] at hu'
        · have := hall j (by omega)
          rw [getD_set_ne true hjn] at hu'
          rw [this] at hu'
          cases hu'
  | succ f ih =>
    intro listed listed' a w hS inv h
    refine ⟨fun hnil => ?_, fun i hi => ?_⟩
    · exact absurd hnil (hsome _ _ hS l.length (Nat.le_refl _) (inv.tail _ (Nat.le_refl _) (by simp)))
    · obtain ⟨hu, x, hx, _⟩ := mem_ready.1 hi
      have hil : i < l.length + 1 := by
        rcases Nat.lt_or_ge i (l.length + 1) with h' | h'
        · exact h'
        · rw [List.getElem?_toArray, List.getElem?_eq_none (by simpa using h')] at hx; cases hx
      by_cases hin : i < l.length
      · have hi' := (hready _ _ hS i hin).1 hi
        have h2 := h.2 i hi'
        have hxl : l[i]? = some x := by rw [← hhead i hin]; simpa using hx
        unfold wpOp at h2 ⊢
        simp only [List.getElem?_toArray, hhead i hin, hxl, wanted_none (hgd i x (by rw [hhead i hin]; exact hxl)), if_true] at h2 ⊢
        rcases h2 with h2 | ⟨h2, h3⟩
        · exact Or.inl (wp_swap (fun a' w' h4 => ih _ _ a' w' (hS.set hin) (inv.set hi hin) h4) h2)
        · exact Or.inr ⟨h2, lets_swap h3⟩
      · obtain rfl : i = l.length := by omega
        have hall : ∀ j, j < l.length → listed.getD j true = true := fun j hj => by
          cases hv : listed.getD j true with
          | true => rfl
          | false => exact absurd hi (tail_waits hs hc (by simp) inv _ j rfl hj hv l.length (Nat.le_refl _))
        have hnil' : Region.ready md l.toArray listed' = [] := by
          refine List.eq_nil_iff_forall_not_mem.2 fun j hj => ?_
          obtain ⟨hu', x', hx', _⟩ := mem_ready.1 hj
          have hjl : j < l.length := by
            rcases Nat.lt_or_ge j l.length with h' | h'
            · exact h'
            · rw [List.getElem?_toArray, List.getElem?_eq_none (by simpa using h')] at hx'; cases hx'
          rw [hS.at_ j hjl, hall j hjl] at hu'
          cases hu'
        have hN : o.wp P a w (Q .normal) Q := h.1 hnil'
        have h1 := hS.s1
        unfold wpOp
        simp only [List.getElem?_toArray, hlast, wanted_none (hgd _ _ hlast), if_true]
        refine Or.inl (Oper.wp_mono (fun a' w' hq => ⟨fun _ => hq, fun j hj => ?_⟩) hN)
        obtain ⟨hu', x', hx', _⟩ := mem_ready.1 hj
        have hjl : j < l.length + 1 := by
          rcases Nat.lt_or_ge j (l.length + 1) with h' | h'
          · exact h'
          · rw [List.getElem?_toArray, List.getElem?_eq_none (by simpa using h')] at hx'; cases hx'
        by_cases hjn : l.length = j
        · subst hjn
          simp [Array.getD, h1] at hu'
        · have := hall j (by omega)
          rw [getD_set_ne true hjn] at hu'
          rw [this] at hu'
          cases hu'
/-- the first n operations, in whatever order, S held; then the last one -/
theorem wp_region_split {id : Nat} {Q : Exit → Act → World → Prop} {a : Act} {w : World} {L : List Oper} (n : Nat) (S : World → Prop) {o : Oper} (hm : P.follows .mixedOrders = true) (hn : L.drop n = [o]) (hB : splitB .any (L.take n) o = true) (hS : S w.drew)
    (h : S w.drew → wpAnyH P .any (L.take n).toArray (Ahead Q (fun a w => o.wp P a w (Q .normal) Q)) S n (Array.replicate n false) a w.drew) : (Code.region id L.toArray true).wp P Q a w := by
  have hlen : L.length = n + 1 := by
    have := congrArg List.length hn
    simp at this
    omega
  have hL : L = L.take n ++ [o] := by rw [← hn, List.take_append_drop]
  have htl : (L.take n).length = n := by simp; omega
  refine wp_region_any hm ?_
  have h1 := wpAny_of_held _ _ _ _ (h hS)
  have inv0 : HeadInv .any (L.take n ++ [o]).toArray (L.take n).length (Array.replicate (n + 1) false) :=
    ⟨by simp; omega, fun j oj _ hl => (by rw [getD_replicate_false] at hl; cases hl), fun t _ ht => getD_in (by simpa using (show t < n + 1 by simp at ht; omega)) (getD_replicate_false _ _)⟩
  have same0 : Same (L.take n).length (Array.replicate (n + 1) false) (Array.replicate n false) :=
    ⟨by simp; omega, by simp; omega, fun j hj => by
      rw [htl] at hj
      simp [Array.getD, hj, show j < n + 1 by omega]⟩
  have h2 := wpAny_split hB n _ _ a _ same0 inv0 h1
  rw [← hL] at h2
  simp only [List.size_toArray, hlen]
  exact h2
end
open Go.RowKit
/-! ### An append leaves the old cells readable where they lay -/
section
variable {P : Program} {w : World}
theorem run_append_old {t e : TypeId} {z : Value} {size bytes : Nat} (st : SliceTy P t e z size bytes) (ty : TypeId) (B g off cap n : Nat) (xs : List Value) (hown : OwnsAt w B e size (.slice (some ⟨g, off, none⟩) n cap) n xs)
    (src : Value) (m : Nat) (news : List Value) (hsrc : SrcOf w src size m news) (h1 : ∀ u ∈ news, u.oneCell' = true) (h63 : n + m ≤ maxLen) (hbytes : (n + m) * bytes ≤ 140737488355328) (hB : B ≤ w.heap.size) :
    ∃ v' w', (Builtin.append_ #[t, t] ty #[.slice (some ⟨g, off, none⟩) n cap, src]).run P w = .ok v' w' ∧ OwnsAt w' B e size v' (n + m) (xs ++ news) ∧ Keep [g] w w' ∧ (v'.ownBlock = some g ∨ v'.ownBlock = some w.heap.size) ∧
      ∀ (j : Nat) (u : Value), xs[j]? = some u → w'.cell? ⟨g, off + j, none⟩ = some u := by
  have hbase : ∀ (j : Nat) (u : Value), xs[j]? = some u → w.cell? ⟨g, off + j, none⟩ = some u := by
    intro j u hu
    have hn : 0 < n := by
      rcases Nat.eq_zero_or_pos n with h0 | h0
      · subst h0
        have := hown.1
        simp at this
        subst this
        simp at hu
      · exact h0
    obtain ⟨g', off', cap', hv, _, _, _, _, h5⟩ := hown.form hn
    injection hv with e1 _ _
    injection e1 with e1
    injection e1 with e1 e2
    subst e1 e2
    exact h5 j u hu
  by_cases hroom : n + m ≤ cap
  · obtain ⟨w', hr, h2, h3⟩ := run_append_fit st ty B g off cap n xs hown src m news hsrc h1 hroom
    refine ⟨_, w', hr, h2, h3, Or.inl rfl, fun j u hu => ?_⟩
    have hn : 0 < n + m := by
      rcases Nat.eq_zero_or_pos n with h0 | h0
      · subst h0
        have := hown.1
        simp at this
        subst this
        simp at hu
      · omega
    obtain ⟨g', off', cap', hv, _, _, _, _, h5⟩ := h2.form hn
    injection hv with e1 _ _
    injection e1 with e1
    injection e1 with e1 e2
    subst e1 e2
    refine h5 j u ?_
    have hlt : j < xs.length := by
      rcases Nat.lt_or_ge j xs.length with h' | h'
      · exact h'
      · rw [List.getElem?_eq_none h'] at hu; cases hu
    rw [List.getElem?_append_left hlt]
    exact hu
  · obtain ⟨v', w', hr, h2, h3, h4⟩ := run_append_off st ty B _ n xs hown src m news hsrc h1 h63 hbytes hB
    have h5 : Keep [] w w' := by
      obtain ⟨i, hi, hz0, hz1, hz2⟩ := info_parts st.info
      obtain ⟨a, c, rfl, hl, hc⟩ := hsrc
      have pos := st.pos
      subst hz1
      subst hz2
      rcases a with _ | ad
      · have hnn : news = [] := by
          refine Classical.byContradiction fun hne => ?_
          obtain ⟨_, h, _⟩ := hc hne
          cases h
        subst hnn
        have hm : m = 0 := by
          rcases Nat.eq_zero_or_pos m with h | h
          · exact h
          · have := Nat.mul_pos h pos
            simp at hl
            omega
        subst hm
        rcases hown.2 with ⟨h0, _⟩ | ⟨g', off', cap', cur, hv, hbg, hg, hnc, hcm, hcs, htake⟩
        · cases h0
        · injection hv with e1 e2 e3
          omega
      · have hcells : ∀ (j : Nat) (u : Value), news[j]? = some u → w.cell? (ad.add j) = some u := by
          intro j u hu
          obtain ⟨ad', h, hc'⟩ := hc (by rintro rfl; simp at hu)
          injection h with h
          subst h
          exact hc' j u hu
        have hr2 := run_append_grow (P := P) w t ty e i z st.und hi hz0 ⟨g, off, none⟩ n cap xs hown.1 (fun j u hu => by rw [add_none]; exact hbase j u hu) ad m c news hl hcells (by omega) (by simp only [maxLen] at h63; omega) (growslice_fits (by omega) hbytes)
        rw [hr2] at hr
        injection hr with _ e2
        subst e2
        exact Keep.of_grown (row := none) ⟨rfl, rfl, rfl, by simp, fun k hk _ => Below.heap_alloc w.drew _ k hk⟩ (by simp)
    refine ⟨v', w', hr, h2, h3, h4, fun j u hu => ?_⟩
    have h6 := hbase j u hu
    exact (h5.cell (World.block_lt_of_cell? _ _ h6) (by simp)).trans h6
theorem step_append_old {ops : Array Oper} {o : Oper} {a : Act} {K : Act → World → Prop} {Q : Exit → Act → World → Prop} {E : Prop} (hgd : o.guard = none) (s x : Operand) {t e : TypeId}
    (ho : o.op = .call { callee := .builtin .append, args := #[s, x], argTypes := #[t, t] }) {z : Value} {size bytes : Nat} (st : SliceTy P t e z size bytes) (B g off cap : Nat)
    (n : Nat) (xs : List Value) (hs : a.eval s = .slice (some ⟨g, off, none⟩) n cap) (hown : OwnsAt w B e size (.slice (some ⟨g, off, none⟩) n cap) n xs)
    (src : Value) (m : Nat) (news : List Value) (hx : a.eval x = src) (hsrc : SrcOf w src size m news) (h1 : ∀ u ∈ news, u.oneCell' = true) (h63 : n + m ≤ maxLen) (hbytes : (n + m) * bytes ≤ 140737488355328) (hB : B ≤ w.heap.size)
    (h : ∀ v' w', OwnsAt w' B e size v' (n + m) (xs ++ news) → Keep [g] w w' → (v'.ownBlock = some g ∨ v'.ownBlock = some w.heap.size) → (∀ (j : Nat) (u : Value), xs[j]? = some u → w'.cell? ⟨g, off + j, none⟩ = some u) → K (a.put o.dst v') w') :
    if Region.wanted o (yielded ops a.tmps) = true then Oper.wp P o a w K Q else E := by
  have hw : Region.wanted o (yielded ops a.tmps) = true := by simp [Region.wanted, hgd]
  rw [if_pos hw]
  obtain ⟨v', w', hr, h2, h3, h4, h5⟩ := run_append_old (w := w) st o.type B g off cap n xs hown src m news hsrc h1 h63 hbytes hB
  unfold Oper.wp execOp
  simp only [ho, resolve, invoke, builtin, Sem.run_bind, Sem.run_pure, Result.andThen_ok, List.map_toArray, List.map_cons, List.map_nil, hs, hx, hr]
  exact h v' w' h2 h3 h4 h5
end
end Go.Proofs.YtndpbkhpllmhmaaDoor
