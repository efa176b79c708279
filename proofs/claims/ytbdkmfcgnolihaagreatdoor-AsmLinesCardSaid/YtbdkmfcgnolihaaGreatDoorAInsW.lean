/- asm: Plain; an instruction's words. -/
import Derived.Test.YtbdkmfcgnolihaaGreatDoorRows
import Derived.WalkKit
import Derived.WalkSpells
import Derived.WalkLawsBesides
import Derived.RegionTactic
import Derived.ChangeAlike
import Derived.BigQuiet
import Derived.Deep.QuietTactic
import Derived.StillTailTactics
import Derived.IntWalk
import Derived.Handy
import Derived.Lib.Hide
import Derived.Deep.AppendLies
import Derived.Deep.RegionWith
import Derived.Test.YtbdkmfcgnolihaaGreatDoorBase
import Derived.Test.YtbdkmfcgnolihaaGreatDoorTail
import Derived.Test.YtbdkmfcgnolihaaGreatDoorArgs
import Derived.Test.YtbdkmfcgnolihaaGreatDoorAppend
import Derived.Test.YtbdkmfcgnolihaaGreatDoorOffs
import Derived.Test.YtbdkmfcgnolihaaGreatDoorStructs
import Derived.Carry
import Derived.Deep.RegionHeld3
import Derived.BigRegion
import Derived.Maps.OwnSet
import Derived.Maps.Views
import Derived.Maps.StringElems
import Derived.Test.YtbdkmfcgnolihaaGreatDoorMaps2
import Derived.Deep.CutRange
import Derived.Deep.CutBlock
import Derived.Test.YtbdkmfcgnolihaaGreatDoorAPlJ
import Derived.Test.YtbdkmfcgnolihaaGreatDoorAPrA
namespace Go.Proofs.YtbdkmfcgnolihaaGreatDoor
set_option linter.unusedSimpArgs false
set_option linter.unnecessarySimpa false
set_option linter.unusedVariables false
open Go.RowKit
set_option maxHeartbeats 3200000 in
set_option maxRecDepth 100000 in
theorem plainJ_spec {w : World} {jv : Value} {j : JB} (h : JobRd w jv j) (hs : JShort j) (ha : j.args.length ≤ 1000000) : Calls Tryz.prog 14 #[jv] w (PlainPost (plainJ j) w) := by
  by_cases h1 : j.funcs.length ≤ 32
  · by_cases h2 : j.args.length ≤ 8
    · by_cases h3 : 0 ≤ j.main
      · by_cases h4 : j.main < j.funcs.length
        · refine (plainJ_loop h hs h1 h2 h3 h4).mono fun e w' hh => ?_
          have : plainJ j = plainFs j.funcs.length [] j.funcs := by unfold plainJ; simp [h1, h2, h3, h4]
          rw [this]; exact hh
        · have hf : plainJ j = false := by unfold plainJ; simp [h4]
          rw [hf]
          obtain ⟨fa, fc, aa, ac, rfl, _, _⟩ := jobRd_cells h
          have i1 : (j.funcs.length : Int) ≤ 32 := by omega
          have i2 : (j.args.length : Int) ≤ 8 := by omega
          have i4 : (j.funcs.length : Int) ≤ j.main := by omega
          clear h hs ha h1 h2 h4 hf
          go_enter Tryz.func14, Tryz.ntmps14
          go_wp2
          go_ret
          exact ⟨rfl, (Keep.refl _ _).alloc _⟩
      · have hf : plainJ j = false := by unfold plainJ; simp; omega
        rw [hf]
        obtain ⟨fa, fc, aa, ac, rfl, _, _⟩ := jobRd_cells h
        have i1 : (j.funcs.length : Int) ≤ 32 := by omega
        have i2 : (j.args.length : Int) ≤ 8 := by omega
        have i3 : j.main < 0 := by omega
        clear h hs ha h1 h2 h3 hf
        go_enter Tryz.func14, Tryz.ntmps14
        go_wp2
        go_ret
        exact ⟨rfl, (Keep.refl _ _).alloc _⟩
    · have hf : plainJ j = false := by unfold plainJ; simp [h2]
      rw [hf]
      obtain ⟨fa, fc, aa, ac, rfl, _, _⟩ := jobRd_cells h
      have i1 : (j.funcs.length : Int) ≤ 32 := by omega
      have i2 : (8 : Int) < (j.args.length : Int) := by omega
      clear h hs ha h1 h2 hf
      go_enter Tryz.func14, Tryz.ntmps14
      go_wp2
      go_ret
      exact ⟨rfl, (Keep.refl _ _).alloc _⟩
  · have hf : plainJ j = false := by unfold plainJ; simp [h1]
    rw [hf]
    obtain ⟨fa, fc, aa, ac, rfl, _, _⟩ := jobRd_cells h
    have i1 : (32 : Int) < (j.funcs.length : Int) := by omega
    clear h hs ha h1 hf
    go_enter Tryz.func14, Tryz.ntmps14
    go_wp2
    go_ret
    exact ⟨rfl, (Keep.refl _ _).alloc _⟩
/-! ### an instruction's words -/
def InsPost (ps : List BS) (w : World) (e : Ending) (w' : World) : Prop := Keep [] w w' ∧ ∃ v, e = .returned v ∧ StrsC w' v ps
theorem strs_lit {w : World} {g n : Nat} {ps : List BS} (h : Blk w g 9 (ps.map fun p => .string (strB p))) (hn : n = ps.length) : StrsC w (.slice (some ⟨g, 0, none⟩) n n) ps := by
  subst hn
  refine ⟨_, _, rfl, fun _ => ⟨g, 0, rfl, h.lt, Nat.le_refl _, fun i p hp => ?_⟩⟩
  rw [Nat.zero_add, h.cell, List.getElem?_map, hp]
  rfl
theorem fnAt_eq {j : JB} {n : Int} {f : FN} (h : j.funcs[n.toNat]? = some f) : fnAt j n = f.name := by unfold fnAt; rw [h]; rfl
def boxes (w : World) (fa : Option Addr) (fc : Nat) (aa : Option Addr) (ac : Nat) (j : JB) (i : IN) : World := (w.alloc (.cells #[.slice fa j.funcs.length fc, .int .i64 j.main, .slice aa j.args.length ac, .int .i64 j.fuel, .int .i64 j.tasks] 25)).alloc (.cells #[.int .i64 i.op, .int .i64 i.n] 47)
theorem boxes_ok (w : World) (fa : Option Addr) (fc : Nat) (aa : Option Addr) (ac : Nat) (j : JB) (i : IN) : Keep [] w (boxes w fa fc aa ac j i) ∧ Blk (boxes w fa fc aa ac j i) w.heap.size 25 (jobC fa fc aa ac j) ∧ Blk (boxes w fa fc aa ac j i) (w.heap.size + 1) 47 [.int .i64 i.op, .int .i64 i.n] := by
  refine ⟨((Keep.refl _ _).alloc _).alloc _, (Blk.new' _ _ _ _ rfl).alloc _, ?_⟩
  have e1 : (w.alloc (.cells #[.slice fa j.funcs.length fc, .int .i64 j.main, .slice aa j.args.length ac, .int .i64 j.fuel, .int .i64 j.tasks] 25)).heap.size = w.heap.size + 1 := by simp
  have := Blk.new' (w.alloc (.cells #[.slice fa j.funcs.length fc, .int .i64 j.main, .slice aa j.args.length ac, .int .i64 j.fuel, .int .i64 j.tasks] 25)) 47 #[.int .i64 i.op, .int .i64 i.n] _ rfl
  rw [e1] at this
  exact this
theorem lit_block {x g n c : Nat} (h : x ∈ ownBlocks (.slice (some ⟨g, 0, none⟩) n c)) : x = g := by
  have := mem_ownD.1 h
  simp [Value.ownBlock] at this
  exact this.symm
theorem cellN {X : World} {v : Value} {t : TypeId} {g : Nat} (hg : g = X.heap.size) : (X.alloc (.cells #[v] t)).cell? ⟨g, 0, none⟩ = some v := by subst hg; exact (Blk.new' X t #[v] [v] rfl).cell 0
theorem cellO {X : World} {o : Obj} {p : Addr} {v : Value} (h : X.cell? p = some v) : (X.alloc o).cell? p = some v := cell_keep0 ((Keep.refl [] X).alloc o) h
theorem cellD {X : World} {p : Addr} {v : Value} (h : X.cell? p = some v) : X.drew.cell? p = some v := h
theorem blkN {X : World} {arr : Array Value} {cs : List Value} {t : TypeId} {g : Nat} (ha : arr = cs.toArray) (hg : g = X.heap.size) : Blk (X.alloc (.cells arr t)) g t cs := by subst hg; exact Blk.new' X t arr cs ha
theorem blkO {X : World} {o : Obj} {g : Nat} {t : TypeId} {cs : List Value} (h : Blk X g t cs) : Blk (X.alloc o) g t cs := h.alloc o
theorem blkD {X : World} {g : Nat} {t : TypeId} {cs : List Value} (h : Blk X g t cs) : Blk X.drew g t cs := h
theorem own_lit {w : World} {g n : Nat} {t : TypeId} {cs : List Value} (size : Nat) (h : Blk w g t cs) (hl : cs.length = n * size) (hn : n ≤ maxLen) : OwnsAt w g t size (.slice (some ⟨g, 0, none⟩) n n) n cs :=
  ⟨hl, Or.inr ⟨g, 0, n, cs.toArray, rfl, Nat.le_refl _, h, Nat.le_refl _, hn, by simp [hl], by simp [← hl]⟩⟩
theorem src_own {w : World} {B n : Nat} {e : TypeId} {v : Value} {xs : List Value} (h : OwnsAt w B e 1 v n xs) : SrcOf w v 1 n xs := by
  obtain ⟨a, c, rfl⟩ := h.shape
  have hl : xs.length = n * 1 := h.1
  refine ⟨a, c, rfl, hl, fun hne => ?_⟩
  obtain ⟨g, off, cap, hv, h1, h2, h3, h4, h5⟩ := h.form (by have := List.length_pos_iff.2 hne; omega)
  injection hv with e1 e2 e3
  exact ⟨_, e1, fun j u hu => by rw [add_none]; exact h5 j u hu⟩
theorem cell2_keep {w w' : World} {p q : Addr} {a b : Value} (k : Keep [] w w') (h : w.cell? p = some a ∧ w.cell? q = some b) : w'.cell? p = some a ∧ w'.cell? q = some b := ⟨cell_keep0 k h.1, cell_keep0 k h.2⟩
theorem cell4_drew {w : World} {p q r s : Addr} {a b c d : Value} (h : w.cell? p = some a ∧ w.cell? q = some b ∧ w.cell? r = some c ∧ w.cell? s = some d) : w.drew.cell? p = some a ∧ w.drew.cell? q = some b ∧ w.drew.cell? r = some c ∧ w.drew.cell? s = some d := h
set_option maxHeartbeats 3200000 in
set_option maxRecDepth 100000 in
theorem insW_spec {w : World} (hE : Env w) {jv : Value} {j : JB} (h : JobRd w jv j) (i : IN) (hi : i.In) (h16 : i.op = 16 → 0 ≤ i.n ∧ i.n < j.funcs.length) (hnf : j.funcs.length ≤ 1000000) : Calls Tryz.prog 27 #[jv, inV i] w (InsPost (insW j i) w) := by
  obtain ⟨fa, fc, aa, ac, rfl, hf, _⟩ := jobRd_cells h
  obtain ⟨kk, bA, bB⟩ := boxes_ok w fa fc aa ac j i
  have HE := Lib.hid (hE.keep kk)
  have HI := Lib.hid hi
  have HB := Lib.hid (And.intro kk (And.intro bA bB))
  have a0 : (boxes w fa fc aa ac j i).cell? ⟨w.heap.size, 0, none⟩ = some (.slice fa j.funcs.length fc) := bA.cell 0
  have b0 : (boxes w fa fc aa ac j i).cell? ⟨w.heap.size + 1, 0, none⟩ = some (.int .i64 i.op) := bB.cell 0
  have b1 : (boxes w fa fc aa ac j i).cell? ⟨w.heap.size + 1, 1, none⟩ = some (.int .i64 i.n) := bB.cell 1
  have hs0 : w.heap.size < (boxes w fa fc aa ac j i).heap.size := bA.lt
  have hs1 : w.heap.size + 1 < (boxes w fa fc aa ac j i).heap.size := bB.lt
  by_cases he : i.op = 16
  · obtain ⟨n0, n1⟩ := h16 he
    obtain ⟨n, hn⟩ := Int.eq_ofNat_of_zero_le n0
    have hnl : n < j.funcs.length := by omega
    obtain ⟨f, hfn⟩ := get_ex hnl
    have hw : insW j i = [opName i.op, f.name] := by unfold insW; rw [if_pos he, fnAt_eq (f := f) (by rw [hn]; exact hfn)]
    obtain ⟨g, off, cv, rfl, hg, c0, _⟩ := (hf.keep0 kk).at_ hfn
    have HW := Lib.hid hw
    have hnI : (n : Int) < (j.funcs.length : Int) := by omega
    have hnn : (0 : Int) ≤ (n : Int) := by omega
    have he16 : (i.op == 16) = true := by simpa using he
    rw [hn] at b1
    clear hE h hi h16 hf kk bA bB hn n0 n1 hnl hfn hw he
    unfold inV
    go_enter Tryz.func27, Tryz.ntmps27
    go_upto_region 2 with fail
    have hu : (w.alloc (.cells #[.slice (some ⟨g, off, none⟩) j.funcs.length fc, .int .i64 j.main, .slice aa j.args.length ac, .int .i64 j.fuel, .int .i64 j.tasks] 25)).alloc (.cells #[.int .i64 i.op, .int .i64 i.n] 47) = boxes w (some ⟨g, off, none⟩) fc aa ac j i := rfl
    rw [hu]
    generalize boxes w (some ⟨g, off, none⟩) fc aa ac j i = w1 at *
    go_region_held3 (fun w' => w'.cell? ⟨w.heap.size, 0, none⟩ = some (.slice (some ⟨g, off, none⟩) j.funcs.length fc) ∧ w'.cell? ⟨w.heap.size + 1, 0, none⟩ = some (.int .i64 i.op) ∧ w'.cell? ⟨w.heap.size + 1, 1, none⟩ = some (.int .i64 (n : Int)) ∧ w'.cell? ⟨g, off + n * 4, none⟩ = some (.string (strB f.name))) (first | with_reducible exact cell4_drew (w := w1) ⟨a0, b0, b1, c0⟩ | with_reducible exact ⟨q0, q1, q2, q3⟩ | with_reducible exact ⟨y0, y1, y2, y3⟩)
      (first | ((go_at_call 40; with_reducible refine (name_spec _ i.op).mono ?_); go_must (rintro e9 w9 ⟨rfl, hk9⟩; have q0 := cell_keep0 hk9.of_drew a0; have q1 := cell_keep0 hk9.of_drew b0; have q2 := cell_keep0 hk9.of_drew b1; have q3 := cell_keep0 hk9.of_drew c0; have k9 : Keep [] w9 (w9.alloc (.cells #[.string (strB (opName i.op)), .string (strB f.name)] 9)) := (Keep.refl _ _).alloc _; have y0 := cell_keep0 k9 q0; have y1 := cell_keep0 k9 q1; have y2 := cell_keep0 k9 q2; have y3 := cell_keep0 k9 q3; have H9 := Lib.hid hk9.of_drew; clear hk9 k9)))
    all_goals
      go_wp2
      go_ret
      rw [HW.out]
      exact ⟨HB.out.1.trans (H9.out.alloc _) (by simp), _, rfl, strs_lit (Blk.new' _ _ _ _ rfl) rfl⟩
  · have he16 : (i.op == 16) = false := by simpa using he
    have hh := hasN_spec
    by_cases hn : hasN i.op = true
    · have hw : insW j i = [opName i.op, Lib.itoa i.n] := by unfold insW; rw [if_neg he, if_pos hn]
      have HW := Lib.hid hw
      clear hE h hi h16 hf kk bA bB hw he hh
      unfold inV
      go_enter Tryz.func27, Tryz.ntmps27
      go_wp2_with fail
      have hu : (w.alloc (.cells #[.slice fa j.funcs.length fc, .int .i64 j.main, .slice aa j.args.length ac, .int .i64 j.fuel, .int .i64 j.tasks] 25)).alloc (.cells #[.int .i64 i.op, .int .i64 i.n] 47) = boxes w fa fc aa ac j i := rfl
      rw [hu]
      generalize boxes w fa fc aa ac j i = w1 at *
      refine (hasN_spec _ i.op).mono ?_
      rintro e w2 ⟨rfl, rfl⟩
      rw [hn]
      go_upto_region 4 with fail
      have iv1 : ∀ (w' : World) (g : Nat), w'.cell? ⟨g, 0, none⟩ = some (.int .i64 i.n) → IntsOf w' (.slice (some ⟨g, 0, none⟩) 1 1) [i.n] := fun w' g hc => ⟨_, _, rfl, fun _ => ⟨g, 0, rfl, cell_lt hc, fun k y hk => by
        rcases k with _ | k
        · cases hk; exact hc
        · cases hk⟩⟩
      go_region_held3 (fun w' => w'.cell? ⟨w.heap.size + 1, 0, none⟩ = some (.int .i64 i.op) ∧ w'.cell? ⟨w.heap.size + 1, 1, none⟩ = some (.int .i64 i.n)) (exact cell2_keep (by (repeat (first | with_reducible assumption | with_reducible exact Keep.refl _ _ | with_reducible apply Keep.drew | with_reducible apply Keep.alloc))) ⟨b0, b1⟩)
        (first
          | ((go_at_call 40; refine (name_spec _ i.op).mono ?_); go_must (rintro e9 w9 ⟨rfl, hk9⟩; have k9 : Keep [] w2 w9 := Keep.trans (by (repeat (first | with_reducible assumption | with_reducible exact Keep.refl _ _ | with_reducible apply Keep.drew | with_reducible apply Keep.alloc))) hk9 (by simp); have s9 := k9.size))
          | ((go_at_call 26); go_must (refine (numbers_spec (HE.out.keep (by (repeat (first | with_reducible assumption | with_reducible exact Keep.refl _ _ | with_reducible apply Keep.drew | with_reducible apply Keep.alloc)))) (iv1 _ _ (by (repeat (first | with_reducible exact cellN (by simp) | with_reducible assumption | with_reducible apply cellO | with_reducible apply cellD | with_reducible refine cell_keep0 hk9 ?_)))) (fun x hx => by rw [List.mem_singleton.1 hx]; exact HI.out.n) (by simp)).mono ?_; rintro e5 w5 ⟨hk5, v5, rfl, ho5⟩; have k5 : Keep [] w2 w5 := Keep.trans (by (repeat (first | with_reducible assumption | with_reducible exact Keep.refl _ _ | with_reducible apply Keep.drew | with_reducible apply Keep.alloc))) hk5 (by simp); have s5 := k5.size; obtain ⟨a5, c5, rfl⟩ := ho5.shape))
          | ((with_reducible show ite (Region.wanted ⟨some 32, _, _, _, _, _⟩ _ = true) _ _); (with_reducible have _g : Keep [] ((w9.alloc (.cells #[.string (strB (opName i.op))] 9)).alloc (.cells #[.int .i64 i.n] 3)) w5 := hk5); refine step_append_off rfl (.tmp 27) (.tmp 31) rfl Tryz.sts40 w2.heap.size (.slice (some ⟨w9.heap.size, 0, none⟩) 1 1) 1 [.string (strB (opName i.op))] (by simp [Act.eval, Act.put]) ?_ (.slice a5 1 c5) 1 [.string (itoaB i.n)] (by simp [Act.eval, Act.put]) ?_ (by simp [Value.oneCell']) (by unfold maxLen; omega) (by omega) ?_ ?_; exact OwnsAt.low (own_lit 1 (by (repeat (first | with_reducible exact blkN rfl (by simp) | with_reducible apply blkO | with_reducible apply blkD | with_reducible refine Blk.keep ?_ hk5 (by simp) | with_reducible refine Blk.keep ?_ hk9 (by simp)))) rfl (by unfold maxLen; omega)) (by omega); exact src_own (OwnsAt.keep (S := []) ho5 (by (repeat (first | with_reducible exact Keep.refl _ _ | with_reducible apply Keep.drew | with_reducible apply Keep.alloc | with_reducible refine Keep.trans ?_ hk9 (by simp)))) (by simp)); exact Keep.size (S := []) (by (repeat (first | with_reducible assumption | with_reducible exact Keep.refl _ _ | with_reducible apply Keep.drew | with_reducible apply Keep.alloc))); intro v7 w7 ho7 hk7 hb7; have k7 : Keep [] w2 w7 := Keep.trans (S := []) (by (repeat (first | with_reducible assumption | with_reducible exact Keep.refl _ _ | with_reducible apply Keep.drew | with_reducible apply Keep.alloc))) hk7 (fun x hx => Or.inr (by have h9 := lit_block hx; omega)); have Z := Lib.hid (And.intro ho7 k7); obtain ⟨a7, c7, rfl⟩ := ho7.shape; clear ho7 hk7 hb7)
          | ((with_reducible show ite (Region.wanted ⟨some 32, _, _, _, _, _⟩ _ = true) _ _); (with_reducible have _g : Keep [] ((w9.alloc (.cells #[.int .i64 i.n] 3)).alloc (.cells #[.string (strB (opName i.op))] 9)) w5 := hk5); refine step_append_off rfl (.tmp 27) (.tmp 31) rfl Tryz.sts40 w2.heap.size (.slice (some ⟨(w9.heap.size + 1), 0, none⟩) 1 1) 1 [.string (strB (opName i.op))] (by simp [Act.eval, Act.put]) ?_ (.slice a5 1 c5) 1 [.string (itoaB i.n)] (by simp [Act.eval, Act.put]) ?_ (by simp [Value.oneCell']) (by unfold maxLen; omega) (by omega) ?_ ?_; exact OwnsAt.low (own_lit 1 (by (repeat (first | with_reducible exact blkN rfl (by simp) | with_reducible apply blkO | with_reducible apply blkD | with_reducible refine Blk.keep ?_ hk5 (by simp) | with_reducible refine Blk.keep ?_ hk9 (by simp)))) rfl (by unfold maxLen; omega)) (by omega); exact src_own (OwnsAt.keep (S := []) ho5 (by (repeat (first | with_reducible exact Keep.refl _ _ | with_reducible apply Keep.drew | with_reducible apply Keep.alloc | with_reducible refine Keep.trans ?_ hk9 (by simp)))) (by simp)); exact Keep.size (S := []) (by (repeat (first | with_reducible assumption | with_reducible exact Keep.refl _ _ | with_reducible apply Keep.drew | with_reducible apply Keep.alloc))); intro v7 w7 ho7 hk7 hb7; have k7 : Keep [] w2 w7 := Keep.trans (S := []) (by (repeat (first | with_reducible assumption | with_reducible exact Keep.refl _ _ | with_reducible apply Keep.drew | with_reducible apply Keep.alloc))) hk7 (fun x hx => Or.inr (by have h9 := lit_block hx; omega)); have Z := Lib.hid (And.intro ho7 k7); obtain ⟨a7, c7, rfl⟩ := ho7.shape; clear ho7 hk7 hb7)
          | ((with_reducible show ite (Region.wanted ⟨some 32, _, _, _, _, _⟩ _ = true) _ _); (with_reducible have _g : Keep [] (w9.alloc (.cells #[.int .i64 i.n] 3)) w5 := hk5); refine step_append_off rfl (.tmp 27) (.tmp 31) rfl Tryz.sts40 w2.heap.size (.slice (some ⟨w5.heap.size, 0, none⟩) 1 1) 1 [.string (strB (opName i.op))] (by simp [Act.eval, Act.put]) ?_ (.slice a5 1 c5) 1 [.string (itoaB i.n)] (by simp [Act.eval, Act.put]) ?_ (by simp [Value.oneCell']) (by unfold maxLen; omega) (by omega) ?_ ?_; exact OwnsAt.low (own_lit 1 (by (repeat (first | with_reducible exact blkN rfl (by simp) | with_reducible apply blkO | with_reducible apply blkD | with_reducible refine Blk.keep ?_ hk5 (by simp) | with_reducible refine Blk.keep ?_ hk9 (by simp)))) rfl (by unfold maxLen; omega)) (by omega); exact src_own (OwnsAt.keep (S := []) ho5 (by (repeat (first | with_reducible exact Keep.refl _ _ | with_reducible apply Keep.drew | with_reducible apply Keep.alloc | with_reducible refine Keep.trans ?_ hk9 (by simp)))) (by simp)); exact Keep.size (S := []) (by (repeat (first | with_reducible assumption | with_reducible exact Keep.refl _ _ | with_reducible apply Keep.drew | with_reducible apply Keep.alloc))); intro v7 w7 ho7 hk7 hb7; have k7 : Keep [] w2 w7 := Keep.trans (S := []) (by (repeat (first | with_reducible assumption | with_reducible exact Keep.refl _ _ | with_reducible apply Keep.drew | with_reducible apply Keep.alloc))) hk7 (fun x hx => Or.inr (by have h9 := lit_block hx; omega)); have Z := Lib.hid (And.intro ho7 k7); obtain ⟨a7, c7, rfl⟩ := ho7.shape; clear ho7 hk7 hb7)
          | ((with_reducible show ite (Region.wanted ⟨some 32, _, _, _, _, _⟩ _ = true) _ _); (with_reducible have _g : Keep [] (w9.alloc (.cells #[.string (strB (opName i.op))] 9)) w5 := hk5); refine step_append_off rfl (.tmp 27) (.tmp 31) rfl Tryz.sts40 w2.heap.size (.slice (some ⟨w9.heap.size, 0, none⟩) 1 1) 1 [.string (strB (opName i.op))] (by simp [Act.eval, Act.put]) ?_ (.slice a5 1 c5) 1 [.string (itoaB i.n)] (by simp [Act.eval, Act.put]) ?_ (by simp [Value.oneCell']) (by unfold maxLen; omega) (by omega) ?_ ?_; exact OwnsAt.low (own_lit 1 (by (repeat (first | with_reducible exact blkN rfl (by simp) | with_reducible apply blkO | with_reducible apply blkD | with_reducible refine Blk.keep ?_ hk5 (by simp) | with_reducible refine Blk.keep ?_ hk9 (by simp)))) rfl (by unfold maxLen; omega)) (by omega); exact src_own (OwnsAt.keep (S := []) ho5 (by (repeat (first | with_reducible exact Keep.refl _ _ | with_reducible apply Keep.drew | with_reducible apply Keep.alloc | with_reducible refine Keep.trans ?_ hk9 (by simp)))) (by simp)); exact Keep.size (S := []) (by (repeat (first | with_reducible assumption | with_reducible exact Keep.refl _ _ | with_reducible apply Keep.drew | with_reducible apply Keep.alloc))); intro v7 w7 ho7 hk7 hb7; have k7 : Keep [] w2 w7 := Keep.trans (S := []) (by (repeat (first | with_reducible assumption | with_reducible exact Keep.refl _ _ | with_reducible apply Keep.drew | with_reducible apply Keep.alloc))) hk7 (fun x hx => Or.inr (by have h9 := lit_block hx; omega)); have Z := Lib.hid (And.intro ho7 k7); obtain ⟨a7, c7, rfl⟩ := ho7.shape; clear ho7 hk7 hb7)
          | ((with_reducible show ite (Region.wanted ⟨some 32, _, _, _, _, _⟩ _ = true) _ _); (with_reducible have _g : Keep [] w9 w5 := hk5); refine step_append_off rfl (.tmp 27) (.tmp 31) rfl Tryz.sts40 w2.heap.size (.slice (some ⟨w5.heap.size, 0, none⟩) 1 1) 1 [.string (strB (opName i.op))] (by simp [Act.eval, Act.put]) ?_ (.slice a5 1 c5) 1 [.string (itoaB i.n)] (by simp [Act.eval, Act.put]) ?_ (by simp [Value.oneCell']) (by unfold maxLen; omega) (by omega) ?_ ?_; exact OwnsAt.low (own_lit 1 (by (repeat (first | with_reducible exact blkN rfl (by simp) | with_reducible apply blkO | with_reducible apply blkD | with_reducible refine Blk.keep ?_ hk5 (by simp) | with_reducible refine Blk.keep ?_ hk9 (by simp)))) rfl (by unfold maxLen; omega)) (by omega); exact src_own (OwnsAt.keep (S := []) ho5 (by (repeat (first | with_reducible exact Keep.refl _ _ | with_reducible apply Keep.drew | with_reducible apply Keep.alloc | with_reducible refine Keep.trans ?_ hk9 (by simp)))) (by simp)); exact Keep.size (S := []) (by (repeat (first | with_reducible assumption | with_reducible exact Keep.refl _ _ | with_reducible apply Keep.drew | with_reducible apply Keep.alloc))); intro v7 w7 ho7 hk7 hb7; have k7 : Keep [] w2 w7 := Keep.trans (S := []) (by (repeat (first | with_reducible assumption | with_reducible exact Keep.refl _ _ | with_reducible apply Keep.drew | with_reducible apply Keep.alloc))) hk7 (fun x hx => Or.inr (by have h9 := lit_block hx; omega)); have Z := Lib.hid (And.intro ho7 k7); obtain ⟨a7, c7, rfl⟩ := ho7.shape; clear ho7 hk7 hb7)
          | fail)
      all_goals
        go_wp2
        go_ret
        rw [HW.out]
        exact ⟨HB.out.1.trans Z.out.2 (by simp), _, rfl, StrsC.of_own Z.out.1⟩
    · have hn' : hasN i.op = false := by simpa using hn
      have hw : insW j i = [opName i.op] := by unfold insW; rw [if_neg he, if_neg hn]
      have HW := Lib.hid hw
      clear hE h hi h16 hf kk bA bB hw he hh hn
      unfold inV
      go_enter Tryz.func27, Tryz.ntmps27
      go_wp2_with fail
      have hu : (w.alloc (.cells #[.slice fa j.funcs.length fc, .int .i64 j.main, .slice aa j.args.length ac, .int .i64 j.fuel, .int .i64 j.tasks] 25)).alloc (.cells #[.int .i64 i.op, .int .i64 i.n] 47) = boxes w fa fc aa ac j i := rfl
      rw [hu]
      generalize boxes w fa fc aa ac j i = w1 at *
      refine (hasN_spec _ i.op).mono ?_
      rintro e w2 ⟨rfl, rfl⟩
      rw [hn']
      go_wp2_with fail
      refine (name_spec _ i.op).mono ?_
      rintro e w3 ⟨rfl, hk3⟩
      have H3 := Lib.hid (HB.out.1.trans hk3 (by simp))
      clear hk3 a0 b0 b1
      go_wp2
      go_ret
      rw [HW.out]
      exact ⟨H3.out.alloc _, _, rfl, strs_lit (Blk.new' _ _ _ _ rfl) rfl⟩
end Go.Proofs.YtbdkmfcgnolihaaGreatDoor
