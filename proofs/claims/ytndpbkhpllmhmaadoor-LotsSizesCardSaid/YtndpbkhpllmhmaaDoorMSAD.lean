/- What the reference knows of a job. The reference's tasks: a run of a small task, step by step. The memory of the reference's evaluation: entries, and what a call of 'do' has. No program in sight. The reference's tasks: May. The reference's tasks: a state handed on is the copy's own. The reference's tasks: a step. The reference's tasks: a step, push. The reference's tasks: a step, await. The reference's tasks: a step, swap. The reference's tasks: a step, add. -/
import Derived.Test.YtndpbkhpllmhmaaDoorRows
import Derived.WalkKit
import Derived.WalkSpells
import Derived.WalkLawsBesides
import Derived.RegionTactic
import Derived.ChangeAlike
import Derived.BigQuiet
import Derived.Deep.QuietTactic
import Derived.StillTailTactics
import Derived.IntWalk
import Derived.Handy
import Derived.Lib.Hide
import Derived.Deep.AppendLies
import Derived.Deep.RegionWith
import Derived.Test.YtndpbkhpllmhmaaDoorMSAA
import Derived.Test.YtndpbkhpllmhmaaDoorMSAB
import Derived.Carry
import Derived.Deep.RegionHeld3
import Derived.BigRegion
import Derived.Maps.OwnSet
import Derived.Maps.Views
import Derived.Maps.StringElems
import Derived.Test.YtndpbkhpllmhmaaDoorMSAC
namespace Go.Proofs.YtndpbkhpllmhmaaDoor
set_option linter.unusedSimpArgs false
set_option linter.unnecessarySimpa false
set_option linter.unusedVariables false
open Go.RowKit
theorem Tryd.sts127 : SliceTy Tryd.prog 127 24 (.slice none 0 0) 1 24 := ⟨Tryd.underlying127, by kernel_rfl, by kernel_rfl, by decide⟩
def KnowPost (J : JB) (w : World) (e : Ending) (w' : World) : Prop :=
  ∃ g, e = .returned (.tuple #[.pointer (some ⟨g, 0, none⟩), .int .i64 0]) ∧ w.heap.size ≤ g ∧ KnownAt w'.heap.size w' g J ∧ Keep [] w w'
def dVal (d : List Int) (g : Nat) : Value := .slice (some ⟨g, 0, none⟩) d.length d.length
/-- what holds of k.D, n functions on -/
def KnowD (w : World) (g : Nat) (jc kc : List Value) (ds : List (List Int)) (n : Nat) (wr : World) : Prop :=
  Keep [] w wr ∧ Blk wr w.heap.size 26 jc ∧ ∃ (dv : Value) (gs : List Nat), Blk wr g 129 (kc ++ [dv]) ∧ gs.length = n ∧ OwnsAt wr w.heap.size 24 1 dv n (List.zipWith dVal ds gs) ∧ ∀ (i gi : Nat) (d : List Int), gs[i]? = some gi → ds[i]? = some d → Blk wr gi 3 (d.map (.int .i64))
theorem src_lit (w : World) (arr : Array Value) (cs : List Value) (t : TypeId) (size m : Nat) (ha : arr = cs.toArray) (h : cs.length = m * size) : SrcOf (w.alloc (.cells arr t)) (.slice (some ⟨w.heap.size, 0, none⟩) m m) size m cs := by
  subst ha
  refine ⟨_, _, rfl, h, fun _ => ⟨_, rfl, fun j u hu => ?_⟩⟩
  rw [add_none, Nat.zero_add, (Blk.new w t cs).cell, hu]
theorem own_apart {w : World} {B : Nat} {e t : TypeId} {size n g : Nat} {v : Value} {xs cs : List Value} (h : OwnsAt w B e size v n xs) (hb : Blk w g t cs) (ht : t ≠ e) : g ∉ ownBlocks v := by
  intro hg
  rcases h.2 with ⟨rfl, _⟩ | ⟨g', off, cap, cur, rfl, _, h3, _⟩
  · simp [ownBlocks, Value.ownBlock] at hg
  · obtain rfl : g = g' := by simpa [ownBlocks, Value.ownBlock] using hg
    unfold Blk at hb
    rw [hb] at h3
    injection h3 with h3
    injection h3 with _ h3
    exact ht h3
theorem own_base {w : World} {B : Nat} {e : TypeId} {size n : Nat} {v : Value} {xs : List Value} (h : OwnsAt w B e size v n xs) : ∀ x ∈ ownBlocks v, B ≤ x := by
  intro x hx
  refine (h.lt x ?_).1
  unfold ownBlocks at hx
  simpa using hx
theorem zip_snoc {ds : List (List Int)} {gs : List Nat} {d : List Int} (hd : ds[gs.length]? = some d) (gi : Nat) : List.zipWith dVal ds gs ++ [dVal d gi] = List.zipWith dVal ds (gs ++ [gi]) := by
  induction gs generalizing ds with
  | nil =>
    obtain ⟨x, xs, rfl⟩ : ∃ x xs, ds = x :: xs := by
      cases ds with
      | nil => simp at hd
      | cons x xs => exact ⟨x, xs, rfl⟩
    simp at hd
    simp [hd]
  | cons g gs ih =>
    obtain ⟨x, xs, rfl⟩ : ∃ x xs, ds = x :: xs := by
      cases ds with
      | nil => simp at hd
      | cons x xs => exact ⟨x, xs, rfl⟩
    simp at hd
    simp [ih hd]
set_option maxHeartbeats 6400000 in
set_option maxRecDepth 100000 in
theorem know_spec (w : World) (B : Nat) (jv : Value) (J : JB) (hj : JobIs B w jv J) (hB : B ≤ w.heap.size) (hJ : JobOk J) :
    Calls Tryd.prog 52 #[jv] w (KnowPost J w) := by
  have HJI := Lib.hid hj
  have HJ := Lib.hid hJ
  obtain ⟨fv, rfl, hfs⟩ := hj
  obtain ⟨aj, cj, rfl⟩ := hfs.shape
  have hnI : (J.fs.length : Int) ≤ 6 := by have := hJ.most; omega
  have hA : Blk (w.alloc (.cells #[.slice aj J.fs.length cj, .int .i64 0, .slice none 0 0, .int .i64 J.fuel, .int .i64 J.tasks] 26)) w.heap.size 26 [.slice aj J.fs.length cj, .int .i64 0, .slice none 0 0, .int .i64 J.fuel, .int .i64 J.tasks] := Blk.new' _ _ _ _ rfl
  have HT := Lib.hid (And.intro ((Keep.refl [] w).alloc (.cells #[.slice aj J.fs.length cj, .int .i64 0, .slice none 0 0, .int .i64 J.fuel, .int .i64 J.tasks] 26)) (And.intro hA (And.intro hB hfs)))
  clear hfs hJ hB hA
  go_enter Tryd.func52, Tryd.ntmps52
  go_wp2_with fail
  refine (check_spec _ B _ J (HJI.out.below (below_of HT.out.1 HT.out.2.2.1)) (Nat.le_trans HT.out.2.2.1 HT.out.1.size) HJ.out).mono ?_
  rintro e w1 ⟨rfl, hk1⟩
  have HT1 := Lib.hid (And.intro (HT.out.1.trans hk1 (by simp)) (HT.out.2.1.keep hk1 (by simp)))
  obtain ⟨ha, hb⟩ := HT1.out
  have j0 : w1.cell? ⟨w.heap.size, 0, none⟩ = some (.slice aj J.fs.length cj) := hb.cell 0
  have j1 : w1.cell? ⟨w.heap.size, 1, none⟩ = some (.int .i64 0) := hb.cell 1
  have j2 : w1.cell? ⟨w.heap.size, 2, none⟩ = some (.slice none 0 0) := hb.cell 2
  have j3 : w1.cell? ⟨w.heap.size, 3, none⟩ = some (.int .i64 J.fuel) := hb.cell 3
  have j4 : w1.cell? ⟨w.heap.size, 4, none⟩ = some (.int .i64 J.tasks) := hb.cell 4
  clear hk1 ha hb
  go_wp2_with fail
  go_loopw [8] (fun i wr => ∃ n : Nat, n ≤ J.fs.length ∧ i = .int .i64 n ∧ KnowD w w1.heap.size [.slice aj J.fs.length cj, .int .i64 0, .slice none 0 0, .int .i64 J.fuel, .int .i64 J.tasks] [.slice aj J.fs.length cj, .int .i64 0, .slice none 0 0, .int .i64 J.fuel, .int .i64 J.tasks] J.ds n wr) (fun i _ => J.fs.length - (intOf i).toNat)
  case atStart =>
    exact ⟨0, Nat.zero_le _, rfl, HT1.out.1.alloc _, HT1.out.2.alloc _, .slice none 0 0, [], Blk.new' _ _ _ _ rfl, rfl, by rw [show List.zipWith dVal J.ds [] = [] by simp]; exact OwnsAt.nil _ _ _ _, fun i gi d h => by cases h⟩
  case round =>
    obtain ⟨n, hn, rfl, hK⟩ := hrel
    have HK := Lib.hid hK
    obtain ⟨hk, hjb, dv, gs, hkb, hgl, hown, hall⟩ := hK
    obtain ⟨vA, vC, rfl⟩ := hown.shape
    clear j0 j1 j2 j3 j4
    have j0 : wr.cell? ⟨w.heap.size, 0, none⟩ = some (.slice aj J.fs.length cj) := hjb.cell 0
    have j1 : wr.cell? ⟨w.heap.size, 1, none⟩ = some (.int .i64 0) := hjb.cell 1
    have j2 : wr.cell? ⟨w.heap.size, 2, none⟩ = some (.slice none 0 0) := hjb.cell 2
    have j3 : wr.cell? ⟨w.heap.size, 3, none⟩ = some (.int .i64 J.fuel) := hjb.cell 3
    have j4 : wr.cell? ⟨w.heap.size, 4, none⟩ = some (.int .i64 J.tasks) := hjb.cell 4
    by_cases hlt : n < J.fs.length
    · obtain ⟨f, hf⟩ := get_ex hlt
      obtain ⟨d, hd⟩ := get_ex (show n < J.ds.length by rw [HJ.out.len]; exact hlt)
      have hD := Lib.hid (HJ.out.depths n f d hf hd)
      obtain ⟨b, off, cv, rfl, hb, f0, f1, f2, f3, hcode⟩ := FuncsAt.fn (show FuncsAt B wr (.slice aj J.fs.length cj) J.fs from HT.out.2.2.2.below (below_of hk HT.out.2.2.1)) hf
      have hnI : (n : Int) < (J.fs.length : Int) := by omega
      have hn0 : (0 : Int) ≤ (n : Int) := by omega
      have hbw : b < wr.heap.size := by have := hk.size; have := HT.out.2.2.1; omega
      have HS := Lib.hid (And.intro hk (And.intro hjb (And.intro hkb (And.intro hgl (And.intro hown (And.intro hall (And.intro hd hcode)))))))
      clear hk hjb hkb hgl hown hall hcode hf hd HK hn hb
      go_wp2_with fail
      go_region_held3 (fun w' => w'.cell? ⟨w.heap.size, 0, none⟩ = some (.slice (some ⟨b, off, none⟩) J.fs.length cj) ∧ w'.cell? ⟨w.heap.size, 1, none⟩ = some (.int .i64 0) ∧ w'.cell? ⟨w.heap.size, 2, none⟩ = some (.slice none 0 0) ∧ w'.cell? ⟨w.heap.size, 3, none⟩ = some (.int .i64 J.fuel) ∧ w'.cell? ⟨w.heap.size, 4, none⟩ = some (.int .i64 J.tasks) ∧ w'.cell? ⟨b, off + n * 4, none⟩ = some (.string (strB f.name)) ∧ w'.cell? ⟨b, off + n * 4 + 1, none⟩ = some (.int .i64 0) ∧ w'.cell? ⟨b, off + n * 4 + 2, none⟩ = some (.int .i64 0) ∧ w'.cell? ⟨b, off + n * 4 + 3, none⟩ = some cv) (first | exact ⟨by assumption, by assumption, by assumption, by assumption, by assumption, by assumption, by assumption, by assumption, by assumption⟩ | go_keep)
        (first | (go_at_call 68; go_must (refine (depths_spec _ B _ _ J f d (HJI.out.below (below_of (HS.out.1.drew) HT.out.2.2.1)) (HS.out.2.2.2.2.2.2.2.below (below_of ((Keep.refl [] wr).drew) (Nat.le_trans HT.out.2.2.1 HS.out.1.size))) (Nat.le_trans HT.out.2.2.1 HS.out.1.size) hD.out).mono ?_; rintro e w2 ⟨gi, rfl, hgi, hbgi, hk2⟩; have r0 := cell_keep0 hk2.of_drew j0; have r1 := cell_keep0 hk2.of_drew j1; have r2 := cell_keep0 hk2.of_drew j2; have r3 := cell_keep0 hk2.of_drew j3; have r4 := cell_keep0 hk2.of_drew j4; have r5 := cell_keep0 hk2.of_drew f0; have r6 := cell_keep0 hk2.of_drew f1; have r7 := cell_keep0 hk2.of_drew f2; have r8 := cell_keep0 hk2.of_drew f3; have H2 := Lib.hid (And.intro hk2.of_drew hbgi))))
      obtain ⟨hk2, hbgi⟩ := H2.out
      obtain ⟨hk, hjb, hkb, hgl, hown, hall, hd, _⟩ := HS.out
      have kb2 := hkb.keep hk2 (by simp)
      have d5 : w2.cell? ⟨w1.heap.size, 5, none⟩ = some (.slice vA n vC) := kb2.cell 5
      have df : ∀ i, w2.frozen? ⟨w1.heap.size, i, none⟩ = false := fun i => kb2.frozen i
      have own2 := (hown.keep hk2 (by simp)).keep ((Keep.refl [] w2).alloc (.cells #[dVal d gi] 24)) (by simp)
      have hsz := HT1.out.1.size
      have hsz2 := (hk.trans hk2 (by simp)).size
      have HO := Lib.hid (And.intro own2 (src_lit w2 #[dVal d gi] [dVal d gi] 24 1 1 rfl rfl))
      clear hk hjb hkb hgl hown hall hd hk2 hbgi kb2 own2 j0 j1 j2 j3 j4 f0 f1 f2 f3 r0 r1 r2 r3 r4 r5 r6 r7 r8 hlt
      go_wp2_with (at_builtin; refine wpList_append_off rfl _ _ rfl Tryd.sts127 w.heap.size (.slice vA n vC) n _ rfl HO.out.1 _ 1 [dVal d gi] rfl HO.out.2 (by simp [Value.oneCell', dVal]) (by unfold maxLen; omega) (by omega) (by simp; omega) ?_)
      intro v' w3 ho3 hk3 hb3
      obtain ⟨vA3, vC3, rfl⟩ := ho3.shape
      have hG : KnowD w w1.heap.size [.slice (some ⟨b, off, none⟩) J.fs.length cj, .int .i64 0, .slice none 0 0, .int .i64 J.fuel, .int .i64 J.tasks] [.slice (some ⟨b, off, none⟩) J.fs.length cj, .int .i64 0, .slice none 0 0, .int .i64 J.fuel, .int .i64 J.tasks] J.ds (n + 1) (w3.setCell ⟨w1.heap.size, 5, none⟩ (.slice vA3 (n + 1) vC3)) ∧ w3.cell? ⟨w1.heap.size, 5, none⟩ = some (.slice vA n vC) ∧ ∀ i, w3.frozen? ⟨w1.heap.size, i, none⟩ = false := by
        obtain ⟨hk, hjb, hkb, hgl, hown, hall, hd, _⟩ := HS.out
        obtain ⟨hk2, hbgi⟩ := H2.out
        have a3 : Keep [] w w3 := ((hk.trans hk2 (by simp)).alloc _).trans hk3 (fun x hx => Or.inr (own_base HO.out.1 x hx))
        have b2 := (hjb.keep hk2 (by simp)).alloc (.cells #[dVal d gi] 24)
        have b3 := b2.keep hk3 (own_apart HO.out.1 b2 (by decide))
        have c2 := (hkb.keep hk2 (by simp)).alloc (.cells #[dVal d gi] 24)
        have c3 := c2.keep hk3 (own_apart HO.out.1 c2 (by decide))
        have e3 : ∀ (i g' : Nat) (d' : List Int), (gs ++ [gi])[i]? = some g' → J.ds[i]? = some d' → Blk w3 g' 3 (d'.map (.int .i64)) := by
          intro i g' d' h1 h2
          rcases Nat.lt_or_ge i gs.length with hi | hi
          · rw [List.getElem?_append_left hi] at h1
            have x2 := ((hall i g' d' h1 h2).keep hk2 (by simp)).alloc (.cells #[dVal d gi] 24)
            exact x2.keep hk3 (own_apart HO.out.1 x2 (by decide))
          · have hi2 : i < (gs ++ [gi]).length := get_lt h1
            rw [List.length_append, List.length_singleton] at hi2
            obtain rfl : i = gs.length := by omega
            rw [List.getElem?_append_right (Nat.le_refl _), Nat.sub_self] at h1
            simp at h1
            subst h1
            rw [hgl, hd] at h2
            cases h2
            have x2 := hbgi.alloc (.cells #[dVal d gi] 24)
            exact x2.keep hk3 (own_apart HO.out.1 x2 (by decide))
        have hne : ∀ g', (Value.slice vA3 (n + 1) vC3).ownBlock = some g' → g' ∉ [w1.heap.size] := fun g' h hm => by
          have := own_apart ho3 c3 (by decide)
          rw [List.mem_singleton] at hm
          subst hm
          exact this (by simp [ownBlocks, h])
        refine ⟨⟨a3.setCell (Or.inr hsz) _, b3.far (fun h => b3.ne_ c3 (by decide) h) _, .slice vA3 (n + 1) vC3, gs ++ [gi], by simpa using c3.set_ 5 (.slice vA3 (n + 1) vC3), by simp [hgl], ?_, fun i g' d' h1 h2 => (e3 i g' d' h1 h2).far (fun h => (e3 i g' d' h1 h2).ne_ c3 (by decide) h) _⟩, c3.cell 5, fun i => c3.frozen i⟩
        rw [← zip_snoc (by rw [hgl]; exact hd)]
        exact ho3.keep ((Keep.refl _ w3).setCell (by simp) _) hne
      have HG := Lib.hid hG.1
      obtain ⟨_, g5, gf⟩ := hG
      clear ho3 hk3 hb3 d5 df
      go_wp2_with fail
      go_roundw
      case rel => exact ⟨n + 1, by omega, by go_num, HG.out⟩
      case measure => simp [intOf]; omega
    · obtain rfl : J.fs.length = n := by omega
      clear hk hjb hkb hgl hown hall hn hlt
      go_wp2_with fail
      go_ret2
      obtain ⟨hk, _, dv, gs, hkb, hgl, hown, hall⟩ := HK.out
      have hlt0 := hkb.lt
      refine ⟨_, rfl, HT1.out.1.size, ⟨_, dv, hlt0, hkb, ?_, ?_⟩, hk⟩
      · exact (show FuncsAt B wr (.slice aj J.fs.length cj) J.fs from HT.out.2.2.2.below (below_of hk HT.out.2.2.1)).mono (Nat.le_trans HT.out.2.2.1 hk.size)
      · have hlz : (List.zipWith dVal J.ds gs).length = J.ds.length := by rw [List.length_zipWith, hgl, HJ.out.len, Nat.min_self]
        obtain ⟨gd, offd, cd, rfl, _, _, _, hgd, hcd⟩ := hown.form HJ.out.ne
        refine ⟨List.zipWith dVal J.ds gs, hlz, ⟨_, cd, by rw [List.length_map, hlz, HJ.out.len], ?_⟩, ?_⟩
        · intro i r hr
          rw [List.getElem?_map] at hr
          obtain ⟨x, hx, rfl⟩ := Option.map_eq_some_iff.1 hr
          refine ⟨gd, offd, rfl, hgd, fun j u hu => ?_⟩
          rcases j with _ | j
          · simp at hu
            subst hu
            rw [Nat.mul_one, Nat.add_zero]
            exact hcd i x hx
          · simp at hu
        · intro i d x hd hx
          rw [List.getElem?_zipWith, hd] at hx
          obtain ⟨g', hg'⟩ := get_ex (show i < gs.length by rw [hgl, ← HJ.out.len]; exact get_lt hd)
          rw [hg'] at hx
          simp at hx
          subst hx
          have hb' := hall i g' d hg' hd
          refine ⟨_, d.length, by rw [List.length_map]; rfl, ?_⟩
          intro j r hr
          rw [List.getElem?_map] at hr
          obtain ⟨y, hy, rfl⟩ := Option.map_eq_some_iff.1 hr
          refine ⟨g', 0, rfl, hb'.lt, fun q u hu => ?_⟩
          rcases q with _ | q
          · simp at hu
            subst hu
            rw [Nat.mul_one, Nat.add_zero, Nat.zero_add, hb'.cell, List.getElem?_map, hy]
            rfl
          · simp at hu
end Go.Proofs.YtndpbkhpllmhmaaDoor
namespace Go.Proofs.YtndpbkhpllmhmaaDoor
set_option linter.unusedSimpArgs false
set_option linter.unnecessarySimpa false
set_option linter.unusedVariables false
open Go.RowKit
theorem Tryd.sts24L : SliceTy Tryd.prog 24 3 (.int .i64 0) 1 8 := ⟨Tryd.underlying24, by kernel_rfl, by kernel_rfl, by decide⟩
theorem set7 {w : World} {g : Nat} {t : TypeId} {a b c d e f h : Value} (H : Blk w g t [a, b, c, d, e, f, h]) (x0 x1 x2 x3 x4 x5 x6 : Value) :
    Blk (((((((w.setCell ⟨g, 0, none⟩ x0).setCell ⟨g, 1, none⟩ x1).setCell ⟨g, 2, none⟩ x2).setCell ⟨g, 3, none⟩ x3).setCell ⟨g, 4, none⟩ x4).setCell ⟨g, 5, none⟩ x5).setCell ⟨g, 6, none⟩ x6) g t [x0, x1, x2, x3, x4, x5, x6] :=
  ((((((H.set_ 0 x0).set_ 1 x1).set_ 2 x2).set_ 3 x3).set_ 4 x4).set_ 5 x5).set_ 6 x6
theorem keep7 {w : World} {g : Nat} (x0 x1 x2 x3 x4 x5 x6 : Value) : Keep [g] w (((((((w.setCell ⟨g, 0, none⟩ x0).setCell ⟨g, 1, none⟩ x1).setCell ⟨g, 2, none⟩ x2).setCell ⟨g, 3, none⟩ x3).setCell ⟨g, 4, none⟩ x4).setCell ⟨g, 5, none⟩ x5).setCell ⟨g, 6, none⟩ x6) :=
  (((((((Keep.refl _ _).setCell (by simp) _).setCell (by simp) _).setCell (by simp) _).setCell (by simp) _).setCell (by simp) _).setCell (by simp) _).setCell (by simp) _
def endedV (n e v : Int) : Value := .agg #[.int .i64 3, .int .i64 0, .int .i64 0, .int .i64 n, .slice none 0 0, .int .i64 e, .int .i64 v]
set_option maxHeartbeats 1600000 in
theorem ended_spec (w : World) (n e v : Int) : Calls Tryd.prog 89 #[.int .i64 n, .int .i64 e, .int .i64 v] w fun en w' => en = .returned (endedV n e v) ∧ Keep [] w w' := by
  go_enter Tryd.func89, Tryd.ntmps89
  go_wp2_with fail
  exact bodyPost_ret (v := endedV n e v) (by simp [results, Tryd.results89, go_sem, endedV]) rfl ⟨rfl, (Keep.refl _ _).alloc _⟩
/-- a state handed on, in new memory -/
def CopyPost (S : SS) (w : World) (e : Ending) (w' : World) : Prop := ∃ v, e = .returned v ∧ StateIs w.heap.size w' v S ∧ Keep [] w w'
theorem own_src {w : World} {B : Nat} {v : Value} {ys : List Int} (h : OwnsAt w B 3 1 v ys.length (ys.map (.int .i64))) : IntsOf w v ys ∧ ∀ x ∈ sliceBlock v, B ≤ x := by
  refine ⟨ints_of_off h, fun x hx => ?_⟩
  rcases h.2 with ⟨rfl, _⟩ | ⟨g, off, cap, cur, rfl, hb, _⟩
  · simp [sliceBlock] at hx
  · obtain rfl : x = g := by simpa [sliceBlock] using hx
    exact hb
set_option maxHeartbeats 1600000 in
theorem copied_spec (w : World) (v : Value) (S : SS) (B : Nat) (h : StateIs B w v S) (hl : S.stack.length ≤ 32) : Calls Tryd.prog 88 #[v] w (CopyPost S w) := by
  obtain ⟨sv, rfl, hs, _⟩ := h
  obtain ⟨fn, pc, fuel, stack, kids, waits⟩ := S
  unfold stV6
  simp only at hs hl ⊢
  obtain ⟨W1, hW1⟩ : ∃ W1, W1 = (w.alloc (.cells #[.int .i64 fn, .int .i64 pc, .int .i64 fuel, sv, .slice none 0 0, .int .i64 kids, .bool waits] 133)).alloc (.cells #[.int .i64 0, .int .i64 0, .int .i64 0, .slice none 0 0, .slice none 0 0, .int .i64 0, .bool false] 133) := ⟨_, rfl⟩
  have hk1 : Keep [] w W1 := by rw [hW1]; exact ((Keep.refl _ _).alloc _).alloc _
  have hi1 : IntsOf W1 sv stack := hs.keep hk1 (by simp)
  have hsrc := SrcOf.of_ints hi1
  have hA : Blk W1 w.heap.size 133 [.int .i64 fn, .int .i64 pc, .int .i64 fuel, sv, .slice none 0 0, .int .i64 kids, .bool waits] := by rw [hW1]; exact (Blk.new' _ _ _ _ rfl).alloc _
  have hR : Blk W1 (w.heap.size + 1) 133 [.int .i64 0, .int .i64 0, .int .i64 0, .slice none 0 0, .slice none 0 0, .int .i64 0, .bool false] := by
    rw [hW1]
    have := Blk.new' (w.alloc (.cells #[.int .i64 fn, .int .i64 pc, .int .i64 fuel, sv, .slice none 0 0, .int .i64 kids, .bool waits] 133)) 133 #[.int .i64 0, .int .i64 0, .int .i64 0, .slice none 0 0, .slice none 0 0, .int .i64 0, .bool false] _ rfl
    rw [World.size_alloc] at this
    exact this
  rw [hW1] at hsrc
  have Hsrc := Lib.hid hsrc
  have HK := Lib.hid (And.intro hk1 (And.intro hA hR))
  rw [hW1] at HK
  clear hsrc hi1 hk1 hA hR hW1
  obtain ⟨a, c, rfl⟩ := hs.shape
  clear hs
  go_enter Tryd.func88, Tryd.ntmps88
  go_wp2_with (at_builtin; refine wpList_append_off rfl _ _ rfl Tryd.sts24L w.heap.size (.slice none 0 0) 0 [] rfl (OwnsAt.nil _ _ _ _) _ stack.length _ rfl Hsrc.out (by simp [Value.oneCell']) (by unfold maxLen; omega) (by omega) (by simp; omega) ?_)
  intro v' w' ho hk hb
  obtain ⟨vA, vC, rfl⟩ := ho.shape
  have hkk : Keep [] _ w' := hk
  have hA := HK.out.2.1.keep hkk (by simp)
  have hR := HK.out.2.2.keep hkk (by simp)
  have H := Lib.hid (And.intro (show OwnsAt w' w.heap.size 3 1 (.slice vA (0 + stack.length) vC) stack.length (stack.map (.int .i64)) by simpa using ho) (And.intro (HK.out.1.trans hkk (by simp)) (And.intro hA (And.intro hR hb))))
  clear ho hk hkk hb Hsrc
  have a0 : w'.cell? ⟨w.heap.size, 0, none⟩ = some (.int .i64 fn) := hA.cell 0
  have a1 : w'.cell? ⟨w.heap.size, 1, none⟩ = some (.int .i64 pc) := hA.cell 1
  have a2 : w'.cell? ⟨w.heap.size, 2, none⟩ = some (.int .i64 fuel) := hA.cell 2
  have a3 : w'.cell? ⟨w.heap.size, 3, none⟩ = some (.slice a stack.length c) := hA.cell 3
  have a4 : w'.cell? ⟨w.heap.size, 4, none⟩ = some (.slice none 0 0) := hA.cell 4
  have a5 : w'.cell? ⟨w.heap.size, 5, none⟩ = some (.int .i64 kids) := hA.cell 5
  have a6 : w'.cell? ⟨w.heap.size, 6, none⟩ = some (.bool waits) := hA.cell 6
  have af : ∀ i, w'.frozen? ⟨w.heap.size, i, none⟩ = false := fun i => hA.frozen i
  have r0 : w'.cell? ⟨w.heap.size + 1, 0, none⟩ = some (.int .i64 0) := hR.cell 0
  have r1 : w'.cell? ⟨w.heap.size + 1, 1, none⟩ = some (.int .i64 0) := hR.cell 1
  have r2 : w'.cell? ⟨w.heap.size + 1, 2, none⟩ = some (.int .i64 0) := hR.cell 2
  have r3 : w'.cell? ⟨w.heap.size + 1, 3, none⟩ = some (.slice none 0 0) := hR.cell 3
  have r4 : w'.cell? ⟨w.heap.size + 1, 4, none⟩ = some (.slice none 0 0) := hR.cell 4
  have r5 : w'.cell? ⟨w.heap.size + 1, 5, none⟩ = some (.int .i64 0) := hR.cell 5
  have r6 : w'.cell? ⟨w.heap.size + 1, 6, none⟩ = some (.bool false) := hR.cell 6
  have rf : ∀ i, w'.frozen? ⟨w.heap.size + 1, i, none⟩ = false := fun i => hR.frozen i
  clear hA hR
  go_wp2_with fail
  obtain ⟨ho, hk, hA, hR, hb⟩ := H.out
  rw [Nat.zero_add] at ho
  have D := set7 ((hR.far (p := ⟨w.heap.size, 3, none⟩) (by simp) (.slice vA stack.length vC)).far (p := ⟨w.heap.size, 4, none⟩) (by simp) (.slice none 0 0)) (.int .i64 fn) (.int .i64 pc) (.int .i64 fuel) (.slice vA stack.length vC) (.slice none 0 0) (.int .i64 kids) (.bool waits)
  have d0 := D.cell 0
  have d1 := D.cell 1
  have d2 := D.cell 2
  have d3 := D.cell 3
  have d4 := D.cell 4
  have d5 := D.cell 5
  have d6 := D.cell 6
  have hK := ((((Keep.refl [w.heap.size] w').setCell (p := ⟨w.heap.size, 3, none⟩) (by simp) (.slice vA stack.length vC)).setCell (p := ⟨w.heap.size, 4, none⟩) (by simp) (.slice none 0 0)).mono (T := [w.heap.size, w.heap.size + 1]) (by simp)).trans (keep7 (g := w.heap.size + 1) (.int .i64 fn) (.int .i64 pc) (.int .i64 fuel) (.slice vA stack.length vC) (.slice none 0 0) (.int .i64 kids) (.bool waits)) (by simp)
  refine bodyPost_ret (v := .agg #[.int .i64 fn, .int .i64 pc, .int .i64 fuel, .slice vA stack.length vC, .slice none 0 0, .int .i64 kids, .bool waits]) (by simp [results, Tryd.results88, go_sem, d0, d1, d2, d3, d4, d5, d6]) rfl ⟨_, rfl, ⟨.slice vA stack.length vC, rfl, ?_, ?_⟩, hk.trans hK (by simp)⟩
  · refine (own_src (ho.keep hK ?_)).1
    intro g hg hm
    rcases hb with hb | hb
    · rw [hb] at hg; cases hg
    · rw [hb] at hg
      injection hg with hg
      subst hg
      simp at hm
      omega
  · exact (own_src ho).2
end Go.Proofs.YtndpbkhpllmhmaaDoor
namespace Go.Proofs.YtndpbkhpllmhmaaDoor
set_option linter.unusedSimpArgs false
set_option linter.unnecessarySimpa false
set_option linter.unusedVariables false
open Go.RowKit
/-- an entry: its name and value; which function, its steps, its kids; the slice of its awaits -/
structure ER where
  k : EK
  fn : Int
  steps : Int
  kids : Int
  aw : Value
def ER.c (x : ER) : List Value := [.string (strB x.k.1), .int .i64 x.fn, .slice none 0 0, .int .i64 0, .int .i64 x.k.2, .int .i64 x.steps, .int .i64 x.kids, x.aw]
theorem ER.c_len (x : ER) : x.c.length = 8 := rfl
def resC (v : Int) : List Value := [.int .i64 0, .int .i64 v]
theorem resC_len (v : Int) : (resC v).length = 2 := rfl
theorem mem_ownD {v : Value} {x : Nat} : x ∈ ownBlocks v ↔ v.ownBlock = some x := by
  unfold ownBlocks
  simp
theorem own_own {w : World} {B B' : Nat} {e e' : TypeId} {size size' n n' : Nat} {v v' : Value} {xs xs' : List Value} (h : OwnsAt w B e size v n xs) (h' : OwnsAt w B' e' size' v' n' xs') (he : e ≠ e') : ∀ x, v.ownBlock = some x → x ∉ ownBlocks v' := by
  intro x hx hm
  rw [mem_ownD] at hm
  rcases h.2 with ⟨rfl, _⟩ | ⟨g, off, cap, cur, rfl, _, h3, _⟩
  · simp [Value.ownBlock] at hx
  rcases h'.2 with ⟨rfl, _⟩ | ⟨g', off', cap', cur', rfl, _, h3', _⟩
  · simp [Value.ownBlock] at hm
  simp [Value.ownBlock] at hx hm
  subst hx
  subst hm
  rw [h3] at h3'
  injection h3' with h3'
  injection h3' with _ h3'
  exact he h3'
theorem IntsOf.keep' {w w' : World} {v : Value} {ys : List Int} {S : List Nat} (h : IntsOf w v ys) (hk : Keep S w w') (hn : ∀ x ∈ sliceBlock v, x < w.heap.size → x ∉ S) : IntsOf w' v ys := by
  obtain ⟨a, c, rfl, h⟩ := h
  refine ⟨a, c, rfl, fun hy => ?_⟩
  obtain ⟨b, off, rfl, hb, hc⟩ := h hy
  exact ⟨b, off, rfl, Nat.lt_of_lt_of_le hb hk.size, fun k x hx => (hk.cell hb (hn b (by simp [sliceBlock]) hb)).trans (hc k x hx)⟩
/-- what a call of 'do' has: w0 is the world that it began in, ev0 the entries' slice there -/
structure DoW (w0 : World) (B g kg rb sb : Nat) (ev0 : Value) (R : List ER) (ev kv : Value) (ks : List Int) (sc : List Value) (aw : Value) (m : Nat) (ys : List Value) (wr : World) : Prop where
  keep : Keep (g :: ownBlocks ev0) w0 wr
  blk : Blk wr g 106 [.pointer (some ⟨kg, 0, none⟩), ev, .bool false]
  ents : OwnsAt wr B 64 8 ev R.length (R.flatMap ER.c)
  evs : ∀ x ∈ ownBlocks ev, x ∈ ownBlocks ev0 ∨ w0.heap.size ≤ x
  res : Blk wr rb 61 [.int .i64 0, .int .i64 0]
  st : Blk wr sb 133 sc
  kids : OwnsAt wr (rb + 1) 61 2 kv ks.length (ks.flatMap resC)
  aws : OwnsAt wr (rb + 1) 3 1 aw m ys
  base : w0.heap.size ≤ rb ∧ w0.heap.size ≤ sb ∧ B ≤ w0.heap.size
section
variable {w0 wr w' : World} {B g kg rb sb m : Nat} {ev0 ev kv aw : Value} {R : List ER} {ks : List Int} {sc ys : List Value}
/-- nothing but new blocks -/
theorem DoW.more (h : DoW w0 B g kg rb sb ev0 R ev kv ks sc aw m ys wr) (k : Keep [] wr w') : DoW w0 B g kg rb sb ev0 R ev kv ks sc aw m ys w' :=
  ⟨h.keep.trans k (by simp), h.blk.keep k (by simp), h.ents.keep k (by simp), h.evs, h.res.keep k (by simp), h.st.keep k (by simp), h.kids.keep k (by simp), h.aws.keep k (by simp), h.base⟩
/-- the state's box is turned -/
theorem DoW.state {sc' : List Value} (h : DoW w0 B g kg rb sb ev0 R ev kv ks sc aw m ys wr) (k : Keep [sb] wr w') (hs : Blk w' sb 133 sc') : DoW w0 B g kg rb sb ev0 R ev kv ks sc' aw m ys w' := by
  have h1 : ∀ {e size n : Nat} {v : Value} {xs : List Value} {B' : Nat}, OwnsAt wr B' e size v n xs → 133 ≠ e → ∀ x, v.ownBlock = some x → x ∉ [sb] := fun ho he x hx hm => by
    rw [List.mem_singleton] at hm
    subst hm
    exact own_apart ho h.st he (mem_ownD.2 hx)
  exact ⟨h.keep.trans k (fun x hx => by rw [List.mem_singleton] at hx; subst hx; exact Or.inr h.base.2.1), h.blk.keep k (fun hm => h.blk.ne_ h.st (by decide) (List.mem_singleton.1 hm)), h.ents.keep k (h1 h.ents (by decide)), h.evs, h.res.keep k (fun hm => h.res.ne_ h.st (by decide) (List.mem_singleton.1 hm)), hs, h.kids.keep k (h1 h.kids (by decide)), h.aws.keep k (h1 h.aws (by decide)), h.base⟩
/-- a cell of an entry is turned -/
theorem DoW.entry (h : DoW w0 B g kg rb sb ev0 R ev kv ks sc aw m ys wr) {ge off cap n : Nat} (he : ev = .slice (some ⟨ge, off, none⟩) n cap) {i j : Nat} {x x' : ER} {u : Value} (hi : R[i]? = some x) (hj : j < 8) (hc : x'.c = x.c.set j u) :
    DoW w0 B g kg rb sb ev0 (R.set i x') ev kv ks sc aw m ys (wr.setCell ⟨ge, off + (i * 8 + j), none⟩ u) := by
  subst he
  have hn : n = R.length := by
    rcases h.ents.2 with ⟨h0, _⟩ | ⟨g', off', cap', cur, h0, _⟩
    · cases h0
    · injection h0
  subst hn
  have hge : (Value.slice (some ⟨ge, off, none⟩) R.length cap).ownBlock = some ge := rfl
  have hb : B ≤ ge ∧ ge < wr.heap.size := h.ents.lt ge hge
  have hm : ge ∈ g :: ownBlocks ev0 ∨ w0.heap.size ≤ ge := by
    rcases h.evs ge (mem_ownD.2 hge) with h1 | h1
    · exact Or.inl (List.mem_cons_of_mem _ h1)
    · exact Or.inr h1
  have hne : ∀ {g' : Nat} {t : TypeId} {cs : List Value}, Blk wr g' t cs → t ≠ 64 → g' ≠ ge := fun hb ht e => own_apart h.ents hb ht (mem_ownD.2 (by rw [e]; exact hge))
  have k : Keep [ge] wr (wr.setCell ⟨ge, off + (i * 8 + j), none⟩ u) := (Keep.refl _ wr).setCell (by simp) _
  have hown : ∀ {e size n : Nat} {v : Value} {xs : List Value} {B' : Nat}, OwnsAt wr B' e size v n xs → e ≠ 64 → ∀ x, v.ownBlock = some x → x ∉ [ge] := fun ho he x hx hm => by
    rw [List.mem_singleton] at hm
    subst hm
    exact own_own ho h.ents he x hx (mem_ownD.2 hge)
  refine ⟨h.keep.setCell hm _, h.blk.far (hne h.blk (by decide)) _, ?_, h.evs, h.res.far (hne h.res (by decide)) _, h.st.far (hne h.st (by decide)) _, h.kids.keep k (hown h.kids (by decide)), h.aws.keep k (hown h.aws (by decide)), h.base⟩
  have e1 := h.ents.set_ (i * 8 + j) u
  rw [flat_set_ ER.c_len R i x x' j u hi hj hc] at e1
  rw [List.length_set]
  exact e1
/-- the kids' values are appended to -/
theorem DoW.kid {kv' : Value} {v : Int} (h : DoW w0 B g kg rb sb ev0 R ev kv ks sc aw m ys wr) (k : Keep (ownBlocks kv) wr w') (ho : OwnsAt w' (rb + 1) 61 2 kv' (ks.length + 1) (ks.flatMap resC ++ resC v)) : DoW w0 B g kg rb sb ev0 R ev kv' (ks ++ [v]) sc aw m ys w' := by
  refine ⟨h.keep.trans k (fun x hx => Or.inr ?_), h.blk.keep k (own_apart h.kids h.blk (by decide)), h.ents.keep k (own_own h.ents h.kids (by decide)), h.evs, h.res.keep k (fun hm => ?_), h.st.keep k (own_apart h.kids h.st (by decide)), ?_, h.aws.keep k (own_own h.aws h.kids (by decide)), h.base⟩
  · have := own_base h.kids x hx
    have := h.base.1
    omega
  · have := own_base h.kids _ hm
    omega
  · rw [List.length_append, List.flatMap_append]
    simpa using ho
/-- the awaits are appended to -/
theorem DoW.await {aw' : Value} {m' : Nat} {ys' : List Value} (h : DoW w0 B g kg rb sb ev0 R ev kv ks sc aw m ys wr) (k : Keep (ownBlocks aw) wr w') (ho : OwnsAt w' (rb + 1) 3 1 aw' m' ys') : DoW w0 B g kg rb sb ev0 R ev kv ks sc aw' m' ys' w' := by
  refine ⟨h.keep.trans k (fun x hx => Or.inr ?_), h.blk.keep k (own_apart h.aws h.blk (by decide)), h.ents.keep k (own_own h.ents h.aws (by decide)), h.evs, h.res.keep k (own_apart h.aws h.res (by decide)), h.st.keep k (own_apart h.aws h.st (by decide)), h.kids.keep k (own_own h.kids h.aws (by decide)), ho, h.base⟩
  have := own_base h.aws x hx
  have := h.base.1
  omega
/-- another call of 'do' has turned the entries -/
theorem DoW.inner {ev' : Value} {R' : List ER} (h : DoW w0 B g kg rb sb ev0 R ev kv ks sc aw m ys wr) (k : Keep (g :: ownBlocks ev) wr w') (hb : Blk w' g 106 [.pointer (some ⟨kg, 0, none⟩), ev', .bool false]) (ho : OwnsAt w' B 64 8 ev' R'.length (R'.flatMap ER.c)) (he : ∀ x ∈ ownBlocks ev', x ∈ ownBlocks ev ∨ wr.heap.size ≤ x) : DoW w0 B g kg rb sb ev0 R' ev' kv ks sc aw m ys w' := by
  have hne : ∀ {g' : Nat} {t : TypeId} {cs : List Value}, Blk wr g' t cs → t ≠ 64 → t ≠ 106 → g' ∉ g :: ownBlocks ev := fun hb' h1 h2 hm => by
    rcases List.mem_cons.1 hm with rfl | hm
    · exact hb'.ne_ h.blk h2 rfl
    · exact own_apart h.ents hb' h1 hm
  have hown : ∀ {e size n : Nat} {v : Value} {xs : List Value} {B' : Nat}, OwnsAt wr B' e size v n xs → e ≠ 64 → e ≠ 106 → ∀ x, v.ownBlock = some x → x ∉ g :: ownBlocks ev := fun ho h1 h2 x hx hm => by
    rcases List.mem_cons.1 hm with rfl | hm
    · exact own_apart ho h.blk (Ne.symm h2) (mem_ownD.2 hx)
    · exact own_own ho h.ents h1 x hx hm
  refine ⟨h.keep.trans k (fun x hx => ?_), hb, ho, fun x hx => ?_, h.res.keep k (hne h.res (by decide) (by decide)), h.st.keep k (hne h.st (by decide) (by decide)), h.kids.keep k (hown h.kids (by decide) (by decide)), h.aws.keep k (hown h.aws (by decide) (by decide)), h.base⟩
  · rcases List.mem_cons.1 hx with rfl | hx
    · exact Or.inl (List.mem_cons_self ..)
    · rcases h.evs x hx with h1 | h1
      · exact Or.inl (List.mem_cons_of_mem _ h1)
      · exact Or.inr h1
  · rcases he x hx with h1 | h1
    · exact h.evs x h1
    · exact Or.inr (Nat.le_trans h.keep.size h1)
end
end Go.Proofs.YtndpbkhpllmhmaaDoor
namespace Go.Proofs.YtndpbkhpllmhmaaDoor
set_option linter.unusedSimpArgs false
set_option linter.unnecessarySimpa false
set_option linter.unusedVariables false
open Go.RowKit
set_option maxHeartbeats 3200000 in
set_option maxRecDepth 100000 in
theorem may_run (w : World) (B B2 : Nat) (kg : Nat) (J : JB) (S : SS) (v : Value) (hK : KnownAt B w kg J) (hS : StateIs B2 w v S) (hM : MayR J S) (hB : B ≤ w.heap.size) (hw : S.waits = false) :
    Calls Tryd.prog 87 #[.pointer (some ⟨kg, 0, none⟩), v] w fun e w' => e = .returned (.bool true) ∧ Keep [] w w' := by
  obtain ⟨⟨i, f, hf, hi⟩, ⟨d, hd, hdp⟩, hk, hfu, hlen⟩ := hM
  obtain ⟨fv, dv, hg, hblk, hfs, hds⟩ := hK
  obtain ⟨sv, rfl, hst, _⟩ := hS
  obtain ⟨fn, pc, fuel, stack, kids, waits⟩ := S
  simp only at *
  subst hw
  obtain ⟨af, cf, rfl⟩ := hfs.shape
  obtain ⟨b, off, cv, rfl, hb, f0, f1, f2, f3, hcode⟩ := hfs.fn hf
  obtain ⟨bd, offd, cd, b2, off2, c2, rfl, hbd, e0, e1⟩ := hds.at_ hd hdp
  obtain ⟨a3, c3, rfl⟩ := hcode.shape
  obtain ⟨a4, c4, rfl⟩ := hst.shape
  have k0 : w.cell? ⟨kg, 0, none⟩ = some (.slice (some ⟨b, off, none⟩) J.fs.length cf) := hblk.cell 0
  have k3 : w.cell? ⟨kg, 3, none⟩ = some (.int .i64 J.fuel) := hblk.cell 3
  have k5 : w.cell? ⟨kg, 5, none⟩ = some (.slice (some ⟨bd, offd, none⟩) J.ds.length cd) := hblk.cell 5
  have l1 : fn < J.fs.length := (List.getElem?_eq_some_iff.1 hf).1
  have l2 : pc < f.code.length := (List.getElem?_eq_some_iff.1 hi).1
  have l3 : fn < J.ds.length := (List.getElem?_eq_some_iff.1 hd).1
  have l4 : pc < d.length := (List.getElem?_eq_some_iff.1 hdp).1
  have i1 : (fn : Int) < (J.fs.length : Int) := by omega
  have i2 : (pc : Int) < (f.code.length : Int) := by omega
  have i3 : (kids : Int) ≤ 16 := by omega
  have i4 : (fuel : Int) ≤ (J.fuel : Int) := by omega
  have n1 : (0 : Int) ≤ (fn : Int) := by omega
  have n2 : (0 : Int) ≤ (pc : Int) := by omega
  have n3 : (0 : Int) ≤ (kids : Int) := by omega
  have n4 : (0 : Int) ≤ (fuel : Int) := by omega
  have n5 : (0 : Int) ≤ (stack.length : Int) := by omega
  have hbw : b < w.heap.size := by omega
  have hbdw : bd < w.heap.size := by omega
  have hgw : kg < w.heap.size := by omega
  have hb2w : b2 < w.heap.size := cell_lt6 e1
  clear hblk hfs hds hcode hst hf hi hd hdp hk hfu hb hbd hg hB hlen
  unfold stV6
  simp only
  go_enter Tryd.func87, Tryd.ntmps87
  go_upto_region 1 with fail
  go_quiet (fail)
  go_upto_region 3 with fail
  go_region
  clear f0 f1
  go_upto_region 4 with fail
  go_quiet (fail)
  go_wp2_with fail
  go_ret
  exact ⟨rfl, ((((Keep.refl _ _).alloc _).drewN _).alloc _).drewN _⟩
end Go.Proofs.YtndpbkhpllmhmaaDoor
namespace Go.Proofs.YtndpbkhpllmhmaaDoor
set_option linter.unusedSimpArgs false
set_option linter.unnecessarySimpa false
set_option linter.unusedVariables false
open Go.RowKit
def CopyOwn (S : SS) (w : World) (e : Ending) (w' : World) : Prop := ∃ sv, e = .returned (stV6 S sv) ∧ OwnsAt w' w.heap.size 3 1 sv S.stack.length (S.stack.map (.int .i64)) ∧ Keep [] w w'
set_option maxHeartbeats 1600000 in
theorem copied_own (w : World) (v : Value) (S : SS) (B : Nat) (h : StateIs B w v S) (hl : S.stack.length ≤ 32) : Calls Tryd.prog 88 #[v] w (CopyOwn S w) := by
  obtain ⟨sv, rfl, hs, _⟩ := h
  obtain ⟨fn, pc, fuel, stack, kids, waits⟩ := S
  unfold stV6
  simp only at hs hl ⊢
  obtain ⟨W1, hW1⟩ : ∃ W1, W1 = (w.alloc (.cells #[.int .i64 fn, .int .i64 pc, .int .i64 fuel, sv, .slice none 0 0, .int .i64 kids, .bool waits] 133)).alloc (.cells #[.int .i64 0, .int .i64 0, .int .i64 0, .slice none 0 0, .slice none 0 0, .int .i64 0, .bool false] 133) := ⟨_, rfl⟩
  have hk1 : Keep [] w W1 := by rw [hW1]; exact ((Keep.refl _ _).alloc _).alloc _
  have hi1 : IntsOf W1 sv stack := hs.keep hk1 (by simp)
  have hsrc := SrcOf.of_ints hi1
  have hA : Blk W1 w.heap.size 133 [.int .i64 fn, .int .i64 pc, .int .i64 fuel, sv, .slice none 0 0, .int .i64 kids, .bool waits] := by rw [hW1]; exact (Blk.new' _ _ _ _ rfl).alloc _
  have hR : Blk W1 (w.heap.size + 1) 133 [.int .i64 0, .int .i64 0, .int .i64 0, .slice none 0 0, .slice none 0 0, .int .i64 0, .bool false] := by
    rw [hW1]
    have := Blk.new' (w.alloc (.cells #[.int .i64 fn, .int .i64 pc, .int .i64 fuel, sv, .slice none 0 0, .int .i64 kids, .bool waits] 133)) 133 #[.int .i64 0, .int .i64 0, .int .i64 0, .slice none 0 0, .slice none 0 0, .int .i64 0, .bool false] _ rfl
    rw [World.size_alloc] at this
    exact this
  rw [hW1] at hsrc
  have Hsrc := Lib.hid hsrc
  have HK := Lib.hid (And.intro hk1 (And.intro hA hR))
  rw [hW1] at HK
  clear hsrc hi1 hk1 hA hR hW1
  obtain ⟨a, c, rfl⟩ := hs.shape
  clear hs
  go_enter Tryd.func88, Tryd.ntmps88
  go_wp2_with (at_builtin; refine wpList_append_off rfl _ _ rfl Tryd.sts24L w.heap.size (.slice none 0 0) 0 [] rfl (OwnsAt.nil _ _ _ _) _ stack.length _ rfl Hsrc.out (by simp [Value.oneCell']) (by unfold maxLen; omega) (by omega) (by simp; omega) ?_)
  intro v' w' ho hk hb
  obtain ⟨vA, vC, rfl⟩ := ho.shape
  have hkk : Keep [] _ w' := hk
  have hA := HK.out.2.1.keep hkk (by simp)
  have hR := HK.out.2.2.keep hkk (by simp)
  have H := Lib.hid (And.intro (show OwnsAt w' w.heap.size 3 1 (.slice vA (0 + stack.length) vC) stack.length (stack.map (.int .i64)) by simpa using ho) (And.intro (HK.out.1.trans hkk (by simp)) (And.intro hA (And.intro hR hb))))
  clear ho hk hkk hb Hsrc
  have a0 : w'.cell? ⟨w.heap.size, 0, none⟩ = some (.int .i64 fn) := hA.cell 0
  have a1 : w'.cell? ⟨w.heap.size, 1, none⟩ = some (.int .i64 pc) := hA.cell 1
  have a2 : w'.cell? ⟨w.heap.size, 2, none⟩ = some (.int .i64 fuel) := hA.cell 2
  have a3 : w'.cell? ⟨w.heap.size, 3, none⟩ = some (.slice a stack.length c) := hA.cell 3
  have a4 : w'.cell? ⟨w.heap.size, 4, none⟩ = some (.slice none 0 0) := hA.cell 4
  have a5 : w'.cell? ⟨w.heap.size, 5, none⟩ = some (.int .i64 kids) := hA.cell 5
  have a6 : w'.cell? ⟨w.heap.size, 6, none⟩ = some (.bool waits) := hA.cell 6
  have af : ∀ i, w'.frozen? ⟨w.heap.size, i, none⟩ = false := fun i => hA.frozen i
  have r0 : w'.cell? ⟨w.heap.size + 1, 0, none⟩ = some (.int .i64 0) := hR.cell 0
  have r1 : w'.cell? ⟨w.heap.size + 1, 1, none⟩ = some (.int .i64 0) := hR.cell 1
  have r2 : w'.cell? ⟨w.heap.size + 1, 2, none⟩ = some (.int .i64 0) := hR.cell 2
  have r3 : w'.cell? ⟨w.heap.size + 1, 3, none⟩ = some (.slice none 0 0) := hR.cell 3
  have r4 : w'.cell? ⟨w.heap.size + 1, 4, none⟩ = some (.slice none 0 0) := hR.cell 4
  have r5 : w'.cell? ⟨w.heap.size + 1, 5, none⟩ = some (.int .i64 0) := hR.cell 5
  have r6 : w'.cell? ⟨w.heap.size + 1, 6, none⟩ = some (.bool false) := hR.cell 6
  have rf : ∀ i, w'.frozen? ⟨w.heap.size + 1, i, none⟩ = false := fun i => hR.frozen i
  clear hA hR
  go_wp2_with fail
  obtain ⟨ho, hk, hA, hR, hb⟩ := H.out
  rw [Nat.zero_add] at ho
  have D := set7 ((hR.far (p := ⟨w.heap.size, 3, none⟩) (by simp) (.slice vA stack.length vC)).far (p := ⟨w.heap.size, 4, none⟩) (by simp) (.slice none 0 0)) (.int .i64 fn) (.int .i64 pc) (.int .i64 fuel) (.slice vA stack.length vC) (.slice none 0 0) (.int .i64 kids) (.bool waits)
  have d0 := D.cell 0
  have d1 := D.cell 1
  have d2 := D.cell 2
  have d3 := D.cell 3
  have d4 := D.cell 4
  have d5 := D.cell 5
  have d6 := D.cell 6
  have hK := ((((Keep.refl [w.heap.size] w').setCell (p := ⟨w.heap.size, 3, none⟩) (by simp) (.slice vA stack.length vC)).setCell (p := ⟨w.heap.size, 4, none⟩) (by simp) (.slice none 0 0)).mono (T := [w.heap.size, w.heap.size + 1]) (by simp)).trans (keep7 (g := w.heap.size + 1) (.int .i64 fn) (.int .i64 pc) (.int .i64 fuel) (.slice vA stack.length vC) (.slice none 0 0) (.int .i64 kids) (.bool waits)) (by simp)
  refine bodyPost_ret (v := .agg #[.int .i64 fn, .int .i64 pc, .int .i64 fuel, .slice vA stack.length vC, .slice none 0 0, .int .i64 kids, .bool waits]) (by simp [results, Tryd.results88, go_sem, d0, d1, d2, d3, d4, d5, d6]) rfl ⟨.slice vA stack.length vC, rfl, ?_, hk.trans hK (by simp)⟩
  · refine ho.keep hK ?_
    intro g hg hm
    rcases hb with hb | hb
    · rw [hb] at hg; cases hg
    · rw [hb] at hg
      injection hg with hg
      subst hg
      simp at hm
      omega
end Go.Proofs.YtndpbkhpllmhmaaDoor
namespace Go.Proofs.YtndpbkhpllmhmaaDoor
set_option linter.unusedSimpArgs false
set_option linter.unnecessarySimpa false
set_option linter.unusedVariables false
open Go.RowKit
/-- every block below B but sp is as it was -/
structure Bel (B sp : Nat) (w w' : World) : Prop where
  os : w'.os = w.os
  tape : w'.tape = w.tape
  output : w'.output = w.output
  size : w.heap.size ≤ w'.heap.size
  block : ∀ k, k < B → k ≠ sp → w'.heap[k]? = w.heap[k]?
theorem Bel.refl (B sp : Nat) (w : World) : Bel B sp w w := ⟨rfl, rfl, rfl, Nat.le_refl _, fun _ _ _ => rfl⟩
theorem Bel.keep {B sp : Nat} {S : List Nat} {a w w' : World} (hb : Bel B sp a w) (h : Keep S w w') (hB : B ≤ w.heap.size) (hS : ∀ x ∈ S, B ≤ x ∨ x = sp) : Bel B sp a w' :=
  ⟨h.os.trans hb.os, h.tape.trans hb.tape, h.output.trans hb.output, Nat.le_trans hb.size h.size, fun k hk hn => by
    rw [h.block k (by omega) (fun hx => by rcases hS k hx with h1 | h1; omega; exact hn h1), hb.block k hk hn]⟩
theorem Bel.below {B B0 sp : Nat} {w w' : World} (h : Bel B sp w w') (h1 : B0 ≤ B) (h2 : B0 ≤ sp) : Below B0 w w' :=
  ⟨h.os, h.tape, h.output, h.size, fun k hk => h.block k (by omega) (by omega)⟩
theorem Bel.trans {B sp : Nat} {a w w' : World} (hb : Bel B sp a w) (h : Bel B sp w w') : Bel B sp a w' :=
  ⟨h.os.trans hb.os, h.tape.trans hb.tape, h.output.trans hb.output, Nat.le_trans hb.size h.size, fun k hk hn => (h.block k hk hn).trans (hb.block k hk hn)⟩
/-- the state at work: a block of its own, its stack a slice of the call's own -/
def StAt (B : Nat) (w : World) (sp : Nat) (S : SS) (sv : Value) : Prop :=
  True ∧ Blk w sp 133 [.int .i64 S.fn, .int .i64 S.pc, .int .i64 S.fuel, sv, .slice none 0 0, .int .i64 S.kids, .bool S.waits] ∧ OwnsAt w B 3 1 sv S.stack.length (S.stack.map (.int .i64))
def EvOf (v : Value) : Option EV → Prop
  | none => v = .agg #[.int .i64 0, .int .i64 0, .int .i64 0, .int .i64 0, .slice none 0 0, .int .i64 0, .int .i64 0]
  | some ev => EventIs v ev
def StepPost (B sp : Nat) (S' : SS) (oev : Option EV) (w : World) (e : Ending) (w' : World) : Prop :=
  ∃ v sv, e = .returned (.tuple #[v, .bool oev.isSome]) ∧ EvOf v oev ∧ StAt B w' sp S' sv ∧ Bel B sp w w'
theorem StAt.keep {B sp : Nat} {w w' : World} {S : SS} {sv : Value} {T : List Nat} (h : StAt B w sp S sv) (k : Keep T w w') (hT : ∀ x ∈ T, w.heap.size ≤ x) : StAt B w' sp S sv := by
  obtain ⟨h1, h2, h3⟩ := h
  refine ⟨h1, h2.keep k (fun hx => ?_), h3.keep k (fun g hg hx => ?_)⟩
  · have := hT _ hx; have := h2.lt; omega
  · have := hT _ hx; have := (h3.lt g hg).2; omega
theorem own_ne {w : World} {B sp : Nat} {t : TypeId} {cs : List Value} {e : TypeId} {size n : Nat} {v : Value} {xs : List Value} (hb : Blk w sp t cs) (ho : OwnsAt w B e size v n xs) (hne : t ≠ e) : ∀ g, v.ownBlock = some g → g ≠ sp := by
  rintro g hg rfl
  rcases ho.2 with ⟨rfl, _⟩ | ⟨g', off, cap, cur, rfl, _, hg', _⟩
  · cases hg
  · obtain rfl : g' = g := by simpa [Value.ownBlock] using hg
    unfold Blk at hb
    rw [hb] at hg'
    injection hg' with h1
    injection h1 with _ h2
    exact hne h2
set_option maxHeartbeats 6400000 in
set_option maxRecDepth 100000 in
theorem step_ret (w : World) (B B0 kg sp deep : Nat) (J : JB) (S : SS) (sv : Value) {l : List Int} {x : Int} {n : Int} (hK : KnownAt B0 w kg J) (hB0 : B0 ≤ w.heap.size) (hS : StAt B w sp S sv) (hB : B ≤ w.heap.size) (hc : S.pc ≤ 1000) (hat : J.at_ S ⟨18, n⟩) (hl : S.stack = l ++ [x]) (hlen : S.stack.length ≤ 32) :
    Calls Tryd.prog 90 #[.pointer (some ⟨kg, 0, none⟩), .pointer (some ⟨sp, 0, none⟩), .int .i64 deep] w (StepPost B sp S (some (.ended x)) w) := by
  obtain ⟨fv, dv, hg, hblk, hfs, _⟩ := hK
  obtain ⟨hBs, hsb, hown⟩ := hS
  obtain ⟨f, hf, hi⟩ := hat
  obtain ⟨fn, pc, fuel, stack, kids, waits⟩ := S
  simp only at hsb hown hi hf hc hlen hl ⊢
  subst hl
  obtain ⟨af, cf, rfl⟩ := hfs.shape
  obtain ⟨b, off, cv, rfl, hb, f0, f1, f2, f3, hcode⟩ := hfs.fn hf
  obtain ⟨a3, c3, rfl⟩ := hcode.shape
  obtain ⟨b7, off7, rfl, hb7, g0, g1⟩ := hcode.at_ hi
  simp only at g0 g1
  have k0 : w.cell? ⟨kg, 0, none⟩ = some (.slice (some ⟨b, off, none⟩) J.fs.length cf) := hblk.cell 0
  have l1 : fn < J.fs.length := (List.getElem?_eq_some_iff.1 hf).1
  have l2 : pc < f.code.length := (List.getElem?_eq_some_iff.1 hi).1
  have i1 : (fn : Int) < (J.fs.length : Int) := by omega
  have i2 : (pc : Int) < (f.code.length : Int) := by omega
  have n1 : (0 : Int) ≤ (fn : Int) := by omega
  have n2 : (0 : Int) ≤ (pc : Int) := by omega
  have i3 : (pc : Int) ≤ 1000000 := by omega
  have hbw : b < w.heap.size := by omega
  have hb7w : b7 < w.heap.size := by omega
  have hgw : kg < w.heap.size := by omega
  have hspw : sp < w.heap.size := hsb.lt
  have ln : (l ++ [x]).length = l.length + 1 := by simp
  obtain ⟨gs, offs, cs, rfl, hcap, _, hBg, hgs, hcell⟩ := hown.form (by rw [ln]; omega)
  have hne := own_ne hsb hown (by decide) gs rfl
  have t0 : w.cell? ⟨gs, offs + l.length, none⟩ = some (.int .i64 x) := hcell l.length _ (by simp)
  have hll : (l.length : Int) ≤ 32 := by simp at hlen; omega
  have tf : ∀ i, w.frozen? ⟨gs, i, none⟩ = false := fun i => hown.free i
  rw [ln] at hsb hown
  have z0 : w.cell? ⟨sp, 0, none⟩ = some (.int .i64 fn) := hsb.cell 0
  have z1 : w.cell? ⟨sp, 1, none⟩ = some (.int .i64 pc) := hsb.cell 1
  have z2 : w.cell? ⟨sp, 2, none⟩ = some (.int .i64 fuel) := hsb.cell 2
  have z3 : w.cell? ⟨sp, 3, none⟩ = some (.slice (some ⟨gs, offs, none⟩) (l.length + 1) cs) := hsb.cell 3
  have z4 : w.cell? ⟨sp, 4, none⟩ = some (.slice none 0 0) := hsb.cell 4
  have z5 : w.cell? ⟨sp, 5, none⟩ = some (.int .i64 kids) := hsb.cell 5
  have z6 : w.cell? ⟨sp, 6, none⟩ = some (.bool waits) := hsb.cell 6
  have zf : ∀ i, w.frozen? ⟨sp, i, none⟩ = false := fun i => hsb.frozen i
  have H := Lib.hid (And.intro (show StAt B w sp ⟨fn, pc, fuel, l ++ [x], kids, waits⟩ (.slice (some ⟨gs, offs, none⟩) (l.length + 1) cs) from ⟨hBs, hsb, by simpa using hown⟩) hlen)
  clear hBs hsb hown hblk hfs hcode hf hi hb hb7 hg f0 f1 f2
  go_enter Tryd.func90, Tryd.ntmps90
  go_upto_region 1 with fail
  go_region
  go_wp2_with fail
  refine (ended_spec _ 0 0 x).mono ?_
  rintro e w2 ⟨rfl, hk2⟩
  have hr := (((Blk.new' w 138 #[.int .i64 0, .int .i64 0, .int .i64 0, .int .i64 0, .slice none 0 0, .int .i64 0, .int .i64 0] [.int .i64 0, .int .i64 0, .int .i64 0, .int .i64 0, .slice none 0 0, .int .i64 0, .int .i64 0] rfl).alloc (.cells #[.int .i64 18, .int .i64 n] 67)).drew).keep hk2 (by simp)
  have hK : Keep [] w w2 := ((((Keep.refl [] w).alloc _).alloc _).drew).trans hk2 (by simp)
  have r0 : w2.cell? ⟨w.heap.size, 0, none⟩ = some (.int .i64 0) := hr.cell 0
  have r1 : w2.cell? ⟨w.heap.size, 1, none⟩ = some (.int .i64 0) := hr.cell 1
  have r2 : w2.cell? ⟨w.heap.size, 2, none⟩ = some (.int .i64 0) := hr.cell 2
  have r3 : w2.cell? ⟨w.heap.size, 3, none⟩ = some (.int .i64 0) := hr.cell 3
  have r4 : w2.cell? ⟨w.heap.size, 4, none⟩ = some (.slice none 0 0) := hr.cell 4
  have r5 : w2.cell? ⟨w.heap.size, 5, none⟩ = some (.int .i64 0) := hr.cell 5
  have r6 : w2.cell? ⟨w.heap.size, 6, none⟩ = some (.int .i64 0) := hr.cell 6
  have rf : ∀ i, w2.frozen? ⟨w.heap.size, i, none⟩ = false := fun i => hr.frozen i
  have D := set7 hr (.int .i64 3) (.int .i64 0) (.int .i64 0) (.int .i64 0) (.slice none 0 0) (.int .i64 0) (.int .i64 x)
  have d0 := D.cell 0
  have d1 := D.cell 1
  have d2 := D.cell 2
  have d3 := D.cell 3
  have d4 := D.cell 4
  have d5 := D.cell 5
  have d6 := D.cell 6
  have hKF := hK.trans (keep7 (g := w.heap.size) (.int .i64 3) (.int .i64 0) (.int .i64 0) (.int .i64 0) (.slice none 0 0) (.int .i64 0) (.int .i64 x)) (by simp)
  have F := Lib.hid (And.intro d0 (And.intro d1 (And.intro d2 (And.intro d3 (And.intro d4 (And.intro d5 (And.intro d6 hKF)))))))
  clear hr D hK hk2 d0 d1 d2 d3 d4 d5 d6 hKF
  unfold endedV
  go_wp2_with fail
  obtain ⟨d0, d1, d2, d3, d4, d5, d6, hKF⟩ := F.out
  exact bodyPost_ret (v := .tuple #[.agg #[.int .i64 3, .int .i64 0, .int .i64 0, .int .i64 0, .slice none 0 0, .int .i64 0, .int .i64 x], .bool true]) (by simp [results, Tryd.results90, go_sem, d0, d1, d2, d3, d4, d5, d6]) rfl ⟨_, _, rfl, ⟨0, 0, 0, rfl⟩, H.out.1.keep hKF (by simp), Bel.keep (Bel.refl _ _ _) hKF hB (by simp)⟩
end Go.Proofs.YtndpbkhpllmhmaaDoor
namespace Go.Proofs.YtndpbkhpllmhmaaDoor
set_option linter.unusedSimpArgs false
set_option linter.unnecessarySimpa false
set_option linter.unusedVariables false
open Go.RowKit
theorem src_int6 {w : World} {g : Nat} {n : Int} (h : w.cell? ⟨g, 0, none⟩ = some (.int .i64 n)) : SrcOf w (.slice (some ⟨g, 0, none⟩) 1 1) 1 1 [.int .i64 n] := by
  refine ⟨_, _, rfl, rfl, fun _ => ⟨_, rfl, fun j u hu => ?_⟩⟩
  rcases j with _ | j
  · cases hu
    rw [add_none]
    exact h
  · cases hu
set_option maxHeartbeats 6400000 in
set_option maxRecDepth 100000 in
theorem step_push1 (w : World) (B B0 kg sp deep : Nat) (J : JB) (S : SS) (sv : Value) {l : List Int} {x : Int} {n : Int} (hK : KnownAt B0 w kg J) (hB0 : B0 ≤ w.heap.size) (hS : StAt B w sp S sv) (hB : B ≤ w.heap.size) (hc : S.pc ≤ 1000) (hat : J.at_ S ⟨1, n⟩) (hl : S.stack = l ++ [x]) (hlen : S.stack.length ≤ 32) :
    Calls Tryd.prog 90 #[.pointer (some ⟨kg, 0, none⟩), .pointer (some ⟨sp, 0, none⟩), .int .i64 deep] w (StepPost B sp { S with stack := S.stack ++ [n], pc := S.pc + 1 } none w) := by
  obtain ⟨fv, dv, hg, hblk, hfs, _⟩ := hK
  obtain ⟨hBs, hsb, hown⟩ := hS
  obtain ⟨f, hf, hi⟩ := hat
  obtain ⟨fn, pc, fuel, stack, kids, waits⟩ := S
  simp only at hsb hown hi hf hc hlen hl ⊢
  subst hl
  obtain ⟨af, cf, rfl⟩ := hfs.shape
  obtain ⟨b, off, cv, rfl, hb, f0, f1, f2, f3, hcode⟩ := hfs.fn hf
  obtain ⟨a3, c3, rfl⟩ := hcode.shape
  obtain ⟨b7, off7, rfl, hb7, g0, g1⟩ := hcode.at_ hi
  simp only at g0 g1
  have k0 : w.cell? ⟨kg, 0, none⟩ = some (.slice (some ⟨b, off, none⟩) J.fs.length cf) := hblk.cell 0
  have l1 : fn < J.fs.length := (List.getElem?_eq_some_iff.1 hf).1
  have l2 : pc < f.code.length := (List.getElem?_eq_some_iff.1 hi).1
  have i1 : (fn : Int) < (J.fs.length : Int) := by omega
  have i2 : (pc : Int) < (f.code.length : Int) := by omega
  have n1 : (0 : Int) ≤ (fn : Int) := by omega
  have n2 : (0 : Int) ≤ (pc : Int) := by omega
  have i3 : (pc : Int) ≤ 1000000 := by omega
  have hbw : b < w.heap.size := by omega
  have hb7w : b7 < w.heap.size := by omega
  have hgw : kg < w.heap.size := by omega
  have hspw : sp < w.heap.size := hsb.lt
  have ln : (l ++ [x]).length = l.length + 1 := by simp
  obtain ⟨gs, offs, cs, rfl, hcap, _, hBg, hgs, hcell⟩ := hown.form (by rw [ln]; omega)
  have hne := own_ne hsb hown (by decide) gs rfl
  have t0 : w.cell? ⟨gs, offs + l.length, none⟩ = some (.int .i64 x) := hcell l.length _ (by simp)
  have hll : (l.length : Int) ≤ 32 := by simp at hlen; omega
  have tf : ∀ i, w.frozen? ⟨gs, i, none⟩ = false := fun i => hown.free i
  rw [ln] at hsb hown
  have z0 : w.cell? ⟨sp, 0, none⟩ = some (.int .i64 fn) := hsb.cell 0
  have z1 : w.cell? ⟨sp, 1, none⟩ = some (.int .i64 pc) := hsb.cell 1
  have z2 : w.cell? ⟨sp, 2, none⟩ = some (.int .i64 fuel) := hsb.cell 2
  have z3 : w.cell? ⟨sp, 3, none⟩ = some (.slice (some ⟨gs, offs, none⟩) (l.length + 1) cs) := hsb.cell 3
  have z4 : w.cell? ⟨sp, 4, none⟩ = some (.slice none 0 0) := hsb.cell 4
  have z5 : w.cell? ⟨sp, 5, none⟩ = some (.int .i64 kids) := hsb.cell 5
  have z6 : w.cell? ⟨sp, 6, none⟩ = some (.bool waits) := hsb.cell 6
  have zf : ∀ i, w.frozen? ⟨sp, i, none⟩ = false := fun i => hsb.frozen i
  have H := Lib.hid (And.intro (show StAt B w sp ⟨fn, pc, fuel, l ++ [x], kids, waits⟩ (.slice (some ⟨gs, offs, none⟩) (l.length + 1) cs) from ⟨hBs, hsb, by simpa using hown⟩) hlen)
  clear hBs hsb hown hblk hfs hcode hf hi hb hb7 hg f0 f1 f2
  generalize hS2 : ({ (⟨fn, pc, fuel, l ++ [x], kids, waits⟩ : SS) with stack := (l ++ [x]) ++ [n], pc := pc + 1 } : SS) = S2
  have HS2 := Lib.hid hS2
  clear hS2
  go_enter Tryd.func90, Tryd.ntmps90
  go_upto_region 1 with fail
  go_region
  have hk0 : Keep [] w ((((w.alloc (.cells #[.int .i64 0, .int .i64 0, .int .i64 0, .int .i64 0, .slice none 0 0, .int .i64 0, .int .i64 0] 138)).alloc (.cells #[.int .i64 1, .int .i64 n] 67)).alloc (.cells #[.int .i64 n] 3)).drew.drew) := (((((Keep.refl [] w).alloc _).alloc _).alloc _).drew).drew
  have hO : OwnsAt ((((w.alloc (.cells #[.int .i64 0, .int .i64 0, .int .i64 0, .int .i64 0, .slice none 0 0, .int .i64 0, .int .i64 0] 138)).alloc (.cells #[.int .i64 1, .int .i64 n] 67)).alloc (.cells #[.int .i64 n] 3)).drew.drew) B 3 1 (.slice (some ⟨gs, offs, none⟩) (l.length + 1) cs) (l.length + 1) ((l ++ [x]).map (.int .i64)) := by have := H.out.1.2.2; exact (show OwnsAt w B 3 1 (.slice (some ⟨gs, offs, none⟩) (l.length + 1) cs) (l.length + 1) ((l ++ [x]).map (.int .i64)) by simpa using this).keep hk0 (by simp)
  have hc0 : ((((w.alloc (.cells #[.int .i64 0, .int .i64 0, .int .i64 0, .int .i64 0, .slice none 0 0, .int .i64 0, .int .i64 0] 138)).alloc (.cells #[.int .i64 1, .int .i64 n] 67)).alloc (.cells #[.int .i64 n] 3)).drew.drew).cell? ⟨w.heap.size + 2, 0, none⟩ = some (.int .i64 n) := by
    have := (Blk.new ((w.alloc (.cells #[.int .i64 0, .int .i64 0, .int .i64 0, .int .i64 0, .slice none 0 0, .int .i64 0, .int .i64 0] 138)).alloc (.cells #[.int .i64 1, .int .i64 n] 67)) 3 [.int .i64 n]).drew.drew.cell 0
    simpa using this
  have hs0 : Blk ((((w.alloc (.cells #[.int .i64 0, .int .i64 0, .int .i64 0, .int .i64 0, .slice none 0 0, .int .i64 0, .int .i64 0] 138)).alloc (.cells #[.int .i64 1, .int .i64 n] 67)).alloc (.cells #[.int .i64 n] 3)).drew.drew) sp 133 [.int .i64 fn, .int .i64 pc, .int .i64 fuel, (.slice (some ⟨gs, offs, none⟩) (l.length + 1) cs), .slice none 0 0, .int .i64 kids, .bool waits] := H.out.1.2.1.keep hk0 (by simp)
  have hr0 : Blk ((((w.alloc (.cells #[.int .i64 0, .int .i64 0, .int .i64 0, .int .i64 0, .slice none 0 0, .int .i64 0, .int .i64 0] 138)).alloc (.cells #[.int .i64 1, .int .i64 n] 67)).alloc (.cells #[.int .i64 n] 3)).drew.drew) w.heap.size 138 [.int .i64 0, .int .i64 0, .int .i64 0, .int .i64 0, .slice none 0 0, .int .i64 0, .int .i64 0] := ((((Blk.new' w 138 #[.int .i64 0, .int .i64 0, .int .i64 0, .int .i64 0, .slice none 0 0, .int .i64 0, .int .i64 0] [.int .i64 0, .int .i64 0, .int .i64 0, .int .i64 0, .slice none 0 0, .int .i64 0, .int .i64 0] rfl).alloc _).alloc _).drew).drew
  have hn1 : sp ∉ ownBlocks (.slice (some ⟨gs, offs, none⟩) (l.length + 1) cs) := fun h => own_ne H.out.1.2.1 H.out.1.2.2 (by decide) sp (by simpa [ownBlocks] using h) rfl
  have hn2 : w.heap.size ∉ ownBlocks (.slice (some ⟨gs, offs, none⟩) (l.length + 1) cs) := fun h => by have := (H.out.1.2.2.lt w.heap.size (by simpa [ownBlocks] using h)).2; omega
  have HO := Lib.hid (And.intro hO (And.intro (src_int6 hc0) (And.intro hk0 (And.intro (Nat.le_trans hB hk0.size) (And.intro hs0 (And.intro hr0 (And.intro hn1 hn2)))))))
  clear hO hc0 hk0 hs0 hr0 hn1 hn2
  have hsp1 : sp < w.heap.size + 1 := by omega
  have hsp2 : sp < w.heap.size + 1 + 1 := by omega
  have hsp3 : sp < w.heap.size + 2 := by omega
  go_wp2_with fail
  go_region_law (refine step_append_off rfl (.tmp 60) (.tmp 63) rfl Tryd.sts24L B (.slice (some ⟨gs, offs, none⟩) (l.length + 1) cs) (l.length + 1) ((l ++ [x]).map (.int .i64)) (by simp [Act.eval]) HO.out.1 (.slice (some ⟨w.heap.size + 2, 0, none⟩) 1 1) 1 [.int .i64 n] (by simp [Act.eval]) HO.out.2.1 (by simp [Value.oneCell']) (by unfold maxLen; omega) (by omega) HO.out.2.2.2.1 ?_; intro v' w4 hown4 hk4 hat4; obtain ⟨a5, c5, rfl⟩ := hown4.shape; have hs4 := HO.out.2.2.2.2.1.keep hk4 HO.out.2.2.2.2.2.2.1; have hr4 := HO.out.2.2.2.2.2.1.keep hk4 HO.out.2.2.2.2.2.2.2; have y0 : w4.cell? ⟨sp, 0, none⟩ = some (.int .i64 fn) := hs4.cell 0; have y1 : w4.cell? ⟨sp, 1, none⟩ = some (.int .i64 pc) := hs4.cell 1; have y2 : w4.cell? ⟨sp, 2, none⟩ = some (.int .i64 fuel) := hs4.cell 2; have y3 : w4.cell? ⟨sp, 3, none⟩ = some (.slice (some ⟨gs, offs, none⟩) (l.length + 1) cs) := hs4.cell 3; have y4 : w4.cell? ⟨sp, 4, none⟩ = some (.slice none 0 0) := hs4.cell 4; have y5 : w4.cell? ⟨sp, 5, none⟩ = some (.int .i64 kids) := hs4.cell 5; have y6 : w4.cell? ⟨sp, 6, none⟩ = some (.bool waits) := hs4.cell 6; have yf : ∀ i, w4.frozen? ⟨sp, i, none⟩ = false := fun i => hs4.frozen i; have r0 : w4.cell? ⟨w.heap.size, 0, none⟩ = some (.int .i64 0) := hr4.cell 0; have r1 : w4.cell? ⟨w.heap.size, 1, none⟩ = some (.int .i64 0) := hr4.cell 1; have r2 : w4.cell? ⟨w.heap.size, 2, none⟩ = some (.int .i64 0) := hr4.cell 2; have r3 : w4.cell? ⟨w.heap.size, 3, none⟩ = some (.int .i64 0) := hr4.cell 3; have r4 : w4.cell? ⟨w.heap.size, 4, none⟩ = some (.slice none 0 0) := hr4.cell 4; have r5 : w4.cell? ⟨w.heap.size, 5, none⟩ = some (.int .i64 0) := hr4.cell 5; have r6 : w4.cell? ⟨w.heap.size, 6, none⟩ = some (.int .i64 0) := hr4.cell 6; have rf : ∀ i, w4.frozen? ⟨w.heap.size, i, none⟩ = false := fun i => hr4.frozen i; have G := Lib.hid (And.intro hown4 (And.intro hk4 (And.intro hs4 hr4))); clear hown4 hk4 hat4 hs4 hr4)
  all_goals
    go_wp2_with fail
    have e2 := HS2.out
    subst e2
    obtain ⟨ho4, hk4, hs4, hr4⟩ := G.out
    obtain ⟨_, _, hk0, hz0, hs0, hr0, hn1, hn2⟩ := HO.out
    have hS := (hs4.set_ 3 (.slice a5 ((l.length + 1) + 1) c5)).set_ 1 (.int .i64 (pc + 1 : Nat))
    have hne1 : w.heap.size ≠ sp := by omega
    have D := set7 ((hr4.far (p := ⟨sp, 3, none⟩) hne1 (.slice a5 ((l.length + 1) + 1) c5)).far (p := ⟨sp, 1, none⟩) hne1 (.int .i64 (pc + 1 : Nat))) (.int .i64 0) (.int .i64 0) (.int .i64 0) (.int .i64 0) (.slice none 0 0) (.int .i64 0) (.int .i64 0)
    have hK7 := keep7 (w := (w4.setCell ⟨sp, 3, none⟩ (.slice a5 ((l.length + 1) + 1) c5)).setCell ⟨sp, 1, none⟩ (.int .i64 (pc + 1 : Nat))) (g := w.heap.size) (.int .i64 0) (.int .i64 0) (.int .i64 0) (.int .i64 0) (.slice none 0 0) (.int .i64 0) (.int .i64 0)
    have hKF := (((Keep.refl [sp] w4).setCell (p := ⟨sp, 3, none⟩) (by simp) (.slice a5 ((l.length + 1) + 1) c5)).setCell (p := ⟨sp, 1, none⟩) (by simp) (.int .i64 (pc + 1 : Nat)))
    have hKG := (hKF.mono (T := [sp, w.heap.size]) (by simp)).trans hK7 (by simp)
    have q1 := own_ne hs4 ho4 (by decide)
    have q2 := own_ne hr4 ho4 (by decide)
    have b2 := Bel.keep (Bel.keep (Bel.refl B sp w) hk0 hB (by simp)) hk4 hz0 (fun x hx => Or.inl (H.out.1.2.2.lt x (by simpa [ownBlocks] using hx)).1)
    have b3 := Bel.keep b2 hKG (Nat.le_trans hz0 hk4.size) (fun x hx => by rcases List.mem_cons.1 hx with rfl | hx; exact Or.inr rfl; simp at hx; subst hx; exact Or.inl hB)
    have hso := hS.keep hK7 (fun hx => hne1 (List.mem_singleton.1 hx).symm)
    have hoo := ho4.keep hKG (fun g hg hx => by rcases List.mem_cons.1 hx with rfl | hx; exact q1 _ hg rfl; simp at hx; exact q2 _ hg hx)
    have d0 := D.cell 0; have d1 := D.cell 1; have d2 := D.cell 2; have d3 := D.cell 3; have d4 := D.cell 4; have d5 := D.cell 5; have d6 := D.cell 6
    push_cast at D hso b3 hoo d0 d1 d2 d3 d4 d5 d6
    refine bodyPost_ret (v := .tuple #[.agg #[.int .i64 0, .int .i64 0, .int .i64 0, .int .i64 0, .slice none 0 0, .int .i64 0, .int .i64 0], .bool false]) (by simp [results, Tryd.results90, go_sem, d0, d1, d2, d3, d4, d5, d6]) rfl ⟨_, .slice a5 ((l.length + 1) + 1) c5, rfl, rfl, ⟨H.out.1.1, ?_, ?_⟩, b3⟩
    · simpa using hso
    · simpa using hoo
set_option maxHeartbeats 6400000 in
set_option maxRecDepth 100000 in
theorem step_push0 (w : World) (B B0 kg sp deep : Nat) (J : JB) (S : SS) (sv : Value) {n : Int} (hK : KnownAt B0 w kg J) (hB0 : B0 ≤ w.heap.size) (hS : StAt B w sp S sv) (hB : B ≤ w.heap.size) (hc : S.pc ≤ 1000) (hat : J.at_ S ⟨1, n⟩) (hl : S.stack = []) (hlen : S.stack.length ≤ 32) :
    Calls Tryd.prog 90 #[.pointer (some ⟨kg, 0, none⟩), .pointer (some ⟨sp, 0, none⟩), .int .i64 deep] w (StepPost B sp { S with stack := S.stack ++ [n], pc := S.pc + 1 } none w) := by
  obtain ⟨fv, dv, hg, hblk, hfs, _⟩ := hK
  obtain ⟨hBs, hsb, hown⟩ := hS
  obtain ⟨f, hf, hi⟩ := hat
  obtain ⟨fn, pc, fuel, stack, kids, waits⟩ := S
  simp only at hsb hown hi hf hc hlen hl ⊢
  subst hl
  obtain ⟨af, cf, rfl⟩ := hfs.shape
  obtain ⟨b, off, cv, rfl, hb, f0, f1, f2, f3, hcode⟩ := hfs.fn hf
  obtain ⟨a3, c3, rfl⟩ := hcode.shape
  obtain ⟨b7, off7, rfl, hb7, g0, g1⟩ := hcode.at_ hi
  simp only at g0 g1
  have k0 : w.cell? ⟨kg, 0, none⟩ = some (.slice (some ⟨b, off, none⟩) J.fs.length cf) := hblk.cell 0
  have l1 : fn < J.fs.length := (List.getElem?_eq_some_iff.1 hf).1
  have l2 : pc < f.code.length := (List.getElem?_eq_some_iff.1 hi).1
  have i1 : (fn : Int) < (J.fs.length : Int) := by omega
  have i2 : (pc : Int) < (f.code.length : Int) := by omega
  have n1 : (0 : Int) ≤ (fn : Int) := by omega
  have n2 : (0 : Int) ≤ (pc : Int) := by omega
  have i3 : (pc : Int) ≤ 1000000 := by omega
  have hbw : b < w.heap.size := by omega
  have hb7w : b7 < w.heap.size := by omega
  have hgw : kg < w.heap.size := by omega
  have hspw : sp < w.heap.size := hsb.lt
  obtain ⟨gs, cs, rfl⟩ : ∃ gs cs, sv = .slice gs 0 cs := hown.shape
  have z0 : w.cell? ⟨sp, 0, none⟩ = some (.int .i64 fn) := hsb.cell 0
  have z1 : w.cell? ⟨sp, 1, none⟩ = some (.int .i64 pc) := hsb.cell 1
  have z2 : w.cell? ⟨sp, 2, none⟩ = some (.int .i64 fuel) := hsb.cell 2
  have z3 : w.cell? ⟨sp, 3, none⟩ = some (.slice gs 0 cs) := hsb.cell 3
  have z4 : w.cell? ⟨sp, 4, none⟩ = some (.slice none 0 0) := hsb.cell 4
  have z5 : w.cell? ⟨sp, 5, none⟩ = some (.int .i64 kids) := hsb.cell 5
  have z6 : w.cell? ⟨sp, 6, none⟩ = some (.bool waits) := hsb.cell 6
  have zf : ∀ i, w.frozen? ⟨sp, i, none⟩ = false := fun i => hsb.frozen i
  have H := Lib.hid (And.intro (show StAt B w sp ⟨fn, pc, fuel, [], kids, waits⟩ (.slice gs 0 cs) from ⟨hBs, hsb, by simpa using hown⟩) hlen)
  clear hBs hsb hown hblk hfs hcode hf hi hb hb7 hg f0 f1 f2
  generalize hS2 : ({ (⟨fn, pc, fuel, [], kids, waits⟩ : SS) with stack := ([]) ++ [n], pc := pc + 1 } : SS) = S2
  have HS2 := Lib.hid hS2
  clear hS2
  go_enter Tryd.func90, Tryd.ntmps90
  go_upto_region 1 with fail
  go_region
  have hk0 : Keep [] w ((((w.alloc (.cells #[.int .i64 0, .int .i64 0, .int .i64 0, .int .i64 0, .slice none 0 0, .int .i64 0, .int .i64 0] 138)).alloc (.cells #[.int .i64 1, .int .i64 n] 67)).alloc (.cells #[.int .i64 n] 3)).drew.drew) := (((((Keep.refl [] w).alloc _).alloc _).alloc _).drew).drew
  have hO : OwnsAt ((((w.alloc (.cells #[.int .i64 0, .int .i64 0, .int .i64 0, .int .i64 0, .slice none 0 0, .int .i64 0, .int .i64 0] 138)).alloc (.cells #[.int .i64 1, .int .i64 n] 67)).alloc (.cells #[.int .i64 n] 3)).drew.drew) B 3 1 (.slice gs 0 cs) 0 ([].map (.int .i64)) := by have := H.out.1.2.2; exact (show OwnsAt w B 3 1 (.slice gs 0 cs) 0 ([].map (.int .i64)) by simpa using this).keep hk0 (by simp)
  have hc0 : ((((w.alloc (.cells #[.int .i64 0, .int .i64 0, .int .i64 0, .int .i64 0, .slice none 0 0, .int .i64 0, .int .i64 0] 138)).alloc (.cells #[.int .i64 1, .int .i64 n] 67)).alloc (.cells #[.int .i64 n] 3)).drew.drew).cell? ⟨w.heap.size + 2, 0, none⟩ = some (.int .i64 n) := by
    have := (Blk.new ((w.alloc (.cells #[.int .i64 0, .int .i64 0, .int .i64 0, .int .i64 0, .slice none 0 0, .int .i64 0, .int .i64 0] 138)).alloc (.cells #[.int .i64 1, .int .i64 n] 67)) 3 [.int .i64 n]).drew.drew.cell 0
    simpa using this
  have hs0 : Blk ((((w.alloc (.cells #[.int .i64 0, .int .i64 0, .int .i64 0, .int .i64 0, .slice none 0 0, .int .i64 0, .int .i64 0] 138)).alloc (.cells #[.int .i64 1, .int .i64 n] 67)).alloc (.cells #[.int .i64 n] 3)).drew.drew) sp 133 [.int .i64 fn, .int .i64 pc, .int .i64 fuel, (.slice gs 0 cs), .slice none 0 0, .int .i64 kids, .bool waits] := H.out.1.2.1.keep hk0 (by simp)
  have hr0 : Blk ((((w.alloc (.cells #[.int .i64 0, .int .i64 0, .int .i64 0, .int .i64 0, .slice none 0 0, .int .i64 0, .int .i64 0] 138)).alloc (.cells #[.int .i64 1, .int .i64 n] 67)).alloc (.cells #[.int .i64 n] 3)).drew.drew) w.heap.size 138 [.int .i64 0, .int .i64 0, .int .i64 0, .int .i64 0, .slice none 0 0, .int .i64 0, .int .i64 0] := ((((Blk.new' w 138 #[.int .i64 0, .int .i64 0, .int .i64 0, .int .i64 0, .slice none 0 0, .int .i64 0, .int .i64 0] [.int .i64 0, .int .i64 0, .int .i64 0, .int .i64 0, .slice none 0 0, .int .i64 0, .int .i64 0] rfl).alloc _).alloc _).drew).drew
  have hn1 : sp ∉ ownBlocks (.slice gs 0 cs) := fun h => own_ne H.out.1.2.1 H.out.1.2.2 (by decide) sp (by simpa [ownBlocks] using h) rfl
  have hn2 : w.heap.size ∉ ownBlocks (.slice gs 0 cs) := fun h => by have := (H.out.1.2.2.lt w.heap.size (by simpa [ownBlocks] using h)).2; omega
  have HO := Lib.hid (And.intro hO (And.intro (src_int6 hc0) (And.intro hk0 (And.intro (Nat.le_trans hB hk0.size) (And.intro hs0 (And.intro hr0 (And.intro hn1 hn2)))))))
  clear hO hc0 hk0 hs0 hr0 hn1 hn2
  have hsp1 : sp < w.heap.size + 1 := by omega
  have hsp2 : sp < w.heap.size + 1 + 1 := by omega
  have hsp3 : sp < w.heap.size + 2 := by omega
  go_wp2_with fail
  go_region_law (refine step_append_off rfl (.tmp 60) (.tmp 63) rfl Tryd.sts24L B (.slice gs 0 cs) 0 ([].map (.int .i64)) (by simp [Act.eval]) HO.out.1 (.slice (some ⟨w.heap.size + 2, 0, none⟩) 1 1) 1 [.int .i64 n] (by simp [Act.eval]) HO.out.2.1 (by simp [Value.oneCell']) (by unfold maxLen; omega) (by omega) HO.out.2.2.2.1 ?_; intro v' w4 hown4 hk4 hat4; obtain ⟨a5, c5, rfl⟩ := hown4.shape; have hs4 := HO.out.2.2.2.2.1.keep hk4 HO.out.2.2.2.2.2.2.1; have hr4 := HO.out.2.2.2.2.2.1.keep hk4 HO.out.2.2.2.2.2.2.2; have y0 : w4.cell? ⟨sp, 0, none⟩ = some (.int .i64 fn) := hs4.cell 0; have y1 : w4.cell? ⟨sp, 1, none⟩ = some (.int .i64 pc) := hs4.cell 1; have y2 : w4.cell? ⟨sp, 2, none⟩ = some (.int .i64 fuel) := hs4.cell 2; have y3 : w4.cell? ⟨sp, 3, none⟩ = some (.slice gs 0 cs) := hs4.cell 3; have y4 : w4.cell? ⟨sp, 4, none⟩ = some (.slice none 0 0) := hs4.cell 4; have y5 : w4.cell? ⟨sp, 5, none⟩ = some (.int .i64 kids) := hs4.cell 5; have y6 : w4.cell? ⟨sp, 6, none⟩ = some (.bool waits) := hs4.cell 6; have yf : ∀ i, w4.frozen? ⟨sp, i, none⟩ = false := fun i => hs4.frozen i; have r0 : w4.cell? ⟨w.heap.size, 0, none⟩ = some (.int .i64 0) := hr4.cell 0; have r1 : w4.cell? ⟨w.heap.size, 1, none⟩ = some (.int .i64 0) := hr4.cell 1; have r2 : w4.cell? ⟨w.heap.size, 2, none⟩ = some (.int .i64 0) := hr4.cell 2; have r3 : w4.cell? ⟨w.heap.size, 3, none⟩ = some (.int .i64 0) := hr4.cell 3; have r4 : w4.cell? ⟨w.heap.size, 4, none⟩ = some (.slice none 0 0) := hr4.cell 4; have r5 : w4.cell? ⟨w.heap.size, 5, none⟩ = some (.int .i64 0) := hr4.cell 5; have r6 : w4.cell? ⟨w.heap.size, 6, none⟩ = some (.int .i64 0) := hr4.cell 6; have rf : ∀ i, w4.frozen? ⟨w.heap.size, i, none⟩ = false := fun i => hr4.frozen i; have G := Lib.hid (And.intro hown4 (And.intro hk4 (And.intro hs4 hr4))); clear hown4 hk4 hat4 hs4 hr4)
  all_goals
    go_wp2_with fail
    have e2 := HS2.out
    subst e2
    obtain ⟨ho4, hk4, hs4, hr4⟩ := G.out
    obtain ⟨_, _, hk0, hz0, hs0, hr0, hn1, hn2⟩ := HO.out
    have hS := (hs4.set_ 3 (.slice a5 (0 + 1) c5)).set_ 1 (.int .i64 (pc + 1 : Nat))
    have hne1 : w.heap.size ≠ sp := by omega
    have D := set7 ((hr4.far (p := ⟨sp, 3, none⟩) hne1 (.slice a5 (0 + 1) c5)).far (p := ⟨sp, 1, none⟩) hne1 (.int .i64 (pc + 1 : Nat))) (.int .i64 0) (.int .i64 0) (.int .i64 0) (.int .i64 0) (.slice none 0 0) (.int .i64 0) (.int .i64 0)
    have hK7 := keep7 (w := (w4.setCell ⟨sp, 3, none⟩ (.slice a5 (0 + 1) c5)).setCell ⟨sp, 1, none⟩ (.int .i64 (pc + 1 : Nat))) (g := w.heap.size) (.int .i64 0) (.int .i64 0) (.int .i64 0) (.int .i64 0) (.slice none 0 0) (.int .i64 0) (.int .i64 0)
    have hKF := (((Keep.refl [sp] w4).setCell (p := ⟨sp, 3, none⟩) (by simp) (.slice a5 (0 + 1) c5)).setCell (p := ⟨sp, 1, none⟩) (by simp) (.int .i64 (pc + 1 : Nat)))
    have hKG := (hKF.mono (T := [sp, w.heap.size]) (by simp)).trans hK7 (by simp)
    have q1 := own_ne hs4 ho4 (by decide)
    have q2 := own_ne hr4 ho4 (by decide)
    have b2 := Bel.keep (Bel.keep (Bel.refl B sp w) hk0 hB (by simp)) hk4 hz0 (fun x hx => Or.inl (H.out.1.2.2.lt x (by simpa [ownBlocks] using hx)).1)
    have b3 := Bel.keep b2 hKG (Nat.le_trans hz0 hk4.size) (fun x hx => by rcases List.mem_cons.1 hx with rfl | hx; exact Or.inr rfl; simp at hx; subst hx; exact Or.inl hB)
    have hso := hS.keep hK7 (fun hx => hne1 (List.mem_singleton.1 hx).symm)
    have hoo := ho4.keep hKG (fun g hg hx => by rcases List.mem_cons.1 hx with rfl | hx; exact q1 _ hg rfl; simp at hx; exact q2 _ hg hx)
    have d0 := D.cell 0; have d1 := D.cell 1; have d2 := D.cell 2; have d3 := D.cell 3; have d4 := D.cell 4; have d5 := D.cell 5; have d6 := D.cell 6
    push_cast at D hso b3 hoo d0 d1 d2 d3 d4 d5 d6
    refine bodyPost_ret (v := .tuple #[.agg #[.int .i64 0, .int .i64 0, .int .i64 0, .int .i64 0, .slice none 0 0, .int .i64 0, .int .i64 0], .bool false]) (by simp [results, Tryd.results90, go_sem, d0, d1, d2, d3, d4, d5, d6]) rfl ⟨_, .slice a5 (0 + 1) c5, rfl, rfl, ⟨H.out.1.1, ?_, ?_⟩, b3⟩
    · simpa using hso
    · simpa using hoo
end Go.Proofs.YtndpbkhpllmhmaaDoor
namespace Go.Proofs.YtndpbkhpllmhmaaDoor
set_option linter.unusedSimpArgs false
set_option linter.unnecessarySimpa false
set_option linter.unusedVariables false
open Go.RowKit
theorem fin7 {B sp r : Nat} {w w3 : World} {S : SS} {sv a b c d e f h : Value} (hS : StAt B w3 sp S sv) (hr : Blk w3 r 138 [a, b, c, d, e, f, h]) (hb : Bel B sp w w3) (hBr : B ≤ r) (hB : B ≤ w3.heap.size) (x0 x1 x2 x3 x4 x5 x6 : Value) :
    StAt B (((((((w3.setCell ⟨r, 0, none⟩ x0).setCell ⟨r, 1, none⟩ x1).setCell ⟨r, 2, none⟩ x2).setCell ⟨r, 3, none⟩ x3).setCell ⟨r, 4, none⟩ x4).setCell ⟨r, 5, none⟩ x5).setCell ⟨r, 6, none⟩ x6) sp S sv ∧
    Bel B sp w (((((((w3.setCell ⟨r, 0, none⟩ x0).setCell ⟨r, 1, none⟩ x1).setCell ⟨r, 2, none⟩ x2).setCell ⟨r, 3, none⟩ x3).setCell ⟨r, 4, none⟩ x4).setCell ⟨r, 5, none⟩ x5).setCell ⟨r, 6, none⟩ x6) ∧
    Blk (((((((w3.setCell ⟨r, 0, none⟩ x0).setCell ⟨r, 1, none⟩ x1).setCell ⟨r, 2, none⟩ x2).setCell ⟨r, 3, none⟩ x3).setCell ⟨r, 4, none⟩ x4).setCell ⟨r, 5, none⟩ x5).setCell ⟨r, 6, none⟩ x6) r 138 [x0, x1, x2, x3, x4, x5, x6] := by
  have hK := keep7 (w := w3) (g := r) x0 x1 x2 x3 x4 x5 x6
  obtain ⟨h1, h2, h3⟩ := hS
  have q := own_ne hr h3 (by decide)
  refine ⟨⟨h1, h2.keep hK (fun hx => ?_), h3.keep hK (fun g hg hx => q g hg (List.mem_singleton.1 hx))⟩, Bel.keep hb hK hB (fun x hx => by rw [List.mem_singleton.1 hx]; exact Or.inl hBr), set7 hr x0 x1 x2 x3 x4 x5 x6⟩
  obtain rfl := List.mem_singleton.1 hx
  unfold Blk at h2 hr
  rw [h2] at hr
  injection hr with hr
  injection hr with _ ht
  exact absurd ht (by decide)
/-- one cell of the state turned -/
theorem StAt.set_ {B sp : Nat} {w : World} {S S' : SS} {sv sv' : Value} {i : Nat} {u : Value} (h : StAt B w sp S sv) (h1 : ([.int .i64 S.fn, .int .i64 S.pc, .int .i64 S.fuel, sv, .slice none 0 0, .int .i64 S.kids, .bool S.waits] : List Value).set i u = [.int .i64 S'.fn, .int .i64 S'.pc, .int .i64 S'.fuel, sv', .slice none 0 0, .int .i64 S'.kids, .bool S'.waits]) (h2 : OwnsAt w B 3 1 sv' S'.stack.length (S'.stack.map (.int .i64))) : StAt B (w.setCell ⟨sp, i, none⟩ u) sp S' sv' := by
  obtain ⟨a, b, _⟩ := h
  have q := own_ne b h2 (by decide)
  refine ⟨a, ?_, h2.keep ((Keep.refl [sp] w).setCell (by simp) u) (fun g hg hx => q g hg (List.mem_singleton.1 hx))⟩
  rw [← h1]
  exact b.set_ i u
theorem bel_set {B sp : Nat} {w w3 : World} (h : Bel B sp w w3) {p : Addr} (hp : p.block = sp ∨ B ≤ p.block) (u : Value) : Bel B sp w (w3.setCell p u) :=
  h.trans ⟨rfl, rfl, rfl, by simp [World.setCell], fun k hk hn => Below.heap_setCell _ _ _ _ (by omega)⟩
set_option maxHeartbeats 6400000 in
set_option maxRecDepth 100000 in
theorem step_await (w : World) (B B0 kg sp deep : Nat) (J : JB) (S : SS) (sv : Value) {l : List Int} {n : Int} {k : Nat} (hK : KnownAt B0 w kg J) (hB0 : B0 ≤ w.heap.size) (hS : StAt B w sp S sv) (hB : B ≤ w.heap.size) (hc : S.pc ≤ 1000) (hat : J.at_ S ⟨17, n⟩) (hl : S.stack = l ++ [(k : Int)]) (hlen : S.stack.length ≤ 32) (hkk : k < S.kids) :
    Calls Tryd.prog 90 #[.pointer (some ⟨kg, 0, none⟩), .pointer (some ⟨sp, 0, none⟩), .int .i64 deep] w (StepPost B sp { S with waits := true } (some (.waiting k)) w) := by
  obtain ⟨fv, dv, hg, hblk, hfs, _⟩ := hK
  obtain ⟨hBs, hsb, hown⟩ := hS
  obtain ⟨f, hf, hi⟩ := hat
  obtain ⟨fn, pc, fuel, stack, kids, waits⟩ := S
  simp only at hsb hown hi hf hc hlen hl hkk ⊢
  subst hl
  obtain ⟨af, cf, rfl⟩ := hfs.shape
  obtain ⟨b, off, cv, rfl, hb, f0, f1, f2, f3, hcode⟩ := hfs.fn hf
  obtain ⟨a3, c3, rfl⟩ := hcode.shape
  obtain ⟨b7, off7, rfl, hb7, g0, g1⟩ := hcode.at_ hi
  simp only at g0 g1
  have k0 : w.cell? ⟨kg, 0, none⟩ = some (.slice (some ⟨b, off, none⟩) J.fs.length cf) := hblk.cell 0
  have l1 : fn < J.fs.length := (List.getElem?_eq_some_iff.1 hf).1
  have l2 : pc < f.code.length := (List.getElem?_eq_some_iff.1 hi).1
  have i1 : (fn : Int) < (J.fs.length : Int) := by omega
  have i2 : (pc : Int) < (f.code.length : Int) := by omega
  have n1 : (0 : Int) ≤ (fn : Int) := by omega
  have n2 : (0 : Int) ≤ (pc : Int) := by omega
  have i3 : (pc : Int) ≤ 1000000 := by omega
  have hbw : b < w.heap.size := by omega
  have hb7w : b7 < w.heap.size := by omega
  have hgw : kg < w.heap.size := by omega
  have hspw : sp < w.heap.size := hsb.lt
  have ln : (l ++ [(k : Int)]).length = l.length + 1 := by simp
  obtain ⟨gs, offs, cs, rfl, hcap, _, hBg, hgs, hcell⟩ := hown.form (by rw [ln]; omega)
  have hne := own_ne hsb hown (by decide) gs rfl
  have t0 : w.cell? ⟨gs, offs + l.length, none⟩ = some (.int .i64 (k : Int)) := hcell l.length _ (by simp)
  have hll : (l.length : Int) ≤ 32 := by simp at hlen; omega
  have tf : ∀ i, w.frozen? ⟨gs, i, none⟩ = false := fun i => hown.free i
  rw [ln] at hsb hown
  have z0 : w.cell? ⟨sp, 0, none⟩ = some (.int .i64 fn) := hsb.cell 0
  have z1 : w.cell? ⟨sp, 1, none⟩ = some (.int .i64 pc) := hsb.cell 1
  have z2 : w.cell? ⟨sp, 2, none⟩ = some (.int .i64 fuel) := hsb.cell 2
  have z3 : w.cell? ⟨sp, 3, none⟩ = some (.slice (some ⟨gs, offs, none⟩) (l.length + 1) cs) := hsb.cell 3
  have z4 : w.cell? ⟨sp, 4, none⟩ = some (.slice none 0 0) := hsb.cell 4
  have z5 : w.cell? ⟨sp, 5, none⟩ = some (.int .i64 kids) := hsb.cell 5
  have z6 : w.cell? ⟨sp, 6, none⟩ = some (.bool waits) := hsb.cell 6
  have zf : ∀ i, w.frozen? ⟨sp, i, none⟩ = false := fun i => hsb.frozen i
  have H := Lib.hid (And.intro (show StAt B w sp ⟨fn, pc, fuel, l ++ [(k : Int)], kids, waits⟩ (.slice (some ⟨gs, offs, none⟩) (l.length + 1) cs) from ⟨hBs, hsb, by simpa using hown⟩) hlen)
  clear hBs hsb hown hblk hfs hcode hf hi hb hb7 hg f0 f1 f2
  generalize hS2 : ({ (⟨fn, pc, fuel, l ++ [(k : Int)], kids, waits⟩ : SS) with waits := true } : SS) = S2
  have HS2 := Lib.hid hS2
  clear hS2
  go_enter Tryd.func90, Tryd.ntmps90
  go_upto_region 1 with fail
  go_region
  have hk0 : Keep [] w (((w.alloc (.cells #[.int .i64 0, .int .i64 0, .int .i64 0, .int .i64 0, .slice none 0 0, .int .i64 0, .int .i64 0] 138)).alloc (.cells #[.int .i64 17, .int .i64 n] 67)).drew) := ((((Keep.refl [] w).alloc _).alloc _)).drew
  have HO := Lib.hid (And.intro (H.out.1.keep hk0 (by simp)) (And.intro ((((Blk.new' w 138 #[.int .i64 0, .int .i64 0, .int .i64 0, .int .i64 0, .slice none 0 0, .int .i64 0, .int .i64 0] [.int .i64 0, .int .i64 0, .int .i64 0, .int .i64 0, .slice none 0 0, .int .i64 0, .int .i64 0] rfl).alloc (.cells #[.int .i64 17, .int .i64 n] 67)).drew)) (And.intro (Bel.keep (Bel.refl B sp w) hk0 hB (by simp)) (Nat.le_trans hB hk0.size))))
  clear hk0
  go_upto_region 42 with fail
  generalize ((w.alloc (.cells #[.int .i64 0, .int .i64 0, .int .i64 0, .int .i64 0, .slice none 0 0, .int .i64 0, .int .i64 0] 138)).alloc (.cells #[.int .i64 17, .int .i64 n] 67)).drew = w3 at *
  obtain ⟨hS3, hr3, hb3, hB3⟩ := HO.out
  have hs3 := hS3.2.1
  have y0 : w3.cell? ⟨sp, 0, none⟩ = some (.int .i64 fn) := hs3.cell 0
  have y1 : w3.cell? ⟨sp, 1, none⟩ = some (.int .i64 pc) := hs3.cell 1
  have y2 : w3.cell? ⟨sp, 2, none⟩ = some (.int .i64 fuel) := hs3.cell 2
  have y3 : w3.cell? ⟨sp, 3, none⟩ = some (.slice (some ⟨gs, offs, none⟩) (l.length + 1) cs) := hs3.cell 3
  have y4 : w3.cell? ⟨sp, 4, none⟩ = some (.slice none 0 0) := hs3.cell 4
  have y5 : w3.cell? ⟨sp, 5, none⟩ = some (.int .i64 kids) := hs3.cell 5
  have y6 : w3.cell? ⟨sp, 6, none⟩ = some (.bool waits) := hs3.cell 6
  have yf : ∀ i, w3.frozen? ⟨sp, i, none⟩ = false := fun i => hs3.frozen i
  have r0 : w3.cell? ⟨w.heap.size, 0, none⟩ = some (.int .i64 0) := hr3.cell 0
  have r1 : w3.cell? ⟨w.heap.size, 1, none⟩ = some (.int .i64 0) := hr3.cell 1
  have r2 : w3.cell? ⟨w.heap.size, 2, none⟩ = some (.int .i64 0) := hr3.cell 2
  have r3 : w3.cell? ⟨w.heap.size, 3, none⟩ = some (.int .i64 0) := hr3.cell 3
  have r4 : w3.cell? ⟨w.heap.size, 4, none⟩ = some (.slice none 0 0) := hr3.cell 4
  have r5 : w3.cell? ⟨w.heap.size, 5, none⟩ = some (.int .i64 0) := hr3.cell 5
  have r6 : w3.cell? ⟨w.heap.size, 6, none⟩ = some (.int .i64 0) := hr3.cell 6
  have rf : ∀ i, w3.frozen? ⟨w.heap.size, i, none⟩ = false := fun i => hr3.frozen i
  clear hs3 hS3 hr3 hb3 hB3
  have hkI : (k : Int) < (kids : Int) := by omega
  have hkN : (0 : Int) ≤ (k : Int) := by omega
  go_wp2_with fail
  have e2 := HS2.out
  subst e2
  obtain ⟨hS3, hr3, hb3, hB3⟩ := HO.out
  have hne1 : w.heap.size ≠ sp := by omega
  obtain ⟨F1, F2, D⟩ := fin7 (hS3.set_ (S' := ⟨fn, pc, fuel, l ++ [(k : Int)], kids, true⟩) (i := 6) (u := .bool true) rfl hS3.2.2) (hr3.far (p := ⟨sp, 6, none⟩) hne1 _) (bel_set hb3 (Or.inl rfl) _) hB (by simpa [World.setCell] using hB3) (.int .i64 2) (.int .i64 0) (.int .i64 k) (.int .i64 0) (.slice none 0 0) (.int .i64 0) (.int .i64 0)
  have d0 := D.cell 0
  have d1 := D.cell 1
  have d2 := D.cell 2
  have d3 := D.cell 3
  have d4 := D.cell 4
  have d5 := D.cell 5
  have d6 := D.cell 6
  exact bodyPost_ret (v := .tuple #[.agg #[.int .i64 2, .int .i64 0, .int .i64 k, .int .i64 0, .slice none 0 0, .int .i64 0, .int .i64 0], .bool true]) (by simp [results, Tryd.results90, go_sem, d0, d1, d2, d3, d4, d5, d6]) rfl ⟨_, _, rfl, ⟨0, 0, 0, 0, rfl⟩, F1, F2⟩
end Go.Proofs.YtndpbkhpllmhmaaDoor
namespace Go.Proofs.YtndpbkhpllmhmaaDoor
set_option linter.unusedSimpArgs false
set_option linter.unnecessarySimpa false
set_option linter.unusedVariables false
open Go.RowKit
set_option maxHeartbeats 6400000 in
set_option maxRecDepth 100000 in
theorem step_swap (w : World) (B B0 kg sp deep : Nat) (J : JB) (S : SS) (sv : Value) {l : List Int} {x y : Int} {n : Int} (hK : KnownAt B0 w kg J) (hB0 : B0 ≤ w.heap.size) (hS : StAt B w sp S sv) (hB : B ≤ w.heap.size) (hc : S.pc ≤ 1000) (hat : J.at_ S ⟨4, n⟩) (hl : S.stack = l ++ [x, y]) (hlen : S.stack.length ≤ 32) :
    Calls Tryd.prog 90 #[.pointer (some ⟨kg, 0, none⟩), .pointer (some ⟨sp, 0, none⟩), .int .i64 deep] w (StepPost B sp { S with stack := l ++ [y, x], pc := S.pc + 1 } none w) := by
  obtain ⟨fv, dv, hg, hblk, hfs, _⟩ := hK
  obtain ⟨hBs, hsb, hown⟩ := hS
  obtain ⟨f, hf, hi⟩ := hat
  obtain ⟨fn, pc, fuel, stack, kids, waits⟩ := S
  simp only at hsb hown hi hf hc hlen hl ⊢
  subst hl
  obtain ⟨af, cf, rfl⟩ := hfs.shape
  obtain ⟨b, off, cv, rfl, hb, f0, f1, f2, f3, hcode⟩ := hfs.fn hf
  obtain ⟨a3, c3, rfl⟩ := hcode.shape
  obtain ⟨b7, off7, rfl, hb7, g0, g1⟩ := hcode.at_ hi
  simp only at g0 g1
  have k0 : w.cell? ⟨kg, 0, none⟩ = some (.slice (some ⟨b, off, none⟩) J.fs.length cf) := hblk.cell 0
  have l1 : fn < J.fs.length := (List.getElem?_eq_some_iff.1 hf).1
  have l2 : pc < f.code.length := (List.getElem?_eq_some_iff.1 hi).1
  have i1 : (fn : Int) < (J.fs.length : Int) := by omega
  have i2 : (pc : Int) < (f.code.length : Int) := by omega
  have n1 : (0 : Int) ≤ (fn : Int) := by omega
  have n2 : (0 : Int) ≤ (pc : Int) := by omega
  have i3 : (pc : Int) ≤ 1000000 := by omega
  have hbw : b < w.heap.size := by omega
  have hb7w : b7 < w.heap.size := by omega
  have hgw : kg < w.heap.size := by omega
  have hspw : sp < w.heap.size := hsb.lt
  have ln : (l ++ [x, y]).length = l.length + 2 := by simp
  obtain ⟨gs, offs, cs, rfl, hcap, _, hBg, hgs, hcell⟩ := hown.form (by rw [ln]; omega)
  have hne := own_ne hsb hown (by decide) gs rfl
  have t0 : w.cell? ⟨gs, offs + (l.length + 1), none⟩ = some (.int .i64 y) := hcell (l.length + 1) _ (by simp)
  have t1 : w.cell? ⟨gs, offs + l.length, none⟩ = some (.int .i64 x) := hcell l.length _ (by simp)
  have hll : (l.length : Int) ≤ 32 := by simp at hlen; omega
  have tf : ∀ i, w.frozen? ⟨gs, i, none⟩ = false := fun i => hown.free i
  rw [ln] at hsb hown
  have z0 : w.cell? ⟨sp, 0, none⟩ = some (.int .i64 fn) := hsb.cell 0
  have z1 : w.cell? ⟨sp, 1, none⟩ = some (.int .i64 pc) := hsb.cell 1
  have z2 : w.cell? ⟨sp, 2, none⟩ = some (.int .i64 fuel) := hsb.cell 2
  have z3 : w.cell? ⟨sp, 3, none⟩ = some (.slice (some ⟨gs, offs, none⟩) (l.length + 2) cs) := hsb.cell 3
  have z4 : w.cell? ⟨sp, 4, none⟩ = some (.slice none 0 0) := hsb.cell 4
  have z5 : w.cell? ⟨sp, 5, none⟩ = some (.int .i64 kids) := hsb.cell 5
  have z6 : w.cell? ⟨sp, 6, none⟩ = some (.bool waits) := hsb.cell 6
  have zf : ∀ i, w.frozen? ⟨sp, i, none⟩ = false := fun i => hsb.frozen i
  have H := Lib.hid (And.intro (show StAt B w sp ⟨fn, pc, fuel, l ++ [x, y], kids, waits⟩ (.slice (some ⟨gs, offs, none⟩) (l.length + 2) cs) from ⟨hBs, hsb, by simpa using hown⟩) hlen)
  clear hBs hsb hown hblk hfs hcode hf hi hb hb7 hg f0 f1 f2
  generalize hS2 : ({ (⟨fn, pc, fuel, l ++ [x, y], kids, waits⟩ : SS) with stack := l ++ [y, x], pc := pc + 1 } : SS) = S2
  have HS2 := Lib.hid hS2
  clear hS2
  go_enter Tryd.func90, Tryd.ntmps90
  go_upto_region 1 with fail
  go_region
  have hk0 : Keep [] w (((w.alloc (.cells #[.int .i64 0, .int .i64 0, .int .i64 0, .int .i64 0, .slice none 0 0, .int .i64 0, .int .i64 0] 138)).alloc (.cells #[.int .i64 4, .int .i64 n] 67)).drew) := ((((Keep.refl [] w).alloc _).alloc _)).drew
  have HO := Lib.hid (And.intro (H.out.1.keep hk0 (by simp)) (And.intro ((((Blk.new' w 138 #[.int .i64 0, .int .i64 0, .int .i64 0, .int .i64 0, .slice none 0 0, .int .i64 0, .int .i64 0] [.int .i64 0, .int .i64 0, .int .i64 0, .int .i64 0, .slice none 0 0, .int .i64 0, .int .i64 0] rfl).alloc (.cells #[.int .i64 4, .int .i64 n] 67)).drew)) (And.intro (Bel.keep (Bel.refl B sp w) hk0 hB (by simp)) (Nat.le_trans hB hk0.size))))
  have u0 : (((w.alloc (.cells #[.int .i64 0, .int .i64 0, .int .i64 0, .int .i64 0, .slice none 0 0, .int .i64 0, .int .i64 0] 138)).alloc (.cells #[.int .i64 4, .int .i64 n] 67)).drew).cell? ⟨gs, offs + (l.length + 1), none⟩ = some (.int .i64 y) := cell_keep0 hk0 t0
  have u1 : (((w.alloc (.cells #[.int .i64 0, .int .i64 0, .int .i64 0, .int .i64 0, .slice none 0 0, .int .i64 0, .int .i64 0] 138)).alloc (.cells #[.int .i64 4, .int .i64 n] 67)).drew).cell? ⟨gs, offs + l.length, none⟩ = some (.int .i64 x) := cell_keep0 hk0 t1
  have u2 : (((w.alloc (.cells #[.int .i64 0, .int .i64 0, .int .i64 0, .int .i64 0, .slice none 0 0, .int .i64 0, .int .i64 0] 138)).alloc (.cells #[.int .i64 4, .int .i64 n] 67)).drew).cell? ⟨w.heap.size + 1, 0, none⟩ = some (.int .i64 4) := by
    have := (Blk.new' (w.alloc (.cells #[.int .i64 0, .int .i64 0, .int .i64 0, .int .i64 0, .slice none 0 0, .int .i64 0, .int .i64 0] 138)) 67 #[.int .i64 4, .int .i64 n] [.int .i64 4, .int .i64 n] rfl).drew.cell 0
    simpa using this
  clear hk0
  go_upto_region 15 with fail
  generalize ((w.alloc (.cells #[.int .i64 0, .int .i64 0, .int .i64 0, .int .i64 0, .slice none 0 0, .int .i64 0, .int .i64 0] 138)).alloc (.cells #[.int .i64 4, .int .i64 n] 67)).drew = w3 at *
  obtain ⟨hS3, hr3, hb3, hB3⟩ := HO.out
  have hs3 := hS3.2.1
  have y0 : w3.cell? ⟨sp, 0, none⟩ = some (.int .i64 fn) := hs3.cell 0
  have y1 : w3.cell? ⟨sp, 1, none⟩ = some (.int .i64 pc) := hs3.cell 1
  have y2 : w3.cell? ⟨sp, 2, none⟩ = some (.int .i64 fuel) := hs3.cell 2
  have y3 : w3.cell? ⟨sp, 3, none⟩ = some (.slice (some ⟨gs, offs, none⟩) (l.length + 2) cs) := hs3.cell 3
  have y4 : w3.cell? ⟨sp, 4, none⟩ = some (.slice none 0 0) := hs3.cell 4
  have y5 : w3.cell? ⟨sp, 5, none⟩ = some (.int .i64 kids) := hs3.cell 5
  have y6 : w3.cell? ⟨sp, 6, none⟩ = some (.bool waits) := hs3.cell 6
  have yf : ∀ i, w3.frozen? ⟨sp, i, none⟩ = false := fun i => hs3.frozen i
  have r0 : w3.cell? ⟨w.heap.size, 0, none⟩ = some (.int .i64 0) := hr3.cell 0
  have r1 : w3.cell? ⟨w.heap.size, 1, none⟩ = some (.int .i64 0) := hr3.cell 1
  have r2 : w3.cell? ⟨w.heap.size, 2, none⟩ = some (.int .i64 0) := hr3.cell 2
  have r3 : w3.cell? ⟨w.heap.size, 3, none⟩ = some (.int .i64 0) := hr3.cell 3
  have r4 : w3.cell? ⟨w.heap.size, 4, none⟩ = some (.slice none 0 0) := hr3.cell 4
  have r5 : w3.cell? ⟨w.heap.size, 5, none⟩ = some (.int .i64 0) := hr3.cell 5
  have r6 : w3.cell? ⟨w.heap.size, 6, none⟩ = some (.int .i64 0) := hr3.cell 6
  have rf : ∀ i, w3.frozen? ⟨w.heap.size, i, none⟩ = false := fun i => hr3.frozen i
  have h9 : OwnsAt w3 B 3 1 (.slice (some ⟨gs, offs, none⟩) (l.length + 2) cs) (l.length + 2) ((l ++ [x, y]).map (.int .i64)) := by simpa using hS3.2.2
  have uf : ∀ i, w3.frozen? ⟨gs, i, none⟩ = false := fun i => h9.free i
  clear h9
  clear hs3 hS3 hr3 hb3 hB3
  refine wp_region_quiet_tail 15 (by kernel_rfl) (by kernel_rfl) ?_
  simp only [List.take_succ_cons, List.take_zero, List.drop_succ_cons, List.drop_zero]
  repeat (go_big_quiet_step (fail))
  refine quiet_tail_end ?_
  rintro _ ⟨nq, rfl⟩
  go_wp2_with fail
  have e2 := HS2.out
  subst e2
  obtain ⟨hS3, hr3, hb3, hB3⟩ := HO.out
  have hS3 := hS3.keep ((Keep.refl [] w3).drewN nq) (by simp)
  have hr3 := hr3.drewN nq
  have hb3 := Bel.keep hb3 ((Keep.refl [] w3).drewN nq) hB3 (by simp)
  have hne1 : w.heap.size ≠ sp := by omega
  have hne2 : w.heap.size ≠ gs := by omega
  have s3 : OwnsAt (w3.drewN nq) B 3 1 (.slice (some ⟨gs, offs, none⟩) (l.length + 2) cs) (l.length + 2) ((l ++ [x, y]).map (.int .i64)) := by simpa using hS3.2.2
  obtain ⟨s1, s2, _⟩ := hS3
  have o1 := (s3.set_ (l.length + 1) (.int .i64 x)).set_ l.length (.int .i64 y)
  have o2 := (s2.far (p := ⟨gs, offs + (l.length + 1), none⟩) (Ne.symm hne) (.int .i64 x)).far (p := ⟨gs, offs + l.length, none⟩) (Ne.symm hne) (.int .i64 y)
  have o3 := ((hr3.far (p := ⟨gs, offs + (l.length + 1), none⟩) hne2 (.int .i64 x)).far (p := ⟨gs, offs + l.length, none⟩) hne2 (.int .i64 y)).far (p := ⟨sp, 1, none⟩) hne1 (.int .i64 (pc + 1 : Nat))
  have hS4 : StAt B (((w3.drewN nq).setCell ⟨gs, offs + (l.length + 1), none⟩ (.int .i64 x)).setCell ⟨gs, offs + l.length, none⟩ (.int .i64 y)) sp ⟨fn, pc, fuel, l ++ [y, x], kids, waits⟩ (.slice (some ⟨gs, offs, none⟩) (l.length + 2) cs) := by
    refine ⟨s1, o2, ?_⟩
    have : (((l ++ [x, y]).map (Value.int .i64)).set (l.length + 1) (.int .i64 x)).set l.length (.int .i64 y) = (l ++ [y, x]).map (Value.int .i64) := by simp
    rw [← this]
    simpa using o1
  obtain ⟨F1, F2, D⟩ := fin7 (hS4.set_ (S' := ⟨fn, pc + 1, fuel, l ++ [y, x], kids, waits⟩) (i := 1) (u := .int .i64 (pc + 1 : Nat)) rfl hS4.2.2) o3 (bel_set (bel_set (bel_set hb3 (Or.inr hBg) _) (Or.inr hBg) _) (Or.inl rfl) _) hB (by simpa [World.setCell] using hB3) (.int .i64 0) (.int .i64 0) (.int .i64 0) (.int .i64 0) (.slice none 0 0) (.int .i64 0) (.int .i64 0)
  push_cast at F1 F2 D
  have d0 := D.cell 0
  have d1 := D.cell 1
  have d2 := D.cell 2
  have d3 := D.cell 3
  have d4 := D.cell 4
  have d5 := D.cell 5
  have d6 := D.cell 6
  exact bodyPost_ret (v := .tuple #[.agg #[.int .i64 0, .int .i64 0, .int .i64 0, .int .i64 0, .slice none 0 0, .int .i64 0, .int .i64 0], .bool false]) (by simp [results, Tryd.results90, go_sem, d0, d1, d2, d3, d4, d5, d6]) rfl ⟨_, _, rfl, rfl, F1, F2⟩
end Go.Proofs.YtndpbkhpllmhmaaDoor
namespace Go.Proofs.YtndpbkhpllmhmaaDoor
set_option linter.unusedSimpArgs false
set_option linter.unnecessarySimpa false
set_option linter.unusedVariables false
open Go.RowKit
set_option maxHeartbeats 1600000 in
theorem do_add (w : World) (a b : Int) (h1 : 0 ≤ a) (h2 : a ≤ 1000000000) (h3 : 0 ≤ b) (h4 : b ≤ 1000000000) : Calls Tryd.prog 108 #[.int .i64 7, .int .i64 a, .int .i64 b] w fun e w' => e = .returned (.tuple #[.int .i64 (a + b), .bool true]) ∧ w' = w := by
  have hw1 : IntKind.i64.wrap (a + b) = a + b := IntWalk.i64_in _ (by omega)
  go_enter Tryd.func108, Tryd.ntmps108
  go_wp2
  go_ret2
  exact ⟨rfl, rfl⟩
set_option maxHeartbeats 6400000 in
set_option maxRecDepth 100000 in
theorem step_add (w : World) (B B0 kg sp deep : Nat) (J : JB) (S : SS) (sv : Value) {l : List Int} {x y : Int} {n : Int} (hK : KnownAt B0 w kg J) (hB0 : B0 ≤ w.heap.size) (hS : StAt B w sp S sv) (hB : B ≤ w.heap.size) (hc : S.pc ≤ 1000) (hat : J.at_ S ⟨7, n⟩) (hl : S.stack = l ++ [x, y]) (hlen : S.stack.length ≤ 32) (hx0 : 0 ≤ x) (hx1 : x ≤ 1000000000) (hy0 : 0 ≤ y) (hy1 : y ≤ 1000000000) :
    Calls Tryd.prog 90 #[.pointer (some ⟨kg, 0, none⟩), .pointer (some ⟨sp, 0, none⟩), .int .i64 deep] w (StepPost B sp { S with stack := l ++ [x + y], pc := S.pc + 1 } none w) := by
  obtain ⟨fv, dv, hg, hblk, hfs, _⟩ := hK
  obtain ⟨hBs, hsb, hown⟩ := hS
  obtain ⟨f, hf, hi⟩ := hat
  obtain ⟨fn, pc, fuel, stack, kids, waits⟩ := S
  simp only at hsb hown hi hf hc hlen hl ⊢
  subst hl
  obtain ⟨af, cf, rfl⟩ := hfs.shape
  obtain ⟨b, off, cv, rfl, hb, f0, f1, f2, f3, hcode⟩ := hfs.fn hf
  obtain ⟨a3, c3, rfl⟩ := hcode.shape
  obtain ⟨b7, off7, rfl, hb7, g0, g1⟩ := hcode.at_ hi
  simp only at g0 g1
  have k0 : w.cell? ⟨kg, 0, none⟩ = some (.slice (some ⟨b, off, none⟩) J.fs.length cf) := hblk.cell 0
  have l1 : fn < J.fs.length := (List.getElem?_eq_some_iff.1 hf).1
  have l2 : pc < f.code.length := (List.getElem?_eq_some_iff.1 hi).1
  have i1 : (fn : Int) < (J.fs.length : Int) := by omega
  have i2 : (pc : Int) < (f.code.length : Int) := by omega
  have n1 : (0 : Int) ≤ (fn : Int) := by omega
  have n2 : (0 : Int) ≤ (pc : Int) := by omega
  have i3 : (pc : Int) ≤ 1000000 := by omega
  have hbw : b < w.heap.size := by omega
  have hb7w : b7 < w.heap.size := by omega
  have hgw : kg < w.heap.size := by omega
  have hspw : sp < w.heap.size := hsb.lt
  have ln : (l ++ [x, y]).length = l.length + 2 := by simp
  obtain ⟨gs, offs, cs, rfl, hcap, _, hBg, hgs, hcell⟩ := hown.form (by rw [ln]; omega)
  have hne := own_ne hsb hown (by decide) gs rfl
  have t0 : w.cell? ⟨gs, offs + (l.length + 1), none⟩ = some (.int .i64 y) := hcell (l.length + 1) _ (by simp)
  have t1 : w.cell? ⟨gs, offs + l.length, none⟩ = some (.int .i64 x) := hcell l.length _ (by simp)
  have hll : (l.length : Int) ≤ 32 := by simp at hlen; omega
  have tf : ∀ i, w.frozen? ⟨gs, i, none⟩ = false := fun i => hown.free i
  rw [ln] at hsb hown
  have z0 : w.cell? ⟨sp, 0, none⟩ = some (.int .i64 fn) := hsb.cell 0
  have z1 : w.cell? ⟨sp, 1, none⟩ = some (.int .i64 pc) := hsb.cell 1
  have z2 : w.cell? ⟨sp, 2, none⟩ = some (.int .i64 fuel) := hsb.cell 2
  have z3 : w.cell? ⟨sp, 3, none⟩ = some (.slice (some ⟨gs, offs, none⟩) (l.length + 2) cs) := hsb.cell 3
  have z4 : w.cell? ⟨sp, 4, none⟩ = some (.slice none 0 0) := hsb.cell 4
  have z5 : w.cell? ⟨sp, 5, none⟩ = some (.int .i64 kids) := hsb.cell 5
  have z6 : w.cell? ⟨sp, 6, none⟩ = some (.bool waits) := hsb.cell 6
  have zf : ∀ i, w.frozen? ⟨sp, i, none⟩ = false := fun i => hsb.frozen i
  have H := Lib.hid (And.intro (show StAt B w sp ⟨fn, pc, fuel, l ++ [x, y], kids, waits⟩ (.slice (some ⟨gs, offs, none⟩) (l.length + 2) cs) from ⟨hBs, hsb, by simpa using hown⟩) hlen)
  clear hBs hsb hown hblk hfs hcode hf hi hb hb7 hg f0 f1 f2
  generalize hS2 : ({ (⟨fn, pc, fuel, l ++ [x, y], kids, waits⟩ : SS) with stack := l ++ [x + y], pc := pc + 1 } : SS) = S2
  have HS2 := Lib.hid hS2
  clear hS2
  go_enter Tryd.func90, Tryd.ntmps90
  go_upto_region 1 with fail
  go_region
  have hk0 : Keep [] w (((w.alloc (.cells #[.int .i64 0, .int .i64 0, .int .i64 0, .int .i64 0, .slice none 0 0, .int .i64 0, .int .i64 0] 138)).alloc (.cells #[.int .i64 7, .int .i64 n] 67)).drew) := ((((Keep.refl [] w).alloc _).alloc _)).drew
  have HO := Lib.hid (And.intro (H.out.1.keep hk0 (by simp)) (And.intro ((((Blk.new' w 138 #[.int .i64 0, .int .i64 0, .int .i64 0, .int .i64 0, .slice none 0 0, .int .i64 0, .int .i64 0] [.int .i64 0, .int .i64 0, .int .i64 0, .int .i64 0, .slice none 0 0, .int .i64 0, .int .i64 0] rfl).alloc (.cells #[.int .i64 7, .int .i64 n] 67)).drew)) (And.intro (Bel.keep (Bel.refl B sp w) hk0 hB (by simp)) (Nat.le_trans hB hk0.size))))
  have u0 : (((w.alloc (.cells #[.int .i64 0, .int .i64 0, .int .i64 0, .int .i64 0, .slice none 0 0, .int .i64 0, .int .i64 0] 138)).alloc (.cells #[.int .i64 7, .int .i64 n] 67)).drew).cell? ⟨gs, offs + (l.length + 1), none⟩ = some (.int .i64 y) := cell_keep0 hk0 t0
  have u1 : (((w.alloc (.cells #[.int .i64 0, .int .i64 0, .int .i64 0, .int .i64 0, .slice none 0 0, .int .i64 0, .int .i64 0] 138)).alloc (.cells #[.int .i64 7, .int .i64 n] 67)).drew).cell? ⟨gs, offs + l.length, none⟩ = some (.int .i64 x) := cell_keep0 hk0 t1
  have u2 : (((w.alloc (.cells #[.int .i64 0, .int .i64 0, .int .i64 0, .int .i64 0, .slice none 0 0, .int .i64 0, .int .i64 0] 138)).alloc (.cells #[.int .i64 7, .int .i64 n] 67)).drew).cell? ⟨w.heap.size + 1, 0, none⟩ = some (.int .i64 7) := by
    have := (Blk.new' (w.alloc (.cells #[.int .i64 0, .int .i64 0, .int .i64 0, .int .i64 0, .slice none 0 0, .int .i64 0, .int .i64 0] 138)) 67 #[.int .i64 7, .int .i64 n] [.int .i64 7, .int .i64 n] rfl).drew.cell 0
    simpa using this
  clear hk0
  go_upto_region 29 with fail
  generalize ((w.alloc (.cells #[.int .i64 0, .int .i64 0, .int .i64 0, .int .i64 0, .slice none 0 0, .int .i64 0, .int .i64 0] 138)).alloc (.cells #[.int .i64 7, .int .i64 n] 67)).drew = w3 at *
  obtain ⟨hS3, hr3, hb3, hB3⟩ := HO.out
  have hs3 := hS3.2.1
  have y0 : w3.cell? ⟨sp, 0, none⟩ = some (.int .i64 fn) := hs3.cell 0
  have y1 : w3.cell? ⟨sp, 1, none⟩ = some (.int .i64 pc) := hs3.cell 1
  have y2 : w3.cell? ⟨sp, 2, none⟩ = some (.int .i64 fuel) := hs3.cell 2
  have y3 : w3.cell? ⟨sp, 3, none⟩ = some (.slice (some ⟨gs, offs, none⟩) (l.length + 2) cs) := hs3.cell 3
  have y4 : w3.cell? ⟨sp, 4, none⟩ = some (.slice none 0 0) := hs3.cell 4
  have y5 : w3.cell? ⟨sp, 5, none⟩ = some (.int .i64 kids) := hs3.cell 5
  have y6 : w3.cell? ⟨sp, 6, none⟩ = some (.bool waits) := hs3.cell 6
  have yf : ∀ i, w3.frozen? ⟨sp, i, none⟩ = false := fun i => hs3.frozen i
  have r0 : w3.cell? ⟨w.heap.size, 0, none⟩ = some (.int .i64 0) := hr3.cell 0
  have r1 : w3.cell? ⟨w.heap.size, 1, none⟩ = some (.int .i64 0) := hr3.cell 1
  have r2 : w3.cell? ⟨w.heap.size, 2, none⟩ = some (.int .i64 0) := hr3.cell 2
  have r3 : w3.cell? ⟨w.heap.size, 3, none⟩ = some (.int .i64 0) := hr3.cell 3
  have r4 : w3.cell? ⟨w.heap.size, 4, none⟩ = some (.slice none 0 0) := hr3.cell 4
  have r5 : w3.cell? ⟨w.heap.size, 5, none⟩ = some (.int .i64 0) := hr3.cell 5
  have r6 : w3.cell? ⟨w.heap.size, 6, none⟩ = some (.int .i64 0) := hr3.cell 6
  have rf : ∀ i, w3.frozen? ⟨w.heap.size, i, none⟩ = false := fun i => hr3.frozen i
  have h9 : OwnsAt w3 B 3 1 (.slice (some ⟨gs, offs, none⟩) (l.length + 2) cs) (l.length + 2) ((l ++ [x, y]).map (.int .i64)) := by simpa using hS3.2.2
  have uf : ∀ i, w3.frozen? ⟨gs, i, none⟩ = false := fun i => h9.free i
  clear h9
  clear hs3 hS3 hr3 hb3 hB3
  have hw1 : IntKind.i64.wrap (x + y) = x + y := IntWalk.i64_in _ (by omega)
  have hb1 : (l.length : Int) < (l.length : Int) + 2 := by omega
  have hb0 : (0 : Int) ≤ (l.length : Int) := by omega
  go_quiet ((go_at_call 108; refine Calls.quiet_of_same (do_add _ x y hx0 hx1 hy0 hy1)))
  go_wp2_with fail
  have e2 := HS2.out
  subst e2
  obtain ⟨hS3, hr3, hb3, hB3⟩ := HO.out
  have hS3 := hS3.keep ((Keep.refl [] w3).drewN nq) (by simp)
  have hr3 := hr3.drewN nq
  have hb3 := Bel.keep hb3 ((Keep.refl [] w3).drewN nq) hB3 (by simp)
  have hne1 : w.heap.size ≠ sp := by omega
  have hne2 : w.heap.size ≠ gs := by omega
  have s3 : OwnsAt (w3.drewN nq) B 3 1 (.slice (some ⟨gs, offs, none⟩) (l.length + 2) cs) (l.length + 2) ((l ++ [x, y]).map (.int .i64)) := by simpa using hS3.2.2
  obtain ⟨s1, s2, _⟩ := hS3
  have o1 := s3.set_ l.length (.int .i64 (x + y))
  have o2 := s2.far (p := ⟨gs, offs + l.length, none⟩) (Ne.symm hne) (.int .i64 (x + y))
  have o3 := ((hr3.far (p := ⟨gs, offs + l.length, none⟩) hne2 (.int .i64 (x + y))).far (p := ⟨sp, 3, none⟩) hne1 (.slice (some ⟨gs, offs, none⟩) (l.length + 1) cs)).far (p := ⟨sp, 1, none⟩) hne1 (.int .i64 (pc + 1 : Nat))
  have hS4 : StAt B ((w3.drewN nq).setCell ⟨gs, offs + l.length, none⟩ (.int .i64 (x + y))) sp ⟨fn, pc, fuel, l ++ [x + y, y], kids, waits⟩ (.slice (some ⟨gs, offs, none⟩) (l.length + 2) cs) := by
    refine ⟨s1, o2, ?_⟩
    have : ((l ++ [x, y]).map (Value.int .i64)).set l.length (.int .i64 (x + y)) = (l ++ [x + y, y]).map (Value.int .i64) := by simp
    rw [← this]
    simpa using o1
  have o5 : OwnsAt ((w3.drewN nq).setCell ⟨gs, offs + l.length, none⟩ (.int .i64 (x + y))) B 3 1 (.slice (some ⟨gs, offs, none⟩) (l.length + 1) cs) (l ++ [x + y]).length ((l ++ [x + y]).map (.int .i64)) := by
    have h5 : OwnsAt ((w3.drewN nq).setCell ⟨gs, offs + l.length, none⟩ (.int .i64 (x + y))) B 3 1 (.slice (some ⟨gs, offs, none⟩) (l.length + 1 + 1) cs) (l.length + 1 + 1) ((l ++ [x + y]).map (Value.int .i64) ++ [.int .i64 y]) := by simpa using hS4.2.2
    simpa using h5.init rfl
  have hS5 := hS4.set_ (S' := ⟨fn, pc, fuel, l ++ [x + y], kids, waits⟩) (sv' := .slice (some ⟨gs, offs, none⟩) (l.length + 1) cs) (i := 3) (u := .slice (some ⟨gs, offs, none⟩) (l.length + 1) cs) rfl o5
  obtain ⟨F1, F2, D⟩ := fin7 (hS5.set_ (S' := ⟨fn, pc + 1, fuel, l ++ [x + y], kids, waits⟩) (i := 1) (u := .int .i64 (pc + 1 : Nat)) rfl hS5.2.2) o3 (bel_set (bel_set (bel_set hb3 (Or.inr hBg) _) (Or.inl rfl) _) (Or.inl rfl) _) hB (by simpa [World.setCell] using hB3) (.int .i64 0) (.int .i64 0) (.int .i64 0) (.int .i64 0) (.slice none 0 0) (.int .i64 0) (.int .i64 0)
  push_cast at F1 F2 D
  have d0 := D.cell 0
  have d1 := D.cell 1
  have d2 := D.cell 2
  have d3 := D.cell 3
  have d4 := D.cell 4
  have d5 := D.cell 5
  have d6 := D.cell 6
  exact bodyPost_ret (v := .tuple #[.agg #[.int .i64 0, .int .i64 0, .int .i64 0, .int .i64 0, .slice none 0 0, .int .i64 0, .int .i64 0], .bool false]) (by simp [results, Tryd.results90, go_sem, d0, d1, d2, d3, d4, d5, d6]) rfl ⟨_, _, rfl, rfl, F1, F2⟩
end Go.Proofs.YtndpbkhpllmhmaaDoor
