/- The law CodeTells, walked. -/
import Derived.Test.YtbdkmfcgnolihaaRows
import Derived.WalkKit
import Derived.WalkSpells
import Derived.WalkLawsBesides
import Derived.RegionTactic
import Derived.ChangeAlike
import Derived.BigQuiet
import Derived.Deep.QuietTactic
import Derived.StillTailTactics
import Derived.IntWalk
import Derived.Handy
import Derived.Lib.Hide
import Derived.Deep.AppendLies
import Derived.Deep.RegionWith
import Derived.Deep.RegionHeld3
import Derived.Test.YtbdkmfcgnolihaaBase
import Derived.Test.YtbdkmfcgnolihaaTail
import Derived.Test.YtbdkmfcgnolihaaArgs
import Derived.Test.YtbdkmfcgnolihaaAppend
import Derived.Test.YtbdkmfcgnolihaaWords
import Derived.Test.YtbdkmfcgnolihaaWordsLaw
import Derived.Test.YtbdkmfcgnolihaaStack
import Derived.Test.YtbdkmfcgnolihaaRefWords
namespace Go.Proofs.Ytbdkmfcgnolihaa
open Go.RowKit

theorem same_true (w : World) (v u : Value) (a : List Int) (ha : IntsOf w v a) (hb : IntsOf w u a) (hl : a.length ≤ 1000000000) :
    Calls Try.prog 12 #[v, u] w fun e w' => e = .returned (.bool true) ∧ ∃ n, w' = w.drewN n := by
  have h := same_spec w v u a a ha hb hl
  rwa [show sameB a a = true from decide_eq_true rfl] at h
theorem next_len (op n at_ : Int) : (nextOf op n at_).length ≤ 1000000000 := by unfold nextOf; split <;> (try split) <;> (try split) <;> simp
set_option maxHeartbeats 4000000 in
set_option maxRecDepth 100000 in
theorem codeTells_any (w : World) (op n at_ : Int) (v : Value) (fa : List Int) (s : ByteArray) (hf : FuncsOf w v fa) (ha : -9223372036854775808 ≤ at_) :
    Calls Try.prog 5 #[.agg #[.int .i64 op, .int .i64 n], v, .int .i64 at_, .string s] w fun e w' => e = .returned (.bool true) ∧ Keep [] w w' := by
  have Hf := Lib.hid hf
  obtain ⟨av, cv, rfl⟩ := hf.shape
  clear hf
  by_cases hin : (fa.length : Int) ≤ 100 ∧ at_ ≤ 1099511627776 ∧ (s.size : Int) ≤ 1000
  · obtain ⟨i1, i2, i3⟩ := hin
    have d1 : decide ((100 : Int) < fa.length) = false := by simp; omega
    have d2 : decide ((1099511627776 : Int) < at_) = false := by simp; omega
    have d3 : decide ((1000 : Int) < s.size) = false := by simp; omega
    go_enter Try.func5, Try.ntmps5
    go_wp2_with fail
    have hA := Blk.new w 28 [.int .i64 op, .int .i64 n]
    have hkA := (Keep.refl [] w).alloc (.cells #[.int .i64 op, .int .i64 n] 28)
    refine (alive3 _).mono ?_
    rintro e w1 ⟨rfl, hk1⟩
    have hA1 := hA.keep hk1 (by simp)
    have hk1' := hkA.trans hk1 (by simp)
    clear hk1 hkA hA
    go_wp2_with fail
    refine (op_spec _ _).mono ?_
    rintro e w2 ⟨rfl, hk2⟩
    clear d1 d2 d3
    go_wp2_with fail
    refine (rop_spec _ _).mono ?_
    rintro e w3 ⟨rfl, hk3⟩
    have hk4 := (hk1'.trans hk2 (by simp)).trans hk3 (by simp)
    have hA3 := (hA1.keep hk2 (by simp)).keep hk3 (by simp)
    clear hk1' hk2 hk3 hA1
    have e0 : w3.cell? ⟨w.heap.size, 0, none⟩ = some (.int .i64 op) := hA3.cell 0
    have e1 : w3.cell? ⟨w.heap.size, 1, none⟩ = some (.int .i64 n) := hA3.cell 1
    go_wp2_with fail
    refine (next_spec _ _ _ _ ha (by omega)).mono ?_
    rintro e w5 ⟨v5, rfl, hown5, hk5⟩
    clear e0 e1
    have hA5 := hA3.keep hk5 (by simp)
    have e0 : w5.cell? ⟨w.heap.size, 0, none⟩ = some (.int .i64 op) := hA5.cell 0
    have e1 : w5.cell? ⟨w.heap.size, 1, none⟩ = some (.int .i64 n) := hA5.cell 1
    go_wp2_with fail
    refine (rnext_spec _ _ _ _ ha (by omega)).mono ?_
    rintro e w6 ⟨v6, rfl, hown6, hk6⟩
    clear e0 e1
    have hown56 := ownsRow_keep hown5 hk6 (by simp)
    go_wp2_with fail
    refine (same_true _ _ _ _ (ints_of_own hown56) (ints_of_own hown6) (next_len _ _ _)).mono ?_
    rintro e w7 ⟨rfl, q, rfl⟩
    have hk7 := ((hk4.trans hk5 (by simp)).trans hk6 (by simp)).drewN q
    have hA7 := (hA5.keep hk6 (by simp)).drewN q
    have hown7 : (w6.drewN q).ownsRow w3.heap.size 3 1 v5 (nextOf op n at_).length ((nextOf op n at_).map (.int .i64)) := hown56
    have hsz : w.heap.size < w3.heap.size := hA3.lt
    clear hown5 hown6 hown56 hk4 hk5 hk6 hA3 hA5
    have hlen := next_len op n at_
    generalize nextOf op n at_ = l at *
    obtain ⟨a5, c5, rfl⟩ := own_shape hown7
    go_wp2_with fail
    go_loopw [16] (fun v wr => ∃ (k : Nat) (zs : List Int), k ≤ l.length ∧ v = .int .i64 k ∧ zs.length = l.length ∧ wr.ownsRow w3.heap.size 3 1 (.slice a5 l.length c5) l.length (zs.map (.int .i64)) ∧ Blk wr w.heap.size 28 [.int .i64 op, .int .i64 n] ∧ Keep [] w wr) (fun v _ => l.length - (intOf v).toNat)
    case atStart => exact ⟨0, l, by omega, rfl, rfl, hown7, hA7, hk7⟩
    case round =>
      clear hown7 hA7 hk7
      obtain ⟨k, zs, hk, rfl, hzs, hown, hA, hkeep⟩ := hrel
      by_cases hlt : k < l.length
      · obtain ⟨g, cap', hform, hg1, hglt⟩ := hown.form (by omega)
        obtain ⟨rfl, rfl⟩ : a5 = some ⟨g, 0, none⟩ ∧ c5 = cap' := by simpa using hform
        obtain ⟨z, hz⟩ : ∃ z, zs[k]? = some z := ⟨_, List.getElem?_eq_getElem (show k < zs.length by omega)⟩
        have hcell : wr.cell? ⟨g, k, none⟩ = some (.int .i64 z) := by
          rw [hown.cellAt k (by omega)]
          simp [List.getElem?_map, hz]
        have hgb : w3.heap.size ≤ g := (hown.lt g rfl).1
        clear hz hform
        have hfr := hown.frozenAt k
        go_wp2
        have hown' := (hown.stored k (.int .i64 (-5))).1
        rw [← List.map_set] at hown'
        go_roundw
        case rel => exact ⟨k + 1, _, by omega, by go_num, by simpa using hzs, hown', hA.far (by show w.heap.size ≠ g; omega) _, hkeep.setCell (Or.inr (by show w.heap.size ≤ g; omega)) _⟩
        case measure => simp [intOf]; omega
      · have e0 : wr.cell? ⟨w.heap.size, 0, none⟩ = some (.int .i64 op) := hA.cell 0
        have e1 : wr.cell? ⟨w.heap.size, 1, none⟩ = some (.int .i64 n) := hA.cell 1
        have f0 := Hf.out.keep0 hkeep
        have F0 := Lib.hid f0
        clear hown f0
        obtain ⟨B, hB⟩ : ∃ B, B = decide (1 ≤ idxOf s) := ⟨_, rfl⟩
        rw [← hB]
        clear hB
        have hbb : (B == B) = true := by simp
        have hh : (hasN op == hasN op) = true := by simp
        go_wp2_with fail
        go_region_held3 (fun w' => w'.cell? ⟨w.heap.size, 0, none⟩ = some (.int .i64 op) ∧ w'.cell? ⟨w.heap.size, 1, none⟩ = some (.int .i64 n)) (first | exact ⟨by assumption, by assumption⟩ | go_keep)
          (first
            | (go_at_call 9; refine (next_spec _ _ _ _ ha (by omega)).mono ?_; rintro e x1 ⟨y1, rfl, hy1, hx1⟩; have hA1 := hA.drew.keep hx1 (by simp); have a10 : x1.cell? ⟨w.heap.size, 0, none⟩ = some (.int .i64 op) := hA1.cell 0; have a11 : x1.cell? ⟨w.heap.size, 1, none⟩ = some (.int .i64 n) := hA1.cell 1)
            | (go_at_call 14; refine (rnext_spec _ _ _ _ ha (by omega)).mono ?_; rintro e x2 ⟨y2, rfl, hy2, hx2⟩; have hA2 := hA1.keep hx2 (by simp); have a20 : x2.cell? ⟨w.heap.size, 0, none⟩ = some (.int .i64 op) := hA2.cell 0; have a21 : x2.cell? ⟨w.heap.size, 1, none⟩ = some (.int .i64 n) := hA2.cell 1)
            | (go_at_call 12; refine (same_true _ _ _ _ ((ints_of_own hy1).keep0 hx2) (ints_of_own hy2) (next_len _ _ _)).mono ?_; rintro e x3 ⟨rfl, q3, rfl⟩)
            | (go_at_call 7; refine (name_spec _ _).mono ?_; rintro e x4 ⟨rfl, hx4⟩; have hA4 := (hA2.drewN q3).keep hx4 (by simp); have a40 : x4.cell? ⟨w.heap.size, 0, none⟩ = some (.int .i64 op) := hA4.cell 0; have a41 : x4.cell? ⟨w.heap.size, 1, none⟩ = some (.int .i64 n) := hA4.cell 1)
            | (go_at_call 15; refine (rname_spec _ _).mono ?_; rintro e x5 ⟨rfl, hx5⟩; have hA5 := hA4.keep hx5 (by simp); have a50 : x5.cell? ⟨w.heap.size, 0, none⟩ = some (.int .i64 op) := hA5.cell 0; have a51 : x5.cell? ⟨w.heap.size, 1, none⟩ = some (.int .i64 n) := hA5.cell 1)
            | (go_at_call 16; refine (hasN_spec _ _).mono ?_; rintro e x6 ⟨rfl, rfl⟩)
            | (go_at_call 17; refine (rhasN_spec _ _).mono ?_; rintro e x7 ⟨rfl, rfl⟩)
            | (go_at_call 10; have hxx := ((((hx1.trans hx2 (by simp)).drewN q3).trans hx4 (by simp)).trans hx5 (by simp)); refine (pops_spec _ _ _ _ _ ((FuncsOf.keep0 (w' := wr.drew) F0.out ((Keep.refl [] wr).drew)).keep0 hxx)).mono ?_; rintro e x8 ⟨rfl, hx8⟩; have hA8 := hA5.keep hx8 (by simp); have a80 : x8.cell? ⟨w.heap.size, 0, none⟩ = some (.int .i64 op) := hA8.cell 0; have a81 : x8.cell? ⟨w.heap.size, 1, none⟩ = some (.int .i64 n) := hA8.cell 1)
            | (go_at_call 18; refine (rpops_spec _ _ _ _ _ (((FuncsOf.keep0 (w' := wr.drew) F0.out ((Keep.refl [] wr).drew)).keep0 hxx).keep0 hx8)).mono ?_; rintro e x9 ⟨rfl, hx9⟩; have hA9 := hA8.keep hx9 (by simp); have a90 : x9.cell? ⟨w.heap.size, 0, none⟩ = some (.int .i64 op) := hA9.cell 0; have a91 : x9.cell? ⟨w.heap.size, 1, none⟩ = some (.int .i64 n) := hA9.cell 1)
            | (go_at_call 11; refine (pushes_spec _ _ _).mono ?_; rintro e y3 ⟨rfl, hz1⟩; have hB1 := hA9.keep hz1 (by simp); have b10 : y3.cell? ⟨w.heap.size, 0, none⟩ = some (.int .i64 op) := hB1.cell 0; have b11 : y3.cell? ⟨w.heap.size, 1, none⟩ = some (.int .i64 n) := hB1.cell 1)
            | (go_at_call 19; refine (rpushes_spec _ _ _).mono ?_; rintro e y4 ⟨rfl, hz2⟩; have hB2 := hB1.keep hz2 (by simp); have b20 : y4.cell? ⟨w.heap.size, 0, none⟩ = some (.int .i64 op) := hB2.cell 0; have b21 : y4.cell? ⟨w.heap.size, 1, none⟩ = some (.int .i64 n) := hB2.cell 1)
            | fail)
        go_wp2
        go_ret
        exact ⟨rfl, ((((hkeep.drew.trans hxx (by simp)).trans hx8 (by simp)).trans hx9 (by simp)).trans hz1 (by simp)).trans hz2 (by simp)⟩
  · go_enter Try.func5, Try.ntmps5
    go_wp2_with fail
    have hkA := (Keep.refl [] w).alloc (.cells #[.int .i64 op, .int .i64 n] 28)
    refine (alive3 _).mono ?_
    rintro e w1 ⟨rfl, hk1⟩
    have hk1' := hkA.trans hk1 (by simp)
    go_wp2
    all_goals (go_ret; exact ⟨rfl, hk1'⟩)
end Go.Proofs.Ytbdkmfcgnolihaa
