/- The law DequeAlone. -/
import Derived.Test.YtkeaekckblpfjaaRows
import Derived.WalkKit
import Derived.WalkSpells
import Derived.WalkLawsBesides
import Derived.RegionTactic
import Derived.ChangeAlike
import Derived.BigQuiet
import Derived.Deep.QuietTactic
import Derived.StillTailTactics
import Derived.IntWalk
import Derived.Handy
import Derived.Lib.Hide
import Derived.Deep.AppendLies
import Derived.Deep.RegionWith
import Derived.Test.YtkeaekckblpfjaaDequeRow
import Derived.Test.YtkeaekckblpfjaaSame
import Derived.Test.YtkeaekckblpfjaaOffs
namespace Go.Proofs.Ytkeaekckblpfjaa
open Go.RowKit

theorem IntsOf.at_len {w : World} {v : Value} {ys : List Int} (h : IntsOf w v ys) : ∃ a c, v = .slice a ys.length c ∧ ∀ k : Nat, (hk : k < ys.length) → ∃ b off, a = some ⟨b, off, none⟩ ∧ b < w.heap.size ∧ w.cell? ⟨b, off + k, none⟩ = some (.int .i64 ys[k]) := by
  obtain ⟨a, c, rfl, h⟩ := h
  refine ⟨a, c, rfl, fun k hk => ?_⟩
  obtain ⟨b, off, rfl, hb, hc⟩ := h (by intro h; subst h; simp at hk)
  exact ⟨b, off, rfl, hb, hc k _ (List.getElem?_eq_getElem hk)⟩
theorem mem_ownBlocks {v : Value} {x : Nat} : x ∈ ownBlocks v ↔ v.ownBlock = some x := by simp [ownBlocks]
theorem sep_later {w : World} {B : Nat} {e : TypeId} {size n : Nat} {v : Value} {xs : List Value} {F F' : List Nat} (h : OwnsAt w B e size v n xs) (hs : ∀ x ∈ ownBlocks v, x ∉ F) (hf : ∀ x ∈ F', x ∈ F ∨ w.heap.size ≤ x) : ∀ x ∈ ownBlocks v, x ∉ F' := by
  intro x hx hx'
  have := (h.lt x (mem_ownBlocks.1 hx)).2
  rcases hf x hx' with h1 | h1
  · exact hs x hx h1
  · omega
theorem sep_new {v v' : Value} {H : Nat} {F : List Nat} (hs : ∀ x ∈ ownBlocks v, x ∉ F) (hF : ∀ x ∈ F, x < H) (hv : v'.ownBlock = v.ownBlock ∨ v'.ownBlock = some H) : ∀ x ∈ ownBlocks v', x ∉ F := by
  intro x hx hx'
  rw [mem_ownBlocks] at hx
  rcases hv with h | h
  · exact hs x (mem_ownBlocks.2 (h ▸ hx)) hx'
  · have := hF x hx'
    rw [h] at hx
    injection hx with hx
    omega
set_option maxHeartbeats 8000000 in
set_option maxRecDepth 100000 in
theorem dequeAlone_any (w : World) (v : Value) (ys : List Int) (hv : IntsOf w v ys) : Calls Try.prog 9 #[v] w fun e w' => e = .returned (.bool true) ∧ Keep [] w w' := by
  obtain ⟨a, c, rfl⟩ := hv.shape
  by_cases hin : ys.length ≤ 300
  · have Hv := Lib.hid hv
    clear hv
    go_enter Try.func9, Try.ntmps9
    go_wp2_with fail
    refine (alive_spec _).mono ?_
    rintro e w1 ⟨rfl, k1⟩
    go_wp2_with fail
    refine (dqNew_spec _).mono ?_
    rintro e w2 ⟨pd, F, rfl, a2, f2, k2⟩
    obtain ⟨k3, f3⟩ := reach_trans (F := []) (F1 := []) k1 (by simp) k2 (fun x hx => Or.inr (f2 x hx))
    go_wp2_with fail
    clear k1 f2 k2
    go_loopw [5, 6] (fun v5 v6 wr => ∃ (k : Nat) (q : DQ) (F' : List Nat) (row : List Int), k ≤ ys.length ∧ v6 = .int .i64 k ∧ DequeAt wr pd F' q ∧ Keep [] w wr ∧ (∀ x ∈ F', x ∈ ([] : List Nat) ∨ w.heap.size ≤ x) ∧ RowQ q row ∧ Bd (10 * k) q ∧
      row.length ≤ k ∧ OwnsAt wr w.heap.size 3 1 v5 row.length (row.map (.int .i64)) ∧ (∀ x ∈ ownBlocks v5, x ∉ F')) (fun _ v _ => ys.length - (intOf v).toNat)
    case atStart => exact ⟨0, dqNew, F, [], by omega, rfl, a2, k3, f3, RowQ.new, Bd.new.mono (by omega), by simp, OwnsAt.nil _ _ _ _, by simp [ownBlocks, Value.ownBlock]⟩
    case round =>
      clear a2 k3 f3
      obtain ⟨k, q, F', row, hk, rfl, a4, k4, f4, hq, hb, hrl, hown, hsep⟩ := hrel
      obtain ⟨av, cv, rfl⟩ := hown.shape
      by_cases hlt : k < ys.length
      · obtain ⟨ba, offa, rfl, hba, hca⟩ := (Hv.out.keep0 k4).at_ hlt
        have hcell := hca k _ (List.getElem?_eq_getElem hlt)
        clear hca
        go_wp2_with fail
        · obtain ⟨q', e1, hq'⟩ := push_row hq (by omega) (k : Int)
          have hb' := hb.through (by omega) 0 1 (k : Int)
          rw [e1] at hb'
          have E1 := Lib.hid e1
          clear e1 hq
          refine (through_eq 0 1 _ 1 0 E1.out a4 hb (by omega) (by omega)).mono ?_
          rintro e w5 ⟨rfl, F5, a5, k5, f5⟩
          obtain ⟨k6, f6⟩ := reach_trans k4 f4 k5 f5
          have hsep5 := sep_later hown hsep f5
          have hown5 := hown.keep k5 (fun g hg => hsep g (mem_ownBlocks.2 hg))
          clear a4 k4 f4 k5 f5 hown hsep hcell
          have hk2 : Keep [] w5 ((w5.alloc (.cells #[.int .i64 (k : Int)] 3))) := (Keep.refl _ _).alloc _
          have hown6 := hown5.keep hk2 (by simp)
          have a6 := a5.keep hk2 (by simp)
          have hsrc := SrcOf.of_ints (ints_lit1 w5 (k : Int))
          have hkeep2 := k6.trans hk2 (by simp)
          have hlt6 : ∀ x ∈ F5, x < w5.heap.size + 1 := by have := a6.lt; simpa using this
          clear hown5 hk2 a5 k6
          go_wp2_with (at_builtin; refine wpList_append_off rfl _ _ rfl Try.ints29 w.heap.size _ row.length _ rfl hown6 _ 1 _ rfl hsrc (by simp [Value.oneCell']) (by unfold maxLen; omega) (by omega) (by have := hkeep2.size; omega) ?_)
          intro v' w7 hown7 hk3 hblk
          have hsep7 := sep_new hsep5 hlt6 hblk
          have a7 := a6.keep hk3 (fun x hx hx' => hsep5 x hx' hx)
          have hkeep7 := hkeep2.trans hk3 (fun x hx => Or.inr (hown6.lt x (mem_ownBlocks.1 hx)).1)
          have hown8 : OwnsAt w7 w.heap.size 3 1 v' (row ++ [(k : Int)]).length ((row ++ [(k : Int)]).map (.int .i64)) := by simpa using hown7
          have hrl' : (row ++ [(k : Int)]).length ≤ k + 1 := by simp; omega
          clear hsrc hown6 hown7 hk3 hblk a6 hkeep2 hlt6 hsep5
          generalize row ++ [(k : Int)] = row' at *
          have hit : itemsOf q' = row' := hq'.holds.items q'.bottom hq'.bot q'.calls
          have hs := items_spec a7 (hb'.tb (by omega))
          rw [hit] at hs
          have Hs := Lib.hid hs
          have HI := Lib.hid (ints_of_off hown8)
          have Hl2 : Hid ((row').length ≤ 1000000000) := Lib.hid (by omega)
          obtain ⟨a', cap', rfl⟩ := hown8.shape
          clear hit hs
          go_wp2_with fail
          refine Hs.out.mono ?_
          rintro e w9 ⟨v9, rfl, hown9, k9⟩
          go_wp2_with fail
          refine (same_true _ _ _ _ (ints_of_own hown9) (HI.out.keep0 k9) Hl2.out).mono ?_
          rintro e w10 ⟨rfl, n10, rfl⟩
          go_wp2
          go_roundw
          case rel => exact ⟨k + 1, q', F5, row', by omega, by go_num, (a7.keep k9 (by simp)).drewN n10, (hkeep7.trans k9 (by simp)).drewN n10, f6, hq', hb'.mono (by omega), hrl', (hown8.keep k9 (by simp)).keep ((Keep.refl [] _).drewN n10) (by simp), hsep7⟩
          case measure => simp [intOf]; omega
        · obtain ⟨q', e1, hq'⟩ := push_row hq (by omega) (k : Int)
          have hb' := hb.through (by omega) 0 1 (k : Int)
          rw [e1] at hb'
          have E1 := Lib.hid e1
          clear e1 hq
          refine (through_eq 0 1 _ 1 0 E1.out a4 hb (by omega) (by omega)).mono ?_
          rintro e w5 ⟨rfl, F5, a5, k5, f5⟩
          obtain ⟨k6, f6⟩ := reach_trans k4 f4 k5 f5
          have hsep5 := sep_later hown hsep f5
          have hown5 := hown.keep k5 (fun g hg => hsep g (mem_ownBlocks.2 hg))
          clear a4 k4 f4 k5 f5 hown hsep hcell
          have hk2 : Keep [] w5 ((w5.alloc (.cells #[.int .i64 (k : Int)] 3))) := (Keep.refl _ _).alloc _
          have hown6 := hown5.keep hk2 (by simp)
          have a6 := a5.keep hk2 (by simp)
          have hsrc := SrcOf.of_ints (ints_lit1 w5 (k : Int))
          have hkeep2 := k6.trans hk2 (by simp)
          have hlt6 : ∀ x ∈ F5, x < w5.heap.size + 1 := by have := a6.lt; simpa using this
          clear hown5 hk2 a5 k6
          go_wp2_with (at_builtin; refine wpList_append_off rfl _ _ rfl Try.ints29 w.heap.size _ row.length _ rfl hown6 _ 1 _ rfl hsrc (by simp [Value.oneCell']) (by unfold maxLen; omega) (by omega) (by have := hkeep2.size; omega) ?_)
          intro v' w7 hown7 hk3 hblk
          have hsep7 := sep_new hsep5 hlt6 hblk
          have a7 := a6.keep hk3 (fun x hx hx' => hsep5 x hx' hx)
          have hkeep7 := hkeep2.trans hk3 (fun x hx => Or.inr (hown6.lt x (mem_ownBlocks.1 hx)).1)
          have hown8 : OwnsAt w7 w.heap.size 3 1 v' (row ++ [(k : Int)]).length ((row ++ [(k : Int)]).map (.int .i64)) := by simpa using hown7
          have hrl' : (row ++ [(k : Int)]).length ≤ k + 1 := by simp; omega
          clear hsrc hown6 hown7 hk3 hblk a6 hkeep2 hlt6 hsep5
          generalize row ++ [(k : Int)] = row' at *
          have hit : itemsOf q' = row' := hq'.holds.items q'.bottom hq'.bot q'.calls
          have hs := items_spec a7 (hb'.tb (by omega))
          rw [hit] at hs
          have Hs := Lib.hid hs
          have HI := Lib.hid (ints_of_off hown8)
          have Hl2 : Hid ((row').length ≤ 1000000000) := Lib.hid (by omega)
          obtain ⟨a', cap', rfl⟩ := hown8.shape
          clear hit hs
          go_wp2_with fail
          refine Hs.out.mono ?_
          rintro e w9 ⟨v9, rfl, hown9, k9⟩
          go_wp2_with fail
          refine (same_true _ _ _ _ (ints_of_own hown9) (HI.out.keep0 k9) Hl2.out).mono ?_
          rintro e w10 ⟨rfl, n10, rfl⟩
          go_wp2
          go_roundw
          case rel => exact ⟨k + 1, q', F5, row', by omega, by go_num, (a7.keep k9 (by simp)).drewN n10, (hkeep7.trans k9 (by simp)).drewN n10, f6, hq', hb'.mono (by omega), hrl', (hown8.keep k9 (by simp)).keep ((Keep.refl [] _).drewN n10) (by simp), hsep7⟩
          case measure => simp [intOf]; omega
        · by_cases hne : row = []
          · subst hne
            obtain ⟨q', vv, e1, hq'⟩ := pop_nil hq 0
            have hb' := hb.through (by omega) 0 2 0
            rw [e1] at hb'
            have E1 := Lib.hid e1
            clear e1 hq
            refine (through_eq 0 2 0 3 vv E1.out a4 hb (by omega) (by omega)).mono ?_
            rintro e w5 ⟨rfl, F5, a5, k5, f5⟩
            obtain ⟨k6, f6⟩ := reach_trans k4 f4 k5 f5
            have hsep5 := sep_later hown hsep f5
            have hown5 := hown.keep k5 (fun g hg => hsep g (mem_ownBlocks.2 hg))
            clear a4 k4 f4 k5 f5 hown hsep hcell
            go_wp2
            go_roundw
            case rel => exact ⟨k + 1, q', F5, [], by omega, by go_num, a5, k6, f6, hq', hb'.mono (by omega), by simp, hown5, hsep5⟩
            case measure => simp [intOf]; omega
          · obtain ⟨row0, y, rfl⟩ : ∃ l y, row = l ++ [y] := ⟨_, _, (List.dropLast_concat_getLast hne).symm⟩
            obtain ⟨q', e1, hq'⟩ := pop_row hq 0
            have hb' := hb.through (by omega) 0 2 0
            rw [e1] at hb'
            have E1 := Lib.hid e1
            clear e1 hq hne
            refine (through_eq 0 2 0 2 y E1.out a4 hb (by omega) (by omega)).mono ?_
            rintro e w5 ⟨rfl, F5, a5, k5, f5⟩
            obtain ⟨k6, f6⟩ := reach_trans k4 f4 k5 f5
            have hsep5 := sep_later hown hsep f5
            have hown5 := hown.keep k5 (fun g hg => hsep g (mem_ownBlocks.2 hg))
            clear a4 k4 f4 k5 f5 hown hsep hcell
            obtain ⟨g, off, cap, hv5, hc1, hc2, hc3, hc4, hc5⟩ := hown5.form (by simp)
            cases hv5
            have hcy := hc5 row0.length (.int .i64 y) (by simp)
            have hown6 : OwnsAt w5 w.heap.size 3 1 (.slice (some ⟨g, off, none⟩) row0.length cv) row0.length (row0.map (.int .i64)) := OwnsAt.init (one := [.int .i64 y]) (by simpa using hown5) rfl
            have hsep6 : ∀ x ∈ ownBlocks (.slice (some ⟨g, off, none⟩) row0.length cv), x ∉ F5 := hsep5
            simp only [List.length_append, List.length_singleton] at hc1 hrl
            have hrl' : row0.length ≤ k + 1 := by omega
            have a7 := a5
            have hkeep7 := k6
            have hown8 := hown6
            have hsep7 := hsep6
            clear hown5 hsep5 hc5 a5 k6 hown6 hsep6
            go_wp2_with fail
            have hit : itemsOf q' = row0 := hq'.holds.items q'.bottom hq'.bot q'.calls
            have hs := items_spec a7 (hb'.tb (by omega))
            rw [hit] at hs
            have Hs := Lib.hid hs
            have HI := Lib.hid (ints_of_off hown8)
            have Hl2 : Hid ((row0).length ≤ 1000000000) := Lib.hid (by omega)
            clear hit hs
            refine Hs.out.mono ?_
            rintro e w9 ⟨v9, rfl, hown9, k9⟩
            go_wp2_with fail
            refine (same_true _ _ _ _ (ints_of_own hown9) (HI.out.keep0 k9) Hl2.out).mono ?_
            rintro e w10 ⟨rfl, n10, rfl⟩
            go_wp2
            go_roundw
            case rel => exact ⟨k + 1, q', F5, row0, by omega, by go_num, (a7.keep k9 (by simp)).drewN n10, (hkeep7.trans k9 (by simp)).drewN n10, f6, hq', hb'.mono (by omega), hrl', (hown8.keep k9 (by simp)).keep ((Keep.refl [] _).drewN n10) (by simp), hsep7⟩
            case measure => simp [intOf]; omega
        · by_cases hne : row = []
          · subst hne
            obtain ⟨q', vv, e1, hq'⟩ := steal_nil hq (n := 1 + k % 15) (by omega) (by omega) 0
            have hb' := hb.through (by omega) ((1 + k % 15 : Nat) : Int) 3 0
            rw [e1] at hb'
            rw [show ((1 + k % 15 : Nat) : Int) = 1 + (k : Int) % 15 from by omega] at e1
            have E1 := Lib.hid e1
            clear e1 hq
            refine (through_eq _ 3 0 3 vv E1.out a4 hb (by omega) (by omega)).mono ?_
            rintro e w5 ⟨rfl, F5, a5, k5, f5⟩
            obtain ⟨k6, f6⟩ := reach_trans k4 f4 k5 f5
            have hsep5 := sep_later hown hsep f5
            have hown5 := hown.keep k5 (fun g hg => hsep g (mem_ownBlocks.2 hg))
            clear a4 k4 f4 k5 f5 hown hsep hcell
            go_wp2
            go_roundw
            case rel => exact ⟨k + 1, q', F5, [], by omega, by go_num, a5, k6, f6, hq', hb'.mono (by omega), by simp, hown5, hsep5⟩
            case measure => simp [intOf]; omega
          · obtain ⟨y, row0, rfl⟩ : ∃ y l, row = y :: l := by
              cases row with
              | nil => exact absurd rfl hne
              | cons y l => exact ⟨y, l, rfl⟩
            obtain ⟨q', e1, hq'⟩ := steal_row hq (n := 1 + k % 15) (by omega) (by omega) 0
            have hb' := hb.through (by omega) ((1 + k % 15 : Nat) : Int) 3 0
            rw [e1] at hb'
            rw [show ((1 + k % 15 : Nat) : Int) = 1 + (k : Int) % 15 from by omega] at e1
            have E1 := Lib.hid e1
            clear e1 hq hne
            refine (through_eq _ 3 0 2 y E1.out a4 hb (by omega) (by omega)).mono ?_
            rintro e w5 ⟨rfl, F5, a5, k5, f5⟩
            obtain ⟨k6, f6⟩ := reach_trans k4 f4 k5 f5
            have hsep5 := sep_later hown hsep f5
            have hown5 := hown.keep k5 (fun g hg => hsep g (mem_ownBlocks.2 hg))
            clear a4 k4 f4 k5 f5 hown hsep hcell
            obtain ⟨g, off, cap, hv5, hc1, hc2, hc3, hc4, hc5⟩ := hown5.form (by simp)
            cases hv5
            have hcy : w5.cell? ⟨g, off, none⟩ = some (.int .i64 y) := by simpa using hc5 0 (.int .i64 y) (by simp)
            clear hc5
            simp only [List.length_cons] at hc1 hrl
            have hrl' : row0.length ≤ k + 1 := by omega
            by_cases hcap : cv = 1
            · subst hcap
              obtain rfl : row0 = [] := List.eq_nil_of_length_eq_zero (by omega)
              have hown8 : OwnsAt w5 w.heap.size 3 1 (.slice (some ⟨g, off, none⟩) 0 0) ([] : List Int).length (([] : List Int).map (.int .i64)) := hown5.none_left (by omega)
              have hsep7 : ∀ x ∈ ownBlocks (.slice (some ⟨g, off, none⟩) 0 0), x ∉ F5 := hsep5
              have a7 := a5
              have hkeep7 := k6
              clear hown5 hsep5 a5 k6 hc1 hc2
              go_wp2_with fail
              have hit : itemsOf q' = ([] : List Int) := hq'.holds.items q'.bottom hq'.bot q'.calls
              have hs := items_spec a7 (hb'.tb (by omega))
              rw [hit] at hs
              have Hs := Lib.hid hs
              have HI := Lib.hid (ints_of_off hown8)
              have Hl2 : Hid ((([] : List Int)).length ≤ 1000000000) := Lib.hid (by omega)
              clear hit hs
              refine Hs.out.mono ?_
              rintro e w9 ⟨v9, rfl, hown9, k9⟩
              go_wp2_with fail
              refine (same_true _ _ _ _ (ints_of_own hown9) (HI.out.keep0 k9) Hl2.out).mono ?_
              rintro e w10 ⟨rfl, n10, rfl⟩
              go_wp2
              go_roundw
              case rel => exact ⟨k + 1, q', F5, ([] : List Int), by omega, by go_num, (a7.keep k9 (by simp)).drewN n10, (hkeep7.trans k9 (by simp)).drewN n10, f6, hq', hb'.mono (by omega), hrl', (hown8.keep k9 (by simp)).keep ((Keep.refl [] _).drewN n10) (by simp), hsep7⟩
              case measure => simp [intOf]; omega
            · have hown8 : OwnsAt w5 w.heap.size 3 1 (.slice (some ⟨g, off + 1, none⟩) row0.length (cv - 1)) row0.length (row0.map (.int .i64)) := OwnsAt.tail (one := [.int .i64 y]) (by simpa using hown5) rfl
              have hsep7 : ∀ x ∈ ownBlocks (.slice (some ⟨g, off + 1, none⟩) row0.length (cv - 1)), x ∉ F5 := hsep5
              have a7 := a5
              have hkeep7 := k6
              clear hown5 hsep5 a5 k6
              go_wp2_with fail
              have hit : itemsOf q' = row0 := hq'.holds.items q'.bottom hq'.bot q'.calls
              have hs := items_spec a7 (hb'.tb (by omega))
              rw [hit] at hs
              have Hs := Lib.hid hs
              have HI := Lib.hid (ints_of_off hown8)
              have Hl2 : Hid ((row0).length ≤ 1000000000) := Lib.hid (by omega)
              clear hit hs
              refine Hs.out.mono ?_
              rintro e w9 ⟨v9, rfl, hown9, k9⟩
              go_wp2_with fail
              refine (same_true _ _ _ _ (ints_of_own hown9) (HI.out.keep0 k9) Hl2.out).mono ?_
              rintro e w10 ⟨rfl, n10, rfl⟩
              go_wp2
              go_roundw
              case rel => exact ⟨k + 1, q', F5, row0, by omega, by go_num, (a7.keep k9 (by simp)).drewN n10, (hkeep7.trans k9 (by simp)).drewN n10, f6, hq', hb'.mono (by omega), hrl', (hown8.keep k9 (by simp)).keep ((Keep.refl [] _).drewN n10) (by simp), hsep7⟩
              case measure => simp [intOf]; omega
      · have : k = ys.length := by omega
        subst this
        go_wp2
        go_ret
        exact ⟨rfl, k4⟩
  · go_enter Try.func9, Try.ntmps9
    go_wp2_with fail
    refine (alive_spec _).mono ?_
    rintro e w1 ⟨rfl, k1⟩
    go_wp2
    go_ret
    exact ⟨rfl, k1⟩
theorem walk_dequeAlone {H : Type} {enc : TypeId × Value → H} (W : World) {v0 : Value} {d0 : DataW H} {p0 : List MemPlace} {base : Nat}
    (o0 : Value.okWide Try.prog W .any base 29 v0) (h0 : DataW.Trod enc Try.prog W 0 (fun _ => true) true 29 v0 d0 p0) :
    Calls Try.prog 9 #[v0] W fun e w' => e = .returned (.bool true) ∧ Below W.heap.size W w' := by
  obtain ⟨ys, hys, _⟩ := ints_open Try.underlying29 Try.underlying3 (by kernel_rfl) o0 h0
  exact (dequeAlone_any W v0 ys hys).mono fun _ _ ⟨he, hk⟩ => ⟨he, hk.to_below⟩
end Go.Proofs.Ytkeaekckblpfjaa
