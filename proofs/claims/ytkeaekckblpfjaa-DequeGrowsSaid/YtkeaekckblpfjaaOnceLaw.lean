/- The law DequeOnce. -/
import Derived.Test.YtkeaekckblpfjaaRows
import Derived.WalkKit
import Derived.WalkSpells
import Derived.WalkLawsBesides
import Derived.RegionTactic
import Derived.ChangeAlike
import Derived.BigQuiet
import Derived.Deep.QuietTactic
import Derived.StillTailTactics
import Derived.IntWalk
import Derived.Handy
import Derived.Lib.Hide
import Derived.Deep.AppendLies
import Derived.Deep.RegionWith
import Derived.Test.YtkeaekckblpfjaaDequeRow
import Derived.Test.YtkeaekckblpfjaaSame
import Derived.Test.YtkeaekckblpfjaaOffs
import Derived.Test.YtkeaekckblpfjaaAloneLaw
import Derived.Test.YtkeaekckblpfjaaChaseUse
import Derived.Test.YtkeaekckblpfjaaLastLaw
namespace Go.Proofs.Ytkeaekckblpfjaa
open Go.RowKit

theorem Blk.mark {w : World} {gb n v : Nat} {tk : List Int} (h : Blk w gb 3 ((marks n tk).map (.int .i64))) (hv : (v : Int) ∉ tk) : Blk (w.setCell ⟨gb, v, none⟩ (.int .i64 1)) gb 3 ((marks n (tk ++ [(v : Int)])).map (.int .i64)) := by
  rw [marks_snoc hv, List.map_set]
  exact h.set_ v _
theorem Blk.markCell {w : World} {gb n v : Nat} {tk : List Int} (h : Blk w gb 3 ((marks n tk).map (.int .i64))) (hv : (v : Int) ∉ tk) (hn : v < n) : w.cell? ⟨gb, v, none⟩ = some (.int .i64 0) := by
  rw [h.cell, List.getElem?_map, marks_zero hn hv]
  rfl
theorem Blk.marks0 (w : World) (n : Nat) : Blk (w.alloc (.cells (zeroCells n) 3)) w.heap.size 3 ((marks n []).map (.int .i64)) := by
  rw [marks_nil]
  exact Blk.new w 3 _
theorem OnceQ.len {q : DQ} {tk : List Int} {m : Nat} (h : OnceQ q tk m) : q.calls.length = 16 := by obtain ⟨C, hi⟩ := h.inv; exact hi.len
theorem OnceQ.atLeast0 {q : DQ} {tk : List Int} {m : Nat} (h : OnceQ q tk m) : AtLeast q 0 0 := by obtain ⟨C, hi⟩ := h.inv; exact hi.atLeast0 0
theorem OnceQ.tk_le {q : DQ} {tk : List Int} {m : Nat} (h : OnceQ q tk m) : tk.length ≤ m := by
  obtain ⟨C, _, hp⟩ := h
  have := hp.length_eq
  simp at this
  omega
set_option maxHeartbeats 16000000 in
set_option maxRecDepth 100000 in
theorem dequeOnce_any (w : World) (v : Value) (xss : List (List Int)) (hv : IntRows w v 3 xss) (hwf : ∀ xs ∈ xss, ∀ x ∈ xs, (Lit.int .i64 x).wf = true) : Calls Try.prog 8 #[v] w fun e w' => e = .returned (.bool true) ∧ Keep [] w w' := by
  have hsh : ∃ a c, v = .slice a xss.length c := by obtain ⟨a, c, h, _⟩ := hv; exact ⟨a, c, by simpa using h⟩
  obtain ⟨a, c, rfl⟩ := hsh
  by_cases hin : xss.length ≤ 500
  · have Hv := Lib.hid hv
    have Hwf := Lib.hid hwf
    clear hv hwf
    have hmk : ∀ w, (Instr.makeSlice 29 (.int .i64 1000) (.int .i64 1000)).run Try.prog w = .ok (.slice (some ⟨w.heap.size, 0, none⟩) 1000 1000) (w.alloc (.cells (zeroCells 1000) 3)) := run_make_ints 1000 (by omega)
    go_enter Try.func8, Try.ntmps8
    go_wp2_with fail
    refine (alive_spec _).mono ?_
    rintro e w1 ⟨rfl, k1⟩
    go_wp2_with fail
    refine (dqNew_spec _).mono ?_
    rintro e w2 ⟨pd, F, rfl, a2, f2, k2⟩
    obtain ⟨k3, f3⟩ := reach_trans (F := []) (F1 := []) k1 (by simp) k2 (fun x hx => Or.inr (f2 x hx))
    have a3 := a2.keep ((Keep.refl [] _).alloc (.cells (zeroCells 1000) 3)) (by simp)
    have k4 := k3.alloc (.cells (zeroCells 1000) 3)
    have b3 := Blk.marks0 w2 1000
    have hsep : w2.heap.size ∉ F := fun h => by have := a2.lt _ h; omega
    have hgb1 : w.heap.size ≤ w2.heap.size := k3.size
    clear k1 f2 k2 a2 k3
    go_wp2_with fail
    clear hmk
    generalize w2.heap.size = gb at *
    have hz0 : xss.length ≤ 0 → AtLeast dqNew 0 (mults 16 xss.length 0) := fun h => by
      rw [show xss.length = 0 by omega, mults_self]
      exact OnceQ.new.atLeast0
    go_loopw [5, 7, 8, 9] (fun v5 v7 v8 v9 wr => ∃ (i m : Nat) (tk : List Int) (q : DQ) (F' : List Nat), i ≤ xss.length + 100 ∧ v5 = .int .i64 (m + 1) ∧ v7 = .int .i64 tk.length ∧ v8 = .int .i64 i ∧ DequeAt wr pd F' q ∧ Keep [] w wr ∧ (∀ x ∈ F', x ∈ ([] : List Nat) ∨ w.heap.size ≤ x) ∧
      OnceQ q tk m ∧ Bd i q ∧ m ≤ i ∧ m ≤ xss.length ∧ tk.length ≤ m ∧ Blk wr gb 3 ((marks 1000 tk).map (.int .i64)) ∧ gb ∉ F' ∧ (xss.length ≤ i → AtLeast q 0 (mults 16 xss.length i))) (fun _ _ v _ _ => xss.length + 100 - (intOf v).toNat)
    case atStart => exact ⟨0, 0, [], dqNew, F, by omega, rfl, rfl, rfl, a3, k4, f3, OnceQ.new, Bd.new, by omega, by omega, by simp, b3, hsep, hz0⟩
    case round =>
      clear a3 k4 f3 b3 hsep hz0
      obtain ⟨i, m, tk, q, F', hi, rfl, rfl, rfl, a4, k4, f4, hq, hb, hmi, hm5, htm, hmk, hsep, hal⟩ := hrel
      by_cases hlt : i < xss.length
      · obtain ⟨b, off, c', x0, x1, x2, hveq, hx, e0, e1, e2⟩ := (Hv.out.keep k4).at3 hlt
        cases hveq
        have hblt : b < wr.heap.size := World.block_lt_of_cell? _ _ e0
        have hkA : Keep [] wr (wr.alloc (.cells #[.int .i64 x0, .int .i64 x1, .int .i64 x2] 53)) := (Keep.refl _ _).alloc _
        have hA : Blk (wr.alloc (.cells #[.int .i64 x0, .int .i64 x1, .int .i64 x2] 53)) wr.heap.size 53 [.int .i64 x0, .int .i64 x1, .int .i64 x2] := Blk.new' _ _ _ _ rfl
        have a5 := a4.keep hkA (by simp)
        have k5 := k4.trans hkA (by simp)
        have hmk5 := hmk.keep hkA (by simp)
        have hG : wr.heap.size ∉ F' := fun h => by have := a4.lt _ h; omega
        have Hal := Lib.hid hal
        have Hz : Hid (i + 1 = xss.length → mults 16 xss.length (i + 1) = 0) := Lib.hid (fun h => by rw [h, mults_self])
        skip
        go_wp2_with fail
        · go_roundw
          case rel => exact ⟨i + 1, m, tk, q, F', by omega, rfl, rfl, by go_num, a5, k5, f4, hq, hb.mono (by omega), by omega, by omega, htm, hmk5, hsep, fun h => by rw [Hz.out (by omega)]; exact hq.atLeast0⟩
          case measure => simp [intOf]; omega
        · obtain ⟨q', e', he1⟩ : ∃ q' e', dqBegin q x0 x1 ((m : Int) + 1) = (q', e') := ⟨_, _, rfl⟩
          have hq' := hq.begin he1
          have hb' := hb.begin (by omega) x0 x1 ((m : Int) + 1)
          rw [he1] at hb'
          have E1 := Lib.hid he1
          clear he1 hq
          refine (begin_eq _ _ _ E1.out a5).mono ?_
          rintro e w9 ⟨rfl, F9, a9, k9, f9⟩
          obtain ⟨k10, f10⟩ := reach_trans k5 f4 k9 f9
          have hA9 := hA.keep k9 hG
          have hmk9 := hmk5.keep k9 hsep
          have hsep9 : gb ∉ F9 := fun h => by
            rcases f9 gb h with h1 | h1
            · exact hsep h1
            · have := hmk5.lt; omega
          have g1 : w9.cell? ⟨wr.heap.size, 1, none⟩ = some (.int .i64 x1) := hA9.cell 1
          clear a5 k5 f4 k9 f9 hA hmk5 hsep hkA a4 k4 hmk hG
          by_cases hee : e' = 0
          · subst hee
            by_cases hx1 : x1 = 1
            · subst hx1
              rw [if_pos ⟨rfl, rfl⟩] at hq'
              go_wp2_with fail
              refine (num_spec _ _).mono ?_
              rintro e w10 ⟨rfl, rfl⟩
              clear hA9
              go_wp2
              go_roundw
              case rel => exact ⟨i + 1, m + 1, tk, q', F9, by omega, by go_num, rfl, by go_num, a9, k10, f10, hq', hb'.mono (by omega), by omega, by omega, by omega, hmk9, hsep9, fun h => by rw [Hz.out (by omega)]; exact hq'.atLeast0⟩
              case measure => simp [intOf]; omega
            · rw [if_neg (fun h => hx1 h.2)] at hq'
              have d1 : (x1 == 1) = false := by simpa using hx1
              clear hx1
              go_wp2_with fail
              refine (num_spec _ _).mono ?_
              rintro e w10 ⟨rfl, rfl⟩
              clear hA9
              go_wp2
              go_roundw
              case rel => exact ⟨i + 1, m, tk, q', F9, by omega, rfl, rfl, by go_num, a9, k10, f10, hq', hb'.mono (by omega), by omega, by omega, by omega, hmk9, hsep9, fun h => by rw [Hz.out (by omega)]; exact hq'.atLeast0⟩
              case measure => simp [intOf]; omega
          · rw [if_neg (fun h => hee h.1)] at hq'
            have d1 : (e' == 0) = false := by simpa using hee
            clear hee
            go_wp2_with fail
            refine (num_spec _ _).mono ?_
            rintro e w10 ⟨rfl, rfl⟩
            clear hA9
            go_wp2
            go_roundw
            case rel => exact ⟨i + 1, m, tk, q', F9, by omega, rfl, rfl, by go_num, a9, k10, f10, hq', hb'.mono (by omega), by omega, by omega, by omega, hmk9, hsep9, fun h => by rw [Hz.out (by omega)]; exact hq'.atLeast0⟩
            case measure => simp [intOf]; omega
        · obtain ⟨q', a', v', hq1⟩ : ∃ q' a' v', dqStep q x0 = (q', a', v') := ⟨_, _, _, rfl⟩
          obtain ⟨hs1, hs2⟩ := hq.step (by omega) hq1
          have hb' := hb.step x0
          rw [hq1] at hb'
          have E1 := Lib.hid hq1
          clear hq1 hal hq
          by_cases ha : a' = 2
          · subst ha
            obtain ⟨g1, g2, hnot, hq'⟩ := hs1 rfl
            clear hs1 hs2
            obtain ⟨vn, rfl⟩ := Int.eq_ofNat_of_zero_le (show 0 ≤ v' by omega)
            have hz1 : ¬ ((vn : Int) < 1) := by omega
            have hz2 : (vn : Int) < (m : Int) + 1 := by omega
            refine (step_eq _ E1.out a5 (hb.all (by omega))).mono ?_
            rintro e w9 ⟨rfl, F9, a9, k9, f9⟩
            obtain ⟨k10, f10⟩ := reach_trans k5 f4 k9 f9
            have hmk9 := hmk5.keep k9 hsep
            have hsep9 : gb ∉ F9 := fun h => by
              rcases f9 gb h with h1 | h1
              · exact hsep h1
              · have := hmk5.lt; omega
            have c1 := hmk9.markCell hnot (by omega)
            have c2 := hmk9.frozen vn
            have hmk11 := hmk9.mark hnot
            have a11 := a9.keep ((Keep.refl [gb] w9).setCell (p := ⟨gb, vn, none⟩) (by simp) (.int .i64 1)) (fun x hx => by simp; rintro rfl; exact hsep9 hx)
            have k11 : Keep [] w (w9.setCell ⟨gb, vn, none⟩ (.int .i64 1)) := k10.setCell (Or.inr hgb1) _
            clear a5 k5 f4 k9 f9 hA hmk5 hsep hkA a4 k4 hmk hG hmk9 a9 k10
            go_wp2
            go_roundw
            case rel => exact ⟨i + 1, m, tk ++ [(vn : Int)], q', F9, by omega, rfl, by simp, by go_num, a11, k11, f10, hq', hb'.mono (by omega), by omega, by omega, by have := hq'.tk_le; simpa using this, hmk11, hsep9, fun h => by rw [Hz.out (by omega)]; exact hq'.atLeast0⟩
            case measure => simp [intOf]; omega
          · have hq' := hs2 ha
            have ha' : (a' == 2) = false := by simpa using ha
            clear hs1 hs2 ha
            refine (step_eq _ E1.out a5 (hb.all (by omega))).mono ?_
            rintro e w9 ⟨rfl, F9, a9, k9, f9⟩
            obtain ⟨k10, f10⟩ := reach_trans k5 f4 k9 f9
            have hmk9 := hmk5.keep k9 hsep
            have hsep9 : gb ∉ F9 := fun h => by
              rcases f9 gb h with h1 | h1
              · exact hsep h1
              · have := hmk5.lt; omega
            clear a5 k5 f4 k9 f9 hA hmk5 hsep hkA a4 k4 hmk hG
            go_wp2
            go_roundw
            case rel => exact ⟨i + 1, m, tk, q', F9, by omega, rfl, rfl, by go_num, a9, k10, f10, hq', hb'.mono (by omega), by omega, by omega, htm, hmk9, hsep9, fun h => by rw [Hz.out (by omega)]; exact hq'.atLeast0⟩
            case measure => simp [intOf]; omega
        · go_roundw
          case rel => exact ⟨i + 1, m, tk, q, F', by omega, rfl, rfl, by go_num, a5, k5, f4, hq, hb.mono (by omega), by omega, by omega, htm, hmk5, hsep, fun h => by rw [Hz.out (by omega)]; exact hq.atLeast0⟩
          case measure => simp [intOf]; omega
      · by_cases hlt2 : i < xss.length + 100
        · have hkA : Keep [] wr (wr.alloc (.cells #[.int .i64 ((i : Int) % 16), .int .i64 0, .int .i64 0] 53)) := (Keep.refl _ _).alloc _
          have hA : Blk (wr.alloc (.cells #[.int .i64 ((i : Int) % 16), .int .i64 0, .int .i64 0] 53)) wr.heap.size 53 [.int .i64 ((i : Int) % 16), .int .i64 0, .int .i64 0] := Blk.new' _ _ _ _ rfl
          have a5 := a4.keep hkA (by simp)
          have k5 := k4.trans hkA (by simp)
          have hmk5 := hmk.keep hkA (by simp)
          have hG : wr.heap.size ∉ F' := fun h => by have := a4.lt _ h; omega
          have Hal := Lib.hid hal
          obtain ⟨q', a', v', hq1⟩ : ∃ q' a' v', dqStep q ((i : Int) % 16) = (q', a', v') := ⟨_, _, _, rfl⟩
          obtain ⟨hs1, hs2⟩ := hq.step (by omega) hq1
          have hb' := hb.step ((i : Int) % 16)
          rw [hq1] at hb'
          have hnext : AtLeast q' 0 (mults 16 xss.length (i + 1)) := atLeast_next (hal (by omega)) hq.len (by omega) (by omega) (by omega) (by rw [show ((i % 16 : Nat) : Int) = (i : Int) % 16 from by omega]; exact hq1)
          have E1 := Lib.hid hq1
          clear hq1 hal hq
          by_cases ha : a' = 2
          · subst ha
            obtain ⟨g1, g2, hnot, hq'⟩ := hs1 rfl
            clear hs1 hs2
            obtain ⟨vn, rfl⟩ := Int.eq_ofNat_of_zero_le (show 0 ≤ v' by omega)
            have hz1 : ¬ ((vn : Int) < 1) := by omega
            have hz2 : (vn : Int) < (m : Int) + 1 := by omega
            go_wp2_with fail
            refine (step_eq _ E1.out a5 (hb.all (by omega))).mono ?_
            rintro e w9 ⟨rfl, F9, a9, k9, f9⟩
            obtain ⟨k10, f10⟩ := reach_trans k5 f4 k9 f9
            have hmk9 := hmk5.keep k9 hsep
            have hsep9 : gb ∉ F9 := fun h => by
              rcases f9 gb h with h1 | h1
              · exact hsep h1
              · have := hmk5.lt; omega
            have c1 := hmk9.markCell hnot (by omega)
            have c2 := hmk9.frozen vn
            have hmk11 := hmk9.mark hnot
            have a11 := a9.keep ((Keep.refl [gb] w9).setCell (p := ⟨gb, vn, none⟩) (by simp) (.int .i64 1)) (fun x hx => by simp; rintro rfl; exact hsep9 hx)
            have k11 : Keep [] w (w9.setCell ⟨gb, vn, none⟩ (.int .i64 1)) := k10.setCell (Or.inr hgb1) _
            clear a5 k5 f4 k9 f9 hA hmk5 hsep hkA a4 k4 hmk hG hmk9 a9 k10
            go_wp2
            go_roundw
            case rel => exact ⟨i + 1, m, tk ++ [(vn : Int)], q', F9, by omega, rfl, by simp, by go_num, a11, k11, f10, hq', hb'.mono (by omega), by omega, by omega, by have := hq'.tk_le; simpa using this, hmk11, hsep9, fun _ => hnext⟩
            case measure => simp [intOf]; omega
          · have hq' := hs2 ha
            have ha' : (a' == 2) = false := by simpa using ha
            clear hs1 hs2 ha
            go_wp2_with fail
            refine (step_eq _ E1.out a5 (hb.all (by omega))).mono ?_
            rintro e w9 ⟨rfl, F9, a9, k9, f9⟩
            obtain ⟨k10, f10⟩ := reach_trans k5 f4 k9 f9
            have hmk9 := hmk5.keep k9 hsep
            have hsep9 : gb ∉ F9 := fun h => by
              rcases f9 gb h with h1 | h1
              · exact hsep h1
              · have := hmk5.lt; omega
            clear a5 k5 f4 k9 f9 hA hmk5 hsep hkA a4 k4 hmk hG
            go_wp2
            go_roundw
            case rel => exact ⟨i + 1, m, tk, q', F9, by omega, rfl, rfl, by go_num, a9, k10, f10, hq', hb'.mono (by omega), by omega, by omega, htm, hmk9, hsep9, fun _ => hnext⟩
            case measure => simp [intOf]; omega
        · have hie : i = xss.length + 100 := by omega
          have h5 := hal (by omega)
          rw [hie] at h5
          have hp := hq.fin (h5.mono (by have := mults_end (m := 16) (L := xss.length) (by omega) (by omega); omega))
          have hs := items_spec a4 (hb.tb (by omega))
          obtain ⟨left, hleft⟩ : ∃ l, l = itemsOf q := ⟨_, rfl⟩
          rw [← hleft] at hp hs
          have hlen : m = tk.length + left.length := by have := hp.length_eq; simpa using this
          have Hs := Lib.hid hs
          subst hlen
          have Hp := Lib.hid hp
          clear hleft hie h5 hs hp hal
          go_wp2_with fail
          refine Hs.out.mono ?_
          rintro e w9 ⟨v9, rfl, hown9, k9⟩
          have hmk9 := hmk.keep k9 (by simp)
          have k10 := k4.trans k9 (by simp)
          have HI := Lib.hid (ints_of_own hown9)
          have hl9 := hown9.lt
          have hgb9 := hmk.lt
          obtain ⟨a9, c9, rfl⟩ := own_shape hown9
          clear a4 k4 hmk hown9 k9 hsep
          go_wp2_with fail
          generalize wr = wo at *
          go_loopw [15] (fun v15 wr => ∃ j : Nat, j ≤ left.length ∧ v15 = .int .i64 j ∧ Keep [gb] w9 wr ∧ Blk wr gb 3 ((marks 1000 (tk ++ left.take j)).map (.int .i64))) (fun v _ => left.length - (intOf v).toNat)
          case atStart => exact ⟨0, by omega, rfl, Keep.refl _ _, by simpa using hmk9⟩
          case round =>
            obtain ⟨j, hj, rfl, k11, hmk11⟩ := hrel
            clear hmk9
            by_cases hjl : j < left.length
            · obtain ⟨p1, p2, p3⟩ := perm_each Hp.out hjl
              have hI2 := HI.out.keep k11 (fun x hx hxg => by
                have h1 : x = gb := by simpa using hxg
                have h2 : (Value.slice a9 left.length c9).ownBlock = some x := by
                  cases a9 with
                  | none => simp [sliceBlock] at hx
                  | some ad => simp [sliceBlock] at hx; simp [Value.ownBlock, hx]
                have := hl9 x h2
                omega)
              obtain ⟨b9, off9, rfl, hb9, hca⟩ := hI2.at_ hjl
              have hcell := hca j _ (List.getElem?_eq_getElem hjl)
              have htake : left.take (j + 1) = left.take j ++ [left[j]] := List.take_succ_eq_append_getElem hjl
              obtain ⟨vn, hvn⟩ : ∃ vn : Nat, left[j] = vn := ⟨left[j].toNat, by omega⟩
              rw [hvn] at p1 p2 p3 hcell htake
              have hz1 : ¬ ((vn : Int) < 1) := by omega
              have hz2 : (vn : Int) < (tk.length : Int) + (left.length : Int) + 1 := by omega
              have c1 := hmk11.markCell p3 (by omega)
              have c2 := hmk11.frozen vn
              have hmk12 := hmk11.mark p3
              have k12 : Keep [gb] w9 (wr.setCell ⟨gb, vn, none⟩ (.int .i64 1)) := k11.setCell (Or.inl (by simp)) _
              rw [List.append_assoc, ← htake] at hmk12
              have hvn' : (vn : Int) ≤ 999 := by omega
              clear hca hvn htake p1 p2 p3 hmk11 k11
              go_wp2
              go_roundw
              case rel => exact ⟨j + 1, by omega, by simp, hmk12⟩
              case measure => simp [intOf]; omega
            · go_wp2
              go_ret
              exact ⟨rfl, k10.trans k11 (by simpa using hgb1)⟩
  · go_enter Try.func8, Try.ntmps8
    go_wp2_with fail
    refine (alive_spec _).mono ?_
    rintro e w1 ⟨rfl, k1⟩
    go_wp2
    go_ret
    exact ⟨rfl, k1⟩
theorem walk_dequeOnce {H : Type} {enc : TypeId × Value → H} (W : World) {v0 : Value} {d0 : DataW H} {p0 : List MemPlace} {base : Nat}
    (o0 : Value.okWide Try.prog W .any base 49 v0) (h0 : DataW.Trod enc Try.prog W 0 (fun _ => true) true 49 v0 d0 p0) :
    Calls Try.prog 8 #[v0] W fun e w' => e = .returned (.bool true) ∧ Below W.heap.size W w' := by
  obtain ⟨xss, hxs, hx⟩ := intRows_open Try.underlying49 Try.underlying53 (by kernel_rfl) (by kernel_rfl) (by decide) o0 h0
  exact (dequeOnce_any W v0 xss hxs (fun xs h => (hx xs h).2)).mono fun _ _ ⟨he, hk⟩ => ⟨he, hk.to_below⟩
end Go.Proofs.Ytkeaekckblpfjaa
