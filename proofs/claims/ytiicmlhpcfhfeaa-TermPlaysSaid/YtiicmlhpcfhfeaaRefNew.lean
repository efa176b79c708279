/- The reference term: NewTerm. -/
import Derived.Test.YtiicmlhpcfhfeaaRows
import Derived.WalkKit
import Derived.WalkSpells
import Derived.WalkLawsBesides
import Derived.RegionTactic
import Derived.ChangeAlike
import Derived.BigQuiet
import Derived.Deep.QuietTactic
import Derived.StillTailTactics
import Derived.IntWalk
import Derived.Handy
import Derived.Lib.Hide
import Derived.Deep.AppendLies
import Derived.Deep.RegionWith
import Derived.Test.YtiicmlhpcfhfeaaBase
import Derived.Test.YtiicmlhpcfhfeaaTail
import Derived.Test.YtiicmlhpcfhfeaaArgs
import Derived.Test.YtiicmlhpcfhfeaaAppend
import Derived.Deep.RegionLaw
import Derived.Test.YtiicmlhpcfhfeaaOffs
import Derived.Test.YtiicmlhpcfhfeaaStructs
import Derived.Test.YtiicmlhpcfhfeaaSplit
import Derived.Test.YtiicmlhpcfhfeaaTermObj
import Derived.Test.YtiicmlhpcfhfeaaTermRead
import Derived.Test.YtiicmlhpcfhfeaaTermSettle
import Derived.Test.YtiicmlhpcfhfeaaTermSettle2
import Derived.Test.YtiicmlhpcfhfeaaTermDel
import Derived.Test.YtiicmlhpcfhfeaaTermSend
import Derived.Test.YtiicmlhpcfhfeaaTermDeliver
import Derived.Test.YtiicmlhpcfhfeaaTermNew2
import Derived.Test.YtiicmlhpcfhfeaaTermAlive
import Derived.Test.YtiicmlhpcfhfeaaTermInv2
import Derived.Test.YtiicmlhpcfhfeaaRefTerm
import Derived.Test.YtiicmlhpcfhfeaaRefSettle
import Derived.Test.YtiicmlhpcfhfeaaRefSend
import Derived.Deep.CutRange
import Derived.Deep.DeepCutAuto
import Derived.Test.YtiicmlhpcfhfeaaRefDeliver
import Derived.Laws.MakeOwn
namespace Go.Proofs.Ytiicmlhpcfhfeaa
open Go.RowKit
def boolC (n : Nat) : List Value := List.replicate n (.bool false)
def intC (n : Nat) : List Value := List.replicate n (.int .i64 0)
theorem Try.info4 : (Try.prog.info? 4).map (fun i => (i.zero, i.size, i.bytes)) = some (some (.bool false), 1, 1) := by kernel_rfl
theorem Try.info3 : (Try.prog.info? 3).map (fun i => (i.zero, i.size, i.bytes)) = some (some (.int .i64 0), 1, 8) := by kernel_rfl
theorem run_make_boolsN (n : Nat) (hn : n ≤ 65536) (w : World) :
    (Instr.makeSlice 40 (.int .i64 n) (.int .i64 n)).run Try.prog w = .ok (.slice (some ⟨w.heap.size, 0, none⟩) n n) (w.alloc (.cells (boolC n).toArray 4)) := by
  obtain ⟨i0, hi, hz0, hz1, hz2⟩ := info_parts Try.info4
  have := run_make (P := Try.prog) w 40 4 i0 _ Try.underlying40 hi hz0 .i64 .i64 n n (by omega) (Int.le_refl _) (by rw [hz2]; omega) (by omega)
  rw [this, hz1]
  have e : madeCells (Value.bool false).cells ((n : Int).toNat * 1) = (boolC n).toArray := by
    apply Array.toList_inj.1
    rw [show (Value.bool false).cells = #[.bool false] from rfl, toList_madeCells_one]
    simp [boolC]
  rw [e]
  simp
theorem run_make_intsN (n : Nat) (hn : n ≤ 65536) (w : World) :
    (Instr.makeSlice 23 (.int .i64 n) (.int .i64 n)).run Try.prog w = .ok (.slice (some ⟨w.heap.size, 0, none⟩) n n) (w.alloc (.cells (intC n).toArray 3)) := by
  obtain ⟨i0, hi, hz0, hz1, hz2⟩ := info_parts Try.info3
  have := run_make (P := Try.prog) w 23 3 i0 _ Try.underlying23 hi hz0 .i64 .i64 n n (by omega) (Int.le_refl _) (by rw [hz2]; omega) (by omega)
  rw [this, hz1]
  have e : madeCells (Value.int .i64 0).cells ((n : Int).toNat * 1) = (intC n).toArray := by
    apply Array.toList_inj.1
    rw [show (Value.int .i64 0).cells = #[.int .i64 0] from rfl, toList_madeCells_one]
    simp [intC]
  rw [e]
  simp
def NewRPost (w : World) (q : TM) (e : Ending) (w' : World) : Prop := ∃ p F, e = .returned (.pointer (some ⟨p, 0, none⟩)) ∧ RefAt w' w.heap.size p F q ∧ Keep [] w w'
theorem blk_at {w : World} {arr : Array Value} {t : TypeId} {cs : List Value} {k : Nat} (hk : w.heap.size = k) (ha : arr = cs.toArray) : Blk (w.alloc (.cells arr t)) k t cs := by
  subst hk
  exact Blk.new' _ _ _ _ (by rw [ha])
structure MadeR (B : Nat) (w : World) (p ga go gu N : Nat) : Prop where
  head : Blk w p 42 [.slice (some ⟨ga, 0, none⟩) N N, .slice (some ⟨go, 0, none⟩) N N, .slice (some ⟨gu, 0, none⟩) N N, .slice none 0 0]
  act : Blk w ga 4 (boolC N)
  owe : Blk w go 3 (intC N)
  up : Blk w gu 3 (intC N)
  ne : go ≠ gu
  base : B ≤ p ∧ B ≤ ga ∧ B ≤ go ∧ B ≤ gu
theorem MadeR.ref {B : Nat} {w : World} {p ga go gu N : Nat} (h : MadeR B w p ga go gu N) : RefIn w B p ga go gu (.slice none 0 0) ⟨List.replicate N (0, false, 0), []⟩ :=
  ⟨by simpa using h.head, by simpa [boolC] using h.act, by simpa [intC] using h.owe, by simpa [intC] using h.up, OwnsAt.nil _ _ _ _, h.ne, h.base⟩
/-- the nodes: i of them hang on nobody -/
def newCut (N i : Nat) : List Nd := (List.range N).map fun j => (0, decide (j = 0), if j < i then -1 else 0)
theorem newCut_len (N i : Nat) : (newCut N i).length = N := by simp [newCut]
theorem newCut_zero {N : Nat} : (List.replicate N ((0, false, 0) : Nd)).set 0 (0, true, 0) = newCut N 0 := by
  apply List.ext_getElem?
  intro j
  by_cases hj : j < N
  · unfold newCut
    rw [List.getElem?_map, List.getElem?_range hj]
    by_cases h0 : j = 0
    · subst h0
      rw [List.getElem?_set_self (by simpa using hj)]
      simp
    · rw [List.getElem?_set_ne (fun e => h0 e.symm), List.getElem?_replicate, if_pos hj]
      simp [h0]
  · rw [List.getElem?_eq_none (by simp; omega), List.getElem?_eq_none (by rw [newCut_len]; omega)]
theorem newCut_step {N i : Nat} {x : Nd} (h : (newCut N i)[i]? = some x) : (newCut N i).set i (x.1, x.2.1, -1) = newCut N (i + 1) := by
  have hi := lt_of_get h
  rw [newCut_len] at hi
  apply List.ext_getElem?
  intro j
  by_cases hj : j < N
  · by_cases hji : i = j
    · subst hji
      rw [List.getElem?_set_self (by rw [newCut_len]; exact hi)]
      unfold newCut at h ⊢
      rw [List.getElem?_map, List.getElem?_range hj] at h ⊢
      simp at h
      subst h
      simp
    · rw [List.getElem?_set_ne hji]
      unfold newCut
      rw [List.getElem?_map, List.getElem?_map, List.getElem?_range hj]
      simp only [Option.map_some]
      have e : (if j < i then (-1 : Int) else 0) = if j < i + 1 then -1 else 0 := by
        split <;> split <;> first | rfl | omega
      rw [e]
  · rw [List.getElem?_eq_none (by simp [newCut_len]; omega), List.getElem?_eq_none (by rw [newCut_len]; omega)]
theorem newCut_all {N : Nat} (h : 1 ≤ N) : newCut N N = (0, true, -1) :: List.replicate (N - 1) (0, false, -1) := by
  obtain ⟨m, rfl⟩ : ∃ m, N = m + 1 := ⟨N - 1, by omega⟩
  apply List.ext_getElem?
  intro j
  by_cases hj : j < m + 1
  · unfold newCut
    rw [List.getElem?_map, List.getElem?_range hj]
    cases j with
    | zero => simp
    | succ j =>
      simp only [Option.map_some, List.getElem?_cons_succ, Nat.add_sub_cancel]
      rw [if_pos hj, List.getElem?_replicate, if_pos (by omega)]
      simp
  · rw [List.getElem?_eq_none (by rw [newCut_len]; omega), List.getElem?_eq_none (by simp; omega)]
set_option maxHeartbeats 4000000 in
set_option maxRecDepth 100000 in
theorem newR_spec (w : World) (n : Int) : Calls Try.prog 18 #[.int .i64 n] w (NewRPost w (newN n)) := by
  have hN := cutN_eq n
  have hN1 : 1 ≤ cutN n ∧ cutN n ≤ 16 := by omega
  have hq : newN n = ⟨(0, true, -1) :: List.replicate (cutN n - 1) (0, false, -1), []⟩ := rfl
  rw [hq]
  generalize cutN n = N at *
  clear hq
  go_enter Try.func18, Try.ntmps18
  go_upto_if 6 with fail
  go_cut [0] from 7 (fun v0 wx => v0 = .int .i64 (max 1 n) ∧ wx = w)
  case first =>
    by_cases h : n < 1
    · go_wp2
      go_meet
      case rel => exact ⟨by congr 1; omega, rfl⟩
    · go_wp2
      go_meet
      case rel => exact ⟨by congr 1; omega, rfl⟩
  case rest =>
    obtain ⟨rfl, rfl⟩ := hcut
    go_upto_if 8 with fail
    go_cut [0] from 9 (fun v0 wx => v0 = .int .i64 (N : Int) ∧ wx = wc)
    case first =>
      by_cases h : 16 < max 1 n
      · go_wp2
        go_meet
        case rel => exact ⟨by congr 1; omega, rfl⟩
      · go_wp2
        go_meet
        case rel => exact ⟨by congr 1; omega, rfl⟩
    case rest =>
      obtain ⟨rfl, rfl⟩ := hcut
      clear hN
      obtain ⟨hN1, hN2⟩ := hN1
      have hN3 : (N : Int) ≤ 16 := by omega
      have hmb := fun w => run_make_boolsN N (by omega) w
      have hmi := fun w => run_make_intsN N (by omega) w
      go_upto_region 5 with fail
      obtain ⟨w0, hw0⟩ : ∃ w0, w0 = wc := ⟨_, rfl⟩
      subst hw0
      go_cut [3] from 9 (fun v3 wx => ∃ p ga go gu, v3 = .pointer (some ⟨p, 0, none⟩) ∧ MadeR w0.heap.size wx p ga go gu N ∧ Keep [] w0 wx)
      case first =>
        go_region
        all_goals
          clear hmb hmi
          go_wp2_with fail
          go_meet
          case rel =>
            refine ⟨_, _, _, _, rfl, ⟨(blk_at (by simp) rfl).drew, ?_, ?_, ?_, by omega, ⟨by omega, by omega, by omega, by omega⟩⟩, ((((Keep.refl _ _).alloc _).alloc _).alloc _).alloc _ |>.drew⟩
            · first
              | (refine ((((blk_at ?_ rfl).alloc _).alloc _).alloc _).drew; simp; done)
              | (refine (((blk_at ?_ rfl).alloc _).alloc _).drew; simp; done)
              | (refine ((blk_at ?_ rfl).alloc _).drew; simp; done)
            · first
              | (refine ((((blk_at ?_ rfl).alloc _).alloc _).alloc _).drew; simp; done)
              | (refine (((blk_at ?_ rfl).alloc _).alloc _).drew; simp; done)
              | (refine ((blk_at ?_ rfl).alloc _).drew; simp; done)
            · first
              | (refine ((((blk_at ?_ rfl).alloc _).alloc _).alloc _).drew; simp; done)
              | (refine (((blk_at ?_ rfl).alloc _).alloc _).drew; simp; done)
              | (refine ((blk_at ?_ rfl).alloc _).drew; simp; done)
      case rest =>
        obtain ⟨p, ga, go, gu, rfl, h, hk⟩ := hcut
        have h := h.ref
        have hx : (List.replicate N ((0, false, 0) : Nd))[0]? = some (0, false, 0) := by rw [List.getElem?_replicate]; simp; omega
        have c0 := h.head.cell 0
        have e0 := (h.at_ (q := ⟨List.replicate N (0, false, 0), []⟩) hx).1
        have f0 := h.act.frozen 0
        simp only [List.length_replicate] at c0
        have hN4 : (0 : Int) < (N : Int) := by omega
        obtain ⟨t1, t2⟩ := RefIn.setAct (q := ⟨List.replicate N (0, false, 0), []⟩) h hx true
        have hlt := RefAt.lt ⟨_, _, _, _, h, rfl⟩
        have K1 := Lib.hid (hk.trans t2 (fun y hy => Or.inr (hlt y hy).1))
        have e1 : (List.replicate N ((0, false, 0) : Nd)).set 0 (0, true, 0) = newCut N 0 := newCut_zero
        rw [e1] at t1
        have T1 := Lib.hid t1
        clear t1 t2 hk h hx e1 hmb hmi
        go_wp2_with fail
        clear e0 f0 c0
        go_loopw [4] (fun v4 wr => ∃ i : Nat, i ≤ N ∧ v4 = .int .i64 i ∧ RefIn wr w0.heap.size p ga go gu (.slice none 0 0) ⟨newCut N i, []⟩ ∧ Keep [] w0 wr) (fun v _ => N - (intOf v).toNat)
        case atStart => exact ⟨0, by omega, rfl, T1.out, K1.out⟩
        case round =>
          clear T1 K1
          obtain ⟨i, hi, rfl, h, hk⟩ := hrel
          have c2 := h.head.cell 2
          simp only [newCut_len] at c2
          by_cases hlt : i < N
          · obtain ⟨x, hx⟩ : ∃ x, (newCut N i)[i]? = some x := ⟨_, List.getElem?_eq_getElem (by rw [newCut_len]; exact hlt)⟩
            have e2 := (h.at_ (q := ⟨newCut N i, []⟩) hx).2.2
            have f2 := h.up.frozen i
            have hltI : (i : Int) < (N : Int) := by omega
            obtain ⟨t1, t2⟩ := RefIn.setUp (q := ⟨newCut N i, []⟩) h hx (-1)
            simp only [newCut_step hx] at t1
            have hlt2 := RefAt.lt ⟨_, _, _, _, h, rfl⟩
            have K1 := Lib.hid (hk.trans t2 (fun y hy => Or.inr (hlt2 y hy).1))
            have T1 := Lib.hid t1
            clear t1 t2 hk h hx hlt2
            go_wp2_with fail
            go_roundw
            case rel => exact ⟨i + 1, by omega, by go_num, T1.out, K1.out⟩
            case measure => simp [intOf]; omega
          · obtain rfl : N = i := by omega
            rw [newCut_all hN1] at h
            have Hfin := Lib.hid (show NewRPost w0 ⟨(0, true, -1) :: List.replicate (N - 1) (0, false, -1), []⟩ (.returned (.pointer (some ⟨p, 0, none⟩))) wr from ⟨p, _, rfl, ⟨_, _, _, _, h, rfl⟩, hk⟩)
            clear h hk
            go_wp2
            go_ret
            exact Hfin.out
end Go.Proofs.Ytiicmlhpcfhfeaa
