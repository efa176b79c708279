/- Terms: New, Way. -/
import Derived.Test.YtiicmlhpcfhfeaaRows
import Derived.WalkKit
import Derived.WalkSpells
import Derived.WalkLawsBesides
import Derived.RegionTactic
import Derived.ChangeAlike
import Derived.BigQuiet
import Derived.Deep.QuietTactic
import Derived.StillTailTactics
import Derived.IntWalk
import Derived.Handy
import Derived.Lib.Hide
import Derived.Deep.AppendLies
import Derived.Deep.RegionWith
import Derived.Test.YtiicmlhpcfhfeaaBase
import Derived.Test.YtiicmlhpcfhfeaaTail
import Derived.Test.YtiicmlhpcfhfeaaArgs
import Derived.Test.YtiicmlhpcfhfeaaAppend
import Derived.Deep.RegionLaw
import Derived.Test.YtiicmlhpcfhfeaaOffs
import Derived.Test.YtiicmlhpcfhfeaaStructs
import Derived.Test.YtiicmlhpcfhfeaaSplit
import Derived.Test.YtiicmlhpcfhfeaaTermObj
import Derived.Test.YtiicmlhpcfhfeaaTermRead
import Derived.Test.YtiicmlhpcfhfeaaTermSettle
import Derived.Test.YtiicmlhpcfhfeaaTermSettle2
import Derived.Test.YtiicmlhpcfhfeaaTermDel
import Derived.Test.YtiicmlhpcfhfeaaTermSend
import Derived.Test.YtiicmlhpcfhfeaaTermDeliver
namespace Go.Proofs.Ytiicmlhpcfhfeaa
open Go.RowKit
def OwnPost (w : World) (n : Nat) (xs : List Value) (e : Ending) (w' : World) : Prop := ∃ v, e = .returned v ∧ OwnsAt w' w.heap.size 44 3 v n xs ∧ Keep [] w w'
theorem src_own {w : World} {B : Nat} {e : TypeId} {size n : Nat} {v : Value} {xs : List Value} (h : OwnsAt w B e size v n xs) : SrcOf w v size n xs := by
  obtain ⟨a, c, rfl⟩ := h.shape
  refine ⟨a, c, rfl, h.1, fun hne => ?_⟩
  have hn : 0 < n := by
    rcases Nat.eq_zero_or_pos n with h0 | h0
    · subst h0
      have := h.1
      simp at this
      exact absurd this hne
    · exact h0
  obtain ⟨g, off, cap, hv, _, _, _, _, h5⟩ := h.form hn
  injection hv with e1 _ _
  subst e1
  exact ⟨_, rfl, fun j u hu => by rw [add_none]; exact h5 j u hu⟩
theorem sg_one (l : List Sg) : ∀ u ∈ l.flatMap sgC, u.oneCell' = true := by
  intro u hu
  rw [List.mem_flatMap] at hu
  obtain ⟨s, _, hu⟩ := hu
  simp only [sgC, List.mem_cons, List.not_mem_nil, or_false] at hu
  rcases hu with rfl | rfl | rfl <;> rfl
set_option maxHeartbeats 1000000 in
theorem clone_spec {w : World} {B n : Nat} {v : Value} {l : List Sg} (h : OwnsAt w B 44 3 v n (l.flatMap sgC)) (hl : n ≤ 1000000000) : Calls Try.prog 27 #[v] w (OwnPost w n (l.flatMap sgC)) := by
  have H := Lib.hid h
  obtain ⟨a, c, rfl⟩ := h.shape
  have hnil := fun w => Lib.run_eql_slice_nil (P := Try.prog) w 31 44 a n c 0 0 Try.underlying31
  cases a with
  | none =>
    have hb : n = 0 ∧ l.flatMap sgC = [] := by
      rcases h.2 with ⟨h0, hn⟩ | ⟨g, off, cap, cur, hv, _⟩
      · exact ⟨hn, List.eq_nil_of_length_eq_zero (by rw [h.1, hn])⟩
      · cases hv
    rw [hb.2]
    obtain ⟨rfl, _⟩ := hb
    have hnil : ∀ w, (binOp .eql 31 (.slice none 0 c) (.slice none 0 0)).run Try.prog w = .ok (.bool true) w := fun w => Lib.run_eql_slice_nil (P := Try.prog) w 31 44 none 0 c 0 0 Try.underlying31
    clear h
    go_enter Try.func27, Try.ntmps27
    go_wp2
    go_ret
    exact ⟨_, rfl, OwnsAt.nil _ _ _ _, Keep.refl _ _⟩
  | some ad =>
    clear h
    have hown : OwnsAt (w.alloc (.cells #[] 44)) w.heap.size 44 3 (.slice (some ⟨w.heap.size, 0, none⟩) 0 0) 0 [] := ⟨rfl, Or.inr ⟨w.heap.size, 0, 0, #[], rfl, Nat.le_refl _, heap_alloc_new w _, Nat.le_refl _, Nat.zero_le _, Nat.le_refl _, rfl⟩⟩
    have hk : Keep [] w (w.alloc (.cells #[] 44)) := (Keep.refl _ _).alloc _
    have hsrc := src_own (H.out.keep hk (by simp))
    go_enter Try.func27, Try.ntmps27
    go_wp2_with (at_builtin; refine wpList_append_off rfl _ _ rfl Try.sgs31 w.heap.size _ 0 _ rfl hown _ _ _ rfl hsrc (sg_one _) (by unfold maxLen; omega) (by omega) (by simp) ?_)
    intro v' w2 hown2 hk2 hblk
    have hown3 : OwnsAt w2 w.heap.size 44 3 v' n (l.flatMap sgC) := by simpa using hown2
    have hk3 : Keep [] w w2 := hk.trans hk2 (by simp [ownBlocks, Value.ownBlock])
    obtain ⟨a', c', rfl⟩ := OwnsAt.shape hown3
    clear hown hsrc hk hk2 hblk hown2
    go_wp2
    go_ret
    exact ⟨_, rfl, hown3, hk3⟩
set_option maxHeartbeats 1000000 in
theorem way_spec {w : World} {B p : Nat} {F : List Nat} {q : TM} (h : TermAt w B p F q) (hwl : q.way.length ≤ 1000000000) : Calls Try.prog 13 #[.pointer (some ⟨p, 0, none⟩)] w (OwnPost w q.way.length (q.way.flatMap sgC)) := by
  obtain ⟨vn, vw, h, rfl⟩ := h
  obtain ⟨a, c, rfl⟩ := h.way.shape
  have c1 : w.cell? ⟨p, 1, none⟩ = some (.slice a q.way.length c) := h.head.cell 1
  have hcl := clone_spec h.way hwl
  have Hcl := Lib.hid hcl
  clear hcl h
  go_enter Try.func13, Try.ntmps13
  go_wp2_with fail
  refine Hcl.out.mono ?_
  rintro e w1 ⟨v, rfl, h1, hk⟩
  obtain ⟨a', c', rfl⟩ := h1.shape
  go_wp2
  go_ret
  exact ⟨_, rfl, h1, hk⟩
/-- one node more -/
theorem TermIn.postN {w w1 w2 : World} {B p : Nat} {vn vw vn' : Value} {q : TM} {s : Nd} (h : TermIn w B p vn vw q) (k1 : Keep [] w w1) (k2 : Keep (ownBlocks vn) w1 w2) (hr : OwnsAt w2 B 51 3 vn' (q.nodes.length + 1) (q.nodes.flatMap ndC ++ ndC s)) :
    TermIn (w2.setCell ⟨p, 0, none⟩ vn') B p vn' vw ⟨q.nodes ++ [s], q.way⟩ ∧ Keep (termFoot p vn vw) w (w2.setCell ⟨p, 0, none⟩ vn') := by
  have hpw : p ∉ ownBlocks vn := fun hx => h.nodes.ne_blk h.head (by decide) (mem_own.1 hx)
  have hd2 : Blk w2 p 47 [vn, vw] := (h.head.keep k1 (by simp)).keep k2 hpw
  have k3 : Keep [p] w2 (w2.setCell ⟨p, 0, none⟩ vn') := (Keep.refl _ _).setCell (by simp) _
  have hp' : vn'.ownBlock ≠ some p := hr.ne_blk hd2 (by decide)
  have hn2 : OwnsAt w2 B 44 3 vw q.way.length (q.way.flatMap sgC) := (h.way.keep k1 (by simp)).keep k2 (fun g hg hx => h.way.ne_own h.nodes (by decide) g hg (mem_own.1 hx))
  refine ⟨⟨hd2.set_ 0 _, ?_, hn2.keep k3 (fun g hg hx => ?_), h.base⟩, ?_⟩
  · have h1 := hr.keep k3 (fun g hg hx => hp' ((show g = p by simpa using hx) ▸ hg))
    simpa using h1
  · have : g = p := by simpa using hx
    subst this
    exact hn2.ne_blk hd2 (by decide) hg
  · have a1 : Keep (termFoot p vn vw) w w2 := (k1.mono (T := termFoot p vn vw) (by simp)).trans k2 (fun x hx => Or.inl (by simp only [termFoot, List.mem_cons, List.mem_append]; exact Or.inr (Or.inl hx)))
    exact a1.trans k3 (fun x hx => Or.inl (by simp at hx; subst hx; simp [termFoot]))
theorem TermIn.lt' {w : World} {B p : Nat} {vn vw : Value} {q : TM} (h : TermIn w B p vn vw q) : ∀ x ∈ termFoot p vn vw, B ≤ x ∧ x < w.heap.size := TermAt.lt ⟨vn, vw, h, rfl⟩
def NewPost (w : World) (q : TM) (e : Ending) (w' : World) : Prop := ∃ p F, e = .returned (.pointer (some ⟨p, 0, none⟩)) ∧ TermAt w' w.heap.size p F q ∧ Keep [] w w'
/-- how many nodes there are -/
def cutN (n : Int) : Nat := (min (max 1 n) 16).toNat
theorem cutN_eq (n : Int) : ((cutN n : Nat) : Int) = min (max 1 n) 16 := by unfold cutN; omega
set_option maxHeartbeats 4000000 in
theorem new_spec (w : World) (n : Int) : Calls Try.prog 9 #[.int .i64 n] w (NewPost w (newN n)) := by
  have hN := cutN_eq n
  have hN1 : 1 ≤ cutN n ∧ cutN n ≤ 16 := by omega
  have hq : newN n = ⟨(0, true, -1) :: List.replicate (cutN n - 1) (0, false, -1), []⟩ := rfl
  rw [hq]
  generalize cutN n = N at *
  rcases (show n < 1 ∨ n = 1 ∨ (1 < n ∧ n < 16) ∨ n = 16 ∨ 16 < n by omega) with h | h | ⟨h, h'⟩ | h | h
  · have hN : (N : Int) = 1 := by omega
    clear hq
    go_enter Try.func9, Try.ntmps9
    go_wp2_with fail
    go_loopw [9] (fun v9 wr => ∃ (i : Nat) (F' : List Nat), i ≤ N ∧ v9 = .int .i64 i ∧ TermAt wr w.heap.size w.heap.size F' ⟨List.replicate i (0, false, -1), []⟩ ∧ Keep [] w wr) (fun v _ => N - (intOf v).toNat)
    case atStart =>
      refine ⟨0, _, by omega, rfl, ⟨_, _, ⟨Blk.new' _ _ _ _ rfl, OwnsAt.nil _ _ _ _, OwnsAt.nil _ _ _ _, Nat.le_refl _⟩, rfl⟩, (Keep.refl _ _).alloc _⟩
    case round =>
      obtain ⟨i, F', hi, rfl, ⟨vn, vw, hat, rfl⟩, hk⟩ := hrel
      obtain ⟨an, cn, rfl⟩ := hat.nodes.shape
      have c0 : wr.cell? ⟨w.heap.size, 0, none⟩ = some (.slice an (List.replicate i ((0, false, -1) : Nd)).length cn) := hat.head.cell 0
      rw [List.length_replicate] at c0
      have hp := hat.head.lt
      have hrows := hat.nodes
      simp only [List.length_replicate] at hrows
      have Hat := Lib.hid hat
      clear hat
      by_cases hlt : i < N
      · have hltI : (i : Int) < (N : Int) := by omega
        rw [hN] at hltI
        have hrowsA := hrows.keep ((Keep.refl [] wr).alloc (.cells #[.int .i64 0, .bool false, .int .i64 (-1)] 51)) (by simp)
        clear hrows
        go_wp2_with (at_builtin; refine wpList_append_off rfl _ _ rfl Try.nds45 w.heap.size (.slice an i cn) i _ rfl hrowsA _ 1 _ rfl (src_row 3 rfl _ rfl) (by simp [Value.oneCell']) (by unfold maxLen; omega) (by omega) (by have := hk.size; simp; omega) ?_)
        intro v' w4 hown4 hk4 hat4
        obtain ⟨g1, g2⟩ := TermIn.postN (s := (0, false, -1)) Hat.out ((Keep.refl [] _).alloc (.cells #[.int .i64 0, .bool false, .int .i64 (-1)] 51)) (vn' := v') (by simpa using hk4) (by simpa [ndC] using hown4)
        have hp4 : w.heap.size ∉ ownBlocks (.slice an i cn) := (fun hx => Hat.out.nodes.ne_blk Hat.out.head (by decide) (mem_own.1 (by cases an <;> exact hx)))
        have hd4 := (Hat.out.head.alloc (.cells #[.int .i64 0, .bool false, .int .i64 (-1)] 51)).keep hk4 hp4
        have f5 : w4.frozen? ⟨w.heap.size, 0, none⟩ = false := hd4.frozen 0
        have c5 := hd4.cell 0
        simp only [List.length_replicate] at c5
        have c5 : w4.cell? ⟨w.heap.size, 0, none⟩ = some (.slice an i cn) := c5
        obtain ⟨a7, c7', rfl⟩ := hown4.shape
        have hk5 := hk.trans g2 (fun x hx => Or.inr (by
          have := Hat.out.lt' x hx
          omega))
        have G1 := Lib.hid g1
        clear hown4 hk4 hat4 hrowsA g1 g2 hd4 hk
        go_wp2
        go_roundw
        case rel => exact ⟨i + 1, _, by omega, by go_num, ⟨_, _, by rw [List.replicate_succ']; exact G1.out, rfl⟩, hk5⟩
        case measure => simp [intOf]; omega
      · obtain rfl : N = i := by omega
        have hx : (List.replicate N ((0, false, -1) : Nd))[0]? = some (0, false, -1) := by rw [List.getElem?_replicate, if_pos (by omega)]
        obtain ⟨g, off, rfl, _, hg2, hcells, hcap, hfr⟩ := hrows.rowAt ndC_len hx (by omega)
        have e1 : wr.cell? ⟨g, off + 1, none⟩ = some (.bool false) := by simpa using hcells 1 _ (by omega) rfl
        have fr := hfr (off + 1)
        have H2 : TermIn wr w.heap.size w.heap.size (.slice (some ⟨g, off, none⟩) (List.replicate N ((0, false, -1) : Nd)).length cn) vw ⟨List.replicate N (0, false, -1), []⟩ := Hat.out
        obtain ⟨t1, t2⟩ := TermIn.turn0 (q := ⟨List.replicate N (0, false, -1), []⟩) H2 hx 1 (by omega) (.bool true) (0, true, -1) rfl
        have hl : (List.replicate N ((0, false, -1) : Nd)).set 0 (0, true, -1) = (0, true, -1) :: List.replicate (N - 1) (0, false, -1) := by
          obtain ⟨m, hm⟩ : ∃ m, N = m + 1 := ⟨N - 1, by omega⟩
          rw [hm]
          rfl
        rw [show off + 0 * 3 + 1 = off + 1 by omega] at t1 t2
        simp only at t1
        rw [hl] at t1
        have hfin : NewPost w ⟨(0, true, -1) :: List.replicate (N - 1) (0, false, -1), []⟩ (.returned (.pointer (some ⟨w.heap.size, 0, none⟩))) (wr.setCell ⟨g, off + 1, none⟩ (.bool true)) :=
          ⟨_, _, rfl, ⟨_, _, t1, rfl⟩, hk.trans t2 (fun x hx => Or.inr (H2.lt' x hx).1)⟩
        have Hfin := Lib.hid hfin
        have hN0 : (0 : Int) < ((N : Nat) : Int) := by omega
        clear hfin t1 t2 hcells hfr hx H2 hrows
        go_wp2
        go_ret
        exact Hfin.out
  · have hN : (N : Int) = 1 := by omega
    subst h
    clear hq
    go_enter Try.func9, Try.ntmps9
    go_wp2_with fail
    go_loopw [9] (fun v9 wr => ∃ (i : Nat) (F' : List Nat), i ≤ N ∧ v9 = .int .i64 i ∧ TermAt wr w.heap.size w.heap.size F' ⟨List.replicate i (0, false, -1), []⟩ ∧ Keep [] w wr) (fun v _ => N - (intOf v).toNat)
    case atStart =>
      refine ⟨0, _, by omega, rfl, ⟨_, _, ⟨Blk.new' _ _ _ _ rfl, OwnsAt.nil _ _ _ _, OwnsAt.nil _ _ _ _, Nat.le_refl _⟩, rfl⟩, (Keep.refl _ _).alloc _⟩
    case round =>
      obtain ⟨i, F', hi, rfl, ⟨vn, vw, hat, rfl⟩, hk⟩ := hrel
      obtain ⟨an, cn, rfl⟩ := hat.nodes.shape
      have c0 : wr.cell? ⟨w.heap.size, 0, none⟩ = some (.slice an (List.replicate i ((0, false, -1) : Nd)).length cn) := hat.head.cell 0
      rw [List.length_replicate] at c0
      have hp := hat.head.lt
      have hrows := hat.nodes
      simp only [List.length_replicate] at hrows
      have Hat := Lib.hid hat
      clear hat
      by_cases hlt : i < N
      · have hltI : (i : Int) < (N : Int) := by omega
        rw [hN] at hltI
        have hrowsA := hrows.keep ((Keep.refl [] wr).alloc (.cells #[.int .i64 0, .bool false, .int .i64 (-1)] 51)) (by simp)
        clear hrows
        go_wp2_with (at_builtin; refine wpList_append_off rfl _ _ rfl Try.nds45 w.heap.size (.slice an i cn) i _ rfl hrowsA _ 1 _ rfl (src_row 3 rfl _ rfl) (by simp [Value.oneCell']) (by unfold maxLen; omega) (by omega) (by have := hk.size; simp; omega) ?_)
        intro v' w4 hown4 hk4 hat4
        obtain ⟨g1, g2⟩ := TermIn.postN (s := (0, false, -1)) Hat.out ((Keep.refl [] _).alloc (.cells #[.int .i64 0, .bool false, .int .i64 (-1)] 51)) (vn' := v') (by simpa using hk4) (by simpa [ndC] using hown4)
        have hp4 : w.heap.size ∉ ownBlocks (.slice an i cn) := (fun hx => Hat.out.nodes.ne_blk Hat.out.head (by decide) (mem_own.1 (by cases an <;> exact hx)))
        have hd4 := (Hat.out.head.alloc (.cells #[.int .i64 0, .bool false, .int .i64 (-1)] 51)).keep hk4 hp4
        have f5 : w4.frozen? ⟨w.heap.size, 0, none⟩ = false := hd4.frozen 0
        have c5 := hd4.cell 0
        simp only [List.length_replicate] at c5
        have c5 : w4.cell? ⟨w.heap.size, 0, none⟩ = some (.slice an i cn) := c5
        obtain ⟨a7, c7', rfl⟩ := hown4.shape
        have hk5 := hk.trans g2 (fun x hx => Or.inr (by
          have := Hat.out.lt' x hx
          omega))
        have G1 := Lib.hid g1
        clear hown4 hk4 hat4 hrowsA g1 g2 hd4 hk
        go_wp2
        go_roundw
        case rel => exact ⟨i + 1, _, by omega, by go_num, ⟨_, _, by rw [List.replicate_succ']; exact G1.out, rfl⟩, hk5⟩
        case measure => simp [intOf]; omega
      · obtain rfl : N = i := by omega
        have hx : (List.replicate N ((0, false, -1) : Nd))[0]? = some (0, false, -1) := by rw [List.getElem?_replicate, if_pos (by omega)]
        obtain ⟨g, off, rfl, _, hg2, hcells, hcap, hfr⟩ := hrows.rowAt ndC_len hx (by omega)
        have e1 : wr.cell? ⟨g, off + 1, none⟩ = some (.bool false) := by simpa using hcells 1 _ (by omega) rfl
        have fr := hfr (off + 1)
        have H2 : TermIn wr w.heap.size w.heap.size (.slice (some ⟨g, off, none⟩) (List.replicate N ((0, false, -1) : Nd)).length cn) vw ⟨List.replicate N (0, false, -1), []⟩ := Hat.out
        obtain ⟨t1, t2⟩ := TermIn.turn0 (q := ⟨List.replicate N (0, false, -1), []⟩) H2 hx 1 (by omega) (.bool true) (0, true, -1) rfl
        have hl : (List.replicate N ((0, false, -1) : Nd)).set 0 (0, true, -1) = (0, true, -1) :: List.replicate (N - 1) (0, false, -1) := by
          obtain ⟨m, hm⟩ : ∃ m, N = m + 1 := ⟨N - 1, by omega⟩
          rw [hm]
          rfl
        rw [show off + 0 * 3 + 1 = off + 1 by omega] at t1 t2
        simp only at t1
        rw [hl] at t1
        have hfin : NewPost w ⟨(0, true, -1) :: List.replicate (N - 1) (0, false, -1), []⟩ (.returned (.pointer (some ⟨w.heap.size, 0, none⟩))) (wr.setCell ⟨g, off + 1, none⟩ (.bool true)) :=
          ⟨_, _, rfl, ⟨_, _, t1, rfl⟩, hk.trans t2 (fun x hx => Or.inr (H2.lt' x hx).1)⟩
        have Hfin := Lib.hid hfin
        have hN0 : (0 : Int) < ((N : Nat) : Int) := by omega
        clear hfin t1 t2 hcells hfr hx H2 hrows
        go_wp2
        go_ret
        exact Hfin.out
  · have hN : (N : Int) = n := by omega
    clear hq
    go_enter Try.func9, Try.ntmps9
    go_wp2_with fail
    go_loopw [9] (fun v9 wr => ∃ (i : Nat) (F' : List Nat), i ≤ N ∧ v9 = .int .i64 i ∧ TermAt wr w.heap.size w.heap.size F' ⟨List.replicate i (0, false, -1), []⟩ ∧ Keep [] w wr) (fun v _ => N - (intOf v).toNat)
    case atStart =>
      refine ⟨0, _, by omega, rfl, ⟨_, _, ⟨Blk.new' _ _ _ _ rfl, OwnsAt.nil _ _ _ _, OwnsAt.nil _ _ _ _, Nat.le_refl _⟩, rfl⟩, (Keep.refl _ _).alloc _⟩
    case round =>
      obtain ⟨i, F', hi, rfl, ⟨vn, vw, hat, rfl⟩, hk⟩ := hrel
      obtain ⟨an, cn, rfl⟩ := hat.nodes.shape
      have c0 : wr.cell? ⟨w.heap.size, 0, none⟩ = some (.slice an (List.replicate i ((0, false, -1) : Nd)).length cn) := hat.head.cell 0
      rw [List.length_replicate] at c0
      have hp := hat.head.lt
      have hrows := hat.nodes
      simp only [List.length_replicate] at hrows
      have Hat := Lib.hid hat
      clear hat
      by_cases hlt : i < N
      · have hltI : (i : Int) < (N : Int) := by omega
        rw [hN] at hltI
        have hrowsA := hrows.keep ((Keep.refl [] wr).alloc (.cells #[.int .i64 0, .bool false, .int .i64 (-1)] 51)) (by simp)
        clear hrows
        go_wp2_with (at_builtin; refine wpList_append_off rfl _ _ rfl Try.nds45 w.heap.size (.slice an i cn) i _ rfl hrowsA _ 1 _ rfl (src_row 3 rfl _ rfl) (by simp [Value.oneCell']) (by unfold maxLen; omega) (by omega) (by have := hk.size; simp; omega) ?_)
        intro v' w4 hown4 hk4 hat4
        obtain ⟨g1, g2⟩ := TermIn.postN (s := (0, false, -1)) Hat.out ((Keep.refl [] _).alloc (.cells #[.int .i64 0, .bool false, .int .i64 (-1)] 51)) (vn' := v') (by simpa using hk4) (by simpa [ndC] using hown4)
        have hp4 : w.heap.size ∉ ownBlocks (.slice an i cn) := (fun hx => Hat.out.nodes.ne_blk Hat.out.head (by decide) (mem_own.1 (by cases an <;> exact hx)))
        have hd4 := (Hat.out.head.alloc (.cells #[.int .i64 0, .bool false, .int .i64 (-1)] 51)).keep hk4 hp4
        have f5 : w4.frozen? ⟨w.heap.size, 0, none⟩ = false := hd4.frozen 0
        have c5 := hd4.cell 0
        simp only [List.length_replicate] at c5
        have c5 : w4.cell? ⟨w.heap.size, 0, none⟩ = some (.slice an i cn) := c5
        obtain ⟨a7, c7', rfl⟩ := hown4.shape
        have hk5 := hk.trans g2 (fun x hx => Or.inr (by
          have := Hat.out.lt' x hx
          omega))
        have G1 := Lib.hid g1
        clear hown4 hk4 hat4 hrowsA g1 g2 hd4 hk
        go_wp2
        go_roundw
        case rel => exact ⟨i + 1, _, by omega, by go_num, ⟨_, _, by rw [List.replicate_succ']; exact G1.out, rfl⟩, hk5⟩
        case measure => simp [intOf]; omega
      · obtain rfl : N = i := by omega
        have hx : (List.replicate N ((0, false, -1) : Nd))[0]? = some (0, false, -1) := by rw [List.getElem?_replicate, if_pos (by omega)]
        obtain ⟨g, off, rfl, _, hg2, hcells, hcap, hfr⟩ := hrows.rowAt ndC_len hx (by omega)
        have e1 : wr.cell? ⟨g, off + 1, none⟩ = some (.bool false) := by simpa using hcells 1 _ (by omega) rfl
        have fr := hfr (off + 1)
        have H2 : TermIn wr w.heap.size w.heap.size (.slice (some ⟨g, off, none⟩) (List.replicate N ((0, false, -1) : Nd)).length cn) vw ⟨List.replicate N (0, false, -1), []⟩ := Hat.out
        obtain ⟨t1, t2⟩ := TermIn.turn0 (q := ⟨List.replicate N (0, false, -1), []⟩) H2 hx 1 (by omega) (.bool true) (0, true, -1) rfl
        have hl : (List.replicate N ((0, false, -1) : Nd)).set 0 (0, true, -1) = (0, true, -1) :: List.replicate (N - 1) (0, false, -1) := by
          obtain ⟨m, hm⟩ : ∃ m, N = m + 1 := ⟨N - 1, by omega⟩
          rw [hm]
          rfl
        rw [show off + 0 * 3 + 1 = off + 1 by omega] at t1 t2
        simp only at t1
        rw [hl] at t1
        have hfin : NewPost w ⟨(0, true, -1) :: List.replicate (N - 1) (0, false, -1), []⟩ (.returned (.pointer (some ⟨w.heap.size, 0, none⟩))) (wr.setCell ⟨g, off + 1, none⟩ (.bool true)) :=
          ⟨_, _, rfl, ⟨_, _, t1, rfl⟩, hk.trans t2 (fun x hx => Or.inr (H2.lt' x hx).1)⟩
        have Hfin := Lib.hid hfin
        have hN0 : (0 : Int) < ((N : Nat) : Int) := by omega
        clear hfin t1 t2 hcells hfr hx H2 hrows
        go_wp2
        go_ret
        exact Hfin.out
  · have hN : (N : Int) = 16 := by omega
    subst h
    clear hq
    go_enter Try.func9, Try.ntmps9
    go_wp2_with fail
    go_loopw [9] (fun v9 wr => ∃ (i : Nat) (F' : List Nat), i ≤ N ∧ v9 = .int .i64 i ∧ TermAt wr w.heap.size w.heap.size F' ⟨List.replicate i (0, false, -1), []⟩ ∧ Keep [] w wr) (fun v _ => N - (intOf v).toNat)
    case atStart =>
      refine ⟨0, _, by omega, rfl, ⟨_, _, ⟨Blk.new' _ _ _ _ rfl, OwnsAt.nil _ _ _ _, OwnsAt.nil _ _ _ _, Nat.le_refl _⟩, rfl⟩, (Keep.refl _ _).alloc _⟩
    case round =>
      obtain ⟨i, F', hi, rfl, ⟨vn, vw, hat, rfl⟩, hk⟩ := hrel
      obtain ⟨an, cn, rfl⟩ := hat.nodes.shape
      have c0 : wr.cell? ⟨w.heap.size, 0, none⟩ = some (.slice an (List.replicate i ((0, false, -1) : Nd)).length cn) := hat.head.cell 0
      rw [List.length_replicate] at c0
      have hp := hat.head.lt
      have hrows := hat.nodes
      simp only [List.length_replicate] at hrows
      have Hat := Lib.hid hat
      clear hat
      by_cases hlt : i < N
      · have hltI : (i : Int) < (N : Int) := by omega
        rw [hN] at hltI
        have hrowsA := hrows.keep ((Keep.refl [] wr).alloc (.cells #[.int .i64 0, .bool false, .int .i64 (-1)] 51)) (by simp)
        clear hrows
        go_wp2_with (at_builtin; refine wpList_append_off rfl _ _ rfl Try.nds45 w.heap.size (.slice an i cn) i _ rfl hrowsA _ 1 _ rfl (src_row 3 rfl _ rfl) (by simp [Value.oneCell']) (by unfold maxLen; omega) (by omega) (by have := hk.size; simp; omega) ?_)
        intro v' w4 hown4 hk4 hat4
        obtain ⟨g1, g2⟩ := TermIn.postN (s := (0, false, -1)) Hat.out ((Keep.refl [] _).alloc (.cells #[.int .i64 0, .bool false, .int .i64 (-1)] 51)) (vn' := v') (by simpa using hk4) (by simpa [ndC] using hown4)
        have hp4 : w.heap.size ∉ ownBlocks (.slice an i cn) := (fun hx => Hat.out.nodes.ne_blk Hat.out.head (by decide) (mem_own.1 (by cases an <;> exact hx)))
        have hd4 := (Hat.out.head.alloc (.cells #[.int .i64 0, .bool false, .int .i64 (-1)] 51)).keep hk4 hp4
        have f5 : w4.frozen? ⟨w.heap.size, 0, none⟩ = false := hd4.frozen 0
        have c5 := hd4.cell 0
        simp only [List.length_replicate] at c5
        have c5 : w4.cell? ⟨w.heap.size, 0, none⟩ = some (.slice an i cn) := c5
        obtain ⟨a7, c7', rfl⟩ := hown4.shape
        have hk5 := hk.trans g2 (fun x hx => Or.inr (by
          have := Hat.out.lt' x hx
          omega))
        have G1 := Lib.hid g1
        clear hown4 hk4 hat4 hrowsA g1 g2 hd4 hk
        go_wp2
        go_roundw
        case rel => exact ⟨i + 1, _, by omega, by go_num, ⟨_, _, by rw [List.replicate_succ']; exact G1.out, rfl⟩, hk5⟩
        case measure => simp [intOf]; omega
      · obtain rfl : N = i := by omega
        have hx : (List.replicate N ((0, false, -1) : Nd))[0]? = some (0, false, -1) := by rw [List.getElem?_replicate, if_pos (by omega)]
        obtain ⟨g, off, rfl, _, hg2, hcells, hcap, hfr⟩ := hrows.rowAt ndC_len hx (by omega)
        have e1 : wr.cell? ⟨g, off + 1, none⟩ = some (.bool false) := by simpa using hcells 1 _ (by omega) rfl
        have fr := hfr (off + 1)
        have H2 : TermIn wr w.heap.size w.heap.size (.slice (some ⟨g, off, none⟩) (List.replicate N ((0, false, -1) : Nd)).length cn) vw ⟨List.replicate N (0, false, -1), []⟩ := Hat.out
        obtain ⟨t1, t2⟩ := TermIn.turn0 (q := ⟨List.replicate N (0, false, -1), []⟩) H2 hx 1 (by omega) (.bool true) (0, true, -1) rfl
        have hl : (List.replicate N ((0, false, -1) : Nd)).set 0 (0, true, -1) = (0, true, -1) :: List.replicate (N - 1) (0, false, -1) := by
          obtain ⟨m, hm⟩ : ∃ m, N = m + 1 := ⟨N - 1, by omega⟩
          rw [hm]
          rfl
        rw [show off + 0 * 3 + 1 = off + 1 by omega] at t1 t2
        simp only at t1
        rw [hl] at t1
        have hfin : NewPost w ⟨(0, true, -1) :: List.replicate (N - 1) (0, false, -1), []⟩ (.returned (.pointer (some ⟨w.heap.size, 0, none⟩))) (wr.setCell ⟨g, off + 1, none⟩ (.bool true)) :=
          ⟨_, _, rfl, ⟨_, _, t1, rfl⟩, hk.trans t2 (fun x hx => Or.inr (H2.lt' x hx).1)⟩
        have Hfin := Lib.hid hfin
        have hN0 : (0 : Int) < ((N : Nat) : Int) := by omega
        clear hfin t1 t2 hcells hfr hx H2 hrows
        go_wp2
        go_ret
        exact Hfin.out
  · have hN : (N : Int) = 16 := by omega
    clear hq
    go_enter Try.func9, Try.ntmps9
    go_wp2_with fail
    go_loopw [9] (fun v9 wr => ∃ (i : Nat) (F' : List Nat), i ≤ N ∧ v9 = .int .i64 i ∧ TermAt wr w.heap.size w.heap.size F' ⟨List.replicate i (0, false, -1), []⟩ ∧ Keep [] w wr) (fun v _ => N - (intOf v).toNat)
    case atStart =>
      refine ⟨0, _, by omega, rfl, ⟨_, _, ⟨Blk.new' _ _ _ _ rfl, OwnsAt.nil _ _ _ _, OwnsAt.nil _ _ _ _, Nat.le_refl _⟩, rfl⟩, (Keep.refl _ _).alloc _⟩
    case round =>
      obtain ⟨i, F', hi, rfl, ⟨vn, vw, hat, rfl⟩, hk⟩ := hrel
      obtain ⟨an, cn, rfl⟩ := hat.nodes.shape
      have c0 : wr.cell? ⟨w.heap.size, 0, none⟩ = some (.slice an (List.replicate i ((0, false, -1) : Nd)).length cn) := hat.head.cell 0
      rw [List.length_replicate] at c0
      have hp := hat.head.lt
      have hrows := hat.nodes
      simp only [List.length_replicate] at hrows
      have Hat := Lib.hid hat
      clear hat
      by_cases hlt : i < N
      · have hltI : (i : Int) < (N : Int) := by omega
        rw [hN] at hltI
        have hrowsA := hrows.keep ((Keep.refl [] wr).alloc (.cells #[.int .i64 0, .bool false, .int .i64 (-1)] 51)) (by simp)
        clear hrows
        go_wp2_with (at_builtin; refine wpList_append_off rfl _ _ rfl Try.nds45 w.heap.size (.slice an i cn) i _ rfl hrowsA _ 1 _ rfl (src_row 3 rfl _ rfl) (by simp [Value.oneCell']) (by unfold maxLen; omega) (by omega) (by have := hk.size; simp; omega) ?_)
        intro v' w4 hown4 hk4 hat4
        obtain ⟨g1, g2⟩ := TermIn.postN (s := (0, false, -1)) Hat.out ((Keep.refl [] _).alloc (.cells #[.int .i64 0, .bool false, .int .i64 (-1)] 51)) (vn' := v') (by simpa using hk4) (by simpa [ndC] using hown4)
        have hp4 : w.heap.size ∉ ownBlocks (.slice an i cn) := (fun hx => Hat.out.nodes.ne_blk Hat.out.head (by decide) (mem_own.1 (by cases an <;> exact hx)))
        have hd4 := (Hat.out.head.alloc (.cells #[.int .i64 0, .bool false, .int .i64 (-1)] 51)).keep hk4 hp4
        have f5 : w4.frozen? ⟨w.heap.size, 0, none⟩ = false := hd4.frozen 0
        have c5 := hd4.cell 0
        simp only [List.length_replicate] at c5
        have c5 : w4.cell? ⟨w.heap.size, 0, none⟩ = some (.slice an i cn) := c5
        obtain ⟨a7, c7', rfl⟩ := hown4.shape
        have hk5 := hk.trans g2 (fun x hx => Or.inr (by
          have := Hat.out.lt' x hx
          omega))
        have G1 := Lib.hid g1
        clear hown4 hk4 hat4 hrowsA g1 g2 hd4 hk
        go_wp2
        go_roundw
        case rel => exact ⟨i + 1, _, by omega, by go_num, ⟨_, _, by rw [List.replicate_succ']; exact G1.out, rfl⟩, hk5⟩
        case measure => simp [intOf]; omega
      · obtain rfl : N = i := by omega
        have hx : (List.replicate N ((0, false, -1) : Nd))[0]? = some (0, false, -1) := by rw [List.getElem?_replicate, if_pos (by omega)]
        obtain ⟨g, off, rfl, _, hg2, hcells, hcap, hfr⟩ := hrows.rowAt ndC_len hx (by omega)
        have e1 : wr.cell? ⟨g, off + 1, none⟩ = some (.bool false) := by simpa using hcells 1 _ (by omega) rfl
        have fr := hfr (off + 1)
        have H2 : TermIn wr w.heap.size w.heap.size (.slice (some ⟨g, off, none⟩) (List.replicate N ((0, false, -1) : Nd)).length cn) vw ⟨List.replicate N (0, false, -1), []⟩ := Hat.out
        obtain ⟨t1, t2⟩ := TermIn.turn0 (q := ⟨List.replicate N (0, false, -1), []⟩) H2 hx 1 (by omega) (.bool true) (0, true, -1) rfl
        have hl : (List.replicate N ((0, false, -1) : Nd)).set 0 (0, true, -1) = (0, true, -1) :: List.replicate (N - 1) (0, false, -1) := by
          obtain ⟨m, hm⟩ : ∃ m, N = m + 1 := ⟨N - 1, by omega⟩
          rw [hm]
          rfl
        rw [show off + 0 * 3 + 1 = off + 1 by omega] at t1 t2
        simp only at t1
        rw [hl] at t1
        have hfin : NewPost w ⟨(0, true, -1) :: List.replicate (N - 1) (0, false, -1), []⟩ (.returned (.pointer (some ⟨w.heap.size, 0, none⟩))) (wr.setCell ⟨g, off + 1, none⟩ (.bool true)) :=
          ⟨_, _, rfl, ⟨_, _, t1, rfl⟩, hk.trans t2 (fun x hx => Or.inr (H2.lt' x hx).1)⟩
        have Hfin := Lib.hid hfin
        have hN0 : (0 : Int) < ((N : Nat) : Int) := by omega
        clear hfin t1 t2 hcells hfr hx H2 hrows
        go_wp2
        go_ret
        exact Hfin.out
end Go.Proofs.Ytiicmlhpcfhfeaa
