/- Terms: who is let go. -/
import Derived.Test.YtiicmlhpcfhfeaaRows
import Derived.WalkKit
import Derived.WalkSpells
import Derived.WalkLawsBesides
import Derived.RegionTactic
import Derived.ChangeAlike
import Derived.BigQuiet
import Derived.Deep.QuietTactic
import Derived.StillTailTactics
import Derived.IntWalk
import Derived.Handy
import Derived.Lib.Hide
import Derived.Deep.AppendLies
import Derived.Deep.RegionWith
import Derived.Test.YtiicmlhpcfhfeaaBase
import Derived.Test.YtiicmlhpcfhfeaaTail
import Derived.Test.YtiicmlhpcfhfeaaArgs
import Derived.Test.YtiicmlhpcfhfeaaAppend
import Derived.Deep.RegionLaw
import Derived.Test.YtiicmlhpcfhfeaaOffs
import Derived.Test.YtiicmlhpcfhfeaaStructs
import Derived.Test.YtiicmlhpcfhfeaaSplit
import Derived.Test.YtiicmlhpcfhfeaaTermObj
import Derived.Test.YtiicmlhpcfhfeaaTermRead
namespace Go.Proofs.Ytiicmlhpcfhfeaa
open Go.RowKit
theorem stuck_spec {w : World} (x : Nd) : Calls Try.prog 32 #[.agg #[.int .i64 x.1, .bool x.2.1, .int .i64 x.2.2]] w fun e w' => e = .returned (.bool (stuck x)) ∧ Keep [] w w' := by
  obtain ⟨n, a, u⟩ := x
  have hk : Keep [] w (w.alloc (.cells #[.int .i64 n, .bool a, .int .i64 u] 51)) := (Keep.refl _ _).alloc _
  have hblk : Blk (w.alloc (.cells #[.int .i64 n, .bool a, .int .i64 u] 51)) w.heap.size 51 [.int .i64 n, .bool a, .int .i64 u] := Blk.new' _ _ _ _ rfl
  have c0 : (w.alloc (.cells #[.int .i64 n, .bool a, .int .i64 u] 51)).cell? ⟨w.heap.size, 0, none⟩ = some (.int .i64 n) := hblk.cell 0
  have hfree := free_spec c0
  have Hf := Lib.hid hfree
  clear hfree hblk c0
  simp only
  by_cases hu : u = -1
  · subst hu
    rw [show stuck (n, a, -1) = false by unfold stuck; simp]
    go_enter Try.func32, Try.ntmps32
    go_wp2
    go_ret
    exact ⟨rfl, hk⟩
  · cases a with
    | true =>
      rw [show stuck (n, true, u) = false by unfold stuck; simp]
      go_enter Try.func32, Try.ntmps32
      go_wp2
      go_ret
      exact ⟨rfl, hk⟩
    | false =>
      rw [show stuck (n, false, u) = (n == 0) by unfold stuck; simp [hu]]
      go_enter Try.func32, Try.ntmps32
      go_wp2_with fail
      refine Hf.out.mono ?_
      rintro e w1 ⟨rfl, rfl⟩
      go_wp2
      go_ret
      exact ⟨by simp [hu], hk⟩
/-- the first one that is to be let go -/
def firstStuck (q : TM) : Int := match q.nodes.findIdx? stuck with | some k => (k : Int) | none => -1
theorem firstStuck_at {q : TM} {i : Nat} {x : Nd} (h : q.nodes[i]? = some x) (hs : stuck x = true) (hb : ∀ (j : Nat) (y : Nd), j < i → q.nodes[j]? = some y → stuck y = false) : firstStuck q = i := by
  have hi : i < q.nodes.length := by
    rcases Nat.lt_or_ge i q.nodes.length with h' | h'
    · exact h'
    · rw [List.getElem?_eq_none h'] at h; cases h
  have : q.nodes.findIdx? stuck = some i := by
    rw [List.findIdx?_eq_some_iff_getElem]
    refine ⟨hi, ?_, fun j hj => ?_⟩
    · rw [List.getElem?_eq_getElem hi] at h
      cases h
      exact hs
    · have := hb j _ hj (List.getElem?_eq_getElem (by omega))
      simp [this]
  unfold firstStuck
  rw [this]
theorem firstStuck_none {q : TM} (hb : ∀ (j : Nat) (y : Nd), q.nodes[j]? = some y → stuck y = false) : firstStuck q = -1 := by
  have : q.nodes.findIdx? stuck = none := by
    rw [List.findIdx?_eq_none_iff]
    intro x hx
    obtain ⟨j, hj, rfl⟩ := List.mem_iff_getElem.1 hx
    exact hb j _ (List.getElem?_eq_getElem hj)
  unfold firstStuck
  rw [this]
set_option maxHeartbeats 4000000 in
theorem index_spec {w : World} {B : Nat} {a : Option Addr} {c : Nat} {q : TM} (h : OwnsAt w B 51 3 (.slice a q.nodes.length c) q.nodes.length (q.nodes.flatMap ndC)) (hl : q.nodes.length ≤ 1000) :
    Calls Try.prog 31 #[.slice a q.nodes.length c, .func (.func 32) #[] #[]] w fun e w' => e = .returned (.int .i64 (firstStuck q)) ∧ Keep [] w w' := by
  have H := Lib.hid h
  have hl2 : (q.nodes.length : Int) ≤ 1000 := by omega
  clear h hl
  go_enter Try.func31, Try.ntmps31
  go_wp2
  go_loopw [5, 8] (fun _ v8 wr => ∃ i : Nat, i ≤ q.nodes.length ∧ v8 = .int .i64 i ∧ (∀ (j : Nat) (y : Nd), j < i → q.nodes[j]? = some y → stuck y = false) ∧ Keep [] w wr) (fun _ v _ => q.nodes.length - (intOf v).toNat)
  case atStart => exact ⟨0, by omega, rfl, by omega, Keep.refl _ _⟩
  case round =>
    obtain ⟨i, hi, rfl, hb, hk⟩ := hrel
    by_cases hlt : i < q.nodes.length
    · have hx := List.getElem?_eq_getElem hlt
      obtain ⟨g, off, rfl, _, hg2, hcells, _, _⟩ := (H.out.keep hk (by simp)).rowAt ndC_len hx hlt
      generalize q.nodes[i] = x at *
      have e0 : wr.cell? ⟨g, off + i * 3, none⟩ = some (.int .i64 x.1) := hcells 0 _ (by omega) rfl
      have e1 : wr.cell? ⟨g, off + i * 3 + 1, none⟩ = some (.bool x.2.1) := hcells 1 _ (by omega) rfl
      have e2 : wr.cell? ⟨g, off + i * 3 + 2, none⟩ = some (.int .i64 x.2.2) := hcells 2 _ (by omega) rfl
      have Hx := Lib.hid hx
      have Hb := Lib.hid hb
      have hi2 : (i : Int) < (q.nodes.length : Int) := by omega
      clear hcells hx hb
      go_wp2_with fail
      refine (stuck_spec x).mono ?_
      rintro e w1 ⟨rfl, hk1⟩
      have hk2 := hk.trans hk1 (by simp)
      cases hs : stuck x with
      | true =>
        have hfin := firstStuck_at Hx.out hs Hb.out
        have Hfin := Lib.hid hfin
        clear hfin
        go_wp2
        go_ret
        exact ⟨by rw [Hfin.out]; rfl, hk2⟩
      | false =>
        have hb2 : ∀ (j : Nat) (y : Nd), j < i + 1 → q.nodes[j]? = some y → stuck y = false := fun j y hj hy => by
          by_cases hji : j = i
          · subst hji
            rw [Hx.out] at hy
            cases hy
            exact hs
          · exact Hb.out j y (by omega) hy
        clear hk hk1
        go_wp2
        go_roundw
        case rel => exact ⟨i + 1, by omega, by go_num, hb2, hk2⟩
        case measure => simp [intOf]; omega
    · have hfin : firstStuck q = -1 := firstStuck_none fun j y hy => by
        have hj : j < q.nodes.length := by
          rcases Nat.lt_or_ge j q.nodes.length with h' | h'
          · exact h'
          · rw [List.getElem?_eq_none h'] at hy; cases hy
        exact hb j y (by omega) hy
      have Hfin := Lib.hid hfin
      have : i = q.nodes.length := by omega
      subst this
      clear hfin hb
      go_wp2
      go_ret
      exact ⟨by rw [Hfin.out]; rfl, hk⟩
/-! ### settle, plain -/
theorem acks_append : ∀ (l1 l2 : List Nd) (i : Nat), acks i (l1 ++ l2) = acks i l1 ++ acks (i + l1.length) l2
  | [], l2, i => by simp [acks]
  | x :: l1, l2, i => by
    simp only [List.cons_append, acks, List.length_cons]
    rw [acks_append l1 l2 (i + 1), show i + 1 + l1.length = i + (l1.length + 1) by omega]
    split <;> rfl
theorem acks_none : ∀ (l : List Nd) (i : Nat), (∀ x ∈ l, stuck x = false) → acks i l = []
  | [], _, _ => rfl
  | x :: l, i, h => by
    simp only [acks]
    rw [h x (by simp), acks_none l (i + 1) (fun y hy => h y (by simp [hy]))]
    rfl
theorem unhang_none {x : Nd} (h : stuck x = false) : unhang x = x := by
  unfold unhang
  rw [h]
  rfl
theorem unhang_map : ∀ (l : List Nd), (∀ x ∈ l, stuck x = false) → l.map unhang = l
  | [], _ => rfl
  | x :: l, h => by
    rw [List.map_cons, unhang_none (h x (by simp)), unhang_map l (fun y hy => h y (by simp [hy]))]
theorem stuck_let {x : Nd} : stuck (x.1, x.2.1, -1) = false := by simp [stuck]
theorem settle_step {q : TM} {k : Nat} {x : Nd} (h : q.nodes[k]? = some x) (hs : stuck x = true) (hb : ∀ (j : Nat) (y : Nd), j < k → q.nodes[j]? = some y → stuck y = false) :
    settle ⟨q.nodes.set k (x.1, x.2.1, -1), q.way ++ [((k : Int), x.2.2, true)]⟩ = settle q := by
  have hk : k < q.nodes.length := by
    rcases Nat.lt_or_ge k q.nodes.length with h' | h'
    · exact h'
    · rw [List.getElem?_eq_none h'] at h; cases h
  have hsplit : q.nodes = q.nodes.take k ++ x :: q.nodes.drop (k + 1) := by
    have := List.take_append_drop k q.nodes
    rw [List.drop_eq_getElem_cons hk] at this
    rw [List.getElem?_eq_getElem hk] at h
    rw [← Option.some.inj h]
    exact this.symm
  have hset : q.nodes.set k (x.1, x.2.1, -1) = q.nodes.take k ++ (x.1, x.2.1, -1) :: q.nodes.drop (k + 1) := by
    rw [List.set_eq_take_append_cons_drop, if_pos hk]
  have hpre : ∀ y ∈ q.nodes.take k, stuck y = false := fun y hy => by
    obtain ⟨j, hj, rfl⟩ := List.mem_iff_getElem.1 hy
    have hjk : j < k := by simp at hj; omega
    exact hb j _ hjk (by rw [List.getElem_take]; exact List.getElem?_eq_getElem (by omega))
  have hlen : (q.nodes.take k).length = k := by simp; omega
  unfold settle
  rw [hset]
  conv => rhs; rw [hsplit]
  simp only [List.map_append, List.map_cons]
  rw [acks_append, acks_append, acks_none _ _ hpre, hlen]
  simp only [acks, hs, stuck_let, if_true, List.nil_append, Nat.zero_add, List.append_assoc, List.singleton_append]
  have e1 : unhang (x.1, x.2.1, -1) = unhang x := by
    rw [unhang_none stuck_let]
    unfold unhang
    rw [hs]
    rfl
  rw [e1]
  rfl
theorem settle_done {q : TM} (hb : ∀ (j : Nat) (y : Nd), q.nodes[j]? = some y → stuck y = false) : settle q = q := by
  have h : ∀ x ∈ q.nodes, stuck x = false := fun x hx => by
    obtain ⟨j, hj, rfl⟩ := List.mem_iff_getElem.1 hx
    exact hb j _ (List.getElem?_eq_getElem hj)
  unfold settle
  rw [unhang_map _ h, acks_none _ _ h, List.append_nil]
theorem firstStuck_cases (q : TM) : (firstStuck q = -1 ∧ ∀ (j : Nat) (y : Nd), q.nodes[j]? = some y → stuck y = false) ∨ ∃ (k : Nat) (x : Nd), firstStuck q = k ∧ q.nodes[k]? = some x ∧ stuck x = true ∧ ∀ (j : Nat) (y : Nd), j < k → q.nodes[j]? = some y → stuck y = false := by
  unfold firstStuck
  cases hf : q.nodes.findIdx? stuck with
  | none =>
    rw [List.findIdx?_eq_none_iff] at hf
    exact Or.inl ⟨rfl, fun j y hy => hf y (List.mem_of_getElem? hy)⟩
  | some k =>
    rw [List.findIdx?_eq_some_iff_getElem] at hf
    obtain ⟨hk, hs, hb⟩ := hf
    refine Or.inr ⟨k, _, rfl, List.getElem?_eq_getElem hk, hs, fun j y hj hy => ?_⟩
    have h1 := hb j hj
    rw [List.getElem?_eq_getElem (by omega)] at hy
    cases hy
    simpa using h1
/-- one signal more on the way -/
theorem TermIn.post {w w1 w2 : World} {B p : Nat} {vn vw vw' : Value} {q : TM} {s : Sg} (h : TermIn w B p vn vw q) (k1 : Keep [] w w1) (k2 : Keep (ownBlocks vw) w1 w2) (hr : OwnsAt w2 B 44 3 vw' (q.way.length + 1) (q.way.flatMap sgC ++ sgC s)) (hat : vw'.ownBlock = vw.ownBlock ∨ vw'.ownBlock = some w1.heap.size) :
    TermIn (w2.setCell ⟨p, 1, none⟩ vw') B p vn vw' ⟨q.nodes, q.way ++ [s]⟩ ∧ Keep (termFoot p vn vw) w (w2.setCell ⟨p, 1, none⟩ vw') ∧ ∀ x ∈ termFoot p vn vw', x ∈ termFoot p vn vw ∨ w.heap.size ≤ x := by
  have hpw : p ∉ ownBlocks vw := fun hx => h.way.ne_blk h.head (by decide) (mem_own.1 hx)
  have hd2 : Blk w2 p 47 [vn, vw] := (h.head.keep k1 (by simp)).keep k2 hpw
  have k3 : Keep [p] w2 (w2.setCell ⟨p, 1, none⟩ vw') := (Keep.refl _ _).setCell (by simp) _
  have hp' : vw'.ownBlock ≠ some p := hr.ne_blk hd2 (by decide)
  have hs1 := k1.size
  have hn2 : OwnsAt w2 B 51 3 vn q.nodes.length (q.nodes.flatMap ndC) := (h.nodes.keep k1 (by simp)).keep k2 (fun g hg hx => h.nodes.ne_own h.way (by decide) g hg (mem_own.1 hx))
  refine ⟨⟨hd2.set_ 1 _, hn2.keep k3 (fun g hg hx => ?_), ?_, h.base⟩, ?_, ?_⟩
  · have : g = p := by simpa using hx
    subst this
    exact hn2.ne_blk hd2 (by decide) hg
  · have h1 := hr.keep k3 (fun g hg hx => hp' ((show g = p by simpa using hx) ▸ hg))
    simpa using h1
  · have a1 : Keep (termFoot p vn vw) w w2 := (k1.mono (T := termFoot p vn vw) (by simp)).trans k2 (fun x hx => Or.inl (by simp only [termFoot, List.mem_cons, List.mem_append]; exact Or.inr (Or.inr hx)))
    exact a1.trans k3 (fun x hx => Or.inl (by simp at hx; subst hx; simp [termFoot]))
  · intro x hx
    simp only [termFoot, List.mem_cons, List.mem_append] at hx ⊢
    rcases hx with hx | hx | hx
    · exact Or.inl (Or.inl hx)
    · exact Or.inl (Or.inr (Or.inl hx))
    · rcases hat with hat | hat
      · exact Or.inl (Or.inr (Or.inr (by rw [mem_own, ← hat]; exact mem_own.1 hx)))
      · rw [mem_own, hat] at hx
        cases hx
        exact Or.inr hs1
end Go.Proofs.Ytiicmlhpcfhfeaa
