/- The reference term in memory. -/
import Derived.Test.YtiicmlhpcfhfeaaRows
import Derived.WalkKit
import Derived.WalkSpells
import Derived.WalkLawsBesides
import Derived.RegionTactic
import Derived.ChangeAlike
import Derived.BigQuiet
import Derived.Deep.QuietTactic
import Derived.StillTailTactics
import Derived.IntWalk
import Derived.Handy
import Derived.Lib.Hide
import Derived.Deep.AppendLies
import Derived.Deep.RegionWith
import Derived.Test.YtiicmlhpcfhfeaaBase
import Derived.Test.YtiicmlhpcfhfeaaTail
import Derived.Test.YtiicmlhpcfhfeaaArgs
import Derived.Test.YtiicmlhpcfhfeaaAppend
import Derived.Deep.RegionLaw
import Derived.Test.YtiicmlhpcfhfeaaOffs
import Derived.Test.YtiicmlhpcfhfeaaStructs
import Derived.Test.YtiicmlhpcfhfeaaSplit
import Derived.Test.YtiicmlhpcfhfeaaTermObj
import Derived.Test.YtiicmlhpcfhfeaaTermRead
import Derived.Test.YtiicmlhpcfhfeaaTermSettle
import Derived.Test.YtiicmlhpcfhfeaaTermSettle2
import Derived.Test.YtiicmlhpcfhfeaaTermDel
import Derived.Test.YtiicmlhpcfhfeaaTermSend
import Derived.Test.YtiicmlhpcfhfeaaTermDeliver
import Derived.Test.YtiicmlhpcfhfeaaTermNew2
import Derived.Test.YtiicmlhpcfhfeaaTermAlive
import Derived.Test.YtiicmlhpcfhfeaaTermInv2

namespace Go.Proofs.Ytiicmlhpcfhfeaa
open Go.RowKit
structure RefIn (w : World) (B p ga go gu : Nat) (vw : Value) (q : TM) : Prop where
  head : Blk w p 42 [.slice (some ⟨ga, 0, none⟩) q.nodes.length q.nodes.length, .slice (some ⟨go, 0, none⟩) q.nodes.length q.nodes.length, .slice (some ⟨gu, 0, none⟩) q.nodes.length q.nodes.length, vw]
  act : Blk w ga 4 (q.nodes.map fun x => .bool x.2.1)
  owe : Blk w go 3 (q.nodes.map fun x => .int .i64 x.1)
  up : Blk w gu 3 (q.nodes.map fun x => .int .i64 x.2.2)
  way : OwnsAt w B 44 3 vw q.way.length (q.way.flatMap sgC)
  ne : go ≠ gu
  base : B ≤ p ∧ B ≤ ga ∧ B ≤ go ∧ B ≤ gu
def refFoot (p ga go gu : Nat) (vw : Value) : List Nat := p :: ga :: go :: gu :: ownBlocks vw
def RefAt (w : World) (B p : Nat) (F : List Nat) (q : TM) : Prop := ∃ ga go gu vw, RefIn w B p ga go gu vw q ∧ F = refFoot p ga go gu vw
theorem RefIn.keep {w w' : World} {B p ga go gu : Nat} {vw : Value} {q : TM} {S : List Nat} (h : RefIn w B p ga go gu vw q) (hk : Keep S w w') (hn : ∀ x ∈ refFoot p ga go gu vw, x ∉ S) : RefIn w' B p ga go gu vw q :=
  ⟨h.head.keep hk (hn p (by simp [refFoot])), h.act.keep hk (hn ga (by simp [refFoot])), h.owe.keep hk (hn go (by simp [refFoot])), h.up.keep hk (hn gu (by simp [refFoot])), h.way.keep hk (fun g hg => hn g (by simp [refFoot, mem_own, hg])), h.ne, h.base⟩
theorem RefAt.keep {w w' : World} {B p : Nat} {F : List Nat} {q : TM} {S : List Nat} (h : RefAt w B p F q) (hk : Keep S w w') (hn : ∀ x ∈ F, x ∉ S) : RefAt w' B p F q := by
  obtain ⟨ga, go, gu, vw, h, rfl⟩ := h
  exact ⟨ga, go, gu, vw, h.keep hk hn, rfl⟩
theorem RefAt.lt {w : World} {B p : Nat} {F : List Nat} {q : TM} (h : RefAt w B p F q) : ∀ x ∈ F, B ≤ x ∧ x < w.heap.size := by
  obtain ⟨ga, go, gu, vw, h, rfl⟩ := h
  intro x hx
  simp only [refFoot, List.mem_cons] at hx
  rcases hx with rfl | rfl | rfl | rfl | hx
  · exact ⟨h.base.1, h.head.lt⟩
  · exact ⟨h.base.2.1, h.act.lt⟩
  · exact ⟨h.base.2.2.1, h.owe.lt⟩
  · exact ⟨h.base.2.2.2, h.up.lt⟩
  · exact h.way.lt x (mem_own.1 hx)
theorem RefIn.apart {w : World} {B p ga go gu : Nat} {vw : Value} {q : TM} (h : RefIn w B p ga go gu vw q) : ga ≠ p ∧ go ≠ p ∧ gu ≠ p ∧ ga ≠ go ∧ ga ≠ gu ∧ go ≠ gu ∧ p ∉ ownBlocks vw ∧ ga ∉ ownBlocks vw ∧ go ∉ ownBlocks vw ∧ gu ∉ ownBlocks vw :=
  ⟨h.act.ne_ h.head (by decide), h.owe.ne_ h.head (by decide), h.up.ne_ h.head (by decide), h.act.ne_ h.owe (by decide), h.act.ne_ h.up (by decide), h.ne,
   fun hx => h.way.ne_blk h.head (by decide) (mem_own.1 hx), fun hx => h.way.ne_blk h.act (by decide) (mem_own.1 hx), fun hx => h.way.ne_blk h.owe (by decide) (mem_own.1 hx), fun hx => h.way.ne_blk h.up (by decide) (mem_own.1 hx)⟩
theorem map_set_same {α β : Type} {f : α → β} {l : List α} {k : Nat} {x x' : α} (h : l[k]? = some x) (hf : f x' = f x) : (l.set k x').map f = l.map f := by
  rw [List.map_set]
  apply List.ext_getElem?
  intro i
  by_cases hik : k = i
  · subst hik
    have hk : k < (l.map f).length := by
      rcases Nat.lt_or_ge k l.length with h' | h'
      · simpa using h'
      · rw [List.getElem?_eq_none h'] at h; cases h
    rw [List.getElem?_set_self hk, List.getElem?_map, h, hf]
    rfl
  · rw [List.getElem?_set_ne hik]
theorem RefIn.setAct {w : World} {B p ga go gu k : Nat} {vw : Value} {q : TM} {x : Nd} (h : RefIn w B p ga go gu vw q) (hx : q.nodes[k]? = some x) (b : Bool) :
    RefIn (w.setCell ⟨ga, k, none⟩ (.bool b)) B p ga go gu vw ⟨q.nodes.set k (x.1, b, x.2.2), q.way⟩ ∧ Keep (refFoot p ga go gu vw) w (w.setCell ⟨ga, k, none⟩ (.bool b)) := by
  obtain ⟨a1, a2, a3, a4, a5, a6, a7, a8, a9, a10⟩ := h.apart
  have k1 : Keep [ga] w (w.setCell ⟨ga, k, none⟩ (.bool b)) := (Keep.refl _ _).setCell (by simp) _
  refine ⟨⟨?_, ?_, ?_, ?_, h.way.keep k1 (fun y hy hm => a8 ((show y = ga by simpa using hm) ▸ mem_own.2 hy)), h.ne, h.base⟩, k1.mono (fun y hy => Or.inl (by rw [show y = ga by simpa using hy]; simp [refFoot]))⟩
  · simp only [List.length_set]
    exact h.head.far a1.symm _
  · have := h.act.set_ k (.bool b)
    simp only [List.map_set]
    exact this
  · simp only
    rw [map_set_same (x' := (x.1, b, x.2.2)) hx (by rfl)]
    exact h.owe.far a4.symm _
  · simp only
    rw [map_set_same (x' := (x.1, b, x.2.2)) hx (by rfl)]
    exact h.up.far a5.symm _
theorem RefIn.setOwe {w : World} {B p ga go gu k : Nat} {vw : Value} {q : TM} {x : Nd} (h : RefIn w B p ga go gu vw q) (hx : q.nodes[k]? = some x) (n : Int) :
    RefIn (w.setCell ⟨go, k, none⟩ (.int .i64 n)) B p ga go gu vw ⟨q.nodes.set k (n, x.2.1, x.2.2), q.way⟩ ∧ Keep (refFoot p ga go gu vw) w (w.setCell ⟨go, k, none⟩ (.int .i64 n)) := by
  obtain ⟨a1, a2, a3, a4, a5, a6, a7, a8, a9, a10⟩ := h.apart
  have k1 : Keep [go] w (w.setCell ⟨go, k, none⟩ (.int .i64 n)) := (Keep.refl _ _).setCell (by simp) _
  refine ⟨⟨?_, ?_, ?_, ?_, h.way.keep k1 (fun y hy hm => a9 ((show y = go by simpa using hm) ▸ mem_own.2 hy)), h.ne, h.base⟩, k1.mono (fun y hy => Or.inl (by rw [show y = go by simpa using hy]; simp [refFoot]))⟩
  · simp only [List.length_set]
    exact h.head.far a2.symm _
  · simp only
    rw [map_set_same (x' := (n, x.2.1, x.2.2)) hx (by rfl)]
    exact h.act.far a4 _
  · have := h.owe.set_ k (.int .i64 n)
    simp only [List.map_set]
    exact this
  · simp only
    rw [map_set_same (x' := (n, x.2.1, x.2.2)) hx (by rfl)]
    exact h.up.far a6.symm _
theorem RefIn.setUp {w : World} {B p ga go gu k : Nat} {vw : Value} {q : TM} {x : Nd} (h : RefIn w B p ga go gu vw q) (hx : q.nodes[k]? = some x) (n : Int) :
    RefIn (w.setCell ⟨gu, k, none⟩ (.int .i64 n)) B p ga go gu vw ⟨q.nodes.set k (x.1, x.2.1, n), q.way⟩ ∧ Keep (refFoot p ga go gu vw) w (w.setCell ⟨gu, k, none⟩ (.int .i64 n)) := by
  obtain ⟨a1, a2, a3, a4, a5, a6, a7, a8, a9, a10⟩ := h.apart
  have k1 : Keep [gu] w (w.setCell ⟨gu, k, none⟩ (.int .i64 n)) := (Keep.refl _ _).setCell (by simp) _
  refine ⟨⟨?_, ?_, ?_, ?_, h.way.keep k1 (fun y hy hm => a10 ((show y = gu by simpa using hm) ▸ mem_own.2 hy)), h.ne, h.base⟩, k1.mono (fun y hy => Or.inl (by rw [show y = gu by simpa using hy]; simp [refFoot]))⟩
  · simp only [List.length_set]
    exact h.head.far a3.symm _
  · simp only
    rw [map_set_same (x' := (x.1, x.2.1, n)) hx (by rfl)]
    exact h.act.far a5 _
  · simp only
    rw [map_set_same (x' := (x.1, x.2.1, n)) hx (by rfl)]
    exact h.owe.far a6 _
  · have := h.up.set_ k (.int .i64 n)
    simp only [List.map_set]
    exact this
/-- one signal more -/
theorem RefIn.post {w w1 w2 : World} {B p ga go gu : Nat} {vw vw' : Value} {q : TM} {s : Sg} (h : RefIn w B p ga go gu vw q) (k1 : Keep [] w w1) (k2 : Keep (ownBlocks vw) w1 w2) (hr : OwnsAt w2 B 44 3 vw' (q.way.length + 1) (q.way.flatMap sgC ++ sgC s)) (hat : vw'.ownBlock = vw.ownBlock ∨ vw'.ownBlock = some w1.heap.size) :
    RefIn (w2.setCell ⟨p, 3, none⟩ vw') B p ga go gu vw' ⟨q.nodes, q.way ++ [s]⟩ ∧ Keep (refFoot p ga go gu vw) w (w2.setCell ⟨p, 3, none⟩ vw') ∧ ∀ x ∈ refFoot p ga go gu vw', x ∈ refFoot p ga go gu vw ∨ w.heap.size ≤ x := by
  obtain ⟨a1, a2, a3, a4, a5, a6, a7, a8, a9, a10⟩ := h.apart
  have hd2 : Blk w2 p 42 _ := (h.head.keep k1 (by simp)).keep k2 a7
  have k3 : Keep [p] w2 (w2.setCell ⟨p, 3, none⟩ vw') := (Keep.refl _ _).setCell (by simp) _
  have hp' : vw'.ownBlock ≠ some p := hr.ne_blk hd2 (by decide)
  have hs1 := k1.size
  refine ⟨⟨hd2.set_ 3 _, ((h.act.keep k1 (by simp)).keep k2 a8).keep k3 (by simpa using a1), ((h.owe.keep k1 (by simp)).keep k2 a9).keep k3 (by simpa using a2), ((h.up.keep k1 (by simp)).keep k2 a10).keep k3 (by simpa using a3), ?_, h.ne, h.base⟩, ?_, ?_⟩
  · have h1 := hr.keep k3 (fun g hg hx => hp' ((show g = p by simpa using hx) ▸ hg))
    simpa using h1
  · have b1 : Keep (refFoot p ga go gu vw) w w2 := (k1.mono (T := refFoot p ga go gu vw) (by simp)).trans k2 (fun x hx => Or.inl (by simp only [refFoot, List.mem_cons]; exact Or.inr (Or.inr (Or.inr (Or.inr hx)))))
    exact b1.trans k3 (fun x hx => Or.inl (by simp at hx; subst hx; simp [refFoot]))
  · intro x hx
    simp only [refFoot, List.mem_cons] at hx ⊢
    rcases hx with hx | hx | hx | hx | hx
    · exact Or.inl (Or.inl hx)
    · exact Or.inl (Or.inr (Or.inl hx))
    · exact Or.inl (Or.inr (Or.inr (Or.inl hx)))
    · exact Or.inl (Or.inr (Or.inr (Or.inr (Or.inl hx))))
    · rcases hat with hat | hat
      · exact Or.inl (Or.inr (Or.inr (Or.inr (Or.inr (by rw [mem_own, ← hat]; exact mem_own.1 hx)))))
      · rw [mem_own, hat] at hx
        cases hx
        exact Or.inr hs1
def RPost (B p : Nat) (F : List Nat) (w : World) (v : Value) (q' : TM) (e : Ending) (w' : World) : Prop :=
  e = .returned v ∧ ∃ F', RefAt w' B p F' q' ∧ Keep F w w' ∧ ∀ x ∈ F', x ∈ F ∨ w.heap.size ≤ x
set_option maxHeartbeats 1000000 in
theorem isR_spec {w : World} {B p : Nat} {F : List Nat} {q : TM} (n : Int) (h : RefAt w B p F q) : Calls Try.prog 29 #[.pointer (some ⟨p, 0, none⟩), .int .i64 n] w (Same' (.bool (isN q n)) w) := by
  obtain ⟨ga, go, gu, vw, h, rfl⟩ := h
  have c0 : w.cell? ⟨p, 0, none⟩ = some (.slice (some ⟨ga, 0, none⟩) q.nodes.length q.nodes.length) := h.head.cell 0
  by_cases h0 : n < 0
  · rw [show isN q n = false by unfold isN; simp; omega]
    go_enter Try.func29, Try.ntmps29
    go_wp2
    go_ret
    exact ⟨rfl, rfl⟩
  · by_cases h1 : n < (q.nodes.length : Int)
    · rw [show isN q n = true by unfold isN; simp; omega]
      go_enter Try.func29, Try.ntmps29
      go_wp2
      go_ret
      exact ⟨rfl, rfl⟩
    · rw [show isN q n = false by unfold isN; simp; omega]
      go_enter Try.func29, Try.ntmps29
      go_wp2
      go_ret
      exact ⟨rfl, rfl⟩
theorem RefIn.at_ {w : World} {B p ga go gu k : Nat} {vw : Value} {q : TM} {x : Nd} (h : RefIn w B p ga go gu vw q) (hx : q.nodes[k]? = some x) : w.cell? ⟨ga, k, none⟩ = some (.bool x.2.1) ∧ w.cell? ⟨go, k, none⟩ = some (.int .i64 x.1) ∧ w.cell? ⟨gu, k, none⟩ = some (.int .i64 x.2.2) := by
  refine ⟨?_, ?_, ?_⟩
  · rw [h.act.cell, List.getElem?_map, hx]; rfl
  · rw [h.owe.cell, List.getElem?_map, hx]; rfl
  · rw [h.up.cell, List.getElem?_map, hx]; rfl
set_option maxHeartbeats 1000000 in
set_option maxRecDepth 100000 in
theorem declR_spec {w : World} {B p : Nat} {F : List Nat} {q : TM} (h : RefAt w B p F q) (h0 : 0 < q.nodes.length) : Calls Try.prog 22 #[.pointer (some ⟨p, 0, none⟩)] w (Same' (.bool (declN q)) w) := by
  obtain ⟨ga, go, gu, vw, h, rfl⟩ := h
  obtain ⟨x, hx⟩ : ∃ x, q.nodes[0]? = some x := ⟨_, List.getElem?_eq_getElem h0⟩
  obtain ⟨e0, e1, e2⟩ := h.at_ hx
  have hnd : nd q 0 = x := nd_of hx
  have c0 : w.cell? ⟨p, 0, none⟩ = some (.slice (some ⟨ga, 0, none⟩) q.nodes.length q.nodes.length) := h.head.cell 0
  have c1 : w.cell? ⟨p, 1, none⟩ = some (.slice (some ⟨go, 0, none⟩) q.nodes.length q.nodes.length) := h.head.cell 1
  rw [show declN q = (!x.2.1 && (x.1 == 0)) by unfold declN; rw [hnd]]
  have hk2 : (0 : Int) < (q.nodes.length : Int) := by omega
  obtain ⟨n, a, u⟩ := x
  simp only at e0 e1
  clear h hx hnd h0 e2
  cases a with
  | true =>
    go_enter Try.func22, Try.ntmps22
    go_wp2
    go_ret
    exact ⟨rfl, rfl⟩
  | false =>
    go_enter Try.func22, Try.ntmps22
    go_wp2
    go_ret
    exact ⟨by simp, rfl⟩
end Go.Proofs.Ytiicmlhpcfhfeaa
