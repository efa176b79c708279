/- asm: jobs in memory. -/
import Derived.Test.YtbdkmfcgnolihaaGreatDoorRows
import Derived.WalkKit
import Derived.WalkSpells
import Derived.WalkLawsBesides
import Derived.RegionTactic
import Derived.ChangeAlike
import Derived.BigQuiet
import Derived.Deep.QuietTactic
import Derived.StillTailTactics
import Derived.IntWalk
import Derived.Handy
import Derived.Lib.Hide
import Derived.Deep.AppendLies
import Derived.Deep.RegionWith
import Derived.Test.YtbdkmfcgnolihaaGreatDoorBase
import Derived.Test.YtbdkmfcgnolihaaGreatDoorTail
import Derived.Test.YtbdkmfcgnolihaaGreatDoorArgs
import Derived.Test.YtbdkmfcgnolihaaGreatDoorAppend
import Derived.Test.YtbdkmfcgnolihaaGreatDoorOffs
import Derived.Test.YtbdkmfcgnolihaaGreatDoorStructs
import Derived.Carry
import Derived.Deep.RegionHeld3
import Derived.BigRegion
import Derived.Maps.OwnSet
import Derived.Maps.Views
import Derived.Maps.StringElems
import Derived.Test.YtbdkmfcgnolihaaGreatDoorMaps2
import Derived.Test.YtbdkmfcgnolihaaGreatDoorFEnv
import Derived.Test.YtbdkmfcgnolihaaGreatDoorANames
namespace Go.Proofs.YtbdkmfcgnolihaaGreatDoor
set_option linter.unusedSimpArgs false
set_option linter.unnecessarySimpa false
set_option linter.unusedVariables false
open Go.RowKit
theorem drop_at {α : Type} {l : List α} {i : Nat} {s : α} (h : l[i]? = some s) : l.drop i = s :: l.drop (i + 1) := by
  have hi : i < l.length := by
    rcases Nat.lt_or_ge i l.length with h1 | h1
    · exact h1
    · rw [List.getElem?_eq_none h1] at h; cases h
  rw [List.drop_eq_getElem_cons hi]
  rw [List.getElem?_eq_getElem hi] at h
  injection h with h
  rw [h]
theorem get_lt {α : Type} {l : List α} {i : Nat} {x : α} (h : l[i]? = some x) : i < l.length := (List.getElem?_eq_some_iff.1 h).1
theorem get_ex {α : Type} {l : List α} {i : Nat} (h : i < l.length) : ∃ x, l[i]? = some x := ⟨_, List.getElem?_eq_getElem h⟩
theorem mem_ownD {v : Value} {x : Nat} : x ∈ ownBlocks v ↔ v.ownBlock = some x := by
  unfold ownBlocks
  simp
theorem own_own {w : World} {B B' : Nat} {e e' : TypeId} {size size' n n' : Nat} {v v' : Value} {xs xs' : List Value} (h : OwnsAt w B e size v n xs) (h' : OwnsAt w B' e' size' v' n' xs') (he : e ≠ e') : ∀ x, v.ownBlock = some x → x ∉ ownBlocks v' := by
  intro x hx hm
  rw [mem_ownD] at hm
  rcases h.2 with ⟨rfl, _⟩ | ⟨g, off, cap, cur, rfl, _, h3, _⟩
  · simp [Value.ownBlock] at hx
  rcases h'.2 with ⟨rfl, _⟩ | ⟨g', off', cap', cur', rfl, _, h3', _⟩
  · simp [Value.ownBlock] at hm
  simp [Value.ownBlock] at hx hm
  subst hx
  subst hm
  rw [h3] at h3'
  injection h3' with h3'
  injection h3' with _ h3'
  exact he h3'
theorem src_lit (w : World) (arr : Array Value) (cs : List Value) (t : TypeId) (size m : Nat) (ha : arr = cs.toArray) (h : cs.length = m * size) : SrcOf (w.alloc (.cells arr t)) (.slice (some ⟨w.heap.size, 0, none⟩) m m) size m cs := by
  subst ha
  refine ⟨_, _, rfl, h, fun _ => ⟨_, rfl, fun j u hu => ?_⟩⟩
  rw [add_none, Nat.zero_add, (Blk.new w t cs).cell, hu]
theorem own_apart {w : World} {B : Nat} {e t : TypeId} {size n g : Nat} {v : Value} {xs cs : List Value} (h : OwnsAt w B e size v n xs) (hb : Blk w g t cs) (ht : t ≠ e) : g ∉ ownBlocks v := by
  intro hg
  rcases h.2 with ⟨rfl, _⟩ | ⟨g', off, cap, cur, rfl, _, h3, _⟩
  · simp [ownBlocks, Value.ownBlock] at hg
  · obtain rfl : g = g' := by simpa [ownBlocks, Value.ownBlock] using hg
    unfold Blk at hb
    rw [hb] at h3
    injection h3 with h3
    injection h3 with _ h3
    exact ht h3
theorem own_base {w : World} {B : Nat} {e : TypeId} {size n : Nat} {v : Value} {xs : List Value} (h : OwnsAt w B e size v n xs) : ∀ x ∈ ownBlocks v, B ≤ x := by
  intro x hx
  refine (h.lt x ?_).1
  unfold ownBlocks at hx
  simpa using hx
def inC (x : IN) : List Value := [.int .i64 x.op, .int .i64 x.n]
theorem inC_len (x : IN) : (inC x).length = 2 := rfl
def inV (x : IN) : Value := .agg #[.int .i64 x.op, .int .i64 x.n]
def fnC (f : FN) (cv : Value) : List Value := [.string (strB f.name), .int .i64 f.args, .int .i64 f.locals, cv]
def fnP (p : FN × Value) : List Value := fnC p.1 p.2
theorem fnP_len (p : FN × Value) : (fnP p).length = 4 := rfl
/-! ### a job's functions as they read -/
def CodeRd (w : World) (v : Value) (l : List IN) : Prop := ∃ a c, v = .slice a l.length c ∧ ∀ (i : Nat) (x : IN), l[i]? = some x → ∃ b off, a = some ⟨b, off, none⟩ ∧ b < w.heap.size ∧ w.cell? ⟨b, off + i * 2, none⟩ = some (.int .i64 x.op) ∧ w.cell? ⟨b, off + i * 2 + 1, none⟩ = some (.int .i64 x.n)
def FnsRd (w : World) (v : Value) (fs : List FN) : Prop := ∃ a c, v = .slice a fs.length c ∧ ∀ (k : Nat) (f : FN), fs[k]? = some f → ∃ b off cv, a = some ⟨b, off, none⟩ ∧ b < w.heap.size ∧ w.cell? ⟨b, off + k * 4, none⟩ = some (.string (strB f.name)) ∧ w.cell? ⟨b, off + k * 4 + 1, none⟩ = some (.int .i64 f.args) ∧ w.cell? ⟨b, off + k * 4 + 2, none⟩ = some (.int .i64 f.locals) ∧ w.cell? ⟨b, off + k * 4 + 3, none⟩ = some cv ∧ CodeRd w cv f.code
def JobRd (w : World) (v : Value) (j : JB) : Prop := ∃ fv av, v = .agg #[fv, .int .i64 j.main, av, .int .i64 j.fuel, .int .i64 j.tasks] ∧ FnsRd w fv j.funcs ∧ IntsOf w av j.args
theorem CodeRd.keep0 {w w' : World} {v : Value} {l : List IN} (h : CodeRd w v l) (k : Keep [] w w') : CodeRd w' v l := by
  obtain ⟨a, c, rfl, h⟩ := h
  refine ⟨a, c, rfl, fun i x hx => ?_⟩
  obtain ⟨b, off, rfl, hb, h1, h2⟩ := h i x hx
  exact ⟨b, off, rfl, Nat.lt_of_lt_of_le hb k.size, cell_keep0 k h1, cell_keep0 k h2⟩
theorem FnsRd.keep0 {w w' : World} {v : Value} {fs : List FN} (h : FnsRd w v fs) (k : Keep [] w w') : FnsRd w' v fs := by
  obtain ⟨a, c, rfl, h⟩ := h
  refine ⟨a, c, rfl, fun i f hf => ?_⟩
  obtain ⟨b, off, cv, rfl, hb, h1, h2, h3, h4, h5⟩ := h i f hf
  exact ⟨b, off, cv, rfl, Nat.lt_of_lt_of_le hb k.size, cell_keep0 k h1, cell_keep0 k h2, cell_keep0 k h3, cell_keep0 k h4, h5.keep0 k⟩
theorem JobRd.keep0 {w w' : World} {v : Value} {j : JB} (h : JobRd w v j) (k : Keep [] w w') : JobRd w' v j := by
  obtain ⟨fv, av, rfl, h1, h2⟩ := h
  exact ⟨fv, av, rfl, h1.keep0 k, h2.keep0 k⟩
theorem FnsRd.shape {w : World} {v : Value} {fs : List FN} (h : FnsRd w v fs) : ∃ a c, v = .slice a fs.length c := by
  obtain ⟨a, c, h, _⟩ := h
  exact ⟨a, c, h⟩
theorem CodeRd.shape {w : World} {v : Value} {l : List IN} (h : CodeRd w v l) : ∃ a c, v = .slice a l.length c := by
  obtain ⟨a, c, h, _⟩ := h
  exact ⟨a, c, h⟩
theorem FnsRd.at_ {w : World} {av : Option Addr} {n c : Nat} {fs : List FN} (h : FnsRd w (.slice av n c) fs) {k : Nat} {f : FN} (hk : fs[k]? = some f) : ∃ b off cv, av = some ⟨b, off, none⟩ ∧ b < w.heap.size ∧ w.cell? ⟨b, off + k * 4, none⟩ = some (.string (strB f.name)) ∧ w.cell? ⟨b, off + k * 4 + 1, none⟩ = some (.int .i64 f.args) ∧ w.cell? ⟨b, off + k * 4 + 2, none⟩ = some (.int .i64 f.locals) ∧ w.cell? ⟨b, off + k * 4 + 3, none⟩ = some cv ∧ CodeRd w cv f.code := by
  obtain ⟨a, c', hv, h⟩ := h
  cases hv
  exact h k f hk
theorem CodeRd.at_ {w : World} {av : Option Addr} {n c : Nat} {l : List IN} (h : CodeRd w (.slice av n c) l) {i : Nat} {x : IN} (hx : l[i]? = some x) : ∃ b off, av = some ⟨b, off, none⟩ ∧ b < w.heap.size ∧ w.cell? ⟨b, off + i * 2, none⟩ = some (.int .i64 x.op) ∧ w.cell? ⟨b, off + i * 2 + 1, none⟩ = some (.int .i64 x.n) := by
  obtain ⟨a, c', hv, h⟩ := h
  cases hv
  exact h i x hx
theorem CodeRd.of_own {w : World} {B : Nat} {v : Value} {l : List IN} (h : OwnsAt w B 47 2 v l.length (l.flatMap inC)) : CodeRd w v l := by
  obtain ⟨a, c, rfl⟩ := h.shape
  refine ⟨a, c, rfl, fun i x hx => ?_⟩
  have hi := get_lt hx
  obtain ⟨g, off, cap, hv, _, _, _, h4, h5⟩ := h.form (by omega)
  injection hv with e1 e2 e3
  subst e1
  have h0 := h5 (i * 2 + 0) (.int .i64 x.op) (by rw [flat_at inC_len l i x 0 hx (by omega)]; rfl)
  have h1 := h5 (i * 2 + 1) (.int .i64 x.n) (by rw [flat_at inC_len l i x 1 hx (by omega)]; rfl)
  exact ⟨g, off, rfl, h4, h0, h1⟩
/-! ### a job's functions at work -/
structure FnsAt (B : Nat) (w : World) (lv : Value) (ps : List (FN × Value)) : Prop where
  own : OwnsAt w B 36 4 lv ps.length (ps.flatMap fnP)
  code : ∀ (k : Nat) (p : FN × Value), ps[k]? = some p → OwnsAt w B 47 2 p.2 p.1.code.length (p.1.code.flatMap inC)
  apart : ∀ (i j : Nat) (p q : FN × Value) (x : Nat), i ≠ j → ps[i]? = some p → ps[j]? = some q → p.2.ownBlock = some x → q.2.ownBlock ≠ some x
theorem FnsAt.nil (B : Nat) (w : World) : FnsAt B w (.slice none 0 0) [] := ⟨OwnsAt.nil _ _ _ _, fun k p h => (by cases h), fun i j p q x _ h => (by cases h)⟩
theorem FnsAt.keep {B : Nat} {S : List Nat} {w w' : World} {lv : Value} {ps : List (FN × Value)} (h : FnsAt B w lv ps) (hk : Keep S w w') (h1 : ∀ x ∈ S, lv.ownBlock ≠ some x) (h2 : ∀ x ∈ S, ∀ (k : Nat) (p : FN × Value), ps[k]? = some p → p.2.ownBlock ≠ some x) : FnsAt B w' lv ps :=
  ⟨h.own.keep hk (fun g hg hx => h1 g hx hg), fun k p hp => (h.code k p hp).keep hk (fun g hg hx => h2 g hx k p hp hg), h.apart⟩
theorem FnsAt.keep0 {B : Nat} {w w' : World} {lv : Value} {ps : List (FN × Value)} (h : FnsAt B w lv ps) (hk : Keep [] w w') : FnsAt B w' lv ps := h.keep hk (by simp) (by simp)
/-- what is written elsewhere: in a slice of another kind -/
theorem FnsAt.other {B B' n size : Nat} {e : TypeId} {w w' : World} {lv v : Value} {ps : List (FN × Value)} {xs : List Value} (h : FnsAt B w lv ps) (ho : OwnsAt w B' e size v n xs) (h36 : e ≠ 36) (h47 : e ≠ 47) (hk : Keep (ownBlocks v) w w') : FnsAt B w' lv ps :=
  h.keep hk (fun x hx hl => own_own ho h.own h36 x (mem_ownD.1 hx) (mem_ownD.2 hl)) (fun x hx k p hp hl => own_own ho (h.code k p hp) h47 x (mem_ownD.1 hx) (mem_ownD.2 hl))
/-- .. in a block of another kind -/
theorem FnsAt.blk {B g : Nat} {t : TypeId} {w w' : World} {lv : Value} {ps : List (FN × Value)} {cs : List Value} (h : FnsAt B w lv ps) (hb : Blk w g t cs) (h36 : t ≠ 36) (h47 : t ≠ 47) (hk : Keep [g] w w') : FnsAt B w' lv ps :=
  h.keep hk (fun x hx hl => by rw [List.mem_singleton.1 hx] at hl; exact own_apart h.own hb h36 (mem_ownD.2 hl)) (fun x hx k p hp hl => by rw [List.mem_singleton.1 hx] at hl; exact own_apart (h.code k p hp) hb h47 (mem_ownD.2 hl))
theorem FnsAt.push {B : Nat} {w w' : World} {lv v' : Value} {ps : List (FN × Value)} {f : FN} (h : FnsAt B w lv ps) (hf : f.code = []) (hk : Keep (ownBlocks lv) w w') (ho : OwnsAt w' B 36 4 v' (ps.length + 1) (ps.flatMap fnP ++ fnC f (.slice none 0 0))) : FnsAt B w' v' (ps ++ [(f, .slice none 0 0)]) := by
  refine ⟨?_, fun k p hp => ?_, fun i j p q x hij hp hq hx => ?_⟩
  · rw [List.flatMap_append, List.length_append, List.length_singleton]
    simpa [fnP] using ho
  · rcases Nat.lt_or_ge k ps.length with hk' | hk'
    · rw [List.getElem?_append_left hk'] at hp
      exact (h.code k p hp).keep hk (own_own (h.code k p hp) h.own (by decide))
    · have h3 := get_lt hp
      rw [List.length_append, List.length_singleton] at h3
      obtain rfl : k = ps.length := by omega
      rw [List.getElem?_append_right (Nat.le_refl _), Nat.sub_self] at hp
      cases hp
      rw [hf]
      exact OwnsAt.nil _ _ _ _
  · rcases Nat.lt_or_ge i ps.length with hi | hi
    · rw [List.getElem?_append_left hi] at hp
      rcases Nat.lt_or_ge j ps.length with hj | hj
      · rw [List.getElem?_append_left hj] at hq
        exact h.apart i j p q x hij hp hq hx
      · rw [List.getElem?_append_right hj] at hq
        have h3 := get_lt hq
        simp at h3
        rw [h3] at hq
        cases hq
        simp [Value.ownBlock]
    · rw [List.getElem?_append_right hi] at hp
      have h3 := get_lt hp
      simp at h3
      rw [h3] at hp
      cases hp
      simp [Value.ownBlock] at hx
theorem set_get {α : Type} {l : List α} {k i : Nat} {a : α} {p : α} (h : (l.set k a)[i]? = some p) : (i = k ∧ p = a) ∨ (i ≠ k ∧ l[i]? = some p) := by
  by_cases e : i = k
  · subst e
    rw [List.getElem?_set_self (by have := get_lt h; simpa using this)] at h
    cases h
    exact Or.inl ⟨rfl, rfl⟩
  · rw [List.getElem?_set_ne (fun h => e h.symm)] at h
    exact Or.inr ⟨e, h⟩
theorem FnsAt.add {B g off n cap k : Nat} {w w7 : World} {v7 cv : Value} {ps : List (FN × Value)} {f : FN} {i : IN} (h : FnsAt B w (.slice (some ⟨g, off, none⟩) n cap) ps) (hk : ps[k]? = some (f, cv)) (hK : Keep (ownBlocks cv) w w7) (ho : OwnsAt w7 B 47 2 v7 (f.code.length + 1) (f.code.flatMap inC ++ inC i)) (hb : v7.ownBlock = cv.ownBlock ∨ v7.ownBlock = some w.heap.size) :
    FnsAt B (w7.setCell ⟨g, off + k * 4 + 3, none⟩ v7) (.slice (some ⟨g, off, none⟩) n cap) (ps.set k ({ f with code := f.code ++ [i] }, v7)) := by
  have hcode := h.code k _ hk
  have hn : n = ps.length := by obtain ⟨a, c, e⟩ := h.own.shape; injection e
  have hlv7 : OwnsAt w7 B 36 4 (.slice (some ⟨g, off, none⟩) n cap) ps.length (ps.flatMap fnP) := h.own.keep hK (own_own h.own hcode (by decide))
  subst hn
  have hgv7 : v7.ownBlock ≠ some g := by
    intro e
    exact own_own hlv7 ho (by decide) g rfl (mem_ownD.2 e)
  have kS : Keep [g] w7 (w7.setCell ⟨g, off + k * 4 + 3, none⟩ v7) := (Keep.refl _ _).setCell (by simp) _
  refine ⟨?_, fun j p hp => ?_, fun i' j p q x hij hp hq hx => ?_⟩
  · have := hlv7.set_ (k * 4 + 3) v7
    rw [flat_set_ fnP_len ps k (f, cv) ({ f with code := f.code ++ [i] }, v7) 3 v7 hk (by omega) rfl, ← Nat.add_assoc] at this
    rw [List.length_set]
    exact this
  · rcases set_get hp with ⟨rfl, rfl⟩ | ⟨hne, hp⟩
    · have h9 : OwnsAt w7 B 47 2 v7 (f.code ++ [i]).length ((f.code ++ [i]).flatMap inC) := by
        rw [List.length_append, List.flatMap_append]
        simpa using ho
      exact h9.keep kS (fun x hx hm => hgv7 (by rw [← List.mem_singleton.1 hm]; exact hx))
    · have h9 := (h.code j p hp).keep hK (fun x hx hm => h.apart k j _ p x (fun e => hne e.symm) hk hp (mem_ownD.1 hm) hx)
      exact h9.keep kS (fun x hx hm => own_own h9 hlv7 (by decide) x hx (mem_ownD.2 (by rw [List.mem_singleton.1 hm]; rfl)))
  · rcases set_get hp with ⟨rfl, rfl⟩ | ⟨hne, hp'⟩
    · rcases set_get hq with ⟨rfl, rfl⟩ | ⟨hne2, hq⟩
      · exact absurd rfl hij
      · intro hq2
        rcases hb with hb | hb
        · rw [hb] at hx
          exact h.apart i' j _ q x hij hk hq hx hq2
        · rw [hb] at hx
          cases hx
          have := ((h.code j q hq).lt _ hq2).2
          omega
    · rcases set_get hq with ⟨rfl, rfl⟩ | ⟨hne2, hq⟩
      · intro hq2
        rcases hb with hb | hb
        · rw [hb] at hq2
          exact h.apart i' j p _ x hij hp' hk hx hq2
        · rw [hb] at hq2
          cases hq2
          have := ((h.code i' p hp').lt _ hx).2
          omega
      · exact h.apart i' j p q x hij hp' hq hx
theorem set_modify {α : Type} (l : List α) (i : Nat) (x : α) (f : α → α) (h : l[i]? = some x) : l.modify i f = l.set i (f x) := by
  apply List.ext_getElem?
  intro j
  rw [List.getElem?_modify, List.getElem?_set]
  by_cases e : i = j
  · subst e
    simp only [h, get_lt h, List.getElem?_eq_getElem, if_true, Option.map_eq_map, Option.map_some, List.getElem?_set_self, ite_true]
  · simp [e]
theorem FnsAt.num {B k i : Nat} {w : World} {lv : Value} {ps : List (FN × Value)} {f : FN} {x : IN} {g off n cap : Nat} (h : FnsAt B w lv ps) (hk : ps[k]? = some (f, .slice (some ⟨g, off, none⟩) n cap)) (hx : f.code[i]? = some x) (m : Int) :
    FnsAt B (w.setCell ⟨g, off + i * 2 + 1, none⟩ (.int .i64 m)) lv (ps.set k ({ f with code := f.code.modify i fun x => { x with n := m } }, .slice (some ⟨g, off, none⟩) n cap)) := by
  have hcode := h.code k _ hk
  have hn : n = f.code.length := by obtain ⟨a, c, e⟩ := hcode.shape; injection e
  subst hn
  have kS : Keep [g] w (w.setCell ⟨g, off + i * 2 + 1, none⟩ (.int .i64 m)) := (Keep.refl _ _).setCell (by simp) _
  refine ⟨?_, fun j p hp => ?_, fun i' j p q y hij hp hq hy => ?_⟩
  · have h1 := h.own.keep kS (fun y hy hm => own_own h.own hcode (by decide) y hy (mem_ownD.2 (by rw [List.mem_singleton.1 hm]; rfl)))
    rw [List.length_set]
    have e : (ps.set k ({ f with code := f.code.modify i fun x => { x with n := m } }, .slice (some ⟨g, off, none⟩) f.code.length cap)).flatMap fnP = ps.flatMap fnP := by
      have h2 := flat_set_ fnP_len ps k (f, .slice (some ⟨g, off, none⟩) f.code.length cap) ({ f with code := f.code.modify i fun x => { x with n := m } }, .slice (some ⟨g, off, none⟩) f.code.length cap) 0 (.string (strB f.name)) hk (by omega) rfl
      rw [← h2]
      apply List.ext_getElem?
      intro j
      rw [List.getElem?_set]
      split
      · rename_i e
        subst e
        have h3 := flat_at fnP_len ps k _ 0 hk (by omega)
        rw [h3]
        have h4 := get_lt h3
        rw [if_pos h4]
        rfl
      · rfl
    rw [e]
    exact h1
  · rcases set_get hp with ⟨rfl, rfl⟩ | ⟨hne, hp⟩
    · have h9 := hcode.set_ (i * 2 + 1) (.int .i64 m)
      rw [flat_set_ inC_len f.code i x { x with n := m } 1 (.int .i64 m) hx (by omega) rfl, ← Nat.add_assoc] at h9
      simp only [set_modify _ _ _ _ hx, List.length_set]
      exact h9
    · exact (h.code j p hp).keep kS (fun y hy hm => h.apart k j _ p y (fun e => hne e.symm) hk hp (by rw [List.mem_singleton.1 hm]; rfl) hy)
  · rcases set_get hp with ⟨rfl, rfl⟩ | ⟨hne, hp'⟩
    · rcases set_get hq with ⟨rfl, rfl⟩ | ⟨hne2, hq⟩
      · exact absurd rfl hij
      · exact h.apart i' j (f, .slice (some ⟨g, off, none⟩) f.code.length cap) q y hij hk hq hy
    · rcases set_get hq with ⟨rfl, rfl⟩ | ⟨hne2, hq⟩
      · exact h.apart i' j p (f, .slice (some ⟨g, off, none⟩) f.code.length cap) y hij hp' hk hy
      · exact h.apart i' j p q y hij hp' hq hy
/-- a function's cells -/
theorem FnsAt.fn {B k : Nat} {w : World} {lv : Value} {ps : List (FN × Value)} {f : FN} {cv : Value} (h : FnsAt B w lv ps) (hk : ps[k]? = some (f, cv)) : ∃ g off cap, lv = .slice (some ⟨g, off, none⟩) ps.length cap ∧ g < w.heap.size ∧ (∀ i, w.frozen? ⟨g, i, none⟩ = false) ∧ w.cell? ⟨g, off + k * 4, none⟩ = some (.string (strB f.name)) ∧ w.cell? ⟨g, off + k * 4 + 1, none⟩ = some (.int .i64 f.args) ∧ w.cell? ⟨g, off + k * 4 + 2, none⟩ = some (.int .i64 f.locals) ∧ w.cell? ⟨g, off + k * 4 + 3, none⟩ = some cv ∧ k < ps.length ∧ B ≤ g := by
  have hl := get_lt hk
  obtain ⟨g, off, cap, hv, h1, h2, h3, h4, h5⟩ := h.own.form (by omega)
  subst hv
  have hat : ∀ (j : Nat) (u : Value), j < 4 → (fnC f cv)[j]? = some u → w.cell? ⟨g, off + (k * 4 + j), none⟩ = some u := fun j u hj hu => h5 _ u (by rw [flat_at fnP_len ps k (f, cv) j hk hj]; exact hu)
  exact ⟨g, off, cap, rfl, h4, fun i => h.own.free i, hat 0 _ (by omega) rfl, hat 1 _ (by omega) rfl, hat 2 _ (by omega) rfl, hat 3 _ (by omega) rfl, hl, h3⟩
theorem FnsAt.reads {B : Nat} {w : World} {lv : Value} {ps : List (FN × Value)} (h : FnsAt B w lv ps) : FnsRd w lv (ps.map Prod.fst) := by
  obtain ⟨a, c, rfl⟩ := h.own.shape
  refine ⟨a, c, by rw [List.length_map], fun k f hf => ?_⟩
  rw [List.getElem?_map] at hf
  obtain ⟨⟨f', cv⟩, hp, rfl⟩ := Option.map_eq_some_iff.1 hf
  obtain ⟨g, off, cap, hv, h1, _, h2, h3, h4, h5, _⟩ := h.fn hp
  injection hv with e1 e2 e3
  exact ⟨g, off, cv, e1, h1, h2, h3, h4, h5, CodeRd.of_own (h.code k _ hp)⟩
end Go.Proofs.YtbdkmfcgnolihaaGreatDoor
