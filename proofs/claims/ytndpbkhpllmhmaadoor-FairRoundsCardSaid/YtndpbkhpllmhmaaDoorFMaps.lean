/- Fair: the map of the last work of every node, the empty map of those that crashed. -/
import Derived.Test.YtndpbkhpllmhmaaDoorRows
import Derived.WalkKit
import Derived.WalkSpells
import Derived.WalkLawsBesides
import Derived.RegionTactic
import Derived.ChangeAlike
import Derived.BigQuiet
import Derived.Deep.QuietTactic
import Derived.StillTailTactics
import Derived.IntWalk
import Derived.Handy
import Derived.Lib.Hide
import Derived.Deep.AppendLies
import Derived.Deep.RegionWith
import Derived.Test.YtndpbkhpllmhmaaDoorBase
import Derived.Test.YtndpbkhpllmhmaaDoorTail
import Derived.Test.YtndpbkhpllmhmaaDoorArgs
import Derived.Test.YtndpbkhpllmhmaaDoorAppend
import Derived.Test.YtndpbkhpllmhmaaDoorOffs
import Derived.Test.YtndpbkhpllmhmaaDoorStructs
import Derived.Test.YtndpbkhpllmhmaaDoorShelf
import Derived.Carry
import Derived.Deep.RegionHeld3
import Derived.BigRegion
import Derived.Maps.OwnSet
import Derived.Maps.Views
import Derived.Maps.StringElems
import Derived.Test.YtndpbkhpllmhmaaDoorMaps2
import Derived.Test.YtndpbkhpllmhmaaDoorFWords
import Derived.Test.YtndpbkhpllmhmaaDoorFEnv
import Derived.Test.YtndpbkhpllmhmaaDoorFPlain
import Derived.Test.YtndpbkhpllmhmaaDoorFSteps
namespace Go.Proofs.YtndpbkhpllmhmaaDoor
open Go.RowKit
def keyL (k : Int) : Lit := .int .i64 k
theorem keyed3 : Maps.Keyed Tryd.prog 3 := Maps.int_keyed Tryd.underlying3
theorem key_of {k : Int} (hw : (Lit.int .i64 k).wf = true) : keyOf Tryd.prog 3 (.int .i64 k) = some (keyL k) := Maps.keyOf_int_mk Tryd.underlying3 hw
theorem keyL_ne {a b : Int} (h : a ≠ b) : keyL a ≠ keyL b := fun e => h (by unfold keyL at e; cases e; rfl)
/-- block b is a map that reads as f -/
def LastIn (w : World) (b n : Nat) (f : Int → Int) : Prop :=
  ∃ D : DataW Unit, w.ownsMap Tryd.prog 3 (plainElem Tryd.prog 3) b n D ∧ Maps.Tidy D ∧ ∀ k, D.atKey (keyL k) (.lit (.int .i64 0)) = .lit (.int .i64 (f k))
theorem LastIn.lt {w : World} {b n : Nat} {f : Int → Int} (h : LastIn w b n f) : b < w.heap.size := by obtain ⟨D, h1, _⟩ := h; exact h1.lt
theorem LastIn.made (w : World) : LastIn (w.alloc (.map #[] 0)) w.heap.size 0 (fun _ => 0) := ⟨.map [], World.ownsMap_made _ _ _ _, Maps.tidy_empty, fun _ => rfl⟩
theorem LastIn.keep {S : List Nat} {w w' : World} {b n : Nat} {f : Int → Int} (h : LastIn w b n f) (k : Keep S w w') (hb : b ∉ S) : LastIn w' b n f := by
  have hlt := h.lt
  obtain ⟨D, ⟨es, clock, h1, F, hs, hD⟩, h2, h3⟩ := h
  exact ⟨D, ⟨es, clock, (k.block b hlt hb).trans h1, F, hs, hD⟩, h2, h3⟩
theorem LastIn.look {w : World} {b n : Nat} {f : Int → Int} (h : LastIn w b n f) {k : Int} (hw : (Lit.int .i64 k).wf = true) :
    (Instr.lookup 80 (.map (some b)) (.int .i64 k) false).run Tryd.prog w = .ok (.int .i64 (f k)) w := by
  obtain ⟨D, h1, _, h3⟩ := h
  obtain ⟨c, hr, hat, _⟩ := h1.lookup_int keyed3 Tryd.underlying80 Tryd.underlying3 (by kernel_rfl) (key_of hw)
  rw [h3] at hat
  cases hat
  exact hr
theorem LastIn.store {w : World} {b n : Nat} {f : Int → Int} (h : LastIn w b n f) {k v : Int} (hw : (Lit.int .i64 k).wf = true) (hv : (Lit.int .i64 v).wf = true) (hn : n ≤ 1000) :
    ∃ w', (Instr.mapUpdate 80 (.map (some b)) (.int .i64 k) (.int .i64 v)).run Tryd.prog w = .ok () w' ∧ LastIn w' b (n + 1) (fun j => if j = k then v else f j) ∧ Keep [b] w w' := by
  obtain ⟨D, h1, h2, h3⟩ := h
  obtain ⟨w', hr, h5, h6⟩ := h1.store keyed3 Tryd.underlying80 (by unfold maxLen; omega) (key_of hw) (d := .lit (.int .i64 v)) (ps := []) (plainElem_int Tryd.underlying3 hv)
  refine ⟨w', hr, ⟨D.put (keyL k) (.lit (.int .i64 v)), h5, h2.put (by simp [keyL, WideAt.IsKeyLit]) _, fun j => ?_⟩, Keep.of_grown h6.grown (fun x hx => by cases hx; exact Or.inl (by simp))⟩
  by_cases hj : j = k
  · subst hj
    simp only [if_true]
    exact Maps.atKey_put_same h2.isMap (by simp [keyL, WideAt.IsKeyLit]) _ _
  · simp only [if_neg hj]
    rw [Maps.atKey_put_other (keyL_ne hj)]
    exact h3 j
/-- block b is an empty map of bools -/
def GoneIn (w : World) (b : Nat) : Prop := w.ownsMap (H := Unit) Tryd.prog 3 (plainElem Tryd.prog 4) b 0 (.map [])
theorem GoneIn.lt {w : World} {b : Nat} (h : GoneIn w b) : b < w.heap.size := World.ownsMap.lt h
theorem GoneIn.made (w : World) : GoneIn (w.alloc (.map #[] 0)) w.heap.size := World.ownsMap_made _ _ _ _
theorem GoneIn.keep {S : List Nat} {w w' : World} {b : Nat} (h : GoneIn w b) (k : Keep S w w') (hb : b ∉ S) : GoneIn w' b := by
  have hlt := h.lt
  obtain ⟨es, clock, h1, F, hs, hD⟩ := h
  exact ⟨es, clock, (k.block b hlt hb).trans h1, F, hs, hD⟩
theorem bool_inv {P : Program} {e : TypeId} (he : P.underlying e = some .bool) {v : Value} {x : Bool} {ps : List MemPlace} (h : plainElem (H := Unit) P e v = some (.lit (.bool x), ps)) : v = .bool x := by
  unfold plainElem at h
  rw [he] at h
  cases v <;> simp at h
  rw [h.1]
theorem bool_of {v : Value} {x : Bool} {ps : List MemPlace} (h : plainElem (H := Unit) Tryd.prog 4 v = some (.lit (.bool x), ps)) : v = .bool x := bool_inv Tryd.underlying4 h
theorem GoneIn.look {w : World} {b : Nat} (h : GoneIn w b) {k : Int} (hw : (Lit.int .i64 k).wf = true) :
    (Instr.lookup 81 (.map (some b)) (.int .i64 k) false).run Tryd.prog w = .ok (.bool false) w := by
  obtain ⟨v, ps, hr, hv⟩ := World.ownsMap.lookup h keyed3 Tryd.underlying81 (z := .bool false) (by kernel_rfl) (plainElem_bool Tryd.underlying4 false) (key_of hw)
  have hv2 : plainElem (H := Unit) Tryd.prog 4 v = some (.lit (.bool false), ps) := hv
  rw [hr, bool_of hv2]
end Go.Proofs.YtndpbkhpllmhmaaDoor
