/- asm: the names that were seen. -/
import Derived.Test.YtbdkmfcgnolihaaGreatDoorRows
import Derived.WalkKit
import Derived.WalkSpells
import Derived.WalkLawsBesides
import Derived.RegionTactic
import Derived.ChangeAlike
import Derived.BigQuiet
import Derived.Deep.QuietTactic
import Derived.StillTailTactics
import Derived.IntWalk
import Derived.Handy
import Derived.Lib.Hide
import Derived.Deep.AppendLies
import Derived.Deep.RegionWith
import Derived.Test.YtbdkmfcgnolihaaGreatDoorBase
import Derived.Test.YtbdkmfcgnolihaaGreatDoorTail
import Derived.Test.YtbdkmfcgnolihaaGreatDoorArgs
import Derived.Test.YtbdkmfcgnolihaaGreatDoorAppend
import Derived.Test.YtbdkmfcgnolihaaGreatDoorOffs
import Derived.Test.YtbdkmfcgnolihaaGreatDoorStructs
import Derived.Carry
import Derived.Deep.RegionHeld3
import Derived.BigRegion
import Derived.Maps.OwnSet
import Derived.Maps.Views
import Derived.Maps.StringElems
import Derived.Test.YtbdkmfcgnolihaaGreatDoorMaps2
import Derived.Deep.CutRange
import Derived.Deep.CutBlock
import Derived.Test.YtbdkmfcgnolihaaGreatDoorAWords
import Derived.Test.YtbdkmfcgnolihaaGreatDoorAObj
namespace Go.Proofs.YtbdkmfcgnolihaaGreatDoor
set_option linter.unusedSimpArgs false
set_option linter.unnecessarySimpa false
set_option linter.unusedVariables false
open Go.RowKit

def keyS (s : BS) : Lit := .string s
theorem keyed9 : Maps.Keyed Tryz.prog 9 := Maps.string_keyed Tryz.underlying9
theorem key_of {s : BS} (hs : s.length ≤ 1000000) : keyOf Tryz.prog 9 (.string (strB s)) = some (keyS s) := by
  have := Go.WideMaps.keyOf_string_mk (P := Tryz.prog) Tryz.underlying9 (s := strB s) (by rw [strB_size]; unfold maxLen; omega)
  rw [strB_data] at this
  exact this
theorem keyS_ne {a b : BS} (h : a ≠ b) : keyS a ≠ keyS b := fun e => h (by unfold keyS at e; cases e; rfl)
theorem bool_inv {P : Program} {e : TypeId} (he : P.underlying e = some .bool) {v : Value} {x : Bool} {ps : List MemPlace} (h : plainElem (H := Unit) P e v = some (.lit (.bool x), ps)) : v = .bool x := by
  unfold plainElem at h
  rw [he] at h
  cases v <;> simp at h
  rw [h.1]
/-- block b is a map that holds these words -/
def SeenIn (w : World) (b n : Nat) (seen : List BS) : Prop := ∃ D : DataW Unit, w.ownsMap Tryz.prog 9 (plainElem Tryz.prog 4) b n D ∧ Maps.Tidy D ∧ ∀ s, D.atKey (keyS s) (.lit (.bool false)) = .lit (.bool (seen.contains s))
theorem SeenIn.lt {w : World} {b n : Nat} {f : List BS} (h : SeenIn w b n f) : b < w.heap.size := by obtain ⟨D, h1, _⟩ := h; exact h1.lt
theorem SeenIn.made (w : World) : SeenIn (w.alloc (.map #[] 0)) w.heap.size 0 [] := ⟨.map [], World.ownsMap_made _ _ _ _, Maps.tidy_empty, fun _ => rfl⟩
theorem SeenIn.keep {S : List Nat} {w w' : World} {b n : Nat} {f : List BS} (h : SeenIn w b n f) (k : Keep S w w') (hb : b ∉ S) : SeenIn w' b n f := by
  have hlt := h.lt
  obtain ⟨D, ⟨es, clock, h1, F, hs, hD⟩, h2, h3⟩ := h
  exact ⟨D, ⟨es, clock, (k.block b hlt hb).trans h1, F, hs, hD⟩, h2, h3⟩
theorem SeenIn.look {w : World} {b n : Nat} {f : List BS} (h : SeenIn w b n f) {s : BS} (hs : s.length ≤ 1000000) :
    (Instr.lookup 62 (.map (some b)) (.string (strB s)) false).run Tryz.prog w = .ok (.bool (f.contains s)) w := by
  obtain ⟨D, h1, _, h3⟩ := h
  obtain ⟨v, ps, hr, hv⟩ := World.ownsMap.lookup h1 keyed9 Tryz.underlying62 (z := .bool false) (by kernel_rfl) (plainElem_bool Tryz.underlying4 false) (key_of hs)
  rw [h3] at hv
  rw [hr, bool_inv Tryz.underlying4 hv]
theorem SeenIn.store {w : World} {b n : Nat} {f : List BS} (h : SeenIn w b n f) {s : BS} (hs : s.length ≤ 1000000) (hn : n ≤ 1000) :
    ∃ w', (Instr.mapUpdate 62 (.map (some b)) (.string (strB s)) (.bool true)).run Tryz.prog w = .ok () w' ∧ SeenIn w' b (n + 1) (f ++ [s]) ∧ Keep [b] w w' := by
  obtain ⟨D, h1, h2, h3⟩ := h
  obtain ⟨w', hr, h5, h6⟩ := h1.store keyed9 Tryz.underlying62 (by unfold maxLen; omega) (key_of hs) (d := .lit (.bool true)) (ps := []) (plainElem_bool Tryz.underlying4 true)
  refine ⟨w', hr, ⟨D.put (keyS s) (.lit (.bool true)), h5, h2.put (by simp [keyS, WideAt.IsKeyLit]) _, fun j => ?_⟩, Keep.of_grown h6.grown (fun x hx => by cases hx; exact Or.inl (by simp))⟩
  by_cases hj : j = s
  · subst hj
    rw [Maps.atKey_put_same h2.isMap (by simp [keyS, WideAt.IsKeyLit]) _ _]
    simp
  · rw [Maps.atKey_put_other (keyS_ne hj), h3 j]
    simp [hj]
end Go.Proofs.YtbdkmfcgnolihaaGreatDoor
