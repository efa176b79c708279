/- What the library's contracts ask of the world: its variables as start-up lays them. -/
import Derived.Test.YtbdkmfcgnolihaaGreatDoorShelf
import Derived.Test.YtbdkmfcgnolihaaGreatDoorBase
import Derived.Stop.LaidErr
namespace Go.Proofs.YtbdkmfcgnolihaaGreatDoor
set_option linter.unusedSimpArgs false
set_option linter.unnecessarySimpa false
set_option linter.unusedVariables false
open Go.RowKit Go.Sort
theorem cell_keep0 {w w' : World} {p : Addr} {v : Value} (k : Keep [] w w') (h : w.cell? p = some v) : w'.cell? p = some v := by
  have hp : p.block < w.heap.size := by
    rcases Nat.lt_or_ge p.block w.heap.size with h1 | h1
    · exact h1
    · unfold World.cell? at h
      rw [Array.getElem?_eq_none h1] at h
      cases h
  exact (k.cell hp (by simp)).trans h
theorem var_keep0 {P : Program} {w w' : World} {n : String} {cs : Array Value} (k : Keep [] w w') (h : w.var? P n = some cs) : w'.var? P n = some cs := by
  unfold World.var? at h ⊢
  cases hg : P.globalNamed n with
  | none => simp [hg] at h
  | some g =>
    simp only [hg, Option.bind_some] at h ⊢
    have hlt : g < w.heap.size := by
      rcases Nat.lt_or_ge g w.heap.size with h' | h'
      · exact h'
      · simp [Array.getElem?_eq_none h'] at h
    rw [k.block g hlt (by simp)]
    exact h
/-- for what prints: the table of tens, the longest string that is searched by hand -/
structure Env (w : World) : Prop where
  max : ∃ m, w.cell? ⟨0, 0, none⟩ = some (.int .i64 m)
  tab : Lib.TabIs Tryz.prog w "internal/strconv.uint64pow10" .u64 Lib.pow10Tab
theorem Env.keep {w w' : World} (h : Env w) (k : Keep [] w w') : Env w' := by
  obtain ⟨⟨m, h1⟩, h2⟩ := h
  exact ⟨⟨m, cell_keep0 k h1⟩, var_keep0 k h2⟩
/-- .. and for what reads: the two errors of strconv -/
structure Env1 (w : World) : Prop where
  env : Env w
  syn : ∃ tp p, w.var? Tryz.prog "strconv.ErrSyntax" = some #[.iface tp p]
  rng : ∃ tp p, w.var? Tryz.prog "strconv.ErrRange" = some #[.iface tp p]
theorem Env1.keep {w w' : World} (h : Env1 w) (k : Keep [] w w') : Env1 w' := by
  obtain ⟨h1, ⟨t, p, h2⟩, ⟨t', p', h3⟩⟩ := h
  exact ⟨h1.keep k, ⟨t, p, var_keep0 k h2⟩, ⟨t', p', var_keep0 k h3⟩⟩
theorem keep_of_below {w w' : World} (h : Below w.heap.size w w') : Keep [] w w' := ⟨h.os, h.tape, h.output, h.size, fun x hx _ => h.block x hx⟩
theorem keep_grow {w : World} {k : Nat} {os : Array Obj} : Keep [] w (grow (w.drewN k) os) :=
  ⟨rfl, rfl, rfl, by simp [grow, World.drewN], fun x hx _ => by
    show (w.heap ++ os)[x]? = w.heap[x]?
    rw [Array.getElem?_append_left hx]⟩
end Go.Proofs.YtbdkmfcgnolihaaGreatDoor
