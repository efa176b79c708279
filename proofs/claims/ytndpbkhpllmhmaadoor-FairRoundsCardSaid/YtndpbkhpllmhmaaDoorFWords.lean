/- fair: the words of the steps. -/
import Derived.Test.YtndpbkhpllmhmaaDoorRows
import Derived.WalkKit
import Derived.WalkSpells
import Derived.WalkLawsBesides
import Derived.RegionTactic
import Derived.ChangeAlike
import Derived.BigQuiet
import Derived.Deep.QuietTactic
import Derived.StillTailTactics
import Derived.IntWalk
import Derived.Handy
import Derived.Lib.Hide
import Derived.Deep.AppendLies
import Derived.Deep.RegionWith
import Derived.Test.YtndpbkhpllmhmaaDoorBase
import Derived.Test.YtndpbkhpllmhmaaDoorTail
import Derived.Test.YtndpbkhpllmhmaaDoorArgs
import Derived.Test.YtndpbkhpllmhmaaDoorAppend
import Derived.Test.YtndpbkhpllmhmaaDoorOffs
import Derived.Test.YtndpbkhpllmhmaaDoorStructs
import Derived.Test.YtndpbkhpllmhmaaDoorShelf
import Derived.Carry
import Derived.Maps.OwnSet
import Derived.Maps.Views
import Derived.Maps.StringElems
import Derived.Test.YtndpbkhpllmhmaaDoorMaps2
namespace Go.Proofs.YtndpbkhpllmhmaaDoor
open Go.RowKit Go.ChangeMaps Go.MapKept Go.WideShapes
open Go.WideElems (Fit rd rg pl rd_val elemAt)
open Go.Maps (Keyed IsMap Tidy)



/-- a map that was made since w -/
def MapMade (w : World) (b : Nat) (w1 : World) (n : Nat) (D : DataW Unit) : Prop := w1.ownsMap Tryd.prog 3 (plainElem Tryd.prog 9) b n D ∧ Keep [] w w1 ∧ w.heap.size ≤ b
theorem law3 : Keyed Tryd.prog 3 := Maps.int_keyed Tryd.underlying3
theorem MapMade.new (w : World) : MapMade w w.heap.size (w.alloc (.map #[] 0)) 0 (.map []) := ⟨World.ownsMap_made _ _ _ _, (Keep.refl _ _).alloc _, Nat.le_refl _⟩
theorem wpList_insert_made {w : World} {b : Nat} (w1 : World) {ops : Array Oper} {rest : List Oper} {o : Oper} {a : Act} {Q : Exit → Act → World → Prop}
    (hg : o.guard = none) (m x v : Operand) (hop : o.op = Op.insert 114 m x v) {n : Nat} {D : DataW Unit} (h : MapMade w b w1 n D) (hm : a.eval m = .map (some b)) (hn : n < 100) (k : Int) (s : ByteArray) (hx : a.eval x = .int .i64 k) (hv : a.eval v = .string s)
    (hk : (Lit.int .i64 k).wf = true) (hs : s.size ≤ maxLen)
    (hK : ∀ w', MapMade w b w' (n + 1) (D.put (.int .i64 k) (.lit (.string s.data.toList))) → wpList Tryd.prog ops Q rest (a.put o.dst undef) w') : wpList Tryd.prog ops Q (o :: rest) a w1 :=
  wpList_insert_own w1 hg m x v 114 hop 3 9 law3 Tryd.underlying114 _ b n D hm h.1 (by unfold maxLen; omega) _ _ _ hx hv (Maps.keyOf_int_mk Tryd.underlying3 hk) _ [] (plainElem_string Tryd.underlying9 hs) (fun w' h1 h2 =>
    hK w' ⟨h1, h.2.1.trans (Keep.of_grown (S := [b]) h2 (fun k hk => by cases hk; simp)) (fun x hx => Or.inr (by rw [show x = b by simpa using hx]; exact h.2.2)), h.2.2⟩)
theorem at_insert {P : Program} {w1 : World} {ops : Array Oper} {rest : List Oper} {o : Oper} {a : Act} {Q : Exit → Act → World → Prop} {t : TypeId} {m x v : Operand} (_ : o.op = Op.insert t m x v) (h : wpList P ops Q (o :: rest) a w1) : wpList P ops Q (o :: rest) a w1 := h
/-- the words of the steps, by their kinds -/
def wWork : ByteArray := ⟨#[119, 111, 114, 107, 32, 110]⟩
def wordsD : DataW Unit := .map [(.int .i64 1, .lit (.string [119, 111, 114, 107, 32, 110])), (.int .i64 2, .lit (.string [116, 105, 99, 107])), (.int .i64 3, .lit (.string [100, 101, 108, 105, 118, 101, 114, 32, 107])), (.int .i64 4, .lit (.string [100, 114, 111, 112, 32, 107])), (.int .i64 5, .lit (.string [100, 117, 112, 32, 107])), (.int .i64 6, .lit (.string [102, 108, 105, 112, 32, 107, 32, 98])), (.int .i64 7, .lit (.string [99, 114, 97, 115, 104, 32, 110]))]
def WordsPost (w : World) (e : Ending) (w' : World) : Prop := e = .returned (.map (some w.heap.size)) ∧ MapMade w w.heap.size w' 7 wordsD
set_option maxHeartbeats 800000 in
theorem words_spec (w : World) : Calls Tryd.prog 58 #[] w (WordsPost w) := by
  have h0 := MapMade.new w
  have hmm := @run_makeMap Tryd.prog
  go_enter Tryd.func58, Tryd.ntmps58
  go_wp2_with (refine at_insert rfl ?_; go_must (refine wpList_insert_made _ rfl _ _ _ rfl (by assumption) rfl (by omega) _ _ rfl rfl (by decide) (by unfold maxLen; decide) ?_); intro w1 h1)
  go_ret
  exact ⟨rfl, h1⟩
end Go.Proofs.YtndpbkhpllmhmaaDoor
