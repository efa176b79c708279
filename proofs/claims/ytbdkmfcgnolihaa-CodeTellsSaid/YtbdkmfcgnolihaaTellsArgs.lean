/- How the arguments of CodeTells are read. -/
import Derived.Test.YtbdkmfcgnolihaaRows
import Derived.WalkKit
import Derived.WalkSpells
import Derived.WalkLawsBesides
import Derived.RegionTactic
import Derived.ChangeAlike
import Derived.BigQuiet
import Derived.Deep.QuietTactic
import Derived.StillTailTactics
import Derived.IntWalk
import Derived.Handy
import Derived.Deep.Slices
import Derived.Deep.Fields
import Derived.Lib.Hide
import Derived.Deep.AppendLies
import Derived.Deep.RegionWith
import Derived.Test.YtbdkmfcgnolihaaBase
import Derived.Test.YtbdkmfcgnolihaaTail
import Derived.Test.YtbdkmfcgnolihaaArgs
import Derived.Test.YtbdkmfcgnolihaaAppend
import Derived.Test.YtbdkmfcgnolihaaWords
import Derived.Test.YtbdkmfcgnolihaaWordsLaw
import Derived.Test.YtbdkmfcgnolihaaStack
import Derived.Test.YtbdkmfcgnolihaaRefWords
import Derived.Test.YtbdkmfcgnolihaaTellsLaw
namespace Go.Proofs.Ytbdkmfcgnolihaa
open Go.ChangeShapes Go.WideShapes Go.RowKit Go.Deep
open Go.ChangeMaps (open_string)


section
variable {H : Type} {enc : TypeId × Value → H} {W : World} {base : Nat}
theorem ins_open {v : Value} {d : DataW H} {p : List MemPlace} (o : Value.okWide Try.prog W .any base 28 v) (h : DataW.Trod enc Try.prog W 0 (fun _ => true) true 28 v d p) : ∃ op n, v = .agg #[.int .i64 op, .int .i64 n] := by
  obtain ⟨cs, rfl, hsz⟩ := okWide_struct Try.underlying28 o
  obtain ⟨fuel, hf⟩ := h
  obtain ⟨xs, hx, hl, _⟩ := ints_of_struct Try.underlying28 (by kernel_rfl) (by kernel_rfl) hf
  have hl2 : xs.length = 2 := hl
  obtain ⟨l⟩ := cs
  match xs, hl2, hx with
  | [x0, x1], _, hx =>
    simp [Value.cells] at hx
    exact ⟨x0, x1, by rw [hx]⟩
theorem funcs_open {v : Value} {d : DataW H} {p : List MemPlace} (o : Value.okWide Try.prog W .any base 32 v) (h : DataW.Trod enc Try.prog W 0 (fun _ => true) true 32 v d p) : ∃ fa, FuncsOf W v fa := by
  obtain ⟨css, ⟨a, c, hv, hr⟩, hall⟩ := rows_open 4 Try.underlying32 (by kernel_rfl) (by omega) o h
  obtain ⟨fa, hlen, hx⟩ := choose_list (fun cs (x : Int) => cs[1]? = some (.int .i64 x)) css (fun cs hcs => by
    obtain ⟨n, y, hy⟩ := hall cs hcs
    obtain ⟨ys, m, _, _, hlen, hyl, hf⟩ := DataW.trod_struct Try.underlying31 hy
    have h1 := hf 1 _ rfl
    have hl4 : cs.length = 4 := hlen.trans (by kernel_rfl)
    match cs, hl4 with
    | [c0, c1, c2, c3], _ =>
      have hyl4 : ys.length = 4 := hyl
      rw [List.getElem?_eq_getElem (by omega)] at h1
      have h2 : DataW.trod enc Try.prog W 0 (fun _ => true) true m 3 [c1] = some ys[1] := h1
      obtain ⟨x, hx, _, _⟩ := DataW.trod_int Try.underlying3 h2
      simp at hx
      exact ⟨x, by simp [hx]⟩)
  refine ⟨fa, a, c, by rw [hlen]; exact hv, fun hne => ?_⟩
  obtain ⟨b, off, ha, hb, hc⟩ := hr (by intro h; subst h; simp at hlen; exact hne hlen)
  refine ⟨b, off, ha, hb, fun k x hk => ?_⟩
  have hk' : k < fa.length := by
    rcases Nat.lt_or_ge k fa.length with h | h
    · exact h
    · rw [List.getElem?_eq_none h] at hk; cases hk
  have h1 := hx k _ _ (List.getElem?_eq_getElem (by omega)) hk
  exact (hc k _ (List.getElem?_eq_getElem (by omega))).2 1 _ h1
theorem walk_codeTells (W : World) {v0 v1 v3 : Value} {at_ : Int} {d0 d1 d3 : DataW H} {p0 p1 p3 : List MemPlace} {b1 b2 b3 : Nat}
    (o0 : Value.okWide Try.prog W .any b1 28 v0) (h0 : DataW.Trod enc Try.prog W 0 (fun _ => true) true 28 v0 d0 p0)
    (o1 : Value.okWide Try.prog W .any b2 32 v1) (h1 : DataW.Trod enc Try.prog W 0 (fun _ => true) true 32 v1 d1 p1) (w2 : (Lit.int .i64 at_).wf = true)
    (o3 : Value.okWide Try.prog W .any b3 9 v3) (h3 : DataW.Trod enc Try.prog W 0 (fun _ => true) true 9 v3 d3 p3) :
    Calls Try.prog 5 #[v0, v1, .int .i64 at_, v3] W fun e w' => e = .returned (.bool true) ∧ Below W.heap.size W w' := by
  obtain ⟨op, n, rfl⟩ := ins_open o0 h0
  obtain ⟨fa, hf⟩ := funcs_open o1 h1
  obtain ⟨s, rfl, _, _, _⟩ := open_string Try.underlying9 o3 h3
  exact (codeTells_any W op n at_ v1 fa s hf (bounds_i64 w2).1).mono fun _ _ ⟨he, hk⟩ => ⟨he, hk.to_below⟩
end
end Go.Proofs.Ytbdkmfcgnolihaa
