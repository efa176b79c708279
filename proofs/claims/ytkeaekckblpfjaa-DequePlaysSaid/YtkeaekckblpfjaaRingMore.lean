/- Small lemmas on rings and own slices. -/
import Derived.Test.YtkeaekckblpfjaaRows
import Derived.Test.YtkeaekckblpfjaaBase
import Derived.WalkKit
import Derived.WalkSpells
import Derived.WalkLawsBesides
import Derived.RegionTactic
import Derived.ChangeAlike
import Derived.BigQuiet
import Derived.Deep.QuietTactic
import Derived.StillTailTactics
import Derived.IntWalk
import Derived.Handy
import Derived.Lib.Hide
import Derived.Test.YtkeaekckblpfjaaTail
import Derived.Test.YtkeaekckblpfjaaRing
import Derived.Test.YtkeaekckblpfjaaGrown
import Derived.Test.YtkeaekckblpfjaaSizes
import Derived.Test.YtkeaekckblpfjaaArgs
import Derived.Test.YtkeaekckblpfjaaAppend
import Derived.Deep.AppendLies
namespace Go.Proofs.Ytkeaekckblpfjaa
open Go.RowKit




theorem Try.ints29 : SliceTy Try.prog 29 3 (.int .i64 0) 1 8 := ⟨Try.underlying29, by kernel_rfl, rfl, by decide⟩
theorem IntRows.at3 {w : World} {v : Value} {xss : List (List Int)} (h : IntRows w v 3 xss) {k : Nat} (hk : k < xss.length) :
    ∃ b off c x0 x1 x2, v = .slice (some ⟨b, off, none⟩) xss.length c ∧ xss[k] = [x0, x1, x2] ∧ w.cell? ⟨b, off + k * 3, none⟩ = some (.int .i64 x0) ∧ w.cell? ⟨b, off + k * 3 + 1, none⟩ = some (.int .i64 x1) ∧ w.cell? ⟨b, off + k * 3 + 2, none⟩ = some (.int .i64 x2) := by
  obtain ⟨a, c, hv, h⟩ := h
  obtain ⟨b, off, rfl, _, hc⟩ := h (by intro h; simp at h; subst h; simp at hk)
  have h1 := hc k (xss[k].map (.int .i64)) (by rw [List.getElem?_map, List.getElem?_eq_getElem hk]; rfl)
  obtain ⟨hl, hcell⟩ := h1
  simp at hl
  match hx : xss[k], hl with
  | [x0, x1, x2], _ =>
    rw [hx] at hcell
    exact ⟨b, off, c, x0, x1, x2, by simpa using hv, rfl, hcell 0 _ rfl, hcell 1 _ rfl, hcell 2 _ rfl⟩
theorem own_shape {w : World} {B : Nat} {e : TypeId} {size n : Nat} {v : Value} {xs : List Value} (h : w.ownsRow B e size v n xs) : ∃ a c, v = .slice a n c := by
  rcases h.2 with ⟨rfl, hn⟩ | ⟨g, cap, cur, rfl, _⟩
  · subst hn; exact ⟨none, 0, rfl⟩
  · exact ⟨_, _, rfl⟩
theorem get_spec_at {w : World} {p b : Nat} {l : List Int} (i x : Int) (h : RingAt 62 w p b l) (hx : ringGet l i = x) :
    Calls Try.prog 17 #[.pointer (some ⟨p, 0, none⟩), .int .i64 i] w fun e w' => e = .returned (.int .i64 x) ∧ ∃ n, w' = w.drewN n := hx ▸ get_spec i h
theorem RingAt.far {T : TypeId} {w : World} {p b : Nat} {l : List Int} (h : RingAt T w p b l) {q : Addr} (hp : p ≠ q.block) (hb : b ≠ q.block) (u : Value) : RingAt T (w.setCell q u) p b l := ⟨h.head.far hp u, h.body.far hb u, h.p2⟩
end Go.Proofs.Ytkeaekckblpfjaa
