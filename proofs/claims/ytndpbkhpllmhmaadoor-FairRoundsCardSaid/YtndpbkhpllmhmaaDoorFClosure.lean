/- Fair: within, the closure, slices.ContainsFunc. -/
import Derived.Test.YtndpbkhpllmhmaaDoorRows
import Derived.WalkKit
import Derived.WalkSpells
import Derived.WalkLawsBesides
import Derived.RegionTactic
import Derived.ChangeAlike
import Derived.BigQuiet
import Derived.Deep.QuietTactic
import Derived.StillTailTactics
import Derived.IntWalk
import Derived.Handy
import Derived.Lib.Hide
import Derived.Deep.AppendLies
import Derived.Deep.RegionWith
import Derived.Test.YtndpbkhpllmhmaaDoorBase
import Derived.Test.YtndpbkhpllmhmaaDoorTail
import Derived.Test.YtndpbkhpllmhmaaDoorArgs
import Derived.Test.YtndpbkhpllmhmaaDoorAppend
import Derived.Test.YtndpbkhpllmhmaaDoorOffs
import Derived.Test.YtndpbkhpllmhmaaDoorStructs
import Derived.Test.YtndpbkhpllmhmaaDoorShelf
import Derived.Carry
import Derived.Deep.RegionHeld3
import Derived.BigRegion
import Derived.Maps.OwnSet
import Derived.Maps.Views
import Derived.Maps.StringElems
import Derived.Test.YtndpbkhpllmhmaaDoorMaps2
import Derived.Test.YtndpbkhpllmhmaaDoorFWords
import Derived.Test.YtndpbkhpllmhmaaDoorFEnv
import Derived.Test.YtndpbkhpllmhmaaDoorFPlain
import Derived.Test.YtndpbkhpllmhmaaDoorFSteps
import Derived.Test.YtndpbkhpllmhmaaDoorFMaps
namespace Go.Proofs.YtndpbkhpllmhmaaDoor
open Go.RowKit
theorem within_spec (w : World) (l n k : Int) (h : IntKind.i64.wrap (n - k) = n - k) : Calls Tryd.prog 43 #[.int .i64 l, .int .i64 n, .int .i64 k] w fun e w' => e = .returned (.bool (decide (l > n - k))) ∧ w = w' := by
  go_enter Tryd.func43, Tryd.ntmps43
  go_wp2
  go_ret
  exact ⟨rfl, rfl⟩
/-- the cells that the closure has taken along -/
structure Cap (w : World) (bg bl bi bw mg ml nl : Nat) (f : Int → Int) (i win : Int) : Prop where
  g : w.cell? ⟨bg, 0, none⟩ = some (.map (some mg))
  l : w.cell? ⟨bl, 0, none⟩ = some (.map (some ml))
  i_ : w.cell? ⟨bi, 0, none⟩ = some (.int .i64 i)
  w_ : w.cell? ⟨bw, 0, none⟩ = some (.int .i64 win)
  gone : GoneIn w mg
  last : LastIn w ml nl f
  i0 : 0 ≤ i
  i1 : i ≤ 100000
  w0 : 0 ≤ win
  w1 : win ≤ 100000
def fnV (bg bl bi bw : Nat) : Value := .func (.func 42) #[] #[.pointer (some ⟨bg, 0, none⟩), .pointer (some ⟨bl, 0, none⟩), .pointer (some ⟨bi, 0, none⟩), .pointer (some ⟨bw, 0, none⟩)]
theorem closure_spec {w : World} {bg bl bi bw mg ml nl : Nat} {f : Int → Int} {i win : Int} (h : Cap w bg bl bi bw mg ml nl f i win) (n : Int) (hn : (Lit.int .i64 n).wf = true) (hf : f n > i + 1 - win) :
    Calls Tryd.prog 42 #[.int .i64 n, .pointer (some ⟨bg, 0, none⟩), .pointer (some ⟨bl, 0, none⟩), .pointer (some ⟨bi, 0, none⟩), .pointer (some ⟨bw, 0, none⟩)] w fun e w' => e = .returned (.bool false) ∧ w = w' := by
  obtain ⟨c1, c2, c3, c4, hg, hl, i0, i1, w0, w1⟩ := h
  have h1 := hg.look hn
  have h2 := hl.look hn
  have hw1 : IntKind.i64.wrap (i + 1) = i + 1 := IntWalk.i64_in _ (by omega)
  have hw2 : IntKind.i64.wrap (i + 1 - win) = i + 1 - win := IntWalk.i64_in _ (by omega)
  have hd : decide (f n > i + 1 - win) = true := decide_eq_true hf
  have Hd := Lib.hid hd
  clear hg hl hn hf hd
  go_enter Tryd.func42, Tryd.ntmps42
  go_wp2_with fail
  refine (within_spec _ _ _ _ hw2).mono ?_
  rintro e w' ⟨rfl, rfl⟩
  rw [Hd.out]
  go_wp2
  go_ret
  exact ⟨rfl, rfl⟩
theorem index_spec {w : World} {bg bl bi bw mg ml nl : Nat} {f : Int → Int} {i win : Int} (h : Cap w bg bl bi bw mg ml nl f i win) {v : Value} {ns : List Int} (hv : IntsOf w v ns) (hl : ns.length ≤ 1000) (hwf : ∀ n ∈ ns, (Lit.int .i64 n).wf = true) (hf : ∀ n ∈ ns, f n > i + 1 - win) :
    Calls Tryd.prog 57 #[v, fnV bg bl bi bw] w fun e w' => e = .returned (.int .i64 (-1)) ∧ w = w' := by
  have H := Lib.hid h
  have HF := Lib.hid (And.intro hwf (And.intro hf hl))
  have HV := Lib.hid hv
  obtain ⟨a, c, rfl, _⟩ := hv
  have hlI : (ns.length : Int) ≤ 1000 := by omega
  clear h hwf hf hl
  unfold fnV
  go_enter Tryd.func57, Tryd.ntmps57
  go_wp2_with fail
  go_loopw [4, 5, 8] (fun _ _ v8 wr => w = wr ∧ ∃ j : Nat, j ≤ ns.length ∧ v8 = .int .i64 j) (fun _ _ v _ => ns.length - (intOf v).toNat)
  case atStart => exact ⟨rfl, 0, by omega, rfl⟩
  case round =>
    obtain ⟨rfl, j, hj, rfl⟩ := hrel
    by_cases hlt : j < ns.length
    · obtain ⟨n, hn⟩ : ∃ n, ns[j]? = some n := ⟨_, List.getElem?_eq_getElem hlt⟩
      obtain ⟨a', c', hva, hc⟩ := HV.out
      cases hva
      obtain ⟨b, off, rfl, hb, hcell⟩ := hc (by intro h0; subst h0; simp at hlt)
      have c0 := hcell j n hn
      have hltI : (j : Int) < (ns.length : Int) := by omega
      have hm := List.mem_of_getElem? hn
      have hcs := Lib.hid (closure_spec H.out n (HF.out.1 n hm) (HF.out.2.1 n hm))
      have Hlt := Lib.hid hlt
      clear hn hc hcell hm hlt hj
      go_wp2_with fail
      refine hcs.out.mono ?_
      rintro e w' ⟨rfl, rfl⟩
      go_wp2_with fail
      go_roundw
      case rel => exact ⟨by first | rfl | trivial, j + 1, by have := Hlt.out; omega, by go_num⟩
      case measure => simp [intOf]; have := Hlt.out; omega
    · obtain rfl : j = ns.length := by omega
      go_wp2
      go_ret
      exact ⟨rfl, rfl⟩
theorem contains_spec {w : World} {bg bl bi bw mg ml nl : Nat} {f : Int → Int} {i win : Int} (h : Cap w bg bl bi bw mg ml nl f i win) {v : Value} {ns : List Int} (hv : IntsOf w v ns) (hl : ns.length ≤ 1000) (hwf : ∀ n ∈ ns, (Lit.int .i64 n).wf = true) (hf : ∀ n ∈ ns, f n > i + 1 - win) :
    Calls Tryd.prog 44 #[v, fnV bg bl bi bw] w fun e w' => e = .returned (.bool false) ∧ w = w' := by
  have hi := Lib.hid (index_spec h hv hl hwf hf)
  clear h hwf hf hl hv
  unfold fnV at *
  go_enter Tryd.func44, Tryd.ntmps44
  go_wp2_with fail
  refine hi.out.mono ?_
  rintro e w' ⟨rfl, rfl⟩
  go_wp2
  go_ret
  exact ⟨rfl, rfl⟩
end Go.Proofs.YtndpbkhpllmhmaaDoor
