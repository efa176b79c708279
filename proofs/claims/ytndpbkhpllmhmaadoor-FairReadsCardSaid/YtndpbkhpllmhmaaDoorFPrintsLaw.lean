/- FairPrints. -/
import Derived.Test.YtndpbkhpllmhmaaDoorRows
import Derived.WalkKit
import Derived.WalkSpells
import Derived.WalkLawsBesides
import Derived.RegionTactic
import Derived.ChangeAlike
import Derived.BigQuiet
import Derived.Deep.QuietTactic
import Derived.StillTailTactics
import Derived.IntWalk
import Derived.Handy
import Derived.Lib.Hide
import Derived.Deep.AppendLies
import Derived.Deep.RegionWith
import Derived.Test.YtndpbkhpllmhmaaDoorBase
import Derived.Test.YtndpbkhpllmhmaaDoorTail
import Derived.Test.YtndpbkhpllmhmaaDoorArgs
import Derived.Test.YtndpbkhpllmhmaaDoorAppend
import Derived.Test.YtndpbkhpllmhmaaDoorOffs
import Derived.Test.YtndpbkhpllmhmaaDoorStructs
import Derived.Test.YtndpbkhpllmhmaaDoorShelf
import Derived.Carry
import Derived.Deep.RegionHeld3
import Derived.BigRegion
import Derived.Maps.OwnSet
import Derived.Maps.Views
import Derived.Maps.StringElems
import Derived.Test.YtndpbkhpllmhmaaDoorMaps2
import Derived.Test.YtndpbkhpllmhmaaDoorFWords
import Derived.Test.YtndpbkhpllmhmaaDoorFEnv
import Derived.Test.YtndpbkhpllmhmaaDoorFPlain
import Derived.Test.YtndpbkhpllmhmaaDoorFRead2
import Derived.Test.YtndpbkhpllmhmaaDoorFReads
import Derived.Test.YtndpbkhpllmhmaaDoorFAlive
import Derived.Test.YtndpbkhpllmhmaaDoorRNum
import Derived.Test.YtndpbkhpllmhmaaDoorFWordsLaw
import Derived.Test.YtndpbkhpllmhmaaDoorFBadPlain
import Derived.Test.YtndpbkhpllmhmaaDoorRPrint
namespace Go.Proofs.YtndpbkhpllmhmaaDoor
open Go.RowKit
def stOf (xs : List Int) : ST := ⟨xs.getD 0 0, xs.getD 1 0, xs.getD 2 0, xs.getD 3 0⟩
theorem stOf_cells {xs : List Int} (h : xs.length = 4) : stC (stOf xs) = xs.map (.int .i64) := by
  match xs, h with
  | [a, b, c, d], _ => rfl
set_option maxRecDepth 100000 in
theorem steps_open {H : Type} {enc : TypeId × Value → H} {w : World} {b0 : Nat} {v : Value} {d : DataW H} {p : List MemPlace}
    (ho : Value.okWide Tryd.prog w .any b0 35 v) (h : DataW.Trod enc Tryd.prog w 0 (fun _ => true) true 35 v d p) : ∃ l, StepsAt w v l ∧ ∀ s ∈ l, s.In := by
  obtain ⟨xss, hr, hw⟩ := intRows_open Tryd.underlying35 Tryd.underlying38 (by kernel_rfl) (by kernel_rfl) (by decide) ho h
  have hw4 : ∀ xs ∈ xss, xs.length = 4 ∧ ∀ x ∈ xs, (Lit.int .i64 x).wf = true := hw
  obtain ⟨a, c, hv, hc⟩ := hr
  refine ⟨xss.map stOf, ⟨a, c, by simpa using hv, fun i s hs => ?_⟩, fun s hs => ?_⟩
  · rw [List.getElem?_map] at hs
    cases hx : xss[i]? with
    | none => rw [hx] at hs; cases hs
    | some xs =>
      rw [hx] at hs
      simp only [Option.map_some, Option.some.injEq] at hs
      subst hs
      obtain ⟨b, off, ha, hb, hcells⟩ := hc (by intro h0; have := List.mem_of_getElem? hx; simp at h0; subst h0; simp at this)
      refine ⟨b, off, ha, hb, fun j u hu => ?_⟩
      rw [stOf_cells (hw4 xs (List.mem_of_getElem? hx)).1] at hu
      exact (hcells i (xs.map (.int .i64)) (by rw [List.getElem?_map, hx]; rfl)).2 j u hu
  · obtain ⟨xs, hxs, rfl⟩ := List.mem_map.1 hs
    obtain ⟨h4, hwf⟩ := hw4 xs hxs
    match xs, h4, hwf with
    | [a, b, c, d], _, hwf => exact ⟨in64_wf (hwf a (by simp)), in64_wf (hwf b (by simp)), in64_wf (hwf c (by simp)), in64_wf (hwf d (by simp))⟩
set_option maxHeartbeats 1600000 in
set_option maxRecDepth 100000 in
theorem steps_same {w : World} {v v' : Value} {l : List ST} (h : StepsAt w v l) (h' : StepsAt w v' l) (hl : l.length ≤ 200000) : Calls Tryd.prog 28 #[v, v'] w fun e w' => e = .returned (.bool true) ∧ Keep [] w w' := by
  have H := Lib.hid h
  have H' := Lib.hid h'
  have HL := Lib.hid hl
  clear hl
  obtain ⟨a, c, rfl, _⟩ := h
  obtain ⟨a', c', rfl, _⟩ := h'
  go_enter Tryd.func28, Tryd.ntmps28
  go_wp2_with fail
  go_loopw [5] (fun v5 wr => ∃ i : Nat, i ≤ l.length ∧ v5 = .int .i64 i ∧ Keep [] w wr) (fun v _ => l.length - (intOf v).toNat)
  case atStart => exact ⟨0, by omega, rfl, Keep.refl _ _⟩
  case round =>
    obtain ⟨i, hi, rfl, hk⟩ := hrel
    by_cases hlt : i < l.length
    · obtain ⟨s, hs⟩ : ∃ s, l[i]? = some s := ⟨_, List.getElem?_eq_getElem hlt⟩
      obtain ⟨x, cx, hva, hcells⟩ := H.out.keep0 hk
      cases hva
      obtain ⟨b, off, rfl, hb, hc⟩ := hcells i s hs
      obtain ⟨x', cx', hva', hcells'⟩ := H'.out.keep0 hk
      cases hva'
      obtain ⟨b', off', rfl, hb', hc'⟩ := hcells' i s hs
      have c0 := hc 0 _ rfl
      have c1 := hc 1 _ rfl
      have c2 := hc 2 _ rfl
      have c3 := hc 3 _ rfl
      have d0 := hc' 0 _ rfl
      have d1 := hc' 1 _ rfl
      have d2 := hc' 2 _ rfl
      have d3 := hc' 3 _ rfl
      rw [Nat.add_zero] at c0 d0
      have hltI : (i : Int) < (l.length : Int) := by omega
      have hlI : (l.length : Int) ≤ 200000 := by have := HL.out; omega
      have hiI : (i : Int) ≤ 200000 := by omega
      have Hk := Lib.hid (And.intro hk hlt)
      clear hi hlt hk hcells hcells' hs hc hc'
      go_upto_region 6 with fail
      go_quiet (fail)
      go_wp2_with fail
      go_roundw
      case rel => exact ⟨i + 1, by have := Hk.out.2; omega, by go_num, Hk.out.1.drewN _⟩
      case measure => simp [intOf]; have := Hk.out.2; omega
    · obtain rfl : i = l.length := by omega
      have Hk := Lib.hid hk
      clear hk
      go_wp2
      go_ret
      exact ⟨rfl, Hk.out⟩
theorem read_printed {l : List ST} (hg : l.all goodL = true) (hi : ∀ s ∈ l, s.In) : readL (printed l) = .ok l := by
  have h := run_lines (ls := l) (fun s hs => ⟨List.all_eq_true.1 hg s hs, hi s hs⟩) [] []
  rw [List.append_nil, List.nil_append] at h
  unfold readL printed
  rw [h]
  rfl
theorem printL_ok {l : List ST} (h : printL l ≠ []) : l.all goodL = true ∧ printL l = printed l := by
  unfold printL at h ⊢
  by_cases hg : l.all goodL = true
  · rw [if_pos hg]
    exact ⟨hg, rfl⟩
  · rw [if_neg hg] at h
    exact absurd rfl h
theorem printL_len {l : List ST} (hi : ∀ s ∈ l, s.In) (hl : l.length ≤ 500) : (printL l).length ≤ 26000 := by
  unfold printL
  split
  · rename_i hg
    have h1 := printed_len2 (l := l) (fun x hx => ⟨hi x hx, (goodL_iff.1 (List.all_eq_true.1 hg x hx)).1⟩)
    unfold printed at h1
    omega
  · simp
set_option maxHeartbeats 6400000 in
set_option maxRecDepth 100000 in
theorem prints_walk {w : World} (hE : Env1 w) {v : Value} {l : List ST} (h : StepsAt w v l) (hin : ∀ s ∈ l, s.In) (hl : l.length ≤ 500) : Calls Tryd.prog 8 #[v] w fun e w' => e = .returned (.bool true) ∧ Keep [] w w' := by
  have H := Lib.hid h
  have HE := Lib.hid hE
  have HI := Lib.hid hin
  have HL := Lib.hid hl
  have hlI : (l.length : Int) ≤ 500 := by omega
  obtain ⟨a, c, rfl, _⟩ := h
  clear hE hin hl
  go_enter Tryd.func8, Tryd.ntmps8
  go_wp2_with fail
  refine (alive_spec HE.out.env).mono ?_
  rintro e w1 ⟨rfl, hk1⟩
  have K1 := Lib.hid hk1
  clear hk1
  go_wp2_with fail
  refine (print_spec (HE.out.env.keep K1.out) (H.out.keep0 K1.out) HI.out (by have := HL.out; omega)).mono ?_
  rintro e w2 ⟨rfl, hk2⟩
  have K2 := Lib.hid (K1.out.trans hk2 (by simp))
  clear hk2 K1
  go_wp2_with fail
  refine (rprint_spec (H.out.keep0 K2.out) HI.out (by have := HL.out; omega)).mono ?_
  rintro e w3 ⟨rfl, hk3⟩
  have K3 := Lib.hid (K2.out.trans hk3 (by simp))
  have heq : ((strB (printL l)).toList == (strB (printL l)).toList) = true := beq_self_eq_true _
  clear hk3 K2
  go_wp2_with fail
  refine (reads_spec (HE.out.keep K3.out) (printL l) (by have := printL_len HI.out HL.out; omega)).mono ?_
  rintro e w4 ⟨hk4, hor⟩
  have K4 := Lib.hid (K3.out.trans hk4 (by simp))
  clear hk4 K3
  by_cases hp : printL l = []
  · have hr : readL (printL l) = .ok [] := by rw [hp]; rfl
    rcases hor with ⟨m, u, h1, h2, rfl⟩ | ⟨q, h1, rfl⟩
    · obtain rfl : m = [] := by rw [hr] at h1; cases h1; rfl
      obtain ⟨a2, c2, rfl, _⟩ := h2
      have e1 : (strB (printL l)).toList.isEmpty = true := by rw [hp, strB_toList]; rfl
      have e2 : (strB (printL l)).toList = [] := by rw [hp]; exact strB_toList []
      clear h1 hr hp heq
      go_wp2_with (first | (go_at_call 27; refine (num_spec _ _).mono ?_; rintro e w4 ⟨rfl, rfl⟩))
      go_ret
      exact ⟨rfl, K4.out⟩
    · rw [hr] at h1
      cases h1
  · obtain ⟨hg, hpp⟩ := printL_ok hp
    have hr : readL (printL l) = .ok l := by rw [hpp]; exact read_printed hg HI.out
    rcases hor with ⟨m, u, h1, h2, rfl⟩ | ⟨q, h1, rfl⟩
    · obtain rfl : m = l := by rw [hr] at h1; cases h1; rfl
      have H2 := Lib.hid h2
      obtain ⟨a2, c2, rfl, _⟩ := h2
      have e1 : (strB (printL m)).toList.isEmpty = false := by
        rw [strB_toList]
        cases hx : printL m with
        | nil => exact absurd hx hp
        | cons x y => rfl
      have e2 : (strB (printL m)).toList ≠ [] := by rw [strB_toList]; exact hp
      clear h1 hr hp heq hpp hg
      go_wp2_with (first | (go_at_call 27; refine (num_spec _ _).mono ?_; rintro e w4 ⟨rfl, rfl⟩))
      refine (steps_same (H.out.keep0 K4.out) H2.out (by have := HL.out; omega)).mono ?_
      rintro e w5 ⟨rfl, hk5⟩
      have K5 := Lib.hid (K4.out.trans hk5 (by simp))
      clear hk5
      go_wp2
      go_ret
      exact ⟨rfl, K5.out⟩
    · rw [hr] at h1
      cases h1
theorem prints_long {w : World} (hE : Env w) {v : Value} {l : List ST} (h : StepsAt w v l) (hl : ¬ l.length ≤ 500) : Calls Tryd.prog 8 #[v] w fun e w' => e = .returned (.bool true) ∧ Keep [] w w' := by
  have HE := Lib.hid hE
  have hlI : 500 < (l.length : Int) := by omega
  obtain ⟨a, c, rfl, _⟩ := h
  clear hE hl
  go_enter Tryd.func8, Tryd.ntmps8
  go_wp2_with fail
  refine (alive_spec HE.out).mono ?_
  rintro e w1 ⟨rfl, hk1⟩
  have K1 := Lib.hid hk1
  clear hk1
  go_wp2
  go_ret
  exact ⟨rfl, K1.out⟩
set_option maxRecDepth 100000 in
theorem walk_fairPrints {H : Type} {enc : TypeId × Value → H} {b0 : Nat} {v : Value} {d : DataW H} {p : List MemPlace} (W : World) (hE : Env1 W)
    (ho : Value.okWide Tryd.prog W .any b0 35 v) (h : DataW.Trod enc Tryd.prog W 0 (fun _ => true) true 35 v d p) : Calls Tryd.prog 8 #[v] W fun e w' => e = .returned (.bool true) ∧ Below W.heap.size W w' := by
  obtain ⟨l, hl, hi⟩ := steps_open ho h
  suffices h : Calls Tryd.prog 8 #[v] W fun e w' => e = .returned (.bool true) ∧ Keep [] W w' from h.mono fun e w' ⟨h1, h2⟩ => ⟨h1, h2.to_below⟩
  by_cases hn : l.length ≤ 500
  · exact prints_walk hE hl hi hn
  · exact prints_long hE.env hl hn
end Go.Proofs.YtndpbkhpllmhmaaDoor
