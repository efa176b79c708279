/- fair: rows of steps; Gap; Print. -/
import Derived.Test.YtndpbkhpllmhmaaDoorRows
import Derived.WalkKit
import Derived.WalkSpells
import Derived.WalkLawsBesides
import Derived.RegionTactic
import Derived.ChangeAlike
import Derived.BigQuiet
import Derived.Deep.QuietTactic
import Derived.StillTailTactics
import Derived.IntWalk
import Derived.Handy
import Derived.Lib.Hide
import Derived.Deep.AppendLies
import Derived.Deep.RegionWith
import Derived.Test.YtndpbkhpllmhmaaDoorBase
import Derived.Test.YtndpbkhpllmhmaaDoorTail
import Derived.Test.YtndpbkhpllmhmaaDoorArgs
import Derived.Test.YtndpbkhpllmhmaaDoorAppend
import Derived.Test.YtndpbkhpllmhmaaDoorOffs
import Derived.Test.YtndpbkhpllmhmaaDoorStructs
import Derived.Test.YtndpbkhpllmhmaaDoorShelf
import Derived.Carry
import Derived.Deep.RegionHeld3
import Derived.BigRegion
import Derived.Maps.OwnSet
import Derived.Maps.Views
import Derived.Maps.StringElems
import Derived.Test.YtndpbkhpllmhmaaDoorMaps2
import Derived.Test.YtndpbkhpllmhmaaDoorFWords
import Derived.Test.YtndpbkhpllmhmaaDoorFEnv
import Derived.Test.YtndpbkhpllmhmaaDoorFPlain
import Derived.Test.YtndpbkhpllmhmaaDoorFLine
import Derived.Test.YtndpbkhpllmhmaaDoorOpens
namespace Go.Proofs.YtndpbkhpllmhmaaDoor
open Go.RowKit
/-- v reads as the steps l -/
def StepsAt (w : World) (v : Value) (l : List ST) : Prop :=
  ∃ a c, v = .slice a l.length c ∧ ∀ (i : Nat) (s : ST), l[i]? = some s → ∃ b off, a = some ⟨b, off, none⟩ ∧ b < w.heap.size ∧ ∀ (j : Nat) (u : Value), (stC s)[j]? = some u → w.cell? ⟨b, off + i * 4 + j, none⟩ = some u
theorem StepsAt.keep0 {w w' : World} {v : Value} {l : List ST} (h : StepsAt w v l) (k : Keep [] w w') : StepsAt w' v l := by
  obtain ⟨a, c, rfl, h⟩ := h
  refine ⟨a, c, rfl, fun i s hs => ?_⟩
  obtain ⟨b, off, rfl, hb, hc⟩ := h i s hs
  exact ⟨b, off, rfl, Nat.lt_of_lt_of_le hb k.size, fun j u hu => cell_keep0 k (hc j u hu)⟩
theorem StepsAt.nil (w : World) : StepsAt w (.slice none 0 0) [] := ⟨none, 0, rfl, fun i s h => by cases h⟩
theorem stC_len (s : ST) : (stC s).length = 4 := rfl
theorem StepsAt.of_own {w : World} {B : Nat} {v : Value} {l : List ST} (h : OwnsAt w B 38 4 v l.length (l.flatMap stC)) : StepsAt w v l := by
  obtain ⟨a, c, rfl⟩ := h.shape
  refine ⟨a, c, rfl, fun i s hs => ?_⟩
  have hi : i < l.length := by
    rcases Nat.lt_or_ge i l.length with h1 | h1
    · exact h1
    · rw [List.getElem?_eq_none h1] at hs; cases hs
  obtain ⟨g, off, cap, hv, h1, h2, h3, h4, h5⟩ := h.form (by omega)
  injection hv with e1 e2 e3
  subst e1 e3
  refine ⟨g, off, rfl, h4, fun j u hu => ?_⟩
  have hj : j < 4 := by
    rcases Nat.lt_or_ge j 4 with h9 | h9
    · exact h9
    · rw [List.getElem?_eq_none (by rw [stC_len]; exact h9)] at hu; cases hu
  rw [Nat.add_assoc]
  exact h5 _ u (by rw [flat_at stC_len l i s j hs hj]; exact hu)
/-! ### Gap -/
def isL (s : ST) (node : Int) : Bool := if node = -1 then s.kind == 2 else (s.kind == 1 && s.node == node)
def gapN (node : Int) (most n : Nat) : List ST → Nat
  | [] => most
  | s :: r => if isL s node = true then gapN node (max most 0) 0 r else gapN node (max most (n + 1)) (n + 1) r
set_option maxHeartbeats 800000 in
theorem is_spec (w : World) (s : ST) (node : Int) : Calls Tryd.prog 40 #[stV s, .int .i64 node] w fun e w' => e = .returned (.bool (isL s node)) ∧ Keep [] w w' := by
  obtain ⟨kind, nd, k, bit⟩ := s
  unfold stV isL
  simp only
  by_cases hn : node = -1
  · subst hn
    go_enter Tryd.func40, Tryd.ntmps40
    go_wp2
    go_ret
    exact ⟨by simp, (Keep.refl _ _).alloc _⟩
  · have hn2 : (node == -1) = false := by simpa using hn
    rw [if_neg hn]
    by_cases h1 : kind = 1
    · subst h1
      clear hn
      go_enter Tryd.func40, Tryd.ntmps40
      go_wp2
      go_ret
      exact ⟨by simp, (Keep.refl _ _).alloc _⟩
    · have h2 : (kind == 1) = false := by simpa using h1
      clear hn h1
      go_enter Tryd.func40, Tryd.ntmps40
      go_wp2
      go_ret
      exact ⟨by simp [h2], (Keep.refl _ _).alloc _⟩
theorem drop_at {α : Type} {l : List α} {i : Nat} {s : α} (h : l[i]? = some s) : l.drop i = s :: l.drop (i + 1) := by
  have hi : i < l.length := by
    rcases Nat.lt_or_ge i l.length with h1 | h1
    · exact h1
    · rw [List.getElem?_eq_none h1] at h; cases h
  rw [List.drop_eq_getElem_cons hi]
  rw [List.getElem?_eq_getElem hi] at h
  injection h with h
  rw [h]
set_option maxHeartbeats 3200000 in
set_option maxRecDepth 100000 in
theorem gap_spec {w : World} {v : Value} {l : List ST} (h : StepsAt w v l) (node : Int) (hl : l.length ≤ 1000000) : Calls Tryd.prog 21 #[v, .int .i64 node] w fun e w' => e = .returned (.int .i64 (gapN node 0 0 l)) ∧ Keep [] w w' := by
  have H := Lib.hid h
  obtain ⟨a, c, rfl, _⟩ := h
  go_enter Tryd.func21, Tryd.ntmps21
  go_wp2_with fail
  go_loopw [5, 6, 8, 11] (fun v5 v6 _ v11 wr => ∃ (i most n : Nat), i ≤ l.length ∧ v11 = .int .i64 i ∧ v5 = .int .i64 most ∧ v6 = .int .i64 n ∧ most ≤ i ∧ n ≤ i ∧ gapN node most n (l.drop i) = gapN node 0 0 l ∧ Keep [] w wr) (fun _ _ _ v _ => l.length - (intOf v).toNat)
  case atStart => exact ⟨0, 0, 0, by omega, rfl, rfl, rfl, by omega, by omega, rfl, Keep.refl _ _⟩
  case round =>
    obtain ⟨i, most, n, hi, rfl, rfl, rfl, hm, hn, hg, hk⟩ := hrel
    by_cases hlt : i < l.length
    · obtain ⟨s, hs⟩ : ∃ s, l[i]? = some s := ⟨_, List.getElem?_eq_getElem hlt⟩
      obtain ⟨a', c', hva, hcells⟩ := H.out.keep0 hk
      cases hva
      obtain ⟨b, off, rfl, hb, hc⟩ := hcells i s hs
      have c0 := hc 0 _ rfl
      have c1 := hc 1 _ rfl
      have c2 := hc 2 _ rfl
      have c3 := hc 3 _ rfl
      rw [Nat.add_zero] at c0
      rw [drop_at hs] at hg
      have hltI : (i : Int) < (l.length : Int) := by omega
      have hlI : (l.length : Int) ≤ 1000000 := by omega
      have hiI : (i : Int) ≤ 1000000 := by omega
      have hnI : (n : Int) ≤ 1000000 := by omega
      have hmI : (most : Int) ≤ 1000000 := by omega
      have G := Lib.hid (And.intro hg (And.intro hm (And.intro hn hi)))
      have Hk := Lib.hid hk
      clear hg hm hn hi hk hcells hs hc
      by_cases hb : isL s node = true
      · go_wp2_with fail
        refine (is_spec _ s node).mono ?_
        rintro e w2 ⟨rfl, hk2⟩
        have Hk2 := Lib.hid ((Hk.out.trans ((Keep.refl [] wr).alloc _) (by simp)).trans hk2 (by simp))
        rw [hb]
        clear c0 c1 c2 c3 hk2
        go_wp2_with fail
        go_roundw
        case rel =>
          obtain ⟨g, hm, hn, _⟩ := G.out
          rw [gapN, if_pos hb] at g
          exact ⟨i + 1, max most 0, 0, by omega, by go_num, by go_num, rfl, by omega, by omega, g, Hk2.out⟩
        case measure => simp [intOf]; omega
      · have hb2 : isL s node = false := by simpa using hb
        go_wp2_with fail
        refine (is_spec _ s node).mono ?_
        rintro e w2 ⟨rfl, hk2⟩
        have Hk2 := Lib.hid ((Hk.out.trans ((Keep.refl [] wr).alloc _) (by simp)).trans hk2 (by simp))
        rw [hb2]
        clear c0 c1 c2 c3 hk2
        go_wp2_with fail
        go_roundw
        case rel =>
          obtain ⟨g, hm, hn, _⟩ := G.out
          rw [gapN, if_neg hb] at g
          exact ⟨i + 1, max most (n + 1), n + 1, by omega, by go_num, by go_num, by go_num, by omega, by omega, g, Hk2.out⟩
        case measure => simp [intOf]; omega
    · obtain rfl : i = l.length := by omega
      have G := Lib.hid hg
      have Hk := Lib.hid hk
      clear hg hk
      go_wp2
      go_ret
      have := G.out
      rw [List.drop_length] at this
      exact ⟨by rw [← this]; rfl, Hk.out⟩
/-! ### Print -/
def printL (l : List ST) : BS := if l.all goodL = true then l.flatMap (fun s => lineL s ++ [10]) else []
def printed (l : List ST) : BS := l.flatMap fun s => lineL s ++ [10]
theorem IsBuilder.keep0 {B b : Nat} {bs : List Value} {w w' : World} (h : Lib.IsBuilder 87 5 B b bs w) (k : Keep [] w w') : Lib.IsBuilder 87 5 B b bs w' := by
  have key : ∀ p, Lib.BuilderAt 87 5 B b p bs w → Lib.BuilderAt 87 5 B b p bs w' := by
    rintro p ⟨hB, v, hb, ho, hn⟩
    have hlt : b < w.heap.size := by
      rcases Nat.lt_or_ge b w.heap.size with h1 | h1
      · exact h1
      · rw [Array.getElem?_eq_none h1] at hb; cases hb
    exact ⟨hB, v, (k.block b hlt (by simp)).trans hb, ownsRow_keep ho k (by simp), hn⟩
  rcases h with h | h
  · exact Or.inl (key _ h)
  · exact Or.inr (key _ h)
theorem lineL_len {s : ST} (h : s.In) : (lineL s).length ≤ 100000 := line_len h
theorem printed_len {l : List ST} (h : ∀ s ∈ l, s.In) : (printed l).length ≤ l.length * 100001 := by
  induction l with
  | nil => simp [printed]
  | cons s l ih =>
    have h1 := ih (fun x hx => h x (by simp [hx]))
    have h2 := lineL_len (h s (by simp))
    simp only [printed, List.flatMap_cons, List.length_append, List.length_cons, List.length_nil] at h1 ⊢
    omega
theorem keep_on {w w2 w3 : World} (k : Keep [] w w2) (hb : Below w.heap.size w2 w3) : Keep [] w w3 :=
  ⟨hb.os.trans k.os, hb.tape.trans k.tape, hb.output.trans k.output, Nat.le_trans k.size hb.size, fun x hx _ => (hb.block x hx).trans (k.block x hx (by simp))⟩
theorem strB_snoc (a : BS) : strB a ++ (⟨#[10]⟩ : ByteArray) = strB (a ++ [10]) := by
  apply ByteArray.ext
  rw [ByteArray.data_append]
  simp [strB]
theorem byteCells_app (a b : BS) : Lib.byteCells (a ++ b) = Lib.byteCells a ++ Lib.byteCells b := by simp [Lib.byteCells]
theorem strCells_strB (a : BS) : Lib.strCells (strB a) = Lib.byteCells a := by simp [Lib.strCells, Lib.byteCells, strB]
set_option maxHeartbeats 3200000 in
set_option maxRecDepth 100000 in
theorem print_spec {w : World} (hE : Env w) {v : Value} {l : List ST} (h : StepsAt w v l) (hin : ∀ s ∈ l, s.In) (hl : l.length ≤ 1000000) : Calls Tryd.prog 25 #[v] w fun e w' => e = .returned (.string (strB (printL l))) ∧ Keep [] w w' := by
  have H := Lib.hid h
  have HE := Lib.hid hE
  have HI := Lib.hid hin
  obtain ⟨a, c, rfl, _⟩ := h
  clear hE hin
  go_enter Tryd.func25, Tryd.ntmps25
  go_wp2_with fail
  have hb0 := Lib.fresh_isBuilder 87 5 w
  go_loopw [5, 6, 7, 10] (fun _ _ _ v10 wr => ∃ i : Nat, i ≤ l.length ∧ v10 = .int .i64 i ∧ (l.take i).all goodL = true ∧ Lib.IsBuilder 87 5 w.heap.size w.heap.size (Lib.byteCells (printed (l.take i))) wr ∧ Keep [] w wr) (fun _ _ _ v _ => l.length - (intOf v).toNat)
  case atStart => exact ⟨0, by omega, rfl, rfl, hb0, (Keep.refl _ _).alloc _⟩
  case round =>
    clear hb0
    obtain ⟨i, hi, rfl, hg, hb, hk⟩ := hrel
    by_cases hlt : i < l.length
    · obtain ⟨s, hs⟩ : ∃ s, l[i]? = some s := ⟨_, List.getElem?_eq_getElem hlt⟩
      obtain ⟨a', c', hva, hcells⟩ := H.out.keep0 hk
      cases hva
      obtain ⟨b, off, rfl, hbl, hc⟩ := hcells i s hs
      have c0 := hc 0 _ rfl
      have c1 := hc 1 _ rfl
      have c2 := hc 2 _ rfl
      have c3 := hc 3 _ rfl
      rw [Nat.add_zero] at c0
      have hltI : (i : Int) < (l.length : Int) := by omega
      have hlI : (l.length : Int) ≤ 1000000 := by omega
      have hiI : (i : Int) ≤ 1000000 := by omega
      have hsI := HI.out s (List.mem_of_getElem? hs)
      have ht : l.take (i + 1) = l.take i ++ [s] := by rw [List.take_add_one, hs]; rfl
      have G := Lib.hid (And.intro hg (And.intro hb (And.intro hk (And.intro hs (And.intro hsI ht)))))
      clear hg hb hk hcells hs hc hsI ht
      by_cases hkd : 1 ≤ s.kind ∧ s.kind ≤ 7
      · go_wp2_with fail
        have kA := Lib.hid (show Keep [] wr (wr.alloc (.cells #[.int .i64 s.kind, .int .i64 s.node, .int .i64 s.k, .int .i64 s.bit] 38)) from (Keep.refl _ _).alloc _)
        refine (line_spec _ (HE.out.keep (G.out.2.2.1.trans kA.out (by simp))) s G.out.2.2.2.2.1 hkd.1 hkd.2).mono ?_
        rintro e w2 ⟨rfl, hk2⟩
        have Hk2 := Lib.hid (kA.out.trans hk2 (by simp))
        clear c0 c1 c2 c3 hk2 kA
        by_cases ho : ownL s = s
        · rw [decide_eq_true ho]
          have Ho := Lib.hid ho
          have Hkd := Lib.hid hkd
          have Hi := Lib.hid hi
          have hsz : (strB (lineL s)).size ≤ 100000 := by rw [strB_size]; exact lineL_len G.out.2.2.2.2.1
          clear ho hkd hi
          go_wp2_with fail
          rw [strB_snoc]
          refine (Tryd.Builder_WriteString w.heap.size w.heap.size (Lib.byteCells (printed (l.take i))) (strB (lineL s ++ [10])) _ (IsBuilder.keep0 G.out.2.1 Hk2.out) ?_ ?_).mono ?_
          · rw [Lib.byteCells_length, strB_size, List.length_append]
            have h1 := printed_len (l := l.take i) (fun x hx => HI.out x (List.mem_of_mem_take hx))
            have h2 := lineL_len G.out.2.2.2.2.1
            rw [List.length_take] at h1
            simp only [List.length_cons, List.length_nil]
            omega
          · exact Nat.le_trans G.out.2.2.1.size Hk2.out.size
          rintro e w3 ⟨rfl, hb3, hbl3⟩
          have hb4 : Lib.IsBuilder 87 5 w.heap.size w.heap.size (Lib.byteCells (printed (l.take (i + 1)))) w3 := by
            rw [strCells_strB, ← byteCells_app] at hb3
            have : printed (l.take (i + 1)) = printed (l.take i) ++ (lineL s ++ [10]) := by rw [G.out.2.2.2.2.2]; simp [printed]
            rw [this]
            exact Or.inr hb3
          have Hb4 := Lib.hid hb4
          have Hk4 := Lib.hid (keep_on (G.out.2.2.1.trans Hk2.out (by simp)) hbl3)
          clear hb3 hbl3 hb4
          go_wp2
          go_roundw
          case rel => exact ⟨i + 1, by have := Hi.out; omega, by go_num, by rw [G.out.2.2.2.2.2, List.all_append, G.out.1]; simp [goodL, Ho.out, Hkd.out], Hb4.out, Hk4.out⟩
          case measure => simp [intOf]; omega
        · rw [decide_eq_false ho]
          have hno : printL l = [] := by
            unfold printL
            rw [if_neg]
            intro hall
            have := List.all_eq_true.1 hall s (List.mem_of_getElem? G.out.2.2.2.1)
            exact ho (goodL_iff.1 this).2
          have Hno := Lib.hid hno
          clear ho hkd hno
          go_wp2
          go_ret
          exact ⟨by rw [Hno.out]; rfl, G.out.2.2.1.trans Hk2.out (by simp)⟩
      · have hno : printL l = [] := by
          unfold printL
          rw [if_neg]
          intro hall
          have := List.all_eq_true.1 hall s (List.mem_of_getElem? G.out.2.2.2.1)
          exact hkd (goodL_iff.1 this).1
        have Hno := Lib.hid hno
        have Hkd := Lib.hid (show s.kind < 1 ∨ 7 < s.kind by omega)
        clear hno hkd
        go_wp2_with fail
        have kA := Lib.hid (show Keep [] wr (wr.alloc (.cells #[.int .i64 s.kind, .int .i64 s.node, .int .i64 s.k, .int .i64 s.bit] 38)) from (Keep.refl _ _).alloc _)
        refine (line_none _ s G.out.2.2.2.2.1 Hkd.out).mono ?_
        rintro e w2 ⟨rfl, hk2⟩
        have Hk2 := Lib.hid (kA.out.trans hk2 (by simp))
        clear c0 c1 c2 c3 hk2 kA
        go_wp2
        go_ret
        exact ⟨by rw [Hno.out]; rfl, G.out.2.2.1.trans Hk2.out (by simp)⟩
    · obtain rfl : i = l.length := by omega
      rw [List.take_length] at hg hb
      have G := Lib.hid (And.intro hg hk)
      have hst := Lib.hid (Tryd.Builder_String_any w.heap.size w.heap.size (printed l) wr hb hk.size)
      clear hg hb hk
      go_wp2_with fail
      refine hst.out.mono ?_
      rintro e w3 ⟨rfl, hb3⟩
      have Hk3 := Lib.hid (keep_on G.out.2 hb3)
      clear hst hb3
      go_wp2
      go_ret
      exact ⟨by unfold printL; rw [if_pos G.out.1]; rfl, Hk3.out⟩
end Go.Proofs.YtndpbkhpllmhmaaDoor
