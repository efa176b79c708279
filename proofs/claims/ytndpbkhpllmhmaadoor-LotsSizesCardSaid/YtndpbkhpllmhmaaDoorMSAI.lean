/- fair: a step's line. fair: rows of steps; Gap; Print. fair: a line is read. -/
import Derived.Test.YtndpbkhpllmhmaaDoorRows
import Derived.WalkKit
import Derived.WalkSpells
import Derived.WalkLawsBesides
import Derived.RegionTactic
import Derived.ChangeAlike
import Derived.BigQuiet
import Derived.Deep.QuietTactic
import Derived.StillTailTactics
import Derived.IntWalk
import Derived.Handy
import Derived.Lib.Hide
import Derived.Deep.AppendLies
import Derived.Deep.RegionWith
import Derived.Test.YtndpbkhpllmhmaaDoorMSAA
import Derived.Test.YtndpbkhpllmhmaaDoorMSAB
import Derived.Carry
import Derived.Deep.RegionHeld3
import Derived.BigRegion
import Derived.Maps.OwnSet
import Derived.Maps.Views
import Derived.Maps.StringElems
import Derived.Test.YtndpbkhpllmhmaaDoorMSAC
import Derived.Maps.RangeWalk
namespace Go.Proofs.YtndpbkhpllmhmaaDoor
set_option linter.unusedSimpArgs false
set_option linter.unnecessarySimpa false
set_option linter.unusedVariables false
open Go.RowKit
theorem field_n (w : World) (p : Nat) : Calls Tryd.prog 60 #[.pointer (some ⟨p, 0, none⟩), .string ⟨#[110]⟩] w fun e w' => e = .returned (.pointer (some ⟨p, 1, none⟩)) ∧ w = w' := by
  go_enter Tryd.func60, Tryd.ntmps60
  go_wp2
  go_ret
  exact ⟨rfl, rfl⟩
theorem field_k (w : World) (p : Nat) : Calls Tryd.prog 60 #[.pointer (some ⟨p, 0, none⟩), .string ⟨#[107]⟩] w fun e w' => e = .returned (.pointer (some ⟨p, 2, none⟩)) ∧ w = w' := by
  go_enter Tryd.func60, Tryd.ntmps60
  go_wp2
  go_ret
  exact ⟨rfl, rfl⟩
theorem field_b (w : World) (p : Nat) : Calls Tryd.prog 60 #[.pointer (some ⟨p, 0, none⟩), .string ⟨#[98]⟩] w fun e w' => e = .returned (.pointer (some ⟨p, 3, none⟩)) ∧ w = w' := by
  go_enter Tryd.func60, Tryd.ntmps60
  go_wp2
  go_ret
  exact ⟨rfl, rfl⟩
def fullL (k : Int) : BS := if k = 1 then [119, 111, 114, 107, 32, 110] else if k = 2 then [116, 105, 99, 107] else if k = 3 then [100, 101, 108, 105, 118, 101, 114, 32, 107] else if k = 4 then [100, 114, 111, 112, 32, 107] else if k = 5 then [100, 117, 112, 32, 107] else if k = 6 then [102, 108, 105, 112, 32, 107, 32, 98] else if k = 7 then [99, 114, 97, 115, 104, 32, 110] else []
theorem zero9 (w : World) : (zeroValue 9).run Tryd.prog w = .ok (.string ⟨#[]⟩) w := Tryd.zeroValue9 w
theorem look_word {w w1 : World} {b : Nat} (h : MapMade w b w1 7 wordsD) {k : Int} (h1 : 1 ≤ k) (h7 : k ≤ 7) (n : Nat) :
    (Instr.lookup 114 (.map (some b)) (.int .i64 k) true).run Tryd.prog (w1.drewN n) = .ok (.tuple #[.string (strB (fullL k)), .bool true]) (w1.drewN n) := by
  have hown : (w1.drewN n).ownsMap Tryd.prog 3 (plainElem Tryd.prog 9) b 7 wordsD := h.1
  have hk : k = 1 ∨ k = 2 ∨ k = 3 ∨ k = 4 ∨ k = 5 ∨ k = 6 ∨ k = 7 := by omega
  have hwf : (Lit.int .i64 k).wf = true := by rcases hk with rfl | rfl | rfl | rfl | rfl | rfl | rfl <;> decide
  obtain ⟨v, ps, hrun, hv⟩ := hown.look_ok law3 Tryd.underlying114 (zero9 _) (plainElem_string Tryd.underlying9 (by unfold maxLen; decide)) (Maps.keyOf_int_mk Tryd.underlying3 hwf)
  obtain ⟨s, rfl, hs, _⟩ := plainElem_string_inv Tryd.underlying9 hv
  have hd : Maps.has wordsD (.int .i64 k) = true ∧ ∀ z, wordsD.atKey (.int .i64 k) z = .lit (.string (fullL k)) := by
    rcases hk with rfl | rfl | rfl | rfl | rfl | rfl | rfl <;> exact ⟨by decide, fun _ => rfl⟩
  rw [hd.1] at hrun
  have hs' := congrArg Prod.fst hs
  simp only at hs'
  rw [hd.2] at hs'
  simp only [DataW.lit.injEq, Lit.string.injEq] at hs'
  have e : strB (fullL k) = s := by rw [hs', strB_of]
  rw [e]
  exact hrun
theorem look_none {w w1 : World} {b : Nat} (h : MapMade w b w1 7 wordsD) {k : Int} (hk : k < 1 ∨ 7 < k) (hwf : (Lit.int .i64 k).wf = true) (n : Nat) :
    ∃ v, (Instr.lookup 114 (.map (some b)) (.int .i64 k) true).run Tryd.prog (w1.drewN n) = .ok (.tuple #[v, .bool false]) (w1.drewN n) := by
  have hown : (w1.drewN n).ownsMap Tryd.prog 3 (plainElem Tryd.prog 9) b 7 wordsD := h.1
  obtain ⟨v, ps, hrun, hv⟩ := hown.look_ok law3 Tryd.underlying114 (zero9 _) (plainElem_string Tryd.underlying9 (by unfold maxLen; decide)) (Maps.keyOf_int_mk Tryd.underlying3 hwf)
  have hd : Maps.has wordsD (.int .i64 k) = false := by
    have e : ∀ j : Int, 1 ≤ j → j ≤ 7 → Lit.sameKey (.int .i64 j) (.int .i64 k) = false := fun j h1 h2 => Maps.sameKey_ne (by intro e; injection e with _ e; omega)
    rw [show wordsD = .map _ from rfl, Maps.has_eq]
    simp only [List.any_cons, List.any_nil, e 1 (by decide) (by decide), e 2 (by decide) (by decide), e 3 (by decide) (by decide), e 4 (by decide) (by decide), e 5 (by decide) (by decide), e 6 (by decide) (by decide), e 7 (by decide) (by decide), Bool.or_false]
  rw [hd] at hrun
  exact ⟨v, hrun⟩
def stV (s : ST) : Value := .agg #[.int .i64 s.kind, .int .i64 s.node, .int .i64 s.k, .int .i64 s.bit]
def LinePost (s : ST) (w : World) (e : Ending) (w' : World) : Prop := e = .returned (.tuple #[.string (strB (lineL s)), .bool (decide (ownL s = s))]) ∧ Keep [] w w'
set_option maxRecDepth 100000 in
set_option maxHeartbeats 1600000 in
theorem line_none (w : World) (s : ST) (hs : s.In) (hk : s.kind < 1 ∨ 7 < s.kind) : Calls Tryd.prog 45 #[stV s] w fun e w' => e = .returned (.tuple #[.string ⟨#[]⟩, .bool false]) ∧ Keep [] w w' := by
  obtain ⟨kind, node, k, bit⟩ := s
  have hwf : (Lit.int .i64 kind).wf = true := by have := hs.kind; unfold In64 at this; simp [Lit.wf]; exact this
  have Hwf := Lib.hid (And.intro hk hwf)
  have kA : Keep [] w (w.alloc (.cells #[.int .i64 kind, .int .i64 node, .int .i64 k, .int .i64 bit] 38)) := (Keep.refl _ _).alloc _
  have bA : Blk (w.alloc (.cells #[.int .i64 kind, .int .i64 node, .int .i64 k, .int .i64 bit] 38)) w.heap.size 38 [.int .i64 kind, .int .i64 node, .int .i64 k, .int .i64 bit] := Blk.new' _ _ _ _ rfl
  have H := Lib.hid (And.intro kA bA)
  unfold stV
  simp only at *
  clear hk hs hwf kA bA
  go_enter Tryd.func45, Tryd.ntmps45
  go_wp2_with fail
  generalize w.alloc (.cells #[.int .i64 kind, .int .i64 node, .int .i64 k, .int .i64 bit] 38) = wA at *
  generalize w.heap.size = gA at *
  have hcA : wA.cell? ⟨gA, 0, none⟩ = some (.int .i64 kind) := H.out.2.cell 0
  go_region_held3 (fun w' => w'.cell? ⟨gA, 0, none⟩ = some (.int .i64 kind)) (first | assumption | go_keep)
    (first | (go_at_call 58; go_must (refine (words_spec _).mono ?_; rintro e w1 ⟨rfl, hm⟩; obtain ⟨v, hl⟩ := look_none hm Hwf.out.1 Hwf.out.2 0; have hl : (Instr.lookup 114 (.map (some wA.heap.size)) (.int .i64 kind) true).run Tryd.prog w1 = .ok (.tuple #[v, .bool false]) w1 := hl; have hc : w1.cell? ⟨gA, 0, none⟩ = some (.int .i64 kind) := cell_keep0 hm.2.1.of_drew (H.out.2.cell 0); have hk1 := Lib.hid (H.out.1.trans hm.2.1.of_drew (by simp)))))
  go_wp2
  go_ret2
  exact ⟨rfl, Hid.out ‹_›⟩
/-- strings.Split at a blank -/
def SplitPost (ps : List BS) (w : World) (e : Ending) (w' : World) : Prop := e = .returned (.slice (some ⟨w.heap.size, 0, none⟩) ps.length ps.length) ∧ Blk w' w.heap.size 9 (ps.map fun p => .string (strB p)) ∧ Keep [] w w' ∧ w'.heap.size = w.heap.size + 1
theorem split_spec {w : World} (hE : Env w) (s : ByteArray) (hs : s.size < 4294967281) : Calls Tryd.prog 59 #[.string s, .string ⟨#[32]⟩] w (SplitPost (pieces 32 s.data.toList) w) := by
  obtain ⟨m, hm⟩ := hE.max
  refine (Tryd.strings_Split s ⟨#[32]⟩ m w hs hm (Nat.le_refl 1)).mono ?_
  rintro e w' ⟨he, rfl⟩
  rw [count_pieces] at he
  rw [splitB_pieces, List.map_map]
  exact ⟨he, Blk.new' _ _ _ _ rfl, (Keep.refl _ _).alloc _, by simp⟩
theorem split_k {w : World} (hE : Env w) (k : Int) (ps : List BS) (n : Nat) (hp : pieces 32 (fullL k) = ps) (hn : ps.length = n) (hl : (fullL k).length < 100) :
    Calls Tryd.prog 59 #[.string (strB (fullL k)), .string ⟨#[32]⟩] w fun e w' => e = .returned (.slice (some ⟨w.heap.size, 0, none⟩) n n) ∧ Blk w' w.heap.size 9 ((ps.map strB).map .string) ∧ Keep [] w w' ∧ w'.heap.size = w.heap.size + 1 := by
  refine (split_spec hE (strB (fullL k)) (by rw [strB_size]; omega)).mono ?_
  rintro e w' ⟨h1, h2, h3⟩
  rw [strB_data, hp] at h1 h2
  rw [hn] at h1
  rw [List.map_map]
  exact ⟨h1, h2, h3⟩
def itoaB (n : Int) : ByteArray := strB (Lib.itoa n)
theorem itoa_spec {w : World} (hE : Env w) {n : Int} (hn : In64 n) : Calls Tryd.prog 55 #[.int .i64 n] w fun e w' => e = .returned (.string (itoaB n)) ∧ Keep [] w w' :=
  (Tryd.strconv_Itoa n hn.1 hn.2 w hE.tab).mono fun _ _ ⟨he, k, os, hw⟩ => ⟨he, by rw [hw]; exact keep_grow⟩
def stC (s : ST) : List Value := [.int .i64 s.kind, .int .i64 s.node, .int .i64 s.k, .int .i64 s.bit]
/-- while a line is made: the step, what of it is the kind's own, the words -/
structure LSt (gA gH gL : Nat) (s h : ST) (ls : List ByteArray) (w0 w : World) : Prop where
  a : Blk w gA 38 (stC s)
  h : Blk w gH 38 (stC h)
  l : Blk w gL 9 (ls.map .string)
  k : Keep [] w0 w
  n0 : w0.heap.size ≤ gH
  n1 : w0.heap.size ≤ gL
  ne : gA ≠ gH
section
variable {gA gH gL : Nat} {s h : ST} {ls : List ByteArray} {w0 w w' : World}
theorem LSt.keep (H : LSt gA gH gL s h ls w0 w) (k : Keep [] w w') : LSt gA gH gL s h ls w0 w' := ⟨H.a.keep k (by simp), H.h.keep k (by simp), H.l.keep k (by simp), H.k.trans k (by simp), H.n0, H.n1, H.ne⟩
theorem LSt.setH (H : LSt gA gH gL s h ls w0 w) (i : Nat) (v : Value) (h' : ST) (e : stC h' = (stC h).set i v) : LSt gA gH gL s h' ls w0 (w.setCell ⟨gH, i, none⟩ v) :=
  ⟨H.a.far H.ne v, by rw [e]; exact H.h.set_ i v, H.l.far (Ne.symm (H.h.ne_ H.l (by decide))) v, H.k.setCell (Or.inr H.n0) v, H.n0, H.n1, H.ne⟩
theorem LSt.setL (H : LSt gA gH gL s h ls w0 w) (i : Nat) (v : ByteArray) : LSt gA gH gL s h (ls.set i v) w0 (w.setCell ⟨gL, i, none⟩ (.string v)) :=
  ⟨H.a.far (H.a.ne_ H.l (by decide)) _, H.h.far (H.h.ne_ H.l (by decide)) _, by rw [List.map_set]; exact H.l.set_ i _, H.k.setCell (Or.inr H.n1) _, H.n0, H.n1, H.ne⟩
end
theorem join_glue (c : UInt8) (p : BS) (ps : List BS) : Lib.join (p :: ps) [c] = glue c (p :: ps) := by
  rw [Lib.join_cons, glue_cons]
  unfold Lib.joinTail
  rw [List.flatMap_def]
  rfl
theorem join_spec {w : World} {gL n : Nat} {ls : List ByteArray} {ps : List BS} (hl : Blk w gL 9 (ls.map .string)) (hn : ls.length = n) (hp : ls.map (·.data.toList) = ps) (hne : ps ≠ []) (hlen : (glue 32 ps).length ≤ 100000) :
    Calls Tryd.prog 61 #[.slice (some ⟨gL, 0, none⟩) n n, .string ⟨#[32]⟩] w fun e w' => e = .returned (.string (strB (glue 32 ps))) ∧ Keep [] w w' := by
  have hg : Lib.join (ls.map (·.data.toList)) (⟨#[32]⟩ : ByteArray).data.toList = glue 32 ps := by
    rw [hp]
    cases ps with
    | nil => exact absurd rfl hne
    | cons p ps => exact join_glue 32 p ps
  have hN : ls.length ≤ 100001 := by
    have : ls.length = ps.length := by rw [← hp, List.length_map]
    have h2 : ∀ ps : List BS, ps.length ≤ (glue 32 ps).length + 1 := by
      intro ps
      cases ps with
      | nil => simp
      | cons p ps =>
        rw [glue_cons, List.length_append, List.length_flatMap, List.length_cons]
        have : ∀ l : List BS, l.length ≤ (l.map fun q => (32 :: q).length).sum := by
          intro l
          induction l with
          | nil => simp
          | cons a l ih => simp only [List.map_cons, List.sum_cons, List.length_cons] at ih ⊢; omega
        have := this ps
        omega
    have h3 := h2 ps
    omega
  have h := Tryd.strings_Join gL 0 n ls ⟨#[32]⟩ w (fun j x hx => by rw [Nat.zero_add, hl.cell, List.getElem?_map, hx]; rfl) hl.lt (by omega) (by omega) (by rw [hg]; omega)
  rw [hn] at h
  refine h.mono ?_
  rintro e w' ⟨he, hb⟩
  rw [hg] at he
  exact ⟨he, keep_of_below hb⟩

theorem line_len {s : ST} (h : s.In) : (glue 32 (partsL s)).length ≤ 100000 := by
  have e : ∀ n : Int, In64 n → (Lib.itoa n).length ≤ 21 := fun n hn => Lib.itoa_length_le n hn.1 hn.2
  have h1 := e _ h.node
  have h2 := e _ h.k
  have h3 := e _ h.bit
  have hw : (wordL s.kind).length ≤ 7 := by
    unfold wordL
    repeat' split
    all_goals decide
  unfold partsL
  rw [glue_cons, List.length_append]
  unfold fieldsL
  repeat' split
  all_goals simp
  all_goals omega
theorem line_end (s : ST) (b : Bool) (h : decide (ownL s = s) = b) : Ending.returned (.tuple #[.string (strB (glue 32 (partsL s))), .bool b]) = .returned (.tuple #[.string (strB (lineL s)), .bool (decide (ownL s = s))]) := by rw [h]; rfl
set_option maxRecDepth 100000 in
set_option maxHeartbeats 3200000 in
theorem line_1 (w : World) (hE : Env w) (s : ST) (hs : s.In) (hk : s.kind = 1) : Calls Tryd.prog 45 #[stV s] w (LinePost s w) := by
  obtain ⟨kind, node, k, bit⟩ := s
  simp only at hk
  subst hk
  have kA : Keep [] w (w.alloc (.cells #[.int .i64 1, .int .i64 node, .int .i64 k, .int .i64 bit] 38)) := (Keep.refl _ _).alloc _
  have bA : Blk (w.alloc (.cells #[.int .i64 1, .int .i64 node, .int .i64 k, .int .i64 bit] 38)) w.heap.size 38 (stC ⟨1, node, k, bit⟩) := Blk.new' _ _ _ _ rfl
  have H := Lib.hid (And.intro kA bA)
  have HE := Lib.hid hE
  have HS := Lib.hid hs
  unfold stV
  simp only at *
  clear hs kA bA hE
  go_enter Tryd.func45, Tryd.ntmps45
  go_wp2_with fail
  generalize w.alloc (.cells #[.int .i64 1, .int .i64 node, .int .i64 k, .int .i64 bit] 38) = wA at *
  generalize w.heap.size = gA at *
  have hcA : wA.cell? ⟨gA, 0, none⟩ = some (.int .i64 1) := H.out.2.cell 0
  go_region_held3 (fun w' => w'.cell? ⟨gA, 0, none⟩ = some (.int .i64 1)) (first | assumption | go_keep)
    (first | (go_at_call 58; go_must (refine (words_spec _).mono ?_; rintro e w1 ⟨rfl, hm⟩; have hl : (Instr.lookup 114 (.map (some wA.heap.size)) (.int .i64 1) true).run Tryd.prog w1 = .ok (.tuple #[.string (strB (fullL 1)), .bool true]) w1 := look_word hm (by decide) (by decide) 0; have hc : w1.cell? ⟨gA, 0, none⟩ = some (.int .i64 1) := cell_keep0 hm.2.1.of_drew (H.out.2.cell 0); have hk1 := Lib.hid (hm.2.1.of_drew))))
  have hk2 := H.out.1.trans hk1.out (by simp)
  have hsp := split_k (HE.out.keep hk2) 1 [kWork, [110]] 2 (by decide) rfl (by decide)
  have HSP := Lib.hid hsp
  have B1 := Lib.hid (And.intro hk2 (H.out.2.keep hk1.out (by simp)))
  clear hk2 hsp hl hc hcA hm hk1 H
  go_wp2_with fail
  refine HSP.out.mono ?_
  rintro e w2 ⟨rfl, hl2, hk2, hsz⟩
  have b2 := B1.out.2.keep hk2 (by simp)
  have c0 : w2.cell? ⟨gA, 0, none⟩ = some (.int .i64 1) := b2.cell 0
  have hst : LSt gA w2.heap.size w1.heap.size ⟨1, node, k, bit⟩ ⟨1, 0, 0, 0⟩ [⟨#[119, 111, 114, 107]⟩, ⟨#[110]⟩] w (w2.alloc (.cells #[.int .i64 1, .int .i64 0, .int .i64 0, .int .i64 0] 38)) :=
    ⟨b2.alloc _, Blk.new' _ _ _ _ rfl, hl2.alloc _, (B1.out.1.trans hk2 (by simp)).alloc _, Nat.le_trans B1.out.1.size hk2.size, B1.out.1.size, Nat.ne_of_lt b2.lt⟩
  have Hst := Lib.hid hst
  clear b2 hst hsz hl2 hk2 HSP B1
  go_upto_region 7 with fail
  generalize w2.alloc (.cells #[.int .i64 1, .int .i64 0, .int .i64 0, .int .i64 0] 38) = w3 at *
  generalize w2.heap.size = gH at *
  generalize w1.heap.size = gL at *
  clear c0
  have l0 : w3.cell? ⟨gL, 0, none⟩ = some (.string ⟨#[119, 111, 114, 107]⟩) := Hst.out.l.cell 0
  refine wp_loop_rounds 3 ?_
  rw [rounds_succ]
  go_wp2_with fail
  clear l0
  have l1 : w3.cell? ⟨gL, 1, none⟩ = some (.string ⟨#[110]⟩) := Hst.out.l.cell 1
  have a1 : w3.cell? ⟨gA, 1, none⟩ = some (.int .i64 node) := Hst.out.a.cell 1
  have h1 : w3.cell? ⟨gH, 1, none⟩ = some (.int .i64 0) := Hst.out.h.cell 1
  have f1 : w3.frozen? ⟨gH, 1, none⟩ = false := Hst.out.h.frozen 1
  rw [rounds_succ]
  go_upto_region 11 with (first | (go_at_call 60; refine (field_n _ _).mono ?_; rintro e w' ⟨rfl, rfl⟩))
  have Hst2 := Lib.hid (Hst.out.setH 1 (.int .i64 node) ⟨1, node, 0, 0⟩ rfl)
  clear l1 a1 h1 f1 Hst
  generalize w3.setCell ⟨gH, 1, none⟩ (.int .i64 node) = w4 at *
  have a1 : w4.cell? ⟨gA, 1, none⟩ = some (.int .i64 node) := Hst2.out.a.cell 1
  have hit := Lib.hid (itoa_spec (HE.out.keep Hst2.out.k) HS.out.node)
  go_wp2_with (first | (go_at_call 60; refine (field_n _ _).mono ?_; rintro e w' ⟨rfl, rfl⟩))
  refine hit.out.mono ?_
  rintro e w5 ⟨rfl, hkw⟩
  have Hst3 := Lib.hid (Hst2.out.keep hkw)
  clear a1 hit hkw Hst2
  have l1 : w5.cell? ⟨gL, 1, none⟩ = some (.string ⟨#[110]⟩) := Hst3.out.l.cell 1
  have f1 : w5.frozen? ⟨gL, 1, none⟩ = false := Hst3.out.l.frozen 1
  go_wp2_with fail
  have Hst := Lib.hid (show LSt gA gH gL _ _ [⟨#[119, 111, 114, 107]⟩, itoaB node] w _ from Hst3.out.setL 1 (itoaB node))
  clear l1 f1 Hst3
  generalize w5.setCell ⟨gL, 1, none⟩ (.string (itoaB node)) = w6 at *
  rw [rounds_succ]
  go_wp2_with fail
  have hj := Lib.hid (fun (w' : World) (kk : Keep [] w6 w') => join_spec (n := 2) (ps := partsL ⟨1, node, k, bit⟩) (Hst.out.l.keep kk (by simp)) rfl (by simp [partsL, wordL, fieldsL, itoaB, strB_data, kWork]) (by simp [partsL]) (line_len HS.out))
  rcases (show (k = 0 ∧ bit = 0) ∨ (k = 0 ∧ ¬ (0 : Int) = bit) ∨ (¬ (0 : Int) = k) by omega) with ⟨rfl, rfl⟩ | ⟨rfl, hne⟩ | hne
  · go_region_held3 (fun w' => w'.cell? ⟨gA, 0, none⟩ = some (.int .i64 1) ∧ w'.cell? ⟨gA, 1, none⟩ = some (.int .i64 node) ∧ w'.cell? ⟨gA, 2, none⟩ = some (.int .i64 0) ∧ w'.cell? ⟨gA, 3, none⟩ = some (.int .i64 0) ∧ w'.cell? ⟨gH, 0, none⟩ = some (.int .i64 1) ∧ w'.cell? ⟨gH, 1, none⟩ = some (.int .i64 node) ∧ w'.cell? ⟨gH, 2, none⟩ = some (.int .i64 0) ∧ w'.cell? ⟨gH, 3, none⟩ = some (.int .i64 0)) (first | exact ⟨by assumption, by assumption, by assumption, by assumption, by assumption, by assumption, by assumption, by assumption⟩ | exact ⟨Hst.out.a.cell 0, Hst.out.a.cell 1, Hst.out.a.cell 2, Hst.out.a.cell 3, Hst.out.h.cell 0, Hst.out.h.cell 1, Hst.out.h.cell 2, Hst.out.h.cell 3⟩ | go_keep)
      (first | (go_at_call 61; go_must (refine (hj.out _ ((Keep.refl [] _).drewN 1)).mono ?_; rintro e wj ⟨rfl, hkj⟩; have q0 := cell_keep0 hkj.of_drew (Hst.out.a.cell 0); have q1 := cell_keep0 hkj.of_drew (Hst.out.a.cell 1); have q2 := cell_keep0 hkj.of_drew (Hst.out.a.cell 2); have q3 := cell_keep0 hkj.of_drew (Hst.out.a.cell 3); have q4 := cell_keep0 hkj.of_drew (Hst.out.h.cell 0); have q5 := cell_keep0 hkj.of_drew (Hst.out.h.cell 1); have q6 := cell_keep0 hkj.of_drew (Hst.out.h.cell 2); have q7 := cell_keep0 hkj.of_drew (Hst.out.h.cell 3); have Hk := Lib.hid (Hst.out.k.trans hkj.of_drew (by simp)))))
    go_wp2
    go_ret2
    exact ⟨line_end _ _ (by first | (simp [ownL]; done) | (simp [ownL]; omega)), Hid.out ‹_›⟩
  · go_region_held3 (fun w' => w'.cell? ⟨gA, 0, none⟩ = some (.int .i64 1) ∧ w'.cell? ⟨gA, 1, none⟩ = some (.int .i64 node) ∧ w'.cell? ⟨gA, 2, none⟩ = some (.int .i64 0) ∧ w'.cell? ⟨gA, 3, none⟩ = some (.int .i64 bit) ∧ w'.cell? ⟨gH, 0, none⟩ = some (.int .i64 1) ∧ w'.cell? ⟨gH, 1, none⟩ = some (.int .i64 node) ∧ w'.cell? ⟨gH, 2, none⟩ = some (.int .i64 0) ∧ w'.cell? ⟨gH, 3, none⟩ = some (.int .i64 0)) (first | exact ⟨by assumption, by assumption, by assumption, by assumption, by assumption, by assumption, by assumption, by assumption⟩ | exact ⟨Hst.out.a.cell 0, Hst.out.a.cell 1, Hst.out.a.cell 2, Hst.out.a.cell 3, Hst.out.h.cell 0, Hst.out.h.cell 1, Hst.out.h.cell 2, Hst.out.h.cell 3⟩ | go_keep)
      (first | (go_at_call 61; go_must (refine (hj.out _ ((Keep.refl [] _).drewN 1)).mono ?_; rintro e wj ⟨rfl, hkj⟩; have q0 := cell_keep0 hkj.of_drew (Hst.out.a.cell 0); have q1 := cell_keep0 hkj.of_drew (Hst.out.a.cell 1); have q2 := cell_keep0 hkj.of_drew (Hst.out.a.cell 2); have q3 := cell_keep0 hkj.of_drew (Hst.out.a.cell 3); have q4 := cell_keep0 hkj.of_drew (Hst.out.h.cell 0); have q5 := cell_keep0 hkj.of_drew (Hst.out.h.cell 1); have q6 := cell_keep0 hkj.of_drew (Hst.out.h.cell 2); have q7 := cell_keep0 hkj.of_drew (Hst.out.h.cell 3); have Hk := Lib.hid (Hst.out.k.trans hkj.of_drew (by simp)))))
    go_wp2
    go_ret2
    exact ⟨line_end _ _ (by first | (simp [ownL]; done) | (simp [ownL]; omega)), Hid.out ‹_›⟩
  · go_region_held3 (fun w' => w'.cell? ⟨gA, 0, none⟩ = some (.int .i64 1) ∧ w'.cell? ⟨gA, 1, none⟩ = some (.int .i64 node) ∧ w'.cell? ⟨gA, 2, none⟩ = some (.int .i64 k) ∧ w'.cell? ⟨gA, 3, none⟩ = some (.int .i64 bit) ∧ w'.cell? ⟨gH, 0, none⟩ = some (.int .i64 1) ∧ w'.cell? ⟨gH, 1, none⟩ = some (.int .i64 node) ∧ w'.cell? ⟨gH, 2, none⟩ = some (.int .i64 0) ∧ w'.cell? ⟨gH, 3, none⟩ = some (.int .i64 0)) (first | exact ⟨by assumption, by assumption, by assumption, by assumption, by assumption, by assumption, by assumption, by assumption⟩ | exact ⟨Hst.out.a.cell 0, Hst.out.a.cell 1, Hst.out.a.cell 2, Hst.out.a.cell 3, Hst.out.h.cell 0, Hst.out.h.cell 1, Hst.out.h.cell 2, Hst.out.h.cell 3⟩ | go_keep)
      (first | (go_at_call 61; go_must (refine (hj.out _ ((Keep.refl [] _).drewN 1)).mono ?_; rintro e wj ⟨rfl, hkj⟩; have q0 := cell_keep0 hkj.of_drew (Hst.out.a.cell 0); have q1 := cell_keep0 hkj.of_drew (Hst.out.a.cell 1); have q2 := cell_keep0 hkj.of_drew (Hst.out.a.cell 2); have q3 := cell_keep0 hkj.of_drew (Hst.out.a.cell 3); have q4 := cell_keep0 hkj.of_drew (Hst.out.h.cell 0); have q5 := cell_keep0 hkj.of_drew (Hst.out.h.cell 1); have q6 := cell_keep0 hkj.of_drew (Hst.out.h.cell 2); have q7 := cell_keep0 hkj.of_drew (Hst.out.h.cell 3); have Hk := Lib.hid (Hst.out.k.trans hkj.of_drew (by simp)))))
    go_wp2
    go_ret2
    exact ⟨line_end _ _ (by first | (simp [ownL]; done) | (simp [ownL]; omega)), Hid.out ‹_›⟩

set_option maxRecDepth 100000 in
set_option maxHeartbeats 3200000 in
theorem line_2 (w : World) (hE : Env w) (s : ST) (hs : s.In) (hk : s.kind = 2) : Calls Tryd.prog 45 #[stV s] w (LinePost s w) := by
  obtain ⟨kind, node, k, bit⟩ := s
  simp only at hk
  subst hk
  have kA : Keep [] w (w.alloc (.cells #[.int .i64 2, .int .i64 node, .int .i64 k, .int .i64 bit] 38)) := (Keep.refl _ _).alloc _
  have bA : Blk (w.alloc (.cells #[.int .i64 2, .int .i64 node, .int .i64 k, .int .i64 bit] 38)) w.heap.size 38 (stC ⟨2, node, k, bit⟩) := Blk.new' _ _ _ _ rfl
  have H := Lib.hid (And.intro kA bA)
  have HE := Lib.hid hE
  have HS := Lib.hid hs
  unfold stV
  simp only at *
  clear hs kA bA hE
  go_enter Tryd.func45, Tryd.ntmps45
  go_wp2_with fail
  generalize w.alloc (.cells #[.int .i64 2, .int .i64 node, .int .i64 k, .int .i64 bit] 38) = wA at *
  generalize w.heap.size = gA at *
  have hcA : wA.cell? ⟨gA, 0, none⟩ = some (.int .i64 2) := H.out.2.cell 0
  go_region_held3 (fun w' => w'.cell? ⟨gA, 0, none⟩ = some (.int .i64 2)) (first | assumption | go_keep)
    (first | (go_at_call 58; go_must (refine (words_spec _).mono ?_; rintro e w1 ⟨rfl, hm⟩; have hl : (Instr.lookup 114 (.map (some wA.heap.size)) (.int .i64 2) true).run Tryd.prog w1 = .ok (.tuple #[.string (strB (fullL 2)), .bool true]) w1 := look_word hm (by decide) (by decide) 0; have hc : w1.cell? ⟨gA, 0, none⟩ = some (.int .i64 2) := cell_keep0 hm.2.1.of_drew (H.out.2.cell 0); have hk1 := Lib.hid (hm.2.1.of_drew))))
  have hk2 := H.out.1.trans hk1.out (by simp)
  have hsp := split_k (HE.out.keep hk2) 2 [kTick] 1 (by decide) rfl (by decide)
  have HSP := Lib.hid hsp
  have B1 := Lib.hid (And.intro hk2 (H.out.2.keep hk1.out (by simp)))
  clear hk2 hsp hl hc hcA hm hk1 H
  go_wp2_with fail
  refine HSP.out.mono ?_
  rintro e w2 ⟨rfl, hl2, hk2, hsz⟩
  have b2 := B1.out.2.keep hk2 (by simp)
  have c0 : w2.cell? ⟨gA, 0, none⟩ = some (.int .i64 2) := b2.cell 0
  have hst : LSt gA w2.heap.size w1.heap.size ⟨2, node, k, bit⟩ ⟨2, 0, 0, 0⟩ [⟨#[116, 105, 99, 107]⟩] w (w2.alloc (.cells #[.int .i64 2, .int .i64 0, .int .i64 0, .int .i64 0] 38)) :=
    ⟨b2.alloc _, Blk.new' _ _ _ _ rfl, hl2.alloc _, (B1.out.1.trans hk2 (by simp)).alloc _, Nat.le_trans B1.out.1.size hk2.size, B1.out.1.size, Nat.ne_of_lt b2.lt⟩
  have Hst := Lib.hid hst
  clear b2 hst hsz hl2 hk2 HSP B1
  go_upto_region 7 with fail
  generalize w2.alloc (.cells #[.int .i64 2, .int .i64 0, .int .i64 0, .int .i64 0] 38) = w3 at *
  generalize w2.heap.size = gH at *
  generalize w1.heap.size = gL at *
  clear c0
  have l0 : w3.cell? ⟨gL, 0, none⟩ = some (.string ⟨#[116, 105, 99, 107]⟩) := Hst.out.l.cell 0
  refine wp_loop_rounds 2 ?_
  rw [rounds_succ]
  go_wp2_with fail
  clear l0
  rw [rounds_succ]
  go_wp2_with fail
  have hj := Lib.hid (fun (w' : World) (kk : Keep [] w3 w') => join_spec (n := 1) (ps := partsL ⟨2, node, k, bit⟩) (Hst.out.l.keep kk (by simp)) rfl (by simp [partsL, wordL, fieldsL, kTick]) (by simp [partsL]) (line_len HS.out))
  rcases (show (node = 0 ∧ k = 0 ∧ bit = 0) ∨ (node = 0 ∧ k = 0 ∧ ¬ (0 : Int) = bit) ∨ (node = 0 ∧ ¬ (0 : Int) = k) ∨ (¬ (0 : Int) = node) by omega) with ⟨rfl, rfl, rfl⟩ | ⟨rfl, rfl, hne⟩ | ⟨rfl, hne⟩ | hne
  · go_region_held3 (fun w' => w'.cell? ⟨gA, 0, none⟩ = some (.int .i64 2) ∧ w'.cell? ⟨gA, 1, none⟩ = some (.int .i64 0) ∧ w'.cell? ⟨gA, 2, none⟩ = some (.int .i64 0) ∧ w'.cell? ⟨gA, 3, none⟩ = some (.int .i64 0) ∧ w'.cell? ⟨gH, 0, none⟩ = some (.int .i64 2) ∧ w'.cell? ⟨gH, 1, none⟩ = some (.int .i64 0) ∧ w'.cell? ⟨gH, 2, none⟩ = some (.int .i64 0) ∧ w'.cell? ⟨gH, 3, none⟩ = some (.int .i64 0)) (first | exact ⟨by assumption, by assumption, by assumption, by assumption, by assumption, by assumption, by assumption, by assumption⟩ | exact ⟨Hst.out.a.cell 0, Hst.out.a.cell 1, Hst.out.a.cell 2, Hst.out.a.cell 3, Hst.out.h.cell 0, Hst.out.h.cell 1, Hst.out.h.cell 2, Hst.out.h.cell 3⟩ | go_keep)
      (first | (go_at_call 61; go_must (refine (hj.out _ ((Keep.refl [] _).drewN 1)).mono ?_; rintro e wj ⟨rfl, hkj⟩; have q0 := cell_keep0 hkj.of_drew (Hst.out.a.cell 0); have q1 := cell_keep0 hkj.of_drew (Hst.out.a.cell 1); have q2 := cell_keep0 hkj.of_drew (Hst.out.a.cell 2); have q3 := cell_keep0 hkj.of_drew (Hst.out.a.cell 3); have q4 := cell_keep0 hkj.of_drew (Hst.out.h.cell 0); have q5 := cell_keep0 hkj.of_drew (Hst.out.h.cell 1); have q6 := cell_keep0 hkj.of_drew (Hst.out.h.cell 2); have q7 := cell_keep0 hkj.of_drew (Hst.out.h.cell 3); have Hk := Lib.hid (Hst.out.k.trans hkj.of_drew (by simp)))))
    go_wp2
    go_ret2
    exact ⟨line_end _ _ (by first | (simp [ownL]; done) | (simp [ownL]; omega)), Hid.out ‹_›⟩
  · go_region_held3 (fun w' => w'.cell? ⟨gA, 0, none⟩ = some (.int .i64 2) ∧ w'.cell? ⟨gA, 1, none⟩ = some (.int .i64 0) ∧ w'.cell? ⟨gA, 2, none⟩ = some (.int .i64 0) ∧ w'.cell? ⟨gA, 3, none⟩ = some (.int .i64 bit) ∧ w'.cell? ⟨gH, 0, none⟩ = some (.int .i64 2) ∧ w'.cell? ⟨gH, 1, none⟩ = some (.int .i64 0) ∧ w'.cell? ⟨gH, 2, none⟩ = some (.int .i64 0) ∧ w'.cell? ⟨gH, 3, none⟩ = some (.int .i64 0)) (first | exact ⟨by assumption, by assumption, by assumption, by assumption, by assumption, by assumption, by assumption, by assumption⟩ | exact ⟨Hst.out.a.cell 0, Hst.out.a.cell 1, Hst.out.a.cell 2, Hst.out.a.cell 3, Hst.out.h.cell 0, Hst.out.h.cell 1, Hst.out.h.cell 2, Hst.out.h.cell 3⟩ | go_keep)
      (first | (go_at_call 61; go_must (refine (hj.out _ ((Keep.refl [] _).drewN 1)).mono ?_; rintro e wj ⟨rfl, hkj⟩; have q0 := cell_keep0 hkj.of_drew (Hst.out.a.cell 0); have q1 := cell_keep0 hkj.of_drew (Hst.out.a.cell 1); have q2 := cell_keep0 hkj.of_drew (Hst.out.a.cell 2); have q3 := cell_keep0 hkj.of_drew (Hst.out.a.cell 3); have q4 := cell_keep0 hkj.of_drew (Hst.out.h.cell 0); have q5 := cell_keep0 hkj.of_drew (Hst.out.h.cell 1); have q6 := cell_keep0 hkj.of_drew (Hst.out.h.cell 2); have q7 := cell_keep0 hkj.of_drew (Hst.out.h.cell 3); have Hk := Lib.hid (Hst.out.k.trans hkj.of_drew (by simp)))))
    go_wp2
    go_ret2
    exact ⟨line_end _ _ (by first | (simp [ownL]; done) | (simp [ownL]; omega)), Hid.out ‹_›⟩
  · go_region_held3 (fun w' => w'.cell? ⟨gA, 0, none⟩ = some (.int .i64 2) ∧ w'.cell? ⟨gA, 1, none⟩ = some (.int .i64 0) ∧ w'.cell? ⟨gA, 2, none⟩ = some (.int .i64 k) ∧ w'.cell? ⟨gA, 3, none⟩ = some (.int .i64 bit) ∧ w'.cell? ⟨gH, 0, none⟩ = some (.int .i64 2) ∧ w'.cell? ⟨gH, 1, none⟩ = some (.int .i64 0) ∧ w'.cell? ⟨gH, 2, none⟩ = some (.int .i64 0) ∧ w'.cell? ⟨gH, 3, none⟩ = some (.int .i64 0)) (first | exact ⟨by assumption, by assumption, by assumption, by assumption, by assumption, by assumption, by assumption, by assumption⟩ | exact ⟨Hst.out.a.cell 0, Hst.out.a.cell 1, Hst.out.a.cell 2, Hst.out.a.cell 3, Hst.out.h.cell 0, Hst.out.h.cell 1, Hst.out.h.cell 2, Hst.out.h.cell 3⟩ | go_keep)
      (first | (go_at_call 61; go_must (refine (hj.out _ ((Keep.refl [] _).drewN 1)).mono ?_; rintro e wj ⟨rfl, hkj⟩; have q0 := cell_keep0 hkj.of_drew (Hst.out.a.cell 0); have q1 := cell_keep0 hkj.of_drew (Hst.out.a.cell 1); have q2 := cell_keep0 hkj.of_drew (Hst.out.a.cell 2); have q3 := cell_keep0 hkj.of_drew (Hst.out.a.cell 3); have q4 := cell_keep0 hkj.of_drew (Hst.out.h.cell 0); have q5 := cell_keep0 hkj.of_drew (Hst.out.h.cell 1); have q6 := cell_keep0 hkj.of_drew (Hst.out.h.cell 2); have q7 := cell_keep0 hkj.of_drew (Hst.out.h.cell 3); have Hk := Lib.hid (Hst.out.k.trans hkj.of_drew (by simp)))))
    go_wp2
    go_ret2
    exact ⟨line_end _ _ (by first | (simp [ownL]; done) | (simp [ownL]; omega)), Hid.out ‹_›⟩
  · go_region_held3 (fun w' => w'.cell? ⟨gA, 0, none⟩ = some (.int .i64 2) ∧ w'.cell? ⟨gA, 1, none⟩ = some (.int .i64 node) ∧ w'.cell? ⟨gA, 2, none⟩ = some (.int .i64 k) ∧ w'.cell? ⟨gA, 3, none⟩ = some (.int .i64 bit) ∧ w'.cell? ⟨gH, 0, none⟩ = some (.int .i64 2) ∧ w'.cell? ⟨gH, 1, none⟩ = some (.int .i64 0) ∧ w'.cell? ⟨gH, 2, none⟩ = some (.int .i64 0) ∧ w'.cell? ⟨gH, 3, none⟩ = some (.int .i64 0)) (first | exact ⟨by assumption, by assumption, by assumption, by assumption, by assumption, by assumption, by assumption, by assumption⟩ | exact ⟨Hst.out.a.cell 0, Hst.out.a.cell 1, Hst.out.a.cell 2, Hst.out.a.cell 3, Hst.out.h.cell 0, Hst.out.h.cell 1, Hst.out.h.cell 2, Hst.out.h.cell 3⟩ | go_keep)
      (first | (go_at_call 61; go_must (refine (hj.out _ ((Keep.refl [] _).drewN 1)).mono ?_; rintro e wj ⟨rfl, hkj⟩; have q0 := cell_keep0 hkj.of_drew (Hst.out.a.cell 0); have q1 := cell_keep0 hkj.of_drew (Hst.out.a.cell 1); have q2 := cell_keep0 hkj.of_drew (Hst.out.a.cell 2); have q3 := cell_keep0 hkj.of_drew (Hst.out.a.cell 3); have q4 := cell_keep0 hkj.of_drew (Hst.out.h.cell 0); have q5 := cell_keep0 hkj.of_drew (Hst.out.h.cell 1); have q6 := cell_keep0 hkj.of_drew (Hst.out.h.cell 2); have q7 := cell_keep0 hkj.of_drew (Hst.out.h.cell 3); have Hk := Lib.hid (Hst.out.k.trans hkj.of_drew (by simp)))))
    go_wp2
    go_ret2
    exact ⟨line_end _ _ (by first | (simp [ownL]; done) | (simp [ownL]; omega)), Hid.out ‹_›⟩

set_option maxRecDepth 100000 in
set_option maxHeartbeats 3200000 in
theorem line_3 (w : World) (hE : Env w) (s : ST) (hs : s.In) (hk : s.kind = 3) : Calls Tryd.prog 45 #[stV s] w (LinePost s w) := by
  obtain ⟨kind, node, k, bit⟩ := s
  simp only at hk
  subst hk
  have kA : Keep [] w (w.alloc (.cells #[.int .i64 3, .int .i64 node, .int .i64 k, .int .i64 bit] 38)) := (Keep.refl _ _).alloc _
  have bA : Blk (w.alloc (.cells #[.int .i64 3, .int .i64 node, .int .i64 k, .int .i64 bit] 38)) w.heap.size 38 (stC ⟨3, node, k, bit⟩) := Blk.new' _ _ _ _ rfl
  have H := Lib.hid (And.intro kA bA)
  have HE := Lib.hid hE
  have HS := Lib.hid hs
  unfold stV
  simp only at *
  clear hs kA bA hE
  go_enter Tryd.func45, Tryd.ntmps45
  go_wp2_with fail
  generalize w.alloc (.cells #[.int .i64 3, .int .i64 node, .int .i64 k, .int .i64 bit] 38) = wA at *
  generalize w.heap.size = gA at *
  have hcA : wA.cell? ⟨gA, 0, none⟩ = some (.int .i64 3) := H.out.2.cell 0
  go_region_held3 (fun w' => w'.cell? ⟨gA, 0, none⟩ = some (.int .i64 3)) (first | assumption | go_keep)
    (first | (go_at_call 58; go_must (refine (words_spec _).mono ?_; rintro e w1 ⟨rfl, hm⟩; have hl : (Instr.lookup 114 (.map (some wA.heap.size)) (.int .i64 3) true).run Tryd.prog w1 = .ok (.tuple #[.string (strB (fullL 3)), .bool true]) w1 := look_word hm (by decide) (by decide) 0; have hc : w1.cell? ⟨gA, 0, none⟩ = some (.int .i64 3) := cell_keep0 hm.2.1.of_drew (H.out.2.cell 0); have hk1 := Lib.hid (hm.2.1.of_drew))))
  have hk2 := H.out.1.trans hk1.out (by simp)
  have hsp := split_k (HE.out.keep hk2) 3 [kDeliver, [107]] 2 (by decide) rfl (by decide)
  have HSP := Lib.hid hsp
  have B1 := Lib.hid (And.intro hk2 (H.out.2.keep hk1.out (by simp)))
  clear hk2 hsp hl hc hcA hm hk1 H
  go_wp2_with fail
  refine HSP.out.mono ?_
  rintro e w2 ⟨rfl, hl2, hk2, hsz⟩
  have b2 := B1.out.2.keep hk2 (by simp)
  have c0 : w2.cell? ⟨gA, 0, none⟩ = some (.int .i64 3) := b2.cell 0
  have hst : LSt gA w2.heap.size w1.heap.size ⟨3, node, k, bit⟩ ⟨3, 0, 0, 0⟩ [⟨#[100, 101, 108, 105, 118, 101, 114]⟩, ⟨#[107]⟩] w (w2.alloc (.cells #[.int .i64 3, .int .i64 0, .int .i64 0, .int .i64 0] 38)) :=
    ⟨b2.alloc _, Blk.new' _ _ _ _ rfl, hl2.alloc _, (B1.out.1.trans hk2 (by simp)).alloc _, Nat.le_trans B1.out.1.size hk2.size, B1.out.1.size, Nat.ne_of_lt b2.lt⟩
  have Hst := Lib.hid hst
  clear b2 hst hsz hl2 hk2 HSP B1
  go_upto_region 7 with fail
  generalize w2.alloc (.cells #[.int .i64 3, .int .i64 0, .int .i64 0, .int .i64 0] 38) = w3 at *
  generalize w2.heap.size = gH at *
  generalize w1.heap.size = gL at *
  clear c0
  have l0 : w3.cell? ⟨gL, 0, none⟩ = some (.string ⟨#[100, 101, 108, 105, 118, 101, 114]⟩) := Hst.out.l.cell 0
  refine wp_loop_rounds 3 ?_
  rw [rounds_succ]
  go_wp2_with fail
  clear l0
  have l1 : w3.cell? ⟨gL, 1, none⟩ = some (.string ⟨#[107]⟩) := Hst.out.l.cell 1
  have a1 : w3.cell? ⟨gA, 2, none⟩ = some (.int .i64 k) := Hst.out.a.cell 2
  have h1 : w3.cell? ⟨gH, 2, none⟩ = some (.int .i64 0) := Hst.out.h.cell 2
  have f1 : w3.frozen? ⟨gH, 2, none⟩ = false := Hst.out.h.frozen 2
  rw [rounds_succ]
  go_upto_region 11 with (first | (go_at_call 60; refine (field_k _ _).mono ?_; rintro e w' ⟨rfl, rfl⟩))
  have Hst2 := Lib.hid (Hst.out.setH 2 (.int .i64 k) ⟨3, 0, k, 0⟩ rfl)
  clear l1 a1 h1 f1 Hst
  generalize w3.setCell ⟨gH, 2, none⟩ (.int .i64 k) = w4 at *
  have a1 : w4.cell? ⟨gA, 2, none⟩ = some (.int .i64 k) := Hst2.out.a.cell 2
  have hit := Lib.hid (itoa_spec (HE.out.keep Hst2.out.k) HS.out.k)
  go_wp2_with (first | (go_at_call 60; refine (field_k _ _).mono ?_; rintro e w' ⟨rfl, rfl⟩))
  refine hit.out.mono ?_
  rintro e w5 ⟨rfl, hkw⟩
  have Hst3 := Lib.hid (Hst2.out.keep hkw)
  clear a1 hit hkw Hst2
  have l1 : w5.cell? ⟨gL, 1, none⟩ = some (.string ⟨#[107]⟩) := Hst3.out.l.cell 1
  have f1 : w5.frozen? ⟨gL, 1, none⟩ = false := Hst3.out.l.frozen 1
  go_wp2_with fail
  have Hst := Lib.hid (show LSt gA gH gL _ _ [⟨#[100, 101, 108, 105, 118, 101, 114]⟩, itoaB k] w _ from Hst3.out.setL 1 (itoaB k))
  clear l1 f1 Hst3
  generalize w5.setCell ⟨gL, 1, none⟩ (.string (itoaB k)) = w6 at *
  rw [rounds_succ]
  go_wp2_with fail
  have hj := Lib.hid (fun (w' : World) (kk : Keep [] w6 w') => join_spec (n := 2) (ps := partsL ⟨3, node, k, bit⟩) (Hst.out.l.keep kk (by simp)) rfl (by simp [partsL, wordL, fieldsL, itoaB, strB_data, kDeliver]) (by simp [partsL]) (line_len HS.out))
  rcases (show (node = 0 ∧ bit = 0) ∨ (node = 0 ∧ ¬ (0 : Int) = bit) ∨ (¬ (0 : Int) = node) by omega) with ⟨rfl, rfl⟩ | ⟨rfl, hne⟩ | hne
  · go_region_held3 (fun w' => w'.cell? ⟨gA, 0, none⟩ = some (.int .i64 3) ∧ w'.cell? ⟨gA, 1, none⟩ = some (.int .i64 0) ∧ w'.cell? ⟨gA, 2, none⟩ = some (.int .i64 k) ∧ w'.cell? ⟨gA, 3, none⟩ = some (.int .i64 0) ∧ w'.cell? ⟨gH, 0, none⟩ = some (.int .i64 3) ∧ w'.cell? ⟨gH, 1, none⟩ = some (.int .i64 0) ∧ w'.cell? ⟨gH, 2, none⟩ = some (.int .i64 k) ∧ w'.cell? ⟨gH, 3, none⟩ = some (.int .i64 0)) (first | exact ⟨by assumption, by assumption, by assumption, by assumption, by assumption, by assumption, by assumption, by assumption⟩ | exact ⟨Hst.out.a.cell 0, Hst.out.a.cell 1, Hst.out.a.cell 2, Hst.out.a.cell 3, Hst.out.h.cell 0, Hst.out.h.cell 1, Hst.out.h.cell 2, Hst.out.h.cell 3⟩ | go_keep)
      (first | (go_at_call 61; go_must (refine (hj.out _ ((Keep.refl [] _).drewN 1)).mono ?_; rintro e wj ⟨rfl, hkj⟩; have q0 := cell_keep0 hkj.of_drew (Hst.out.a.cell 0); have q1 := cell_keep0 hkj.of_drew (Hst.out.a.cell 1); have q2 := cell_keep0 hkj.of_drew (Hst.out.a.cell 2); have q3 := cell_keep0 hkj.of_drew (Hst.out.a.cell 3); have q4 := cell_keep0 hkj.of_drew (Hst.out.h.cell 0); have q5 := cell_keep0 hkj.of_drew (Hst.out.h.cell 1); have q6 := cell_keep0 hkj.of_drew (Hst.out.h.cell 2); have q7 := cell_keep0 hkj.of_drew (Hst.out.h.cell 3); have Hk := Lib.hid (Hst.out.k.trans hkj.of_drew (by simp)))))
    go_wp2
    go_ret2
    exact ⟨line_end _ _ (by first | (simp [ownL]; done) | (simp [ownL]; omega)), Hid.out ‹_›⟩
  · go_region_held3 (fun w' => w'.cell? ⟨gA, 0, none⟩ = some (.int .i64 3) ∧ w'.cell? ⟨gA, 1, none⟩ = some (.int .i64 0) ∧ w'.cell? ⟨gA, 2, none⟩ = some (.int .i64 k) ∧ w'.cell? ⟨gA, 3, none⟩ = some (.int .i64 bit) ∧ w'.cell? ⟨gH, 0, none⟩ = some (.int .i64 3) ∧ w'.cell? ⟨gH, 1, none⟩ = some (.int .i64 0) ∧ w'.cell? ⟨gH, 2, none⟩ = some (.int .i64 k) ∧ w'.cell? ⟨gH, 3, none⟩ = some (.int .i64 0)) (first | exact ⟨by assumption, by assumption, by assumption, by assumption, by assumption, by assumption, by assumption, by assumption⟩ | exact ⟨Hst.out.a.cell 0, Hst.out.a.cell 1, Hst.out.a.cell 2, Hst.out.a.cell 3, Hst.out.h.cell 0, Hst.out.h.cell 1, Hst.out.h.cell 2, Hst.out.h.cell 3⟩ | go_keep)
      (first | (go_at_call 61; go_must (refine (hj.out _ ((Keep.refl [] _).drewN 1)).mono ?_; rintro e wj ⟨rfl, hkj⟩; have q0 := cell_keep0 hkj.of_drew (Hst.out.a.cell 0); have q1 := cell_keep0 hkj.of_drew (Hst.out.a.cell 1); have q2 := cell_keep0 hkj.of_drew (Hst.out.a.cell 2); have q3 := cell_keep0 hkj.of_drew (Hst.out.a.cell 3); have q4 := cell_keep0 hkj.of_drew (Hst.out.h.cell 0); have q5 := cell_keep0 hkj.of_drew (Hst.out.h.cell 1); have q6 := cell_keep0 hkj.of_drew (Hst.out.h.cell 2); have q7 := cell_keep0 hkj.of_drew (Hst.out.h.cell 3); have Hk := Lib.hid (Hst.out.k.trans hkj.of_drew (by simp)))))
    go_wp2
    go_ret2
    exact ⟨line_end _ _ (by first | (simp [ownL]; done) | (simp [ownL]; omega)), Hid.out ‹_›⟩
  · go_region_held3 (fun w' => w'.cell? ⟨gA, 0, none⟩ = some (.int .i64 3) ∧ w'.cell? ⟨gA, 1, none⟩ = some (.int .i64 node) ∧ w'.cell? ⟨gA, 2, none⟩ = some (.int .i64 k) ∧ w'.cell? ⟨gA, 3, none⟩ = some (.int .i64 bit) ∧ w'.cell? ⟨gH, 0, none⟩ = some (.int .i64 3) ∧ w'.cell? ⟨gH, 1, none⟩ = some (.int .i64 0) ∧ w'.cell? ⟨gH, 2, none⟩ = some (.int .i64 k) ∧ w'.cell? ⟨gH, 3, none⟩ = some (.int .i64 0)) (first | exact ⟨by assumption, by assumption, by assumption, by assumption, by assumption, by assumption, by assumption, by assumption⟩ | exact ⟨Hst.out.a.cell 0, Hst.out.a.cell 1, Hst.out.a.cell 2, Hst.out.a.cell 3, Hst.out.h.cell 0, Hst.out.h.cell 1, Hst.out.h.cell 2, Hst.out.h.cell 3⟩ | go_keep)
      (first | (go_at_call 61; go_must (refine (hj.out _ ((Keep.refl [] _).drewN 1)).mono ?_; rintro e wj ⟨rfl, hkj⟩; have q0 := cell_keep0 hkj.of_drew (Hst.out.a.cell 0); have q1 := cell_keep0 hkj.of_drew (Hst.out.a.cell 1); have q2 := cell_keep0 hkj.of_drew (Hst.out.a.cell 2); have q3 := cell_keep0 hkj.of_drew (Hst.out.a.cell 3); have q4 := cell_keep0 hkj.of_drew (Hst.out.h.cell 0); have q5 := cell_keep0 hkj.of_drew (Hst.out.h.cell 1); have q6 := cell_keep0 hkj.of_drew (Hst.out.h.cell 2); have q7 := cell_keep0 hkj.of_drew (Hst.out.h.cell 3); have Hk := Lib.hid (Hst.out.k.trans hkj.of_drew (by simp)))))
    go_wp2
    go_ret2
    exact ⟨line_end _ _ (by first | (simp [ownL]; done) | (simp [ownL]; omega)), Hid.out ‹_›⟩

set_option maxRecDepth 100000 in
set_option maxHeartbeats 3200000 in
theorem line_4 (w : World) (hE : Env w) (s : ST) (hs : s.In) (hk : s.kind = 4) : Calls Tryd.prog 45 #[stV s] w (LinePost s w) := by
  obtain ⟨kind, node, k, bit⟩ := s
  simp only at hk
  subst hk
  have kA : Keep [] w (w.alloc (.cells #[.int .i64 4, .int .i64 node, .int .i64 k, .int .i64 bit] 38)) := (Keep.refl _ _).alloc _
  have bA : Blk (w.alloc (.cells #[.int .i64 4, .int .i64 node, .int .i64 k, .int .i64 bit] 38)) w.heap.size 38 (stC ⟨4, node, k, bit⟩) := Blk.new' _ _ _ _ rfl
  have H := Lib.hid (And.intro kA bA)
  have HE := Lib.hid hE
  have HS := Lib.hid hs
  unfold stV
  simp only at *
  clear hs kA bA hE
  go_enter Tryd.func45, Tryd.ntmps45
  go_wp2_with fail
  generalize w.alloc (.cells #[.int .i64 4, .int .i64 node, .int .i64 k, .int .i64 bit] 38) = wA at *
  generalize w.heap.size = gA at *
  have hcA : wA.cell? ⟨gA, 0, none⟩ = some (.int .i64 4) := H.out.2.cell 0
  go_region_held3 (fun w' => w'.cell? ⟨gA, 0, none⟩ = some (.int .i64 4)) (first | assumption | go_keep)
    (first | (go_at_call 58; go_must (refine (words_spec _).mono ?_; rintro e w1 ⟨rfl, hm⟩; have hl : (Instr.lookup 114 (.map (some wA.heap.size)) (.int .i64 4) true).run Tryd.prog w1 = .ok (.tuple #[.string (strB (fullL 4)), .bool true]) w1 := look_word hm (by decide) (by decide) 0; have hc : w1.cell? ⟨gA, 0, none⟩ = some (.int .i64 4) := cell_keep0 hm.2.1.of_drew (H.out.2.cell 0); have hk1 := Lib.hid (hm.2.1.of_drew))))
  have hk2 := H.out.1.trans hk1.out (by simp)
  have hsp := split_k (HE.out.keep hk2) 4 [kDrop, [107]] 2 (by decide) rfl (by decide)
  have HSP := Lib.hid hsp
  have B1 := Lib.hid (And.intro hk2 (H.out.2.keep hk1.out (by simp)))
  clear hk2 hsp hl hc hcA hm hk1 H
  go_wp2_with fail
  refine HSP.out.mono ?_
  rintro e w2 ⟨rfl, hl2, hk2, hsz⟩
  have b2 := B1.out.2.keep hk2 (by simp)
  have c0 : w2.cell? ⟨gA, 0, none⟩ = some (.int .i64 4) := b2.cell 0
  have hst : LSt gA w2.heap.size w1.heap.size ⟨4, node, k, bit⟩ ⟨4, 0, 0, 0⟩ [⟨#[100, 114, 111, 112]⟩, ⟨#[107]⟩] w (w2.alloc (.cells #[.int .i64 4, .int .i64 0, .int .i64 0, .int .i64 0] 38)) :=
    ⟨b2.alloc _, Blk.new' _ _ _ _ rfl, hl2.alloc _, (B1.out.1.trans hk2 (by simp)).alloc _, Nat.le_trans B1.out.1.size hk2.size, B1.out.1.size, Nat.ne_of_lt b2.lt⟩
  have Hst := Lib.hid hst
  clear b2 hst hsz hl2 hk2 HSP B1
  go_upto_region 7 with fail
  generalize w2.alloc (.cells #[.int .i64 4, .int .i64 0, .int .i64 0, .int .i64 0] 38) = w3 at *
  generalize w2.heap.size = gH at *
  generalize w1.heap.size = gL at *
  clear c0
  have l0 : w3.cell? ⟨gL, 0, none⟩ = some (.string ⟨#[100, 114, 111, 112]⟩) := Hst.out.l.cell 0
  refine wp_loop_rounds 3 ?_
  rw [rounds_succ]
  go_wp2_with fail
  clear l0
  have l1 : w3.cell? ⟨gL, 1, none⟩ = some (.string ⟨#[107]⟩) := Hst.out.l.cell 1
  have a1 : w3.cell? ⟨gA, 2, none⟩ = some (.int .i64 k) := Hst.out.a.cell 2
  have h1 : w3.cell? ⟨gH, 2, none⟩ = some (.int .i64 0) := Hst.out.h.cell 2
  have f1 : w3.frozen? ⟨gH, 2, none⟩ = false := Hst.out.h.frozen 2
  rw [rounds_succ]
  go_upto_region 11 with (first | (go_at_call 60; refine (field_k _ _).mono ?_; rintro e w' ⟨rfl, rfl⟩))
  have Hst2 := Lib.hid (Hst.out.setH 2 (.int .i64 k) ⟨4, 0, k, 0⟩ rfl)
  clear l1 a1 h1 f1 Hst
  generalize w3.setCell ⟨gH, 2, none⟩ (.int .i64 k) = w4 at *
  have a1 : w4.cell? ⟨gA, 2, none⟩ = some (.int .i64 k) := Hst2.out.a.cell 2
  have hit := Lib.hid (itoa_spec (HE.out.keep Hst2.out.k) HS.out.k)
  go_wp2_with (first | (go_at_call 60; refine (field_k _ _).mono ?_; rintro e w' ⟨rfl, rfl⟩))
  refine hit.out.mono ?_
  rintro e w5 ⟨rfl, hkw⟩
  have Hst3 := Lib.hid (Hst2.out.keep hkw)
  clear a1 hit hkw Hst2
  have l1 : w5.cell? ⟨gL, 1, none⟩ = some (.string ⟨#[107]⟩) := Hst3.out.l.cell 1
  have f1 : w5.frozen? ⟨gL, 1, none⟩ = false := Hst3.out.l.frozen 1
  go_wp2_with fail
  have Hst := Lib.hid (show LSt gA gH gL _ _ [⟨#[100, 114, 111, 112]⟩, itoaB k] w _ from Hst3.out.setL 1 (itoaB k))
  clear l1 f1 Hst3
  generalize w5.setCell ⟨gL, 1, none⟩ (.string (itoaB k)) = w6 at *
  rw [rounds_succ]
  go_wp2_with fail
  have hj := Lib.hid (fun (w' : World) (kk : Keep [] w6 w') => join_spec (n := 2) (ps := partsL ⟨4, node, k, bit⟩) (Hst.out.l.keep kk (by simp)) rfl (by simp [partsL, wordL, fieldsL, itoaB, strB_data, kDrop]) (by simp [partsL]) (line_len HS.out))
  rcases (show (node = 0 ∧ bit = 0) ∨ (node = 0 ∧ ¬ (0 : Int) = bit) ∨ (¬ (0 : Int) = node) by omega) with ⟨rfl, rfl⟩ | ⟨rfl, hne⟩ | hne
  · go_region_held3 (fun w' => w'.cell? ⟨gA, 0, none⟩ = some (.int .i64 4) ∧ w'.cell? ⟨gA, 1, none⟩ = some (.int .i64 0) ∧ w'.cell? ⟨gA, 2, none⟩ = some (.int .i64 k) ∧ w'.cell? ⟨gA, 3, none⟩ = some (.int .i64 0) ∧ w'.cell? ⟨gH, 0, none⟩ = some (.int .i64 4) ∧ w'.cell? ⟨gH, 1, none⟩ = some (.int .i64 0) ∧ w'.cell? ⟨gH, 2, none⟩ = some (.int .i64 k) ∧ w'.cell? ⟨gH, 3, none⟩ = some (.int .i64 0)) (first | exact ⟨by assumption, by assumption, by assumption, by assumption, by assumption, by assumption, by assumption, by assumption⟩ | exact ⟨Hst.out.a.cell 0, Hst.out.a.cell 1, Hst.out.a.cell 2, Hst.out.a.cell 3, Hst.out.h.cell 0, Hst.out.h.cell 1, Hst.out.h.cell 2, Hst.out.h.cell 3⟩ | go_keep)
      (first | (go_at_call 61; go_must (refine (hj.out _ ((Keep.refl [] _).drewN 1)).mono ?_; rintro e wj ⟨rfl, hkj⟩; have q0 := cell_keep0 hkj.of_drew (Hst.out.a.cell 0); have q1 := cell_keep0 hkj.of_drew (Hst.out.a.cell 1); have q2 := cell_keep0 hkj.of_drew (Hst.out.a.cell 2); have q3 := cell_keep0 hkj.of_drew (Hst.out.a.cell 3); have q4 := cell_keep0 hkj.of_drew (Hst.out.h.cell 0); have q5 := cell_keep0 hkj.of_drew (Hst.out.h.cell 1); have q6 := cell_keep0 hkj.of_drew (Hst.out.h.cell 2); have q7 := cell_keep0 hkj.of_drew (Hst.out.h.cell 3); have Hk := Lib.hid (Hst.out.k.trans hkj.of_drew (by simp)))))
    go_wp2
    go_ret2
    exact ⟨line_end _ _ (by first | (simp [ownL]; done) | (simp [ownL]; omega)), Hid.out ‹_›⟩
  · go_region_held3 (fun w' => w'.cell? ⟨gA, 0, none⟩ = some (.int .i64 4) ∧ w'.cell? ⟨gA, 1, none⟩ = some (.int .i64 0) ∧ w'.cell? ⟨gA, 2, none⟩ = some (.int .i64 k) ∧ w'.cell? ⟨gA, 3, none⟩ = some (.int .i64 bit) ∧ w'.cell? ⟨gH, 0, none⟩ = some (.int .i64 4) ∧ w'.cell? ⟨gH, 1, none⟩ = some (.int .i64 0) ∧ w'.cell? ⟨gH, 2, none⟩ = some (.int .i64 k) ∧ w'.cell? ⟨gH, 3, none⟩ = some (.int .i64 0)) (first | exact ⟨by assumption, by assumption, by assumption, by assumption, by assumption, by assumption, by assumption, by assumption⟩ | exact ⟨Hst.out.a.cell 0, Hst.out.a.cell 1, Hst.out.a.cell 2, Hst.out.a.cell 3, Hst.out.h.cell 0, Hst.out.h.cell 1, Hst.out.h.cell 2, Hst.out.h.cell 3⟩ | go_keep)
      (first | (go_at_call 61; go_must (refine (hj.out _ ((Keep.refl [] _).drewN 1)).mono ?_; rintro e wj ⟨rfl, hkj⟩; have q0 := cell_keep0 hkj.of_drew (Hst.out.a.cell 0); have q1 := cell_keep0 hkj.of_drew (Hst.out.a.cell 1); have q2 := cell_keep0 hkj.of_drew (Hst.out.a.cell 2); have q3 := cell_keep0 hkj.of_drew (Hst.out.a.cell 3); have q4 := cell_keep0 hkj.of_drew (Hst.out.h.cell 0); have q5 := cell_keep0 hkj.of_drew (Hst.out.h.cell 1); have q6 := cell_keep0 hkj.of_drew (Hst.out.h.cell 2); have q7 := cell_keep0 hkj.of_drew (Hst.out.h.cell 3); have Hk := Lib.hid (Hst.out.k.trans hkj.of_drew (by simp)))))
    go_wp2
    go_ret2
    exact ⟨line_end _ _ (by first | (simp [ownL]; done) | (simp [ownL]; omega)), Hid.out ‹_›⟩
  · go_region_held3 (fun w' => w'.cell? ⟨gA, 0, none⟩ = some (.int .i64 4) ∧ w'.cell? ⟨gA, 1, none⟩ = some (.int .i64 node) ∧ w'.cell? ⟨gA, 2, none⟩ = some (.int .i64 k) ∧ w'.cell? ⟨gA, 3, none⟩ = some (.int .i64 bit) ∧ w'.cell? ⟨gH, 0, none⟩ = some (.int .i64 4) ∧ w'.cell? ⟨gH, 1, none⟩ = some (.int .i64 0) ∧ w'.cell? ⟨gH, 2, none⟩ = some (.int .i64 k) ∧ w'.cell? ⟨gH, 3, none⟩ = some (.int .i64 0)) (first | exact ⟨by assumption, by assumption, by assumption, by assumption, by assumption, by assumption, by assumption, by assumption⟩ | exact ⟨Hst.out.a.cell 0, Hst.out.a.cell 1, Hst.out.a.cell 2, Hst.out.a.cell 3, Hst.out.h.cell 0, Hst.out.h.cell 1, Hst.out.h.cell 2, Hst.out.h.cell 3⟩ | go_keep)
      (first | (go_at_call 61; go_must (refine (hj.out _ ((Keep.refl [] _).drewN 1)).mono ?_; rintro e wj ⟨rfl, hkj⟩; have q0 := cell_keep0 hkj.of_drew (Hst.out.a.cell 0); have q1 := cell_keep0 hkj.of_drew (Hst.out.a.cell 1); have q2 := cell_keep0 hkj.of_drew (Hst.out.a.cell 2); have q3 := cell_keep0 hkj.of_drew (Hst.out.a.cell 3); have q4 := cell_keep0 hkj.of_drew (Hst.out.h.cell 0); have q5 := cell_keep0 hkj.of_drew (Hst.out.h.cell 1); have q6 := cell_keep0 hkj.of_drew (Hst.out.h.cell 2); have q7 := cell_keep0 hkj.of_drew (Hst.out.h.cell 3); have Hk := Lib.hid (Hst.out.k.trans hkj.of_drew (by simp)))))
    go_wp2
    go_ret2
    exact ⟨line_end _ _ (by first | (simp [ownL]; done) | (simp [ownL]; omega)), Hid.out ‹_›⟩

set_option maxRecDepth 100000 in
set_option maxHeartbeats 3200000 in
theorem line_5 (w : World) (hE : Env w) (s : ST) (hs : s.In) (hk : s.kind = 5) : Calls Tryd.prog 45 #[stV s] w (LinePost s w) := by
  obtain ⟨kind, node, k, bit⟩ := s
  simp only at hk
  subst hk
  have kA : Keep [] w (w.alloc (.cells #[.int .i64 5, .int .i64 node, .int .i64 k, .int .i64 bit] 38)) := (Keep.refl _ _).alloc _
  have bA : Blk (w.alloc (.cells #[.int .i64 5, .int .i64 node, .int .i64 k, .int .i64 bit] 38)) w.heap.size 38 (stC ⟨5, node, k, bit⟩) := Blk.new' _ _ _ _ rfl
  have H := Lib.hid (And.intro kA bA)
  have HE := Lib.hid hE
  have HS := Lib.hid hs
  unfold stV
  simp only at *
  clear hs kA bA hE
  go_enter Tryd.func45, Tryd.ntmps45
  go_wp2_with fail
  generalize w.alloc (.cells #[.int .i64 5, .int .i64 node, .int .i64 k, .int .i64 bit] 38) = wA at *
  generalize w.heap.size = gA at *
  have hcA : wA.cell? ⟨gA, 0, none⟩ = some (.int .i64 5) := H.out.2.cell 0
  go_region_held3 (fun w' => w'.cell? ⟨gA, 0, none⟩ = some (.int .i64 5)) (first | assumption | go_keep)
    (first | (go_at_call 58; go_must (refine (words_spec _).mono ?_; rintro e w1 ⟨rfl, hm⟩; have hl : (Instr.lookup 114 (.map (some wA.heap.size)) (.int .i64 5) true).run Tryd.prog w1 = .ok (.tuple #[.string (strB (fullL 5)), .bool true]) w1 := look_word hm (by decide) (by decide) 0; have hc : w1.cell? ⟨gA, 0, none⟩ = some (.int .i64 5) := cell_keep0 hm.2.1.of_drew (H.out.2.cell 0); have hk1 := Lib.hid (hm.2.1.of_drew))))
  have hk2 := H.out.1.trans hk1.out (by simp)
  have hsp := split_k (HE.out.keep hk2) 5 [kDup, [107]] 2 (by decide) rfl (by decide)
  have HSP := Lib.hid hsp
  have B1 := Lib.hid (And.intro hk2 (H.out.2.keep hk1.out (by simp)))
  clear hk2 hsp hl hc hcA hm hk1 H
  go_wp2_with fail
  refine HSP.out.mono ?_
  rintro e w2 ⟨rfl, hl2, hk2, hsz⟩
  have b2 := B1.out.2.keep hk2 (by simp)
  have c0 : w2.cell? ⟨gA, 0, none⟩ = some (.int .i64 5) := b2.cell 0
  have hst : LSt gA w2.heap.size w1.heap.size ⟨5, node, k, bit⟩ ⟨5, 0, 0, 0⟩ [⟨#[100, 117, 112]⟩, ⟨#[107]⟩] w (w2.alloc (.cells #[.int .i64 5, .int .i64 0, .int .i64 0, .int .i64 0] 38)) :=
    ⟨b2.alloc _, Blk.new' _ _ _ _ rfl, hl2.alloc _, (B1.out.1.trans hk2 (by simp)).alloc _, Nat.le_trans B1.out.1.size hk2.size, B1.out.1.size, Nat.ne_of_lt b2.lt⟩
  have Hst := Lib.hid hst
  clear b2 hst hsz hl2 hk2 HSP B1
  go_upto_region 7 with fail
  generalize w2.alloc (.cells #[.int .i64 5, .int .i64 0, .int .i64 0, .int .i64 0] 38) = w3 at *
  generalize w2.heap.size = gH at *
  generalize w1.heap.size = gL at *
  clear c0
  have l0 : w3.cell? ⟨gL, 0, none⟩ = some (.string ⟨#[100, 117, 112]⟩) := Hst.out.l.cell 0
  refine wp_loop_rounds 3 ?_
  rw [rounds_succ]
  go_wp2_with fail
  clear l0
  have l1 : w3.cell? ⟨gL, 1, none⟩ = some (.string ⟨#[107]⟩) := Hst.out.l.cell 1
  have a1 : w3.cell? ⟨gA, 2, none⟩ = some (.int .i64 k) := Hst.out.a.cell 2
  have h1 : w3.cell? ⟨gH, 2, none⟩ = some (.int .i64 0) := Hst.out.h.cell 2
  have f1 : w3.frozen? ⟨gH, 2, none⟩ = false := Hst.out.h.frozen 2
  rw [rounds_succ]
  go_upto_region 11 with (first | (go_at_call 60; refine (field_k _ _).mono ?_; rintro e w' ⟨rfl, rfl⟩))
  have Hst2 := Lib.hid (Hst.out.setH 2 (.int .i64 k) ⟨5, 0, k, 0⟩ rfl)
  clear l1 a1 h1 f1 Hst
  generalize w3.setCell ⟨gH, 2, none⟩ (.int .i64 k) = w4 at *
  have a1 : w4.cell? ⟨gA, 2, none⟩ = some (.int .i64 k) := Hst2.out.a.cell 2
  have hit := Lib.hid (itoa_spec (HE.out.keep Hst2.out.k) HS.out.k)
  go_wp2_with (first | (go_at_call 60; refine (field_k _ _).mono ?_; rintro e w' ⟨rfl, rfl⟩))
  refine hit.out.mono ?_
  rintro e w5 ⟨rfl, hkw⟩
  have Hst3 := Lib.hid (Hst2.out.keep hkw)
  clear a1 hit hkw Hst2
  have l1 : w5.cell? ⟨gL, 1, none⟩ = some (.string ⟨#[107]⟩) := Hst3.out.l.cell 1
  have f1 : w5.frozen? ⟨gL, 1, none⟩ = false := Hst3.out.l.frozen 1
  go_wp2_with fail
  have Hst := Lib.hid (show LSt gA gH gL _ _ [⟨#[100, 117, 112]⟩, itoaB k] w _ from Hst3.out.setL 1 (itoaB k))
  clear l1 f1 Hst3
  generalize w5.setCell ⟨gL, 1, none⟩ (.string (itoaB k)) = w6 at *
  rw [rounds_succ]
  go_wp2_with fail
  have hj := Lib.hid (fun (w' : World) (kk : Keep [] w6 w') => join_spec (n := 2) (ps := partsL ⟨5, node, k, bit⟩) (Hst.out.l.keep kk (by simp)) rfl (by simp [partsL, wordL, fieldsL, itoaB, strB_data, kDup]) (by simp [partsL]) (line_len HS.out))
  rcases (show (node = 0 ∧ bit = 0) ∨ (node = 0 ∧ ¬ (0 : Int) = bit) ∨ (¬ (0 : Int) = node) by omega) with ⟨rfl, rfl⟩ | ⟨rfl, hne⟩ | hne
  · go_region_held3 (fun w' => w'.cell? ⟨gA, 0, none⟩ = some (.int .i64 5) ∧ w'.cell? ⟨gA, 1, none⟩ = some (.int .i64 0) ∧ w'.cell? ⟨gA, 2, none⟩ = some (.int .i64 k) ∧ w'.cell? ⟨gA, 3, none⟩ = some (.int .i64 0) ∧ w'.cell? ⟨gH, 0, none⟩ = some (.int .i64 5) ∧ w'.cell? ⟨gH, 1, none⟩ = some (.int .i64 0) ∧ w'.cell? ⟨gH, 2, none⟩ = some (.int .i64 k) ∧ w'.cell? ⟨gH, 3, none⟩ = some (.int .i64 0)) (first | exact ⟨by assumption, by assumption, by assumption, by assumption, by assumption, by assumption, by assumption, by assumption⟩ | exact ⟨Hst.out.a.cell 0, Hst.out.a.cell 1, Hst.out.a.cell 2, Hst.out.a.cell 3, Hst.out.h.cell 0, Hst.out.h.cell 1, Hst.out.h.cell 2, Hst.out.h.cell 3⟩ | go_keep)
      (first | (go_at_call 61; go_must (refine (hj.out _ ((Keep.refl [] _).drewN 1)).mono ?_; rintro e wj ⟨rfl, hkj⟩; have q0 := cell_keep0 hkj.of_drew (Hst.out.a.cell 0); have q1 := cell_keep0 hkj.of_drew (Hst.out.a.cell 1); have q2 := cell_keep0 hkj.of_drew (Hst.out.a.cell 2); have q3 := cell_keep0 hkj.of_drew (Hst.out.a.cell 3); have q4 := cell_keep0 hkj.of_drew (Hst.out.h.cell 0); have q5 := cell_keep0 hkj.of_drew (Hst.out.h.cell 1); have q6 := cell_keep0 hkj.of_drew (Hst.out.h.cell 2); have q7 := cell_keep0 hkj.of_drew (Hst.out.h.cell 3); have Hk := Lib.hid (Hst.out.k.trans hkj.of_drew (by simp)))))
    go_wp2
    go_ret2
    exact ⟨line_end _ _ (by first | (simp [ownL]; done) | (simp [ownL]; omega)), Hid.out ‹_›⟩
  · go_region_held3 (fun w' => w'.cell? ⟨gA, 0, none⟩ = some (.int .i64 5) ∧ w'.cell? ⟨gA, 1, none⟩ = some (.int .i64 0) ∧ w'.cell? ⟨gA, 2, none⟩ = some (.int .i64 k) ∧ w'.cell? ⟨gA, 3, none⟩ = some (.int .i64 bit) ∧ w'.cell? ⟨gH, 0, none⟩ = some (.int .i64 5) ∧ w'.cell? ⟨gH, 1, none⟩ = some (.int .i64 0) ∧ w'.cell? ⟨gH, 2, none⟩ = some (.int .i64 k) ∧ w'.cell? ⟨gH, 3, none⟩ = some (.int .i64 0)) (first | exact ⟨by assumption, by assumption, by assumption, by assumption, by assumption, by assumption, by assumption, by assumption⟩ | exact ⟨Hst.out.a.cell 0, Hst.out.a.cell 1, Hst.out.a.cell 2, Hst.out.a.cell 3, Hst.out.h.cell 0, Hst.out.h.cell 1, Hst.out.h.cell 2, Hst.out.h.cell 3⟩ | go_keep)
      (first | (go_at_call 61; go_must (refine (hj.out _ ((Keep.refl [] _).drewN 1)).mono ?_; rintro e wj ⟨rfl, hkj⟩; have q0 := cell_keep0 hkj.of_drew (Hst.out.a.cell 0); have q1 := cell_keep0 hkj.of_drew (Hst.out.a.cell 1); have q2 := cell_keep0 hkj.of_drew (Hst.out.a.cell 2); have q3 := cell_keep0 hkj.of_drew (Hst.out.a.cell 3); have q4 := cell_keep0 hkj.of_drew (Hst.out.h.cell 0); have q5 := cell_keep0 hkj.of_drew (Hst.out.h.cell 1); have q6 := cell_keep0 hkj.of_drew (Hst.out.h.cell 2); have q7 := cell_keep0 hkj.of_drew (Hst.out.h.cell 3); have Hk := Lib.hid (Hst.out.k.trans hkj.of_drew (by simp)))))
    go_wp2
    go_ret2
    exact ⟨line_end _ _ (by first | (simp [ownL]; done) | (simp [ownL]; omega)), Hid.out ‹_›⟩
  · go_region_held3 (fun w' => w'.cell? ⟨gA, 0, none⟩ = some (.int .i64 5) ∧ w'.cell? ⟨gA, 1, none⟩ = some (.int .i64 node) ∧ w'.cell? ⟨gA, 2, none⟩ = some (.int .i64 k) ∧ w'.cell? ⟨gA, 3, none⟩ = some (.int .i64 bit) ∧ w'.cell? ⟨gH, 0, none⟩ = some (.int .i64 5) ∧ w'.cell? ⟨gH, 1, none⟩ = some (.int .i64 0) ∧ w'.cell? ⟨gH, 2, none⟩ = some (.int .i64 k) ∧ w'.cell? ⟨gH, 3, none⟩ = some (.int .i64 0)) (first | exact ⟨by assumption, by assumption, by assumption, by assumption, by assumption, by assumption, by assumption, by assumption⟩ | exact ⟨Hst.out.a.cell 0, Hst.out.a.cell 1, Hst.out.a.cell 2, Hst.out.a.cell 3, Hst.out.h.cell 0, Hst.out.h.cell 1, Hst.out.h.cell 2, Hst.out.h.cell 3⟩ | go_keep)
      (first | (go_at_call 61; go_must (refine (hj.out _ ((Keep.refl [] _).drewN 1)).mono ?_; rintro e wj ⟨rfl, hkj⟩; have q0 := cell_keep0 hkj.of_drew (Hst.out.a.cell 0); have q1 := cell_keep0 hkj.of_drew (Hst.out.a.cell 1); have q2 := cell_keep0 hkj.of_drew (Hst.out.a.cell 2); have q3 := cell_keep0 hkj.of_drew (Hst.out.a.cell 3); have q4 := cell_keep0 hkj.of_drew (Hst.out.h.cell 0); have q5 := cell_keep0 hkj.of_drew (Hst.out.h.cell 1); have q6 := cell_keep0 hkj.of_drew (Hst.out.h.cell 2); have q7 := cell_keep0 hkj.of_drew (Hst.out.h.cell 3); have Hk := Lib.hid (Hst.out.k.trans hkj.of_drew (by simp)))))
    go_wp2
    go_ret2
    exact ⟨line_end _ _ (by first | (simp [ownL]; done) | (simp [ownL]; omega)), Hid.out ‹_›⟩

set_option maxRecDepth 100000 in
set_option maxHeartbeats 3200000 in
theorem line_6 (w : World) (hE : Env w) (s : ST) (hs : s.In) (hk : s.kind = 6) : Calls Tryd.prog 45 #[stV s] w (LinePost s w) := by
  obtain ⟨kind, node, k, bit⟩ := s
  simp only at hk
  subst hk
  have kA : Keep [] w (w.alloc (.cells #[.int .i64 6, .int .i64 node, .int .i64 k, .int .i64 bit] 38)) := (Keep.refl _ _).alloc _
  have bA : Blk (w.alloc (.cells #[.int .i64 6, .int .i64 node, .int .i64 k, .int .i64 bit] 38)) w.heap.size 38 (stC ⟨6, node, k, bit⟩) := Blk.new' _ _ _ _ rfl
  have H := Lib.hid (And.intro kA bA)
  have HE := Lib.hid hE
  have HS := Lib.hid hs
  unfold stV
  simp only at *
  clear hs kA bA hE
  go_enter Tryd.func45, Tryd.ntmps45
  go_wp2_with fail
  generalize w.alloc (.cells #[.int .i64 6, .int .i64 node, .int .i64 k, .int .i64 bit] 38) = wA at *
  generalize w.heap.size = gA at *
  have hcA : wA.cell? ⟨gA, 0, none⟩ = some (.int .i64 6) := H.out.2.cell 0
  go_region_held3 (fun w' => w'.cell? ⟨gA, 0, none⟩ = some (.int .i64 6)) (first | assumption | go_keep)
    (first | (go_at_call 58; go_must (refine (words_spec _).mono ?_; rintro e w1 ⟨rfl, hm⟩; have hl : (Instr.lookup 114 (.map (some wA.heap.size)) (.int .i64 6) true).run Tryd.prog w1 = .ok (.tuple #[.string (strB (fullL 6)), .bool true]) w1 := look_word hm (by decide) (by decide) 0; have hc : w1.cell? ⟨gA, 0, none⟩ = some (.int .i64 6) := cell_keep0 hm.2.1.of_drew (H.out.2.cell 0); have hk1 := Lib.hid (hm.2.1.of_drew))))
  have hk2 := H.out.1.trans hk1.out (by simp)
  have hsp := split_k (HE.out.keep hk2) 6 [kFlip, [107], [98]] 3 (by decide) rfl (by decide)
  have HSP := Lib.hid hsp
  have B1 := Lib.hid (And.intro hk2 (H.out.2.keep hk1.out (by simp)))
  clear hk2 hsp hl hc hcA hm hk1 H
  go_wp2_with fail
  refine HSP.out.mono ?_
  rintro e w2 ⟨rfl, hl2, hk2, hsz⟩
  have b2 := B1.out.2.keep hk2 (by simp)
  have c0 : w2.cell? ⟨gA, 0, none⟩ = some (.int .i64 6) := b2.cell 0
  have hst : LSt gA w2.heap.size w1.heap.size ⟨6, node, k, bit⟩ ⟨6, 0, 0, 0⟩ [⟨#[102, 108, 105, 112]⟩, ⟨#[107]⟩, ⟨#[98]⟩] w (w2.alloc (.cells #[.int .i64 6, .int .i64 0, .int .i64 0, .int .i64 0] 38)) :=
    ⟨b2.alloc _, Blk.new' _ _ _ _ rfl, hl2.alloc _, (B1.out.1.trans hk2 (by simp)).alloc _, Nat.le_trans B1.out.1.size hk2.size, B1.out.1.size, Nat.ne_of_lt b2.lt⟩
  have Hst := Lib.hid hst
  clear b2 hst hsz hl2 hk2 HSP B1
  go_upto_region 7 with fail
  generalize w2.alloc (.cells #[.int .i64 6, .int .i64 0, .int .i64 0, .int .i64 0] 38) = w3 at *
  generalize w2.heap.size = gH at *
  generalize w1.heap.size = gL at *
  clear c0
  have l0 : w3.cell? ⟨gL, 0, none⟩ = some (.string ⟨#[102, 108, 105, 112]⟩) := Hst.out.l.cell 0
  refine wp_loop_rounds 4 ?_
  rw [rounds_succ]
  go_wp2_with fail
  clear l0
  have l1 : w3.cell? ⟨gL, 1, none⟩ = some (.string ⟨#[107]⟩) := Hst.out.l.cell 1
  have a1 : w3.cell? ⟨gA, 2, none⟩ = some (.int .i64 k) := Hst.out.a.cell 2
  have h1 : w3.cell? ⟨gH, 2, none⟩ = some (.int .i64 0) := Hst.out.h.cell 2
  have f1 : w3.frozen? ⟨gH, 2, none⟩ = false := Hst.out.h.frozen 2
  rw [rounds_succ]
  go_upto_region 11 with (first | (go_at_call 60; refine (field_k _ _).mono ?_; rintro e w' ⟨rfl, rfl⟩))
  have Hst2 := Lib.hid (Hst.out.setH 2 (.int .i64 k) ⟨6, 0, k, 0⟩ rfl)
  clear l1 a1 h1 f1 Hst
  generalize w3.setCell ⟨gH, 2, none⟩ (.int .i64 k) = w4 at *
  have a1 : w4.cell? ⟨gA, 2, none⟩ = some (.int .i64 k) := Hst2.out.a.cell 2
  have hit := Lib.hid (itoa_spec (HE.out.keep Hst2.out.k) HS.out.k)
  go_wp2_with (first | (go_at_call 60; refine (field_k _ _).mono ?_; rintro e w' ⟨rfl, rfl⟩))
  refine hit.out.mono ?_
  rintro e w5 ⟨rfl, hkw⟩
  have Hst3 := Lib.hid (Hst2.out.keep hkw)
  clear a1 hit hkw Hst2
  have l1 : w5.cell? ⟨gL, 1, none⟩ = some (.string ⟨#[107]⟩) := Hst3.out.l.cell 1
  have f1 : w5.frozen? ⟨gL, 1, none⟩ = false := Hst3.out.l.frozen 1
  go_wp2_with fail
  have Hst := Lib.hid (show LSt gA gH gL _ _ [⟨#[102, 108, 105, 112]⟩, itoaB k, ⟨#[98]⟩] w _ from Hst3.out.setL 1 (itoaB k))
  clear l1 f1 Hst3
  generalize w5.setCell ⟨gL, 1, none⟩ (.string (itoaB k)) = w6 at *
  have l1 : w6.cell? ⟨gL, 2, none⟩ = some (.string ⟨#[98]⟩) := Hst.out.l.cell 2
  have a1 : w6.cell? ⟨gA, 3, none⟩ = some (.int .i64 bit) := Hst.out.a.cell 3
  have h1 : w6.cell? ⟨gH, 3, none⟩ = some (.int .i64 0) := Hst.out.h.cell 3
  have f1 : w6.frozen? ⟨gH, 3, none⟩ = false := Hst.out.h.frozen 3
  rw [rounds_succ]
  go_upto_region 11 with (first | (go_at_call 60; refine (field_b _ _).mono ?_; rintro e w' ⟨rfl, rfl⟩))
  have Hst2 := Lib.hid (Hst.out.setH 3 (.int .i64 bit) ⟨6, 0, k, bit⟩ rfl)
  clear l1 a1 h1 f1 Hst
  generalize w6.setCell ⟨gH, 3, none⟩ (.int .i64 bit) = w7 at *
  have a1 : w7.cell? ⟨gA, 3, none⟩ = some (.int .i64 bit) := Hst2.out.a.cell 3
  have hit := Lib.hid (itoa_spec (HE.out.keep Hst2.out.k) HS.out.bit)
  go_wp2_with (first | (go_at_call 60; refine (field_b _ _).mono ?_; rintro e w' ⟨rfl, rfl⟩))
  refine hit.out.mono ?_
  rintro e w8 ⟨rfl, hkw⟩
  have Hst3 := Lib.hid (Hst2.out.keep hkw)
  clear a1 hit hkw Hst2
  have l1 : w8.cell? ⟨gL, 2, none⟩ = some (.string ⟨#[98]⟩) := Hst3.out.l.cell 2
  have f1 : w8.frozen? ⟨gL, 2, none⟩ = false := Hst3.out.l.frozen 2
  go_wp2_with fail
  have Hst := Lib.hid (show LSt gA gH gL _ _ [⟨#[102, 108, 105, 112]⟩, itoaB k, itoaB bit] w _ from Hst3.out.setL 2 (itoaB bit))
  clear l1 f1 Hst3
  generalize w8.setCell ⟨gL, 2, none⟩ (.string (itoaB bit)) = w9 at *
  rw [rounds_succ]
  go_wp2_with fail
  have hj := Lib.hid (fun (w' : World) (kk : Keep [] w9 w') => join_spec (n := 3) (ps := partsL ⟨6, node, k, bit⟩) (Hst.out.l.keep kk (by simp)) rfl (by simp [partsL, wordL, fieldsL, itoaB, strB_data, kFlip]) (by simp [partsL]) (line_len HS.out))
  rcases (show (node = 0) ∨ (¬ (0 : Int) = node) by omega) with rfl | hne
  · go_region_held3 (fun w' => w'.cell? ⟨gA, 0, none⟩ = some (.int .i64 6) ∧ w'.cell? ⟨gA, 1, none⟩ = some (.int .i64 0) ∧ w'.cell? ⟨gA, 2, none⟩ = some (.int .i64 k) ∧ w'.cell? ⟨gA, 3, none⟩ = some (.int .i64 bit) ∧ w'.cell? ⟨gH, 0, none⟩ = some (.int .i64 6) ∧ w'.cell? ⟨gH, 1, none⟩ = some (.int .i64 0) ∧ w'.cell? ⟨gH, 2, none⟩ = some (.int .i64 k) ∧ w'.cell? ⟨gH, 3, none⟩ = some (.int .i64 bit)) (first | exact ⟨by assumption, by assumption, by assumption, by assumption, by assumption, by assumption, by assumption, by assumption⟩ | exact ⟨Hst.out.a.cell 0, Hst.out.a.cell 1, Hst.out.a.cell 2, Hst.out.a.cell 3, Hst.out.h.cell 0, Hst.out.h.cell 1, Hst.out.h.cell 2, Hst.out.h.cell 3⟩ | go_keep)
      (first | (go_at_call 61; go_must (refine (hj.out _ ((Keep.refl [] _).drewN 1)).mono ?_; rintro e wj ⟨rfl, hkj⟩; have q0 := cell_keep0 hkj.of_drew (Hst.out.a.cell 0); have q1 := cell_keep0 hkj.of_drew (Hst.out.a.cell 1); have q2 := cell_keep0 hkj.of_drew (Hst.out.a.cell 2); have q3 := cell_keep0 hkj.of_drew (Hst.out.a.cell 3); have q4 := cell_keep0 hkj.of_drew (Hst.out.h.cell 0); have q5 := cell_keep0 hkj.of_drew (Hst.out.h.cell 1); have q6 := cell_keep0 hkj.of_drew (Hst.out.h.cell 2); have q7 := cell_keep0 hkj.of_drew (Hst.out.h.cell 3); have Hk := Lib.hid (Hst.out.k.trans hkj.of_drew (by simp)))))
    go_wp2
    go_ret2
    exact ⟨line_end _ _ (by first | (simp [ownL]; done) | (simp [ownL]; omega)), Hid.out ‹_›⟩
  · go_region_held3 (fun w' => w'.cell? ⟨gA, 0, none⟩ = some (.int .i64 6) ∧ w'.cell? ⟨gA, 1, none⟩ = some (.int .i64 node) ∧ w'.cell? ⟨gA, 2, none⟩ = some (.int .i64 k) ∧ w'.cell? ⟨gA, 3, none⟩ = some (.int .i64 bit) ∧ w'.cell? ⟨gH, 0, none⟩ = some (.int .i64 6) ∧ w'.cell? ⟨gH, 1, none⟩ = some (.int .i64 0) ∧ w'.cell? ⟨gH, 2, none⟩ = some (.int .i64 k) ∧ w'.cell? ⟨gH, 3, none⟩ = some (.int .i64 bit)) (first | exact ⟨by assumption, by assumption, by assumption, by assumption, by assumption, by assumption, by assumption, by assumption⟩ | exact ⟨Hst.out.a.cell 0, Hst.out.a.cell 1, Hst.out.a.cell 2, Hst.out.a.cell 3, Hst.out.h.cell 0, Hst.out.h.cell 1, Hst.out.h.cell 2, Hst.out.h.cell 3⟩ | go_keep)
      (first | (go_at_call 61; go_must (refine (hj.out _ ((Keep.refl [] _).drewN 1)).mono ?_; rintro e wj ⟨rfl, hkj⟩; have q0 := cell_keep0 hkj.of_drew (Hst.out.a.cell 0); have q1 := cell_keep0 hkj.of_drew (Hst.out.a.cell 1); have q2 := cell_keep0 hkj.of_drew (Hst.out.a.cell 2); have q3 := cell_keep0 hkj.of_drew (Hst.out.a.cell 3); have q4 := cell_keep0 hkj.of_drew (Hst.out.h.cell 0); have q5 := cell_keep0 hkj.of_drew (Hst.out.h.cell 1); have q6 := cell_keep0 hkj.of_drew (Hst.out.h.cell 2); have q7 := cell_keep0 hkj.of_drew (Hst.out.h.cell 3); have Hk := Lib.hid (Hst.out.k.trans hkj.of_drew (by simp)))))
    go_wp2
    go_ret2
    exact ⟨line_end _ _ (by first | (simp [ownL]; done) | (simp [ownL]; omega)), Hid.out ‹_›⟩

set_option maxRecDepth 100000 in
set_option maxHeartbeats 3200000 in
theorem line_7 (w : World) (hE : Env w) (s : ST) (hs : s.In) (hk : s.kind = 7) : Calls Tryd.prog 45 #[stV s] w (LinePost s w) := by
  obtain ⟨kind, node, k, bit⟩ := s
  simp only at hk
  subst hk
  have kA : Keep [] w (w.alloc (.cells #[.int .i64 7, .int .i64 node, .int .i64 k, .int .i64 bit] 38)) := (Keep.refl _ _).alloc _
  have bA : Blk (w.alloc (.cells #[.int .i64 7, .int .i64 node, .int .i64 k, .int .i64 bit] 38)) w.heap.size 38 (stC ⟨7, node, k, bit⟩) := Blk.new' _ _ _ _ rfl
  have H := Lib.hid (And.intro kA bA)
  have HE := Lib.hid hE
  have HS := Lib.hid hs
  unfold stV
  simp only at *
  clear hs kA bA hE
  go_enter Tryd.func45, Tryd.ntmps45
  go_wp2_with fail
  generalize w.alloc (.cells #[.int .i64 7, .int .i64 node, .int .i64 k, .int .i64 bit] 38) = wA at *
  generalize w.heap.size = gA at *
  have hcA : wA.cell? ⟨gA, 0, none⟩ = some (.int .i64 7) := H.out.2.cell 0
  go_region_held3 (fun w' => w'.cell? ⟨gA, 0, none⟩ = some (.int .i64 7)) (first | assumption | go_keep)
    (first | (go_at_call 58; go_must (refine (words_spec _).mono ?_; rintro e w1 ⟨rfl, hm⟩; have hl : (Instr.lookup 114 (.map (some wA.heap.size)) (.int .i64 7) true).run Tryd.prog w1 = .ok (.tuple #[.string (strB (fullL 7)), .bool true]) w1 := look_word hm (by decide) (by decide) 0; have hc : w1.cell? ⟨gA, 0, none⟩ = some (.int .i64 7) := cell_keep0 hm.2.1.of_drew (H.out.2.cell 0); have hk1 := Lib.hid (hm.2.1.of_drew))))
  have hk2 := H.out.1.trans hk1.out (by simp)
  have hsp := split_k (HE.out.keep hk2) 7 [kCrash, [110]] 2 (by decide) rfl (by decide)
  have HSP := Lib.hid hsp
  have B1 := Lib.hid (And.intro hk2 (H.out.2.keep hk1.out (by simp)))
  clear hk2 hsp hl hc hcA hm hk1 H
  go_wp2_with fail
  refine HSP.out.mono ?_
  rintro e w2 ⟨rfl, hl2, hk2, hsz⟩
  have b2 := B1.out.2.keep hk2 (by simp)
  have c0 : w2.cell? ⟨gA, 0, none⟩ = some (.int .i64 7) := b2.cell 0
  have hst : LSt gA w2.heap.size w1.heap.size ⟨7, node, k, bit⟩ ⟨7, 0, 0, 0⟩ [⟨#[99, 114, 97, 115, 104]⟩, ⟨#[110]⟩] w (w2.alloc (.cells #[.int .i64 7, .int .i64 0, .int .i64 0, .int .i64 0] 38)) :=
    ⟨b2.alloc _, Blk.new' _ _ _ _ rfl, hl2.alloc _, (B1.out.1.trans hk2 (by simp)).alloc _, Nat.le_trans B1.out.1.size hk2.size, B1.out.1.size, Nat.ne_of_lt b2.lt⟩
  have Hst := Lib.hid hst
  clear b2 hst hsz hl2 hk2 HSP B1
  go_upto_region 7 with fail
  generalize w2.alloc (.cells #[.int .i64 7, .int .i64 0, .int .i64 0, .int .i64 0] 38) = w3 at *
  generalize w2.heap.size = gH at *
  generalize w1.heap.size = gL at *
  clear c0
  have l0 : w3.cell? ⟨gL, 0, none⟩ = some (.string ⟨#[99, 114, 97, 115, 104]⟩) := Hst.out.l.cell 0
  refine wp_loop_rounds 3 ?_
  rw [rounds_succ]
  go_wp2_with fail
  clear l0
  have l1 : w3.cell? ⟨gL, 1, none⟩ = some (.string ⟨#[110]⟩) := Hst.out.l.cell 1
  have a1 : w3.cell? ⟨gA, 1, none⟩ = some (.int .i64 node) := Hst.out.a.cell 1
  have h1 : w3.cell? ⟨gH, 1, none⟩ = some (.int .i64 0) := Hst.out.h.cell 1
  have f1 : w3.frozen? ⟨gH, 1, none⟩ = false := Hst.out.h.frozen 1
  rw [rounds_succ]
  go_upto_region 11 with (first | (go_at_call 60; refine (field_n _ _).mono ?_; rintro e w' ⟨rfl, rfl⟩))
  have Hst2 := Lib.hid (Hst.out.setH 1 (.int .i64 node) ⟨7, node, 0, 0⟩ rfl)
  clear l1 a1 h1 f1 Hst
  generalize w3.setCell ⟨gH, 1, none⟩ (.int .i64 node) = w4 at *
  have a1 : w4.cell? ⟨gA, 1, none⟩ = some (.int .i64 node) := Hst2.out.a.cell 1
  have hit := Lib.hid (itoa_spec (HE.out.keep Hst2.out.k) HS.out.node)
  go_wp2_with (first | (go_at_call 60; refine (field_n _ _).mono ?_; rintro e w' ⟨rfl, rfl⟩))
  refine hit.out.mono ?_
  rintro e w5 ⟨rfl, hkw⟩
  have Hst3 := Lib.hid (Hst2.out.keep hkw)
  clear a1 hit hkw Hst2
  have l1 : w5.cell? ⟨gL, 1, none⟩ = some (.string ⟨#[110]⟩) := Hst3.out.l.cell 1
  have f1 : w5.frozen? ⟨gL, 1, none⟩ = false := Hst3.out.l.frozen 1
  go_wp2_with fail
  have Hst := Lib.hid (show LSt gA gH gL _ _ [⟨#[99, 114, 97, 115, 104]⟩, itoaB node] w _ from Hst3.out.setL 1 (itoaB node))
  clear l1 f1 Hst3
  generalize w5.setCell ⟨gL, 1, none⟩ (.string (itoaB node)) = w6 at *
  rw [rounds_succ]
  go_wp2_with fail
  have hj := Lib.hid (fun (w' : World) (kk : Keep [] w6 w') => join_spec (n := 2) (ps := partsL ⟨7, node, k, bit⟩) (Hst.out.l.keep kk (by simp)) rfl (by simp [partsL, wordL, fieldsL, itoaB, strB_data, kCrash]) (by simp [partsL]) (line_len HS.out))
  rcases (show (k = 0 ∧ bit = 0) ∨ (k = 0 ∧ ¬ (0 : Int) = bit) ∨ (¬ (0 : Int) = k) by omega) with ⟨rfl, rfl⟩ | ⟨rfl, hne⟩ | hne
  · go_region_held3 (fun w' => w'.cell? ⟨gA, 0, none⟩ = some (.int .i64 7) ∧ w'.cell? ⟨gA, 1, none⟩ = some (.int .i64 node) ∧ w'.cell? ⟨gA, 2, none⟩ = some (.int .i64 0) ∧ w'.cell? ⟨gA, 3, none⟩ = some (.int .i64 0) ∧ w'.cell? ⟨gH, 0, none⟩ = some (.int .i64 7) ∧ w'.cell? ⟨gH, 1, none⟩ = some (.int .i64 node) ∧ w'.cell? ⟨gH, 2, none⟩ = some (.int .i64 0) ∧ w'.cell? ⟨gH, 3, none⟩ = some (.int .i64 0)) (first | exact ⟨by assumption, by assumption, by assumption, by assumption, by assumption, by assumption, by assumption, by assumption⟩ | exact ⟨Hst.out.a.cell 0, Hst.out.a.cell 1, Hst.out.a.cell 2, Hst.out.a.cell 3, Hst.out.h.cell 0, Hst.out.h.cell 1, Hst.out.h.cell 2, Hst.out.h.cell 3⟩ | go_keep)
      (first | (go_at_call 61; go_must (refine (hj.out _ ((Keep.refl [] _).drewN 1)).mono ?_; rintro e wj ⟨rfl, hkj⟩; have q0 := cell_keep0 hkj.of_drew (Hst.out.a.cell 0); have q1 := cell_keep0 hkj.of_drew (Hst.out.a.cell 1); have q2 := cell_keep0 hkj.of_drew (Hst.out.a.cell 2); have q3 := cell_keep0 hkj.of_drew (Hst.out.a.cell 3); have q4 := cell_keep0 hkj.of_drew (Hst.out.h.cell 0); have q5 := cell_keep0 hkj.of_drew (Hst.out.h.cell 1); have q6 := cell_keep0 hkj.of_drew (Hst.out.h.cell 2); have q7 := cell_keep0 hkj.of_drew (Hst.out.h.cell 3); have Hk := Lib.hid (Hst.out.k.trans hkj.of_drew (by simp)))))
    go_wp2
    go_ret2
    exact ⟨line_end _ _ (by first | (simp [ownL]; done) | (simp [ownL]; omega)), Hid.out ‹_›⟩
  · go_region_held3 (fun w' => w'.cell? ⟨gA, 0, none⟩ = some (.int .i64 7) ∧ w'.cell? ⟨gA, 1, none⟩ = some (.int .i64 node) ∧ w'.cell? ⟨gA, 2, none⟩ = some (.int .i64 0) ∧ w'.cell? ⟨gA, 3, none⟩ = some (.int .i64 bit) ∧ w'.cell? ⟨gH, 0, none⟩ = some (.int .i64 7) ∧ w'.cell? ⟨gH, 1, none⟩ = some (.int .i64 node) ∧ w'.cell? ⟨gH, 2, none⟩ = some (.int .i64 0) ∧ w'.cell? ⟨gH, 3, none⟩ = some (.int .i64 0)) (first | exact ⟨by assumption, by assumption, by assumption, by assumption, by assumption, by assumption, by assumption, by assumption⟩ | exact ⟨Hst.out.a.cell 0, Hst.out.a.cell 1, Hst.out.a.cell 2, Hst.out.a.cell 3, Hst.out.h.cell 0, Hst.out.h.cell 1, Hst.out.h.cell 2, Hst.out.h.cell 3⟩ | go_keep)
      (first | (go_at_call 61; go_must (refine (hj.out _ ((Keep.refl [] _).drewN 1)).mono ?_; rintro e wj ⟨rfl, hkj⟩; have q0 := cell_keep0 hkj.of_drew (Hst.out.a.cell 0); have q1 := cell_keep0 hkj.of_drew (Hst.out.a.cell 1); have q2 := cell_keep0 hkj.of_drew (Hst.out.a.cell 2); have q3 := cell_keep0 hkj.of_drew (Hst.out.a.cell 3); have q4 := cell_keep0 hkj.of_drew (Hst.out.h.cell 0); have q5 := cell_keep0 hkj.of_drew (Hst.out.h.cell 1); have q6 := cell_keep0 hkj.of_drew (Hst.out.h.cell 2); have q7 := cell_keep0 hkj.of_drew (Hst.out.h.cell 3); have Hk := Lib.hid (Hst.out.k.trans hkj.of_drew (by simp)))))
    go_wp2
    go_ret2
    exact ⟨line_end _ _ (by first | (simp [ownL]; done) | (simp [ownL]; omega)), Hid.out ‹_›⟩
  · go_region_held3 (fun w' => w'.cell? ⟨gA, 0, none⟩ = some (.int .i64 7) ∧ w'.cell? ⟨gA, 1, none⟩ = some (.int .i64 node) ∧ w'.cell? ⟨gA, 2, none⟩ = some (.int .i64 k) ∧ w'.cell? ⟨gA, 3, none⟩ = some (.int .i64 bit) ∧ w'.cell? ⟨gH, 0, none⟩ = some (.int .i64 7) ∧ w'.cell? ⟨gH, 1, none⟩ = some (.int .i64 node) ∧ w'.cell? ⟨gH, 2, none⟩ = some (.int .i64 0) ∧ w'.cell? ⟨gH, 3, none⟩ = some (.int .i64 0)) (first | exact ⟨by assumption, by assumption, by assumption, by assumption, by assumption, by assumption, by assumption, by assumption⟩ | exact ⟨Hst.out.a.cell 0, Hst.out.a.cell 1, Hst.out.a.cell 2, Hst.out.a.cell 3, Hst.out.h.cell 0, Hst.out.h.cell 1, Hst.out.h.cell 2, Hst.out.h.cell 3⟩ | go_keep)
      (first | (go_at_call 61; go_must (refine (hj.out _ ((Keep.refl [] _).drewN 1)).mono ?_; rintro e wj ⟨rfl, hkj⟩; have q0 := cell_keep0 hkj.of_drew (Hst.out.a.cell 0); have q1 := cell_keep0 hkj.of_drew (Hst.out.a.cell 1); have q2 := cell_keep0 hkj.of_drew (Hst.out.a.cell 2); have q3 := cell_keep0 hkj.of_drew (Hst.out.a.cell 3); have q4 := cell_keep0 hkj.of_drew (Hst.out.h.cell 0); have q5 := cell_keep0 hkj.of_drew (Hst.out.h.cell 1); have q6 := cell_keep0 hkj.of_drew (Hst.out.h.cell 2); have q7 := cell_keep0 hkj.of_drew (Hst.out.h.cell 3); have Hk := Lib.hid (Hst.out.k.trans hkj.of_drew (by simp)))))
    go_wp2
    go_ret2
    exact ⟨line_end _ _ (by first | (simp [ownL]; done) | (simp [ownL]; omega)), Hid.out ‹_›⟩

theorem line_spec (w : World) (hE : Env w) (s : ST) (hs : s.In) (h1 : 1 ≤ s.kind) (h7 : s.kind ≤ 7) : Calls Tryd.prog 45 #[stV s] w (LinePost s w) := by
  rcases (show s.kind = 1 ∨ s.kind = 2 ∨ s.kind = 3 ∨ s.kind = 4 ∨ s.kind = 5 ∨ s.kind = 6 ∨ s.kind = 7 by omega) with h | h | h | h | h | h | h
  · exact line_1 w hE s hs h
  · exact line_2 w hE s hs h
  · exact line_3 w hE s hs h
  · exact line_4 w hE s hs h
  · exact line_5 w hE s hs h
  · exact line_6 w hE s hs h
  · exact line_7 w hE s hs h

end Go.Proofs.YtndpbkhpllmhmaaDoor
namespace Go.Proofs.YtndpbkhpllmhmaaDoor
set_option linter.unusedSimpArgs false
set_option linter.unnecessarySimpa false
set_option linter.unusedVariables false
open Go.RowKit
/-- v reads as the steps l -/
def StepsAt (w : World) (v : Value) (l : List ST) : Prop :=
  ∃ a c, v = .slice a l.length c ∧ ∀ (i : Nat) (s : ST), l[i]? = some s → ∃ b off, a = some ⟨b, off, none⟩ ∧ b < w.heap.size ∧ ∀ (j : Nat) (u : Value), (stC s)[j]? = some u → w.cell? ⟨b, off + i * 4 + j, none⟩ = some u
theorem StepsAt.keep0 {w w' : World} {v : Value} {l : List ST} (h : StepsAt w v l) (k : Keep [] w w') : StepsAt w' v l := by
  obtain ⟨a, c, rfl, h⟩ := h
  refine ⟨a, c, rfl, fun i s hs => ?_⟩
  obtain ⟨b, off, rfl, hb, hc⟩ := h i s hs
  exact ⟨b, off, rfl, Nat.lt_of_lt_of_le hb k.size, fun j u hu => cell_keep0 k (hc j u hu)⟩
theorem StepsAt.nil (w : World) : StepsAt w (.slice none 0 0) [] := ⟨none, 0, rfl, fun i s h => by cases h⟩
theorem stC_len (s : ST) : (stC s).length = 4 := rfl
theorem StepsAt.of_own {w : World} {B : Nat} {v : Value} {l : List ST} (h : OwnsAt w B 38 4 v l.length (l.flatMap stC)) : StepsAt w v l := by
  obtain ⟨a, c, rfl⟩ := h.shape
  refine ⟨a, c, rfl, fun i s hs => ?_⟩
  have hi : i < l.length := by
    rcases Nat.lt_or_ge i l.length with h1 | h1
    · exact h1
    · rw [List.getElem?_eq_none h1] at hs; cases hs
  obtain ⟨g, off, cap, hv, h1, h2, h3, h4, h5⟩ := h.form (by omega)
  injection hv with e1 e2 e3
  subst e1 e3
  refine ⟨g, off, rfl, h4, fun j u hu => ?_⟩
  have hj : j < 4 := by
    rcases Nat.lt_or_ge j 4 with h9 | h9
    · exact h9
    · rw [List.getElem?_eq_none (by rw [stC_len]; exact h9)] at hu; cases hu
  rw [Nat.add_assoc]
  exact h5 _ u (by rw [flat_at stC_len l i s j hs hj]; exact hu)
/-! ### Gap -/
def isL (s : ST) (node : Int) : Bool := if node = -1 then s.kind == 2 else (s.kind == 1 && s.node == node)
def gapN (node : Int) (most n : Nat) : List ST → Nat
  | [] => most
  | s :: r => if isL s node = true then gapN node (max most 0) 0 r else gapN node (max most (n + 1)) (n + 1) r
set_option maxHeartbeats 800000 in
theorem is_spec (w : World) (s : ST) (node : Int) : Calls Tryd.prog 40 #[stV s, .int .i64 node] w fun e w' => e = .returned (.bool (isL s node)) ∧ Keep [] w w' := by
  obtain ⟨kind, nd, k, bit⟩ := s
  unfold stV isL
  simp only
  by_cases hn : node = -1
  · subst hn
    go_enter Tryd.func40, Tryd.ntmps40
    go_wp2
    go_ret
    exact ⟨by simp, (Keep.refl _ _).alloc _⟩
  · have hn2 : (node == -1) = false := by simpa using hn
    rw [if_neg hn]
    by_cases h1 : kind = 1
    · subst h1
      clear hn
      go_enter Tryd.func40, Tryd.ntmps40
      go_wp2
      go_ret
      exact ⟨by simp, (Keep.refl _ _).alloc _⟩
    · have h2 : (kind == 1) = false := by simpa using h1
      clear hn h1
      go_enter Tryd.func40, Tryd.ntmps40
      go_wp2
      go_ret
      exact ⟨by simp [h2], (Keep.refl _ _).alloc _⟩
theorem drop_at {α : Type} {l : List α} {i : Nat} {s : α} (h : l[i]? = some s) : l.drop i = s :: l.drop (i + 1) := by
  have hi : i < l.length := by
    rcases Nat.lt_or_ge i l.length with h1 | h1
    · exact h1
    · rw [List.getElem?_eq_none h1] at h; cases h
  rw [List.drop_eq_getElem_cons hi]
  rw [List.getElem?_eq_getElem hi] at h
  injection h with h
  rw [h]
set_option maxHeartbeats 3200000 in
set_option maxRecDepth 100000 in
theorem gap_spec {w : World} {v : Value} {l : List ST} (h : StepsAt w v l) (node : Int) (hl : l.length ≤ 1000000) : Calls Tryd.prog 21 #[v, .int .i64 node] w fun e w' => e = .returned (.int .i64 (gapN node 0 0 l)) ∧ Keep [] w w' := by
  have H := Lib.hid h
  obtain ⟨a, c, rfl, _⟩ := h
  go_enter Tryd.func21, Tryd.ntmps21
  go_wp2_with fail
  go_loopw [5, 6, 8, 11] (fun v5 v6 _ v11 wr => ∃ (i most n : Nat), i ≤ l.length ∧ v11 = .int .i64 i ∧ v5 = .int .i64 most ∧ v6 = .int .i64 n ∧ most ≤ i ∧ n ≤ i ∧ gapN node most n (l.drop i) = gapN node 0 0 l ∧ Keep [] w wr) (fun _ _ _ v _ => l.length - (intOf v).toNat)
  case atStart => exact ⟨0, 0, 0, by omega, rfl, rfl, rfl, by omega, by omega, rfl, Keep.refl _ _⟩
  case round =>
    obtain ⟨i, most, n, hi, rfl, rfl, rfl, hm, hn, hg, hk⟩ := hrel
    by_cases hlt : i < l.length
    · obtain ⟨s, hs⟩ : ∃ s, l[i]? = some s := ⟨_, List.getElem?_eq_getElem hlt⟩
      obtain ⟨a', c', hva, hcells⟩ := H.out.keep0 hk
      cases hva
      obtain ⟨b, off, rfl, hb, hc⟩ := hcells i s hs
      have c0 := hc 0 _ rfl
      have c1 := hc 1 _ rfl
      have c2 := hc 2 _ rfl
      have c3 := hc 3 _ rfl
      rw [Nat.add_zero] at c0
      rw [drop_at hs] at hg
      have hltI : (i : Int) < (l.length : Int) := by omega
      have hlI : (l.length : Int) ≤ 1000000 := by omega
      have hiI : (i : Int) ≤ 1000000 := by omega
      have hnI : (n : Int) ≤ 1000000 := by omega
      have hmI : (most : Int) ≤ 1000000 := by omega
      have G := Lib.hid (And.intro hg (And.intro hm (And.intro hn hi)))
      have Hk := Lib.hid hk
      clear hg hm hn hi hk hcells hs hc
      by_cases hb : isL s node = true
      · go_wp2_with fail
        refine (is_spec _ s node).mono ?_
        rintro e w2 ⟨rfl, hk2⟩
        have Hk2 := Lib.hid ((Hk.out.trans ((Keep.refl [] wr).alloc _) (by simp)).trans hk2 (by simp))
        rw [hb]
        clear c0 c1 c2 c3 hk2
        go_wp2_with fail
        go_roundw
        case rel =>
          obtain ⟨g, hm, hn, _⟩ := G.out
          rw [gapN, if_pos hb] at g
          exact ⟨i + 1, max most 0, 0, by omega, by go_num, by go_num, rfl, by omega, by omega, g, Hk2.out⟩
        case measure => simp [intOf]; omega
      · have hb2 : isL s node = false := by simpa using hb
        go_wp2_with fail
        refine (is_spec _ s node).mono ?_
        rintro e w2 ⟨rfl, hk2⟩
        have Hk2 := Lib.hid ((Hk.out.trans ((Keep.refl [] wr).alloc _) (by simp)).trans hk2 (by simp))
        rw [hb2]
        clear c0 c1 c2 c3 hk2
        go_wp2_with fail
        go_roundw
        case rel =>
          obtain ⟨g, hm, hn, _⟩ := G.out
          rw [gapN, if_neg hb] at g
          exact ⟨i + 1, max most (n + 1), n + 1, by omega, by go_num, by go_num, by go_num, by omega, by omega, g, Hk2.out⟩
        case measure => simp [intOf]; omega
    · obtain rfl : i = l.length := by omega
      have G := Lib.hid hg
      have Hk := Lib.hid hk
      clear hg hk
      go_wp2
      go_ret
      have := G.out
      rw [List.drop_length] at this
      exact ⟨by rw [← this]; rfl, Hk.out⟩
/-! ### Print -/
def printL (l : List ST) : BS := if l.all goodL = true then l.flatMap (fun s => lineL s ++ [10]) else []
def printed (l : List ST) : BS := l.flatMap fun s => lineL s ++ [10]
theorem IsBuilder.keep0 {B b : Nat} {bs : List Value} {w w' : World} (h : Lib.IsBuilder 87 5 B b bs w) (k : Keep [] w w') : Lib.IsBuilder 87 5 B b bs w' := by
  have key : ∀ p, Lib.BuilderAt 87 5 B b p bs w → Lib.BuilderAt 87 5 B b p bs w' := by
    rintro p ⟨hB, v, hb, ho, hn⟩
    have hlt : b < w.heap.size := by
      rcases Nat.lt_or_ge b w.heap.size with h1 | h1
      · exact h1
      · rw [Array.getElem?_eq_none h1] at hb; cases hb
    exact ⟨hB, v, (k.block b hlt (by simp)).trans hb, ownsRow_keep ho k (by simp), hn⟩
  rcases h with h | h
  · exact Or.inl (key _ h)
  · exact Or.inr (key _ h)
theorem lineL_len {s : ST} (h : s.In) : (lineL s).length ≤ 100000 := line_len h
theorem printed_len {l : List ST} (h : ∀ s ∈ l, s.In) : (printed l).length ≤ l.length * 100001 := by
  induction l with
  | nil => simp [printed]
  | cons s l ih =>
    have h1 := ih (fun x hx => h x (by simp [hx]))
    have h2 := lineL_len (h s (by simp))
    simp only [printed, List.flatMap_cons, List.length_append, List.length_cons, List.length_nil] at h1 ⊢
    omega
theorem keep_on {w w2 w3 : World} (k : Keep [] w w2) (hb : Below w.heap.size w2 w3) : Keep [] w w3 :=
  ⟨hb.os.trans k.os, hb.tape.trans k.tape, hb.output.trans k.output, Nat.le_trans k.size hb.size, fun x hx _ => (hb.block x hx).trans (k.block x hx (by simp))⟩
theorem strB_snoc (a : BS) : strB a ++ (⟨#[10]⟩ : ByteArray) = strB (a ++ [10]) := by
  apply ByteArray.ext
  rw [ByteArray.data_append]
  simp [strB]
theorem byteCells_app (a b : BS) : Lib.byteCells (a ++ b) = Lib.byteCells a ++ Lib.byteCells b := by simp [Lib.byteCells]
theorem strCells_strB (a : BS) : Lib.strCells (strB a) = Lib.byteCells a := by simp [Lib.strCells, Lib.byteCells, strB]
set_option maxHeartbeats 3200000 in
set_option maxRecDepth 100000 in
theorem print_spec {w : World} (hE : Env w) {v : Value} {l : List ST} (h : StepsAt w v l) (hin : ∀ s ∈ l, s.In) (hl : l.length ≤ 1000000) : Calls Tryd.prog 25 #[v] w fun e w' => e = .returned (.string (strB (printL l))) ∧ Keep [] w w' := by
  have H := Lib.hid h
  have HE := Lib.hid hE
  have HI := Lib.hid hin
  obtain ⟨a, c, rfl, _⟩ := h
  clear hE hin
  go_enter Tryd.func25, Tryd.ntmps25
  go_wp2_with fail
  have hb0 := Lib.fresh_isBuilder 87 5 w
  go_loopw [5, 6, 7, 10] (fun _ _ _ v10 wr => ∃ i : Nat, i ≤ l.length ∧ v10 = .int .i64 i ∧ (l.take i).all goodL = true ∧ Lib.IsBuilder 87 5 w.heap.size w.heap.size (Lib.byteCells (printed (l.take i))) wr ∧ Keep [] w wr) (fun _ _ _ v _ => l.length - (intOf v).toNat)
  case atStart => exact ⟨0, by omega, rfl, rfl, hb0, (Keep.refl _ _).alloc _⟩
  case round =>
    clear hb0
    obtain ⟨i, hi, rfl, hg, hb, hk⟩ := hrel
    by_cases hlt : i < l.length
    · obtain ⟨s, hs⟩ : ∃ s, l[i]? = some s := ⟨_, List.getElem?_eq_getElem hlt⟩
      obtain ⟨a', c', hva, hcells⟩ := H.out.keep0 hk
      cases hva
      obtain ⟨b, off, rfl, hbl, hc⟩ := hcells i s hs
      have c0 := hc 0 _ rfl
      have c1 := hc 1 _ rfl
      have c2 := hc 2 _ rfl
      have c3 := hc 3 _ rfl
      rw [Nat.add_zero] at c0
      have hltI : (i : Int) < (l.length : Int) := by omega
      have hlI : (l.length : Int) ≤ 1000000 := by omega
      have hiI : (i : Int) ≤ 1000000 := by omega
      have hsI := HI.out s (List.mem_of_getElem? hs)
      have ht : l.take (i + 1) = l.take i ++ [s] := by rw [List.take_add_one, hs]; rfl
      have G := Lib.hid (And.intro hg (And.intro hb (And.intro hk (And.intro hs (And.intro hsI ht)))))
      clear hg hb hk hcells hs hc hsI ht
      by_cases hkd : 1 ≤ s.kind ∧ s.kind ≤ 7
      · go_wp2_with fail
        have kA := Lib.hid (show Keep [] wr (wr.alloc (.cells #[.int .i64 s.kind, .int .i64 s.node, .int .i64 s.k, .int .i64 s.bit] 38)) from (Keep.refl _ _).alloc _)
        refine (line_spec _ (HE.out.keep (G.out.2.2.1.trans kA.out (by simp))) s G.out.2.2.2.2.1 hkd.1 hkd.2).mono ?_
        rintro e w2 ⟨rfl, hk2⟩
        have Hk2 := Lib.hid (kA.out.trans hk2 (by simp))
        clear c0 c1 c2 c3 hk2 kA
        by_cases ho : ownL s = s
        · rw [decide_eq_true ho]
          have Ho := Lib.hid ho
          have Hkd := Lib.hid hkd
          have Hi := Lib.hid hi
          have hsz : (strB (lineL s)).size ≤ 100000 := by rw [strB_size]; exact lineL_len G.out.2.2.2.2.1
          clear ho hkd hi
          go_wp2_with fail
          rw [strB_snoc]
          refine (Tryd.Builder_WriteString w.heap.size w.heap.size (Lib.byteCells (printed (l.take i))) (strB (lineL s ++ [10])) _ (IsBuilder.keep0 G.out.2.1 Hk2.out) ?_ ?_).mono ?_
          · rw [Lib.byteCells_length, strB_size, List.length_append]
            have h1 := printed_len (l := l.take i) (fun x hx => HI.out x (List.mem_of_mem_take hx))
            have h2 := lineL_len G.out.2.2.2.2.1
            rw [List.length_take] at h1
            simp only [List.length_cons, List.length_nil]
            omega
          · exact Nat.le_trans G.out.2.2.1.size Hk2.out.size
          rintro e w3 ⟨rfl, hb3, hbl3⟩
          have hb4 : Lib.IsBuilder 87 5 w.heap.size w.heap.size (Lib.byteCells (printed (l.take (i + 1)))) w3 := by
            rw [strCells_strB, ← byteCells_app] at hb3
            have : printed (l.take (i + 1)) = printed (l.take i) ++ (lineL s ++ [10]) := by rw [G.out.2.2.2.2.2]; simp [printed]
            rw [this]
            exact Or.inr hb3
          have Hb4 := Lib.hid hb4
          have Hk4 := Lib.hid (keep_on (G.out.2.2.1.trans Hk2.out (by simp)) hbl3)
          clear hb3 hbl3 hb4
          go_wp2
          go_roundw
          case rel => exact ⟨i + 1, by have := Hi.out; omega, by go_num, by rw [G.out.2.2.2.2.2, List.all_append, G.out.1]; simp [goodL, Ho.out, Hkd.out], Hb4.out, Hk4.out⟩
          case measure => simp [intOf]; omega
        · rw [decide_eq_false ho]
          have hno : printL l = [] := by
            unfold printL
            rw [if_neg]
            intro hall
            have := List.all_eq_true.1 hall s (List.mem_of_getElem? G.out.2.2.2.1)
            exact ho (goodL_iff.1 this).2
          have Hno := Lib.hid hno
          clear ho hkd hno
          go_wp2
          go_ret
          exact ⟨by rw [Hno.out]; rfl, G.out.2.2.1.trans Hk2.out (by simp)⟩
      · have hno : printL l = [] := by
          unfold printL
          rw [if_neg]
          intro hall
          have := List.all_eq_true.1 hall s (List.mem_of_getElem? G.out.2.2.2.1)
          exact hkd (goodL_iff.1 this).1
        have Hno := Lib.hid hno
        have Hkd := Lib.hid (show s.kind < 1 ∨ 7 < s.kind by omega)
        clear hno hkd
        go_wp2_with fail
        have kA := Lib.hid (show Keep [] wr (wr.alloc (.cells #[.int .i64 s.kind, .int .i64 s.node, .int .i64 s.k, .int .i64 s.bit] 38)) from (Keep.refl _ _).alloc _)
        refine (line_none _ s G.out.2.2.2.2.1 Hkd.out).mono ?_
        rintro e w2 ⟨rfl, hk2⟩
        have Hk2 := Lib.hid (kA.out.trans hk2 (by simp))
        clear c0 c1 c2 c3 hk2 kA
        go_wp2
        go_ret
        exact ⟨by rw [Hno.out]; rfl, G.out.2.2.1.trans Hk2.out (by simp)⟩
    · obtain rfl : i = l.length := by omega
      rw [List.take_length] at hg hb
      have G := Lib.hid (And.intro hg hk)
      have hst := Lib.hid (Tryd.Builder_String_any w.heap.size w.heap.size (printed l) wr hb hk.size)
      clear hg hb hk
      go_wp2_with fail
      refine hst.out.mono ?_
      rintro e w3 ⟨rfl, hb3⟩
      have Hk3 := Lib.hid (keep_on G.out.2 hb3)
      clear hst hb3
      go_wp2
      go_ret
      exact ⟨by unfold printL; rw [if_pos G.out.1]; rfl, Hk3.out⟩
end Go.Proofs.YtndpbkhpllmhmaaDoor
namespace Go.Proofs.YtndpbkhpllmhmaaDoor
set_option linter.unusedSimpArgs false
set_option linter.unnecessarySimpa false
set_option linter.unusedVariables false
open Go.RowKit
/-! ### strconv.Atoi -/
def AtoiPost (bs : BS) (w : World) (e : Ending) (w' : World) : Prop := ∃ (n : Int) (u : Value), e = .returned (.tuple #[.int .i64 n, u]) ∧ Keep [] w w' ∧ In64 n ∧ ∀ m, In64 m → bs = Lib.itoa m → n = m
theorem atoi_spec {w : World} (hE : Env1 w) (bs : BS) (hl : bs.length ≤ 1000000) : Calls Tryd.prog 64 #[.string (strB bs)] w (AtoiPost bs w) := by
  have hd : (strB bs).data.toList = bs := strB_data bs
  have hsz : (strB bs).size ≤ 1000000 := by rw [strB_size]; exact hl
  match h : Lib.atoiAll bs with
  | Lib.NumEnd.ok v =>
    refine (Tryd.strconv_Atoi_ok (strB bs) (by omega) v (by rw [hd]; exact h) w).mono ?_
    rintro e w' ⟨he, hw⟩
    refine ⟨v, _, he, ?_, Lib.atoiAll_bounds h, fun m hm e => ?_⟩
    · rcases hw with rfl | ⟨t, rfl⟩
      · exact Keep.refl _ _
      · exact keep_of_below (Lib.bytesWorld_below _ _ _)
    · rw [e, atoi_itoa hm] at h
      injection h with h
      exact h.symm
  | Lib.NumEnd.syntax =>
    obtain ⟨tp, p, hv⟩ := hE.syn
    refine (Tryd.strconv_Atoi_syntax_var (strB bs) (by omega) (by rw [hd]; exact h) tp p w hv).mono ?_
    rintro e w' ⟨N, he, _, _, hb⟩
    refine ⟨0, _, he, keep_of_below hb, ⟨by decide, by decide⟩, fun m hm e => ?_⟩
    rw [e, atoi_itoa hm] at h
    cases h
  | Lib.NumEnd.range =>
    obtain ⟨tp, p, hv⟩ := hE.rng
    refine (Tryd.strconv_Atoi_range_var (strB bs) (by omega) (by rw [hd]; exact h) tp p w hv).mono ?_
    rintro e w' ⟨N, he, _, _, hb⟩
    refine ⟨_, _, he, keep_of_below hb, Lib.atoiSat_bounds _, fun m hm e => ?_⟩
    rw [e, atoi_itoa hm] at h
    cases h
/-! ### the words of a kind -/
def restL (k : Int) : List BS := if k = 1 then [[110]] else if k = 2 then [] else if k = 3 then [[107]] else if k = 4 then [[107]] else if k = 5 then [[107]] else if k = 6 then [[107], [98]] else if k = 7 then [[110]] else []
theorem pieces_full {k : Int} (h1 : 1 ≤ k) (h7 : k ≤ 7) : pieces 32 (fullL k) = wordL k :: restL k := by
  rcases (show k = 1 ∨ k = 2 ∨ k = 3 ∨ k = 4 ∨ k = 5 ∨ k = 6 ∨ k = 7 by omega) with rfl | rfl | rfl | rfl | rfl | rfl | rfl <;> decide
def hitK (ps : List BS) (k : Int) : Prop := ps.head? = some (wordL k) ∧ ps.length = (restL k).length + 1
theorem parts_len {s : ST} (h1 : 1 ≤ s.kind) (h7 : s.kind ≤ 7) : (fieldsL s).length = (restL s.kind).length := by
  obtain ⟨kind, a, b, c⟩ := s
  simp only at h1 h7
  rcases (show kind = 1 ∨ kind = 2 ∨ kind = 3 ∨ kind = 4 ∨ kind = 5 ∨ kind = 6 ∨ kind = 7 by omega) with rfl | rfl | rfl | rfl | rfl | rfl | rfl <;> simp [fieldsL, restL]
theorem wordL_inj {a b : Int} (ha : 1 ≤ a ∧ a ≤ 7) (hb : 1 ≤ b ∧ b ≤ 7) (h : wordL a = wordL b) : a = b := by
  rcases (show a = 1 ∨ a = 2 ∨ a = 3 ∨ a = 4 ∨ a = 5 ∨ a = 6 ∨ a = 7 by omega) with rfl | rfl | rfl | rfl | rfl | rfl | rfl <;>
  rcases (show b = 1 ∨ b = 2 ∨ b = 3 ∨ b = 4 ∨ b = 5 ∨ b = 6 ∨ b = 7 by omega) with rfl | rfl | rfl | rfl | rfl | rfl | rfl <;> first | rfl | (exact absurd h (by decide))
/-- where no kind hits there is no step -/
theorem none_of_miss {bs : BS} (h : ∀ k : Int, 1 ≤ k → k ≤ 7 → ¬ hitK (pieces 32 bs) k) : stepC bs = none := by
  cases hc : stepC bs with
  | none => rfl
  | some s =>
    exfalso
    obtain ⟨hg, hi, rfl⟩ := stepC_iff.1 hc
    obtain ⟨⟨h1, h7⟩, _⟩ := goodL_iff.1 hg
    refine h s.kind h1 h7 ?_
    rw [pieces_line]
    exact ⟨rfl, by unfold partsL; rw [List.length_cons, List.length_map, parts_len h1 h7]⟩
/-- what is read back tells -/
theorem step_back {bs : BS} {x : ST} (hg : goodL x = true) (hi : x.In) (hh : hitK (pieces 32 bs) x.kind) (hf : ∀ (j : Nat) (p : BS) (n : Int), (pieces 32 bs)[j + 1]? = some p → (fieldsL x)[j]? = some n → ∀ m, In64 m → p = Lib.itoa m → n = m) :
    (lineL x = bs → stepC bs = some x) ∧ (lineL x ≠ bs → stepC bs = none) := by
  refine ⟨fun e => stepC_iff.2 ⟨hg, hi, e⟩, fun hne => ?_⟩
  cases hc : stepC bs with
  | none => rfl
  | some t =>
    exfalso
    obtain ⟨hgt, hit, rfl⟩ := stepC_iff.1 hc
    rw [pieces_line] at hh hf
    obtain ⟨⟨h1, h7⟩, ho⟩ := goodL_iff.1 hgt
    obtain ⟨⟨g1, g7⟩, go⟩ := goodL_iff.1 hg
    have hk : t.kind = x.kind := wordL_inj ⟨h1, h7⟩ ⟨g1, g7⟩ (by have := hh.1; unfold partsL at this; simpa using this)
    refine hne (congrArg lineL ?_)
    have hff : fieldsL x = fieldsL t := by
      apply List.ext_getElem?
      intro j
      have hl : (fieldsL x).length = (fieldsL t).length := by rw [parts_len g1 g7, parts_len h1 h7, hk]
      rcases Nat.lt_or_ge j (fieldsL x).length with hj | hj
      · have e1 := List.getElem?_eq_getElem hj
        have e2 := List.getElem?_eq_getElem (show j < (fieldsL t).length by omega)
        have e3 : (partsL t)[j + 1]? = some (Lib.itoa (fieldsL t)[j]) := by
          unfold partsL
          rw [List.getElem?_cons_succ, List.getElem?_map, e2]
          rfl
        have hm : In64 (fieldsL t)[j] := by
          have hmem := List.getElem_mem (show j < (fieldsL t).length by omega)
          have : ∀ n ∈ fieldsL t, In64 n := by
            intro n hn
            unfold fieldsL at hn
            have := hit.node
            have := hit.k
            have := hit.bit
            repeat' split at hn
            all_goals simp at hn
            · rw [hn]; assumption
            · rw [hn]; assumption
            · rcases hn with hn | hn <;> (rw [hn]; assumption)
          exact this _ hmem
        rw [e1, e2, hf j _ _ e3 e1 _ hm rfl]
      · rw [List.getElem?_eq_none hj, List.getElem?_eq_none (by omega)]
    obtain ⟨k1, a1, b1, c1⟩ := x
    obtain ⟨k2, a2, b2, c2⟩ := t
    simp only at hk h1 h7
    subst hk
    rcases (show k2 = 1 ∨ k2 = 2 ∨ k2 = 3 ∨ k2 = 4 ∨ k2 = 5 ∨ k2 = 6 ∨ k2 = 7 by omega) with rfl | rfl | rfl | rfl | rfl | rfl | rfl
    all_goals
      simp [ownL] at ho go
      simp [fieldsL] at hff
      simp
      omega
end Go.Proofs.YtndpbkhpllmhmaaDoor
