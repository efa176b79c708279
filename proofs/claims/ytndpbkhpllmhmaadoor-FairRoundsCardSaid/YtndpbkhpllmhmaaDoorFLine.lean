/- fair: a step's line. -/
import Derived.Test.YtndpbkhpllmhmaaDoorRows
import Derived.WalkKit
import Derived.WalkSpells
import Derived.WalkLawsBesides
import Derived.RegionTactic
import Derived.ChangeAlike
import Derived.BigQuiet
import Derived.Deep.QuietTactic
import Derived.StillTailTactics
import Derived.IntWalk
import Derived.Handy
import Derived.Lib.Hide
import Derived.Deep.AppendLies
import Derived.Deep.RegionWith
import Derived.Test.YtndpbkhpllmhmaaDoorBase
import Derived.Test.YtndpbkhpllmhmaaDoorTail
import Derived.Test.YtndpbkhpllmhmaaDoorArgs
import Derived.Test.YtndpbkhpllmhmaaDoorAppend
import Derived.Test.YtndpbkhpllmhmaaDoorOffs
import Derived.Test.YtndpbkhpllmhmaaDoorStructs
import Derived.Test.YtndpbkhpllmhmaaDoorShelf
import Derived.Carry
import Derived.Deep.RegionHeld3
import Derived.BigRegion
import Derived.Maps.OwnSet
import Derived.Maps.Views
import Derived.Maps.StringElems
import Derived.Test.YtndpbkhpllmhmaaDoorMaps2
import Derived.Test.YtndpbkhpllmhmaaDoorFWords
import Derived.Test.YtndpbkhpllmhmaaDoorFEnv
import Derived.Test.YtndpbkhpllmhmaaDoorFPlain
namespace Go.Proofs.YtndpbkhpllmhmaaDoor
open Go.RowKit
theorem field_n (w : World) (p : Nat) : Calls Tryd.prog 60 #[.pointer (some ⟨p, 0, none⟩), .string ⟨#[110]⟩] w fun e w' => e = .returned (.pointer (some ⟨p, 1, none⟩)) ∧ w = w' := by
  go_enter Tryd.func60, Tryd.ntmps60
  go_wp2
  go_ret
  exact ⟨rfl, rfl⟩
theorem field_k (w : World) (p : Nat) : Calls Tryd.prog 60 #[.pointer (some ⟨p, 0, none⟩), .string ⟨#[107]⟩] w fun e w' => e = .returned (.pointer (some ⟨p, 2, none⟩)) ∧ w = w' := by
  go_enter Tryd.func60, Tryd.ntmps60
  go_wp2
  go_ret
  exact ⟨rfl, rfl⟩
theorem field_b (w : World) (p : Nat) : Calls Tryd.prog 60 #[.pointer (some ⟨p, 0, none⟩), .string ⟨#[98]⟩] w fun e w' => e = .returned (.pointer (some ⟨p, 3, none⟩)) ∧ w = w' := by
  go_enter Tryd.func60, Tryd.ntmps60
  go_wp2
  go_ret
  exact ⟨rfl, rfl⟩
def fullL (k : Int) : BS := if k = 1 then [119, 111, 114, 107, 32, 110] else if k = 2 then [116, 105, 99, 107] else if k = 3 then [100, 101, 108, 105, 118, 101, 114, 32, 107] else if k = 4 then [100, 114, 111, 112, 32, 107] else if k = 5 then [100, 117, 112, 32, 107] else if k = 6 then [102, 108, 105, 112, 32, 107, 32, 98] else if k = 7 then [99, 114, 97, 115, 104, 32, 110] else []
theorem zero9 (w : World) : (zeroValue 9).run Tryd.prog w = .ok (.string ⟨#[]⟩) w := Tryd.zeroValue9 w
theorem look_word {w w1 : World} {b : Nat} (h : MapMade w b w1 7 wordsD) {k : Int} (h1 : 1 ≤ k) (h7 : k ≤ 7) (n : Nat) :
    (Instr.lookup 114 (.map (some b)) (.int .i64 k) true).run Tryd.prog (w1.drewN n) = .ok (.tuple #[.string (strB (fullL k)), .bool true]) (w1.drewN n) := by
  have hown : (w1.drewN n).ownsMap Tryd.prog 3 (plainElem Tryd.prog 9) b 7 wordsD := h.1
  have hk : k = 1 ∨ k = 2 ∨ k = 3 ∨ k = 4 ∨ k = 5 ∨ k = 6 ∨ k = 7 := by omega
  have hwf : (Lit.int .i64 k).wf = true := by rcases hk with rfl | rfl | rfl | rfl | rfl | rfl | rfl <;> decide
  obtain ⟨v, ps, hrun, hv⟩ := hown.look_ok law3 Tryd.underlying114 (zero9 _) (plainElem_string Tryd.underlying9 (by unfold maxLen; decide)) (Maps.keyOf_int_mk Tryd.underlying3 hwf)
  obtain ⟨s, rfl, hs, _⟩ := plainElem_string_inv Tryd.underlying9 hv
  have hd : Maps.has wordsD (.int .i64 k) = true ∧ ∀ z, wordsD.atKey (.int .i64 k) z = .lit (.string (fullL k)) := by
    rcases hk with rfl | rfl | rfl | rfl | rfl | rfl | rfl <;> exact ⟨by decide, fun _ => rfl⟩
  rw [hd.1] at hrun
  have hs' := congrArg Prod.fst hs
  simp only at hs'
  rw [hd.2] at hs'
  simp only [DataW.lit.injEq, Lit.string.injEq] at hs'
  have e : strB (fullL k) = s := by rw [hs', strB_of]
  rw [e]
  exact hrun
theorem look_none {w w1 : World} {b : Nat} (h : MapMade w b w1 7 wordsD) {k : Int} (hk : k < 1 ∨ 7 < k) (hwf : (Lit.int .i64 k).wf = true) (n : Nat) :
    ∃ v, (Instr.lookup 114 (.map (some b)) (.int .i64 k) true).run Tryd.prog (w1.drewN n) = .ok (.tuple #[v, .bool false]) (w1.drewN n) := by
  have hown : (w1.drewN n).ownsMap Tryd.prog 3 (plainElem Tryd.prog 9) b 7 wordsD := h.1
  obtain ⟨v, ps, hrun, hv⟩ := hown.look_ok law3 Tryd.underlying114 (zero9 _) (plainElem_string Tryd.underlying9 (by unfold maxLen; decide)) (Maps.keyOf_int_mk Tryd.underlying3 hwf)
  have hd : Maps.has wordsD (.int .i64 k) = false := by
    have e : ∀ j : Int, 1 ≤ j → j ≤ 7 → Lit.sameKey (.int .i64 j) (.int .i64 k) = false := fun j h1 h2 => Maps.sameKey_ne (by intro e; injection e with _ e; omega)
    rw [show wordsD = .map _ from rfl, Maps.has_eq]
    simp only [List.any_cons, List.any_nil, e 1 (by decide) (by decide), e 2 (by decide) (by decide), e 3 (by decide) (by decide), e 4 (by decide) (by decide), e 5 (by decide) (by decide), e 6 (by decide) (by decide), e 7 (by decide) (by decide), Bool.or_false]
  rw [hd] at hrun
  exact ⟨v, hrun⟩
def stV (s : ST) : Value := .agg #[.int .i64 s.kind, .int .i64 s.node, .int .i64 s.k, .int .i64 s.bit]
def LinePost (s : ST) (w : World) (e : Ending) (w' : World) : Prop := e = .returned (.tuple #[.string (strB (lineL s)), .bool (decide (ownL s = s))]) ∧ Keep [] w w'
set_option maxRecDepth 100000 in
set_option maxHeartbeats 1600000 in
theorem line_none (w : World) (s : ST) (hs : s.In) (hk : s.kind < 1 ∨ 7 < s.kind) : Calls Tryd.prog 45 #[stV s] w fun e w' => e = .returned (.tuple #[.string ⟨#[]⟩, .bool false]) ∧ Keep [] w w' := by
  obtain ⟨kind, node, k, bit⟩ := s
  have hwf : (Lit.int .i64 kind).wf = true := by have := hs.kind; unfold In64 at this; simp [Lit.wf]; exact this
  have Hwf := Lib.hid (And.intro hk hwf)
  have kA : Keep [] w (w.alloc (.cells #[.int .i64 kind, .int .i64 node, .int .i64 k, .int .i64 bit] 38)) := (Keep.refl _ _).alloc _
  have bA : Blk (w.alloc (.cells #[.int .i64 kind, .int .i64 node, .int .i64 k, .int .i64 bit] 38)) w.heap.size 38 [.int .i64 kind, .int .i64 node, .int .i64 k, .int .i64 bit] := Blk.new' _ _ _ _ rfl
  have H := Lib.hid (And.intro kA bA)
  unfold stV
  simp only at *
  clear hk hs hwf kA bA
  go_enter Tryd.func45, Tryd.ntmps45
  go_wp2_with fail
  generalize w.alloc (.cells #[.int .i64 kind, .int .i64 node, .int .i64 k, .int .i64 bit] 38) = wA at *
  generalize w.heap.size = gA at *
  have hcA : wA.cell? ⟨gA, 0, none⟩ = some (.int .i64 kind) := H.out.2.cell 0
  go_region_held3 (fun w' => w'.cell? ⟨gA, 0, none⟩ = some (.int .i64 kind)) (first | assumption | go_keep)
    (first | (go_at_call 58; go_must (refine (words_spec _).mono ?_; rintro e w1 ⟨rfl, hm⟩; obtain ⟨v, hl⟩ := look_none hm Hwf.out.1 Hwf.out.2 0; have hl : (Instr.lookup 114 (.map (some wA.heap.size)) (.int .i64 kind) true).run Tryd.prog w1 = .ok (.tuple #[v, .bool false]) w1 := hl; have hc : w1.cell? ⟨gA, 0, none⟩ = some (.int .i64 kind) := cell_keep0 hm.2.1.of_drew (H.out.2.cell 0); have hk1 := Lib.hid (H.out.1.trans hm.2.1.of_drew (by simp)))))
  go_wp2
  go_ret2
  exact ⟨rfl, Hid.out ‹_›⟩
/-- strings.Split at a blank -/
def SplitPost (ps : List BS) (w : World) (e : Ending) (w' : World) : Prop := e = .returned (.slice (some ⟨w.heap.size, 0, none⟩) ps.length ps.length) ∧ Blk w' w.heap.size 9 (ps.map fun p => .string (strB p)) ∧ Keep [] w w' ∧ w'.heap.size = w.heap.size + 1
theorem split_spec {w : World} (hE : Env w) (s : ByteArray) (hs : s.size < 4294967281) : Calls Tryd.prog 59 #[.string s, .string ⟨#[32]⟩] w (SplitPost (pieces 32 s.data.toList) w) := by
  obtain ⟨m, hm⟩ := hE.max
  refine (Tryd.strings_Split s ⟨#[32]⟩ m w hs hm (Nat.le_refl 1)).mono ?_
  rintro e w' ⟨he, rfl⟩
  rw [count_pieces] at he
  rw [splitB_pieces, List.map_map]
  exact ⟨he, Blk.new' _ _ _ _ rfl, (Keep.refl _ _).alloc _, by simp⟩
theorem split_k {w : World} (hE : Env w) (k : Int) (ps : List BS) (n : Nat) (hp : pieces 32 (fullL k) = ps) (hn : ps.length = n) (hl : (fullL k).length < 100) :
    Calls Tryd.prog 59 #[.string (strB (fullL k)), .string ⟨#[32]⟩] w fun e w' => e = .returned (.slice (some ⟨w.heap.size, 0, none⟩) n n) ∧ Blk w' w.heap.size 9 ((ps.map strB).map .string) ∧ Keep [] w w' ∧ w'.heap.size = w.heap.size + 1 := by
  refine (split_spec hE (strB (fullL k)) (by rw [strB_size]; omega)).mono ?_
  rintro e w' ⟨h1, h2, h3⟩
  rw [strB_data, hp] at h1 h2
  rw [hn] at h1
  rw [List.map_map]
  exact ⟨h1, h2, h3⟩
def itoaB (n : Int) : ByteArray := strB (Lib.itoa n)
theorem itoa_spec {w : World} (hE : Env w) {n : Int} (hn : In64 n) : Calls Tryd.prog 55 #[.int .i64 n] w fun e w' => e = .returned (.string (itoaB n)) ∧ Keep [] w w' :=
  (Tryd.strconv_Itoa n hn.1 hn.2 w hE.tab).mono fun _ _ ⟨he, k, os, hw⟩ => ⟨he, by rw [hw]; exact keep_grow⟩
def stC (s : ST) : List Value := [.int .i64 s.kind, .int .i64 s.node, .int .i64 s.k, .int .i64 s.bit]
/-- while a line is made: the step, what of it is the kind's own, the words -/
structure LSt (gA gH gL : Nat) (s h : ST) (ls : List ByteArray) (w0 w : World) : Prop where
  a : Blk w gA 38 (stC s)
  h : Blk w gH 38 (stC h)
  l : Blk w gL 9 (ls.map .string)
  k : Keep [] w0 w
  n0 : w0.heap.size ≤ gH
  n1 : w0.heap.size ≤ gL
  ne : gA ≠ gH
section
variable {gA gH gL : Nat} {s h : ST} {ls : List ByteArray} {w0 w w' : World}
theorem LSt.keep (H : LSt gA gH gL s h ls w0 w) (k : Keep [] w w') : LSt gA gH gL s h ls w0 w' := ⟨H.a.keep k (by simp), H.h.keep k (by simp), H.l.keep k (by simp), H.k.trans k (by simp), H.n0, H.n1, H.ne⟩
theorem LSt.setH (H : LSt gA gH gL s h ls w0 w) (i : Nat) (v : Value) (h' : ST) (e : stC h' = (stC h).set i v) : LSt gA gH gL s h' ls w0 (w.setCell ⟨gH, i, none⟩ v) :=
  ⟨H.a.far H.ne v, by rw [e]; exact H.h.set_ i v, H.l.far (Ne.symm (H.h.ne_ H.l (by decide))) v, H.k.setCell (Or.inr H.n0) v, H.n0, H.n1, H.ne⟩
theorem LSt.setL (H : LSt gA gH gL s h ls w0 w) (i : Nat) (v : ByteArray) : LSt gA gH gL s h (ls.set i v) w0 (w.setCell ⟨gL, i, none⟩ (.string v)) :=
  ⟨H.a.far (H.a.ne_ H.l (by decide)) _, H.h.far (H.h.ne_ H.l (by decide)) _, by rw [List.map_set]; exact H.l.set_ i _, H.k.setCell (Or.inr H.n1) _, H.n0, H.n1, H.ne⟩
end
theorem join_glue (c : UInt8) (p : BS) (ps : List BS) : Lib.join (p :: ps) [c] = glue c (p :: ps) := by
  rw [Lib.join_cons, glue_cons]
  unfold Lib.joinTail
  rw [List.flatMap_def]
  rfl
theorem join_spec {w : World} {gL n : Nat} {ls : List ByteArray} {ps : List BS} (hl : Blk w gL 9 (ls.map .string)) (hn : ls.length = n) (hp : ls.map (·.data.toList) = ps) (hne : ps ≠ []) (hlen : (glue 32 ps).length ≤ 100000) :
    Calls Tryd.prog 61 #[.slice (some ⟨gL, 0, none⟩) n n, .string ⟨#[32]⟩] w fun e w' => e = .returned (.string (strB (glue 32 ps))) ∧ Keep [] w w' := by
  have hg : Lib.join (ls.map (·.data.toList)) (⟨#[32]⟩ : ByteArray).data.toList = glue 32 ps := by
    rw [hp]
    cases ps with
    | nil => exact absurd rfl hne
    | cons p ps => exact join_glue 32 p ps
  have hN : ls.length ≤ 100001 := by
    have : ls.length = ps.length := by rw [← hp, List.length_map]
    have h2 : ∀ ps : List BS, ps.length ≤ (glue 32 ps).length + 1 := by
      intro ps
      cases ps with
      | nil => simp
      | cons p ps =>
        rw [glue_cons, List.length_append, List.length_flatMap, List.length_cons]
        have : ∀ l : List BS, l.length ≤ (l.map fun q => (32 :: q).length).sum := by
          intro l
          induction l with
          | nil => simp
          | cons a l ih => simp only [List.map_cons, List.sum_cons, List.length_cons] at ih ⊢; omega
        have := this ps
        omega
    have h3 := h2 ps
    omega
  have h := Tryd.strings_Join gL 0 n ls ⟨#[32]⟩ w (fun j x hx => by rw [Nat.zero_add, hl.cell, List.getElem?_map, hx]; rfl) hl.lt (by omega) (by omega) (by rw [hg]; omega)
  rw [hn] at h
  refine h.mono ?_
  rintro e w' ⟨he, hb⟩
  rw [hg] at he
  exact ⟨he, keep_of_below hb⟩

theorem line_len {s : ST} (h : s.In) : (glue 32 (partsL s)).length ≤ 100000 := by
  have e : ∀ n : Int, In64 n → (Lib.itoa n).length ≤ 21 := fun n hn => Lib.itoa_length_le n hn.1 hn.2
  have h1 := e _ h.node
  have h2 := e _ h.k
  have h3 := e _ h.bit
  have hw : (wordL s.kind).length ≤ 7 := by
    unfold wordL
    repeat' split
    all_goals decide
  unfold partsL
  rw [glue_cons, List.length_append]
  unfold fieldsL
  repeat' split
  all_goals simp
  all_goals omega
theorem line_end (s : ST) (b : Bool) (h : decide (ownL s = s) = b) : Ending.returned (.tuple #[.string (strB (glue 32 (partsL s))), .bool b]) = .returned (.tuple #[.string (strB (lineL s)), .bool (decide (ownL s = s))]) := by rw [h]; rfl
set_option maxRecDepth 100000 in
set_option maxHeartbeats 3200000 in
theorem line_1 (w : World) (hE : Env w) (s : ST) (hs : s.In) (hk : s.kind = 1) : Calls Tryd.prog 45 #[stV s] w (LinePost s w) := by
  obtain ⟨kind, node, k, bit⟩ := s
  simp only at hk
  subst hk
  have kA : Keep [] w (w.alloc (.cells #[.int .i64 1, .int .i64 node, .int .i64 k, .int .i64 bit] 38)) := (Keep.refl _ _).alloc _
  have bA : Blk (w.alloc (.cells #[.int .i64 1, .int .i64 node, .int .i64 k, .int .i64 bit] 38)) w.heap.size 38 (stC ⟨1, node, k, bit⟩) := Blk.new' _ _ _ _ rfl
  have H := Lib.hid (And.intro kA bA)
  have HE := Lib.hid hE
  have HS := Lib.hid hs
  unfold stV
  simp only at *
  clear hs kA bA hE
  go_enter Tryd.func45, Tryd.ntmps45
  go_wp2_with fail
  generalize w.alloc (.cells #[.int .i64 1, .int .i64 node, .int .i64 k, .int .i64 bit] 38) = wA at *
  generalize w.heap.size = gA at *
  have hcA : wA.cell? ⟨gA, 0, none⟩ = some (.int .i64 1) := H.out.2.cell 0
  go_region_held3 (fun w' => w'.cell? ⟨gA, 0, none⟩ = some (.int .i64 1)) (first | assumption | go_keep)
    (first | (go_at_call 58; go_must (refine (words_spec _).mono ?_; rintro e w1 ⟨rfl, hm⟩; have hl : (Instr.lookup 114 (.map (some wA.heap.size)) (.int .i64 1) true).run Tryd.prog w1 = .ok (.tuple #[.string (strB (fullL 1)), .bool true]) w1 := look_word hm (by decide) (by decide) 0; have hc : w1.cell? ⟨gA, 0, none⟩ = some (.int .i64 1) := cell_keep0 hm.2.1.of_drew (H.out.2.cell 0); have hk1 := Lib.hid (hm.2.1.of_drew))))
  have hk2 := H.out.1.trans hk1.out (by simp)
  have hsp := split_k (HE.out.keep hk2) 1 [kWork, [110]] 2 (by decide) rfl (by decide)
  have HSP := Lib.hid hsp
  have B1 := Lib.hid (And.intro hk2 (H.out.2.keep hk1.out (by simp)))
  clear hk2 hsp hl hc hcA hm hk1 H
  go_wp2_with fail
  refine HSP.out.mono ?_
  rintro e w2 ⟨rfl, hl2, hk2, hsz⟩
  have b2 := B1.out.2.keep hk2 (by simp)
  have c0 : w2.cell? ⟨gA, 0, none⟩ = some (.int .i64 1) := b2.cell 0
  have hst : LSt gA w2.heap.size w1.heap.size ⟨1, node, k, bit⟩ ⟨1, 0, 0, 0⟩ [⟨#[119, 111, 114, 107]⟩, ⟨#[110]⟩] w (w2.alloc (.cells #[.int .i64 1, .int .i64 0, .int .i64 0, .int .i64 0] 38)) :=
    ⟨b2.alloc _, Blk.new' _ _ _ _ rfl, hl2.alloc _, (B1.out.1.trans hk2 (by simp)).alloc _, Nat.le_trans B1.out.1.size hk2.size, B1.out.1.size, Nat.ne_of_lt b2.lt⟩
  have Hst := Lib.hid hst
  clear b2 hst hsz hl2 hk2 HSP B1
  go_upto_region 7 with fail
  generalize w2.alloc (.cells #[.int .i64 1, .int .i64 0, .int .i64 0, .int .i64 0] 38) = w3 at *
  generalize w2.heap.size = gH at *
  generalize w1.heap.size = gL at *
  clear c0
  have l0 : w3.cell? ⟨gL, 0, none⟩ = some (.string ⟨#[119, 111, 114, 107]⟩) := Hst.out.l.cell 0
  refine wp_loop_rounds 3 ?_
  rw [rounds_succ]
  go_wp2_with fail
  clear l0
  have l1 : w3.cell? ⟨gL, 1, none⟩ = some (.string ⟨#[110]⟩) := Hst.out.l.cell 1
  have a1 : w3.cell? ⟨gA, 1, none⟩ = some (.int .i64 node) := Hst.out.a.cell 1
  have h1 : w3.cell? ⟨gH, 1, none⟩ = some (.int .i64 0) := Hst.out.h.cell 1
  have f1 : w3.frozen? ⟨gH, 1, none⟩ = false := Hst.out.h.frozen 1
  rw [rounds_succ]
  go_upto_region 11 with (first | (go_at_call 60; refine (field_n _ _).mono ?_; rintro e w' ⟨rfl, rfl⟩))
  have Hst2 := Lib.hid (Hst.out.setH 1 (.int .i64 node) ⟨1, node, 0, 0⟩ rfl)
  clear l1 a1 h1 f1 Hst
  generalize w3.setCell ⟨gH, 1, none⟩ (.int .i64 node) = w4 at *
  have a1 : w4.cell? ⟨gA, 1, none⟩ = some (.int .i64 node) := Hst2.out.a.cell 1
  have hit := Lib.hid (itoa_spec (HE.out.keep Hst2.out.k) HS.out.node)
  go_wp2_with (first | (go_at_call 60; refine (field_n _ _).mono ?_; rintro e w' ⟨rfl, rfl⟩))
  refine hit.out.mono ?_
  rintro e w5 ⟨rfl, hkw⟩
  have Hst3 := Lib.hid (Hst2.out.keep hkw)
  clear a1 hit hkw Hst2
  have l1 : w5.cell? ⟨gL, 1, none⟩ = some (.string ⟨#[110]⟩) := Hst3.out.l.cell 1
  have f1 : w5.frozen? ⟨gL, 1, none⟩ = false := Hst3.out.l.frozen 1
  go_wp2_with fail
  have Hst := Lib.hid (show LSt gA gH gL _ _ [⟨#[119, 111, 114, 107]⟩, itoaB node] w _ from Hst3.out.setL 1 (itoaB node))
  clear l1 f1 Hst3
  generalize w5.setCell ⟨gL, 1, none⟩ (.string (itoaB node)) = w6 at *
  rw [rounds_succ]
  go_wp2_with fail
  have hj := Lib.hid (fun (w' : World) (kk : Keep [] w6 w') => join_spec (n := 2) (ps := partsL ⟨1, node, k, bit⟩) (Hst.out.l.keep kk (by simp)) rfl (by simp [partsL, wordL, fieldsL, itoaB, strB_data, kWork]) (by simp [partsL]) (line_len HS.out))
  rcases (show (k = 0 ∧ bit = 0) ∨ (k = 0 ∧ ¬ (0 : Int) = bit) ∨ (¬ (0 : Int) = k) by omega) with ⟨rfl, rfl⟩ | ⟨rfl, hne⟩ | hne
  · go_region_held3 (fun w' => w'.cell? ⟨gA, 0, none⟩ = some (.int .i64 1) ∧ w'.cell? ⟨gA, 1, none⟩ = some (.int .i64 node) ∧ w'.cell? ⟨gA, 2, none⟩ = some (.int .i64 0) ∧ w'.cell? ⟨gA, 3, none⟩ = some (.int .i64 0) ∧ w'.cell? ⟨gH, 0, none⟩ = some (.int .i64 1) ∧ w'.cell? ⟨gH, 1, none⟩ = some (.int .i64 node) ∧ w'.cell? ⟨gH, 2, none⟩ = some (.int .i64 0) ∧ w'.cell? ⟨gH, 3, none⟩ = some (.int .i64 0)) (first | exact ⟨by assumption, by assumption, by assumption, by assumption, by assumption, by assumption, by assumption, by assumption⟩ | exact ⟨Hst.out.a.cell 0, Hst.out.a.cell 1, Hst.out.a.cell 2, Hst.out.a.cell 3, Hst.out.h.cell 0, Hst.out.h.cell 1, Hst.out.h.cell 2, Hst.out.h.cell 3⟩ | go_keep)
      (first | (go_at_call 61; go_must (refine (hj.out _ ((Keep.refl [] _).drewN 1)).mono ?_; rintro e wj ⟨rfl, hkj⟩; have q0 := cell_keep0 hkj.of_drew (Hst.out.a.cell 0); have q1 := cell_keep0 hkj.of_drew (Hst.out.a.cell 1); have q2 := cell_keep0 hkj.of_drew (Hst.out.a.cell 2); have q3 := cell_keep0 hkj.of_drew (Hst.out.a.cell 3); have q4 := cell_keep0 hkj.of_drew (Hst.out.h.cell 0); have q5 := cell_keep0 hkj.of_drew (Hst.out.h.cell 1); have q6 := cell_keep0 hkj.of_drew (Hst.out.h.cell 2); have q7 := cell_keep0 hkj.of_drew (Hst.out.h.cell 3); have Hk := Lib.hid (Hst.out.k.trans hkj.of_drew (by simp)))))
    go_wp2
    go_ret2
    exact ⟨line_end _ _ (by first | (simp [ownL]; done) | (simp [ownL]; omega)), Hid.out ‹_›⟩
  · go_region_held3 (fun w' => w'.cell? ⟨gA, 0, none⟩ = some (.int .i64 1) ∧ w'.cell? ⟨gA, 1, none⟩ = some (.int .i64 node) ∧ w'.cell? ⟨gA, 2, none⟩ = some (.int .i64 0) ∧ w'.cell? ⟨gA, 3, none⟩ = some (.int .i64 bit) ∧ w'.cell? ⟨gH, 0, none⟩ = some (.int .i64 1) ∧ w'.cell? ⟨gH, 1, none⟩ = some (.int .i64 node) ∧ w'.cell? ⟨gH, 2, none⟩ = some (.int .i64 0) ∧ w'.cell? ⟨gH, 3, none⟩ = some (.int .i64 0)) (first | exact ⟨by assumption, by assumption, by assumption, by assumption, by assumption, by assumption, by assumption, by assumption⟩ | exact ⟨Hst.out.a.cell 0, Hst.out.a.cell 1, Hst.out.a.cell 2, Hst.out.a.cell 3, Hst.out.h.cell 0, Hst.out.h.cell 1, Hst.out.h.cell 2, Hst.out.h.cell 3⟩ | go_keep)
      (first | (go_at_call 61; go_must (refine (hj.out _ ((Keep.refl [] _).drewN 1)).mono ?_; rintro e wj ⟨rfl, hkj⟩; have q0 := cell_keep0 hkj.of_drew (Hst.out.a.cell 0); have q1 := cell_keep0 hkj.of_drew (Hst.out.a.cell 1); have q2 := cell_keep0 hkj.of_drew (Hst.out.a.cell 2); have q3 := cell_keep0 hkj.of_drew (Hst.out.a.cell 3); have q4 := cell_keep0 hkj.of_drew (Hst.out.h.cell 0); have q5 := cell_keep0 hkj.of_drew (Hst.out.h.cell 1); have q6 := cell_keep0 hkj.of_drew (Hst.out.h.cell 2); have q7 := cell_keep0 hkj.of_drew (Hst.out.h.cell 3); have Hk := Lib.hid (Hst.out.k.trans hkj.of_drew (by simp)))))
    go_wp2
    go_ret2
    exact ⟨line_end _ _ (by first | (simp [ownL]; done) | (simp [ownL]; omega)), Hid.out ‹_›⟩
  · go_region_held3 (fun w' => w'.cell? ⟨gA, 0, none⟩ = some (.int .i64 1) ∧ w'.cell? ⟨gA, 1, none⟩ = some (.int .i64 node) ∧ w'.cell? ⟨gA, 2, none⟩ = some (.int .i64 k) ∧ w'.cell? ⟨gA, 3, none⟩ = some (.int .i64 bit) ∧ w'.cell? ⟨gH, 0, none⟩ = some (.int .i64 1) ∧ w'.cell? ⟨gH, 1, none⟩ = some (.int .i64 node) ∧ w'.cell? ⟨gH, 2, none⟩ = some (.int .i64 0) ∧ w'.cell? ⟨gH, 3, none⟩ = some (.int .i64 0)) (first | exact ⟨by assumption, by assumption, by assumption, by assumption, by assumption, by assumption, by assumption, by assumption⟩ | exact ⟨Hst.out.a.cell 0, Hst.out.a.cell 1, Hst.out.a.cell 2, Hst.out.a.cell 3, Hst.out.h.cell 0, Hst.out.h.cell 1, Hst.out.h.cell 2, Hst.out.h.cell 3⟩ | go_keep)
      (first | (go_at_call 61; go_must (refine (hj.out _ ((Keep.refl [] _).drewN 1)).mono ?_; rintro e wj ⟨rfl, hkj⟩; have q0 := cell_keep0 hkj.of_drew (Hst.out.a.cell 0); have q1 := cell_keep0 hkj.of_drew (Hst.out.a.cell 1); have q2 := cell_keep0 hkj.of_drew (Hst.out.a.cell 2); have q3 := cell_keep0 hkj.of_drew (Hst.out.a.cell 3); have q4 := cell_keep0 hkj.of_drew (Hst.out.h.cell 0); have q5 := cell_keep0 hkj.of_drew (Hst.out.h.cell 1); have q6 := cell_keep0 hkj.of_drew (Hst.out.h.cell 2); have q7 := cell_keep0 hkj.of_drew (Hst.out.h.cell 3); have Hk := Lib.hid (Hst.out.k.trans hkj.of_drew (by simp)))))
    go_wp2
    go_ret2
    exact ⟨line_end _ _ (by first | (simp [ownL]; done) | (simp [ownL]; omega)), Hid.out ‹_›⟩

set_option maxRecDepth 100000 in
set_option maxHeartbeats 3200000 in
theorem line_2 (w : World) (hE : Env w) (s : ST) (hs : s.In) (hk : s.kind = 2) : Calls Tryd.prog 45 #[stV s] w (LinePost s w) := by
  obtain ⟨kind, node, k, bit⟩ := s
  simp only at hk
  subst hk
  have kA : Keep [] w (w.alloc (.cells #[.int .i64 2, .int .i64 node, .int .i64 k, .int .i64 bit] 38)) := (Keep.refl _ _).alloc _
  have bA : Blk (w.alloc (.cells #[.int .i64 2, .int .i64 node, .int .i64 k, .int .i64 bit] 38)) w.heap.size 38 (stC ⟨2, node, k, bit⟩) := Blk.new' _ _ _ _ rfl
  have H := Lib.hid (And.intro kA bA)
  have HE := Lib.hid hE
  have HS := Lib.hid hs
  unfold stV
  simp only at *
  clear hs kA bA hE
  go_enter Tryd.func45, Tryd.ntmps45
  go_wp2_with fail
  generalize w.alloc (.cells #[.int .i64 2, .int .i64 node, .int .i64 k, .int .i64 bit] 38) = wA at *
  generalize w.heap.size = gA at *
  have hcA : wA.cell? ⟨gA, 0, none⟩ = some (.int .i64 2) := H.out.2.cell 0
  go_region_held3 (fun w' => w'.cell? ⟨gA, 0, none⟩ = some (.int .i64 2)) (first | assumption | go_keep)
    (first | (go_at_call 58; go_must (refine (words_spec _).mono ?_; rintro e w1 ⟨rfl, hm⟩; have hl : (Instr.lookup 114 (.map (some wA.heap.size)) (.int .i64 2) true).run Tryd.prog w1 = .ok (.tuple #[.string (strB (fullL 2)), .bool true]) w1 := look_word hm (by decide) (by decide) 0; have hc : w1.cell? ⟨gA, 0, none⟩ = some (.int .i64 2) := cell_keep0 hm.2.1.of_drew (H.out.2.cell 0); have hk1 := Lib.hid (hm.2.1.of_drew))))
  have hk2 := H.out.1.trans hk1.out (by simp)
  have hsp := split_k (HE.out.keep hk2) 2 [kTick] 1 (by decide) rfl (by decide)
  have HSP := Lib.hid hsp
  have B1 := Lib.hid (And.intro hk2 (H.out.2.keep hk1.out (by simp)))
  clear hk2 hsp hl hc hcA hm hk1 H
  go_wp2_with fail
  refine HSP.out.mono ?_
  rintro e w2 ⟨rfl, hl2, hk2, hsz⟩
  have b2 := B1.out.2.keep hk2 (by simp)
  have c0 : w2.cell? ⟨gA, 0, none⟩ = some (.int .i64 2) := b2.cell 0
  have hst : LSt gA w2.heap.size w1.heap.size ⟨2, node, k, bit⟩ ⟨2, 0, 0, 0⟩ [⟨#[116, 105, 99, 107]⟩] w (w2.alloc (.cells #[.int .i64 2, .int .i64 0, .int .i64 0, .int .i64 0] 38)) :=
    ⟨b2.alloc _, Blk.new' _ _ _ _ rfl, hl2.alloc _, (B1.out.1.trans hk2 (by simp)).alloc _, Nat.le_trans B1.out.1.size hk2.size, B1.out.1.size, Nat.ne_of_lt b2.lt⟩
  have Hst := Lib.hid hst
  clear b2 hst hsz hl2 hk2 HSP B1
  go_upto_region 7 with fail
  generalize w2.alloc (.cells #[.int .i64 2, .int .i64 0, .int .i64 0, .int .i64 0] 38) = w3 at *
  generalize w2.heap.size = gH at *
  generalize w1.heap.size = gL at *
  clear c0
  have l0 : w3.cell? ⟨gL, 0, none⟩ = some (.string ⟨#[116, 105, 99, 107]⟩) := Hst.out.l.cell 0
  refine wp_loop_rounds 2 ?_
  rw [rounds_succ]
  go_wp2_with fail
  clear l0
  rw [rounds_succ]
  go_wp2_with fail
  have hj := Lib.hid (fun (w' : World) (kk : Keep [] w3 w') => join_spec (n := 1) (ps := partsL ⟨2, node, k, bit⟩) (Hst.out.l.keep kk (by simp)) rfl (by simp [partsL, wordL, fieldsL, kTick]) (by simp [partsL]) (line_len HS.out))
  rcases (show (node = 0 ∧ k = 0 ∧ bit = 0) ∨ (node = 0 ∧ k = 0 ∧ ¬ (0 : Int) = bit) ∨ (node = 0 ∧ ¬ (0 : Int) = k) ∨ (¬ (0 : Int) = node) by omega) with ⟨rfl, rfl, rfl⟩ | ⟨rfl, rfl, hne⟩ | ⟨rfl, hne⟩ | hne
  · go_region_held3 (fun w' => w'.cell? ⟨gA, 0, none⟩ = some (.int .i64 2) ∧ w'.cell? ⟨gA, 1, none⟩ = some (.int .i64 0) ∧ w'.cell? ⟨gA, 2, none⟩ = some (.int .i64 0) ∧ w'.cell? ⟨gA, 3, none⟩ = some (.int .i64 0) ∧ w'.cell? ⟨gH, 0, none⟩ = some (.int .i64 2) ∧ w'.cell? ⟨gH, 1, none⟩ = some (.int .i64 0) ∧ w'.cell? ⟨gH, 2, none⟩ = some (.int .i64 0) ∧ w'.cell? ⟨gH, 3, none⟩ = some (.int .i64 0)) (first | exact ⟨by assumption, by assumption, by assumption, by assumption, by assumption, by assumption, by assumption, by assumption⟩ | exact ⟨Hst.out.a.cell 0, Hst.out.a.cell 1, Hst.out.a.cell 2, Hst.out.a.cell 3, Hst.out.h.cell 0, Hst.out.h.cell 1, Hst.out.h.cell 2, Hst.out.h.cell 3⟩ | go_keep)
      (first | (go_at_call 61; go_must (refine (hj.out _ ((Keep.refl [] _).drewN 1)).mono ?_; rintro e wj ⟨rfl, hkj⟩; have q0 := cell_keep0 hkj.of_drew (Hst.out.a.cell 0); have q1 := cell_keep0 hkj.of_drew (Hst.out.a.cell 1); have q2 := cell_keep0 hkj.of_drew (Hst.out.a.cell 2); have q3 := cell_keep0 hkj.of_drew (Hst.out.a.cell 3); have q4 := cell_keep0 hkj.of_drew (Hst.out.h.cell 0); have q5 := cell_keep0 hkj.of_drew (Hst.out.h.cell 1); have q6 := cell_keep0 hkj.of_drew (Hst.out.h.cell 2); have q7 := cell_keep0 hkj.of_drew (Hst.out.h.cell 3); have Hk := Lib.hid (Hst.out.k.trans hkj.of_drew (by simp)))))
    go_wp2
    go_ret2
    exact ⟨line_end _ _ (by first | (simp [ownL]; done) | (simp [ownL]; omega)), Hid.out ‹_›⟩
  · go_region_held3 (fun w' => w'.cell? ⟨gA, 0, none⟩ = some (.int .i64 2) ∧ w'.cell? ⟨gA, 1, none⟩ = some (.int .i64 0) ∧ w'.cell? ⟨gA, 2, none⟩ = some (.int .i64 0) ∧ w'.cell? ⟨gA, 3, none⟩ = some (.int .i64 bit) ∧ w'.cell? ⟨gH, 0, none⟩ = some (.int .i64 2) ∧ w'.cell? ⟨gH, 1, none⟩ = some (.int .i64 0) ∧ w'.cell? ⟨gH, 2, none⟩ = some (.int .i64 0) ∧ w'.cell? ⟨gH, 3, none⟩ = some (.int .i64 0)) (first | exact ⟨by assumption, by assumption, by assumption, by assumption, by assumption, by assumption, by assumption, by assumption⟩ | exact ⟨Hst.out.a.cell 0, Hst.out.a.cell 1, Hst.out.a.cell 2, Hst.out.a.cell 3, Hst.out.h.cell 0, Hst.out.h.cell 1, Hst.out.h.cell 2, Hst.out.h.cell 3⟩ | go_keep)
      (first | (go_at_call 61; go_must (refine (hj.out _ ((Keep.refl [] _).drewN 1)).mono ?_; rintro e wj ⟨rfl, hkj⟩; have q0 := cell_keep0 hkj.of_drew (Hst.out.a.cell 0); have q1 := cell_keep0 hkj.of_drew (Hst.out.a.cell 1); have q2 := cell_keep0 hkj.of_drew (Hst.out.a.cell 2); have q3 := cell_keep0 hkj.of_drew (Hst.out.a.cell 3); have q4 := cell_keep0 hkj.of_drew (Hst.out.h.cell 0); have q5 := cell_keep0 hkj.of_drew (Hst.out.h.cell 1); have q6 := cell_keep0 hkj.of_drew (Hst.out.h.cell 2); have q7 := cell_keep0 hkj.of_drew (Hst.out.h.cell 3); have Hk := Lib.hid (Hst.out.k.trans hkj.of_drew (by simp)))))
    go_wp2
    go_ret2
    exact ⟨line_end _ _ (by first | (simp [ownL]; done) | (simp [ownL]; omega)), Hid.out ‹_›⟩
  · go_region_held3 (fun w' => w'.cell? ⟨gA, 0, none⟩ = some (.int .i64 2) ∧ w'.cell? ⟨gA, 1, none⟩ = some (.int .i64 0) ∧ w'.cell? ⟨gA, 2, none⟩ = some (.int .i64 k) ∧ w'.cell? ⟨gA, 3, none⟩ = some (.int .i64 bit) ∧ w'.cell? ⟨gH, 0, none⟩ = some (.int .i64 2) ∧ w'.cell? ⟨gH, 1, none⟩ = some (.int .i64 0) ∧ w'.cell? ⟨gH, 2, none⟩ = some (.int .i64 0) ∧ w'.cell? ⟨gH, 3, none⟩ = some (.int .i64 0)) (first | exact ⟨by assumption, by assumption, by assumption, by assumption, by assumption, by assumption, by assumption, by assumption⟩ | exact ⟨Hst.out.a.cell 0, Hst.out.a.cell 1, Hst.out.a.cell 2, Hst.out.a.cell 3, Hst.out.h.cell 0, Hst.out.h.cell 1, Hst.out.h.cell 2, Hst.out.h.cell 3⟩ | go_keep)
      (first | (go_at_call 61; go_must (refine (hj.out _ ((Keep.refl [] _).drewN 1)).mono ?_; rintro e wj ⟨rfl, hkj⟩; have q0 := cell_keep0 hkj.of_drew (Hst.out.a.cell 0); have q1 := cell_keep0 hkj.of_drew (Hst.out.a.cell 1); have q2 := cell_keep0 hkj.of_drew (Hst.out.a.cell 2); have q3 := cell_keep0 hkj.of_drew (Hst.out.a.cell 3); have q4 := cell_keep0 hkj.of_drew (Hst.out.h.cell 0); have q5 := cell_keep0 hkj.of_drew (Hst.out.h.cell 1); have q6 := cell_keep0 hkj.of_drew (Hst.out.h.cell 2); have q7 := cell_keep0 hkj.of_drew (Hst.out.h.cell 3); have Hk := Lib.hid (Hst.out.k.trans hkj.of_drew (by simp)))))
    go_wp2
    go_ret2
    exact ⟨line_end _ _ (by first | (simp [ownL]; done) | (simp [ownL]; omega)), Hid.out ‹_›⟩
  · go_region_held3 (fun w' => w'.cell? ⟨gA, 0, none⟩ = some (.int .i64 2) ∧ w'.cell? ⟨gA, 1, none⟩ = some (.int .i64 node) ∧ w'.cell? ⟨gA, 2, none⟩ = some (.int .i64 k) ∧ w'.cell? ⟨gA, 3, none⟩ = some (.int .i64 bit) ∧ w'.cell? ⟨gH, 0, none⟩ = some (.int .i64 2) ∧ w'.cell? ⟨gH, 1, none⟩ = some (.int .i64 0) ∧ w'.cell? ⟨gH, 2, none⟩ = some (.int .i64 0) ∧ w'.cell? ⟨gH, 3, none⟩ = some (.int .i64 0)) (first | exact ⟨by assumption, by assumption, by assumption, by assumption, by assumption, by assumption, by assumption, by assumption⟩ | exact ⟨Hst.out.a.cell 0, Hst.out.a.cell 1, Hst.out.a.cell 2, Hst.out.a.cell 3, Hst.out.h.cell 0, Hst.out.h.cell 1, Hst.out.h.cell 2, Hst.out.h.cell 3⟩ | go_keep)
      (first | (go_at_call 61; go_must (refine (hj.out _ ((Keep.refl [] _).drewN 1)).mono ?_; rintro e wj ⟨rfl, hkj⟩; have q0 := cell_keep0 hkj.of_drew (Hst.out.a.cell 0); have q1 := cell_keep0 hkj.of_drew (Hst.out.a.cell 1); have q2 := cell_keep0 hkj.of_drew (Hst.out.a.cell 2); have q3 := cell_keep0 hkj.of_drew (Hst.out.a.cell 3); have q4 := cell_keep0 hkj.of_drew (Hst.out.h.cell 0); have q5 := cell_keep0 hkj.of_drew (Hst.out.h.cell 1); have q6 := cell_keep0 hkj.of_drew (Hst.out.h.cell 2); have q7 := cell_keep0 hkj.of_drew (Hst.out.h.cell 3); have Hk := Lib.hid (Hst.out.k.trans hkj.of_drew (by simp)))))
    go_wp2
    go_ret2
    exact ⟨line_end _ _ (by first | (simp [ownL]; done) | (simp [ownL]; omega)), Hid.out ‹_›⟩

set_option maxRecDepth 100000 in
set_option maxHeartbeats 3200000 in
theorem line_3 (w : World) (hE : Env w) (s : ST) (hs : s.In) (hk : s.kind = 3) : Calls Tryd.prog 45 #[stV s] w (LinePost s w) := by
  obtain ⟨kind, node, k, bit⟩ := s
  simp only at hk
  subst hk
  have kA : Keep [] w (w.alloc (.cells #[.int .i64 3, .int .i64 node, .int .i64 k, .int .i64 bit] 38)) := (Keep.refl _ _).alloc _
  have bA : Blk (w.alloc (.cells #[.int .i64 3, .int .i64 node, .int .i64 k, .int .i64 bit] 38)) w.heap.size 38 (stC ⟨3, node, k, bit⟩) := Blk.new' _ _ _ _ rfl
  have H := Lib.hid (And.intro kA bA)
  have HE := Lib.hid hE
  have HS := Lib.hid hs
  unfold stV
  simp only at *
  clear hs kA bA hE
  go_enter Tryd.func45, Tryd.ntmps45
  go_wp2_with fail
  generalize w.alloc (.cells #[.int .i64 3, .int .i64 node, .int .i64 k, .int .i64 bit] 38) = wA at *
  generalize w.heap.size = gA at *
  have hcA : wA.cell? ⟨gA, 0, none⟩ = some (.int .i64 3) := H.out.2.cell 0
  go_region_held3 (fun w' => w'.cell? ⟨gA, 0, none⟩ = some (.int .i64 3)) (first | assumption | go_keep)
    (first | (go_at_call 58; go_must (refine (words_spec _).mono ?_; rintro e w1 ⟨rfl, hm⟩; have hl : (Instr.lookup 114 (.map (some wA.heap.size)) (.int .i64 3) true).run Tryd.prog w1 = .ok (.tuple #[.string (strB (fullL 3)), .bool true]) w1 := look_word hm (by decide) (by decide) 0; have hc : w1.cell? ⟨gA, 0, none⟩ = some (.int .i64 3) := cell_keep0 hm.2.1.of_drew (H.out.2.cell 0); have hk1 := Lib.hid (hm.2.1.of_drew))))
  have hk2 := H.out.1.trans hk1.out (by simp)
  have hsp := split_k (HE.out.keep hk2) 3 [kDeliver, [107]] 2 (by decide) rfl (by decide)
  have HSP := Lib.hid hsp
  have B1 := Lib.hid (And.intro hk2 (H.out.2.keep hk1.out (by simp)))
  clear hk2 hsp hl hc hcA hm hk1 H
  go_wp2_with fail
  refine HSP.out.mono ?_
  rintro e w2 ⟨rfl, hl2, hk2, hsz⟩
  have b2 := B1.out.2.keep hk2 (by simp)
  have c0 : w2.cell? ⟨gA, 0, none⟩ = some (.int .i64 3) := b2.cell 0
  have hst : LSt gA w2.heap.size w1.heap.size ⟨3, node, k, bit⟩ ⟨3, 0, 0, 0⟩ [⟨#[100, 101, 108, 105, 118, 101, 114]⟩, ⟨#[107]⟩] w (w2.alloc (.cells #[.int .i64 3, .int .i64 0, .int .i64 0, .int .i64 0] 38)) :=
    ⟨b2.alloc _, Blk.new' _ _ _ _ rfl, hl2.alloc _, (B1.out.1.trans hk2 (by simp)).alloc _, Nat.le_trans B1.out.1.size hk2.size, B1.out.1.size, Nat.ne_of_lt b2.lt⟩
  have Hst := Lib.hid hst
  clear b2 hst hsz hl2 hk2 HSP B1
  go_upto_region 7 with fail
  generalize w2.alloc (.cells #[.int .i64 3, .int .i64 0, .int .i64 0, .int .i64 0] 38) = w3 at *
  generalize w2.heap.size = gH at *
  generalize w1.heap.size = gL at *
  clear c0
  have l0 : w3.cell? ⟨gL, 0, none⟩ = some (.string ⟨#[100, 101, 108, 105, 118, 101, 114]⟩) := Hst.out.l.cell 0
  refine wp_loop_rounds 3 ?_
  rw [rounds_succ]
  go_wp2_with fail
  clear l0
  have l1 : w3.cell? ⟨gL, 1, none⟩ = some (.string ⟨#[107]⟩) := Hst.out.l.cell 1
  have a1 : w3.cell? ⟨gA, 2, none⟩ = some (.int .i64 k) := Hst.out.a.cell 2
  have h1 : w3.cell? ⟨gH, 2, none⟩ = some (.int .i64 0) := Hst.out.h.cell 2
  have f1 : w3.frozen? ⟨gH, 2, none⟩ = false := Hst.out.h.frozen 2
  rw [rounds_succ]
  go_upto_region 11 with (first | (go_at_call 60; refine (field_k _ _).mono ?_; rintro e w' ⟨rfl, rfl⟩))
  have Hst2 := Lib.hid (Hst.out.setH 2 (.int .i64 k) ⟨3, 0, k, 0⟩ rfl)
  clear l1 a1 h1 f1 Hst
  generalize w3.setCell ⟨gH, 2, none⟩ (.int .i64 k) = w4 at *
  have a1 : w4.cell? ⟨gA, 2, none⟩ = some (.int .i64 k) := Hst2.out.a.cell 2
  have hit := Lib.hid (itoa_spec (HE.out.keep Hst2.out.k) HS.out.k)
  go_wp2_with (first | (go_at_call 60; refine (field_k _ _).mono ?_; rintro e w' ⟨rfl, rfl⟩))
  refine hit.out.mono ?_
  rintro e w5 ⟨rfl, hkw⟩
  have Hst3 := Lib.hid (Hst2.out.keep hkw)
  clear a1 hit hkw Hst2
  have l1 : w5.cell? ⟨gL, 1, none⟩ = some (.string ⟨#[107]⟩) := Hst3.out.l.cell 1
  have f1 : w5.frozen? ⟨gL, 1, none⟩ = false := Hst3.out.l.frozen 1
  go_wp2_with fail
  have Hst := Lib.hid (show LSt gA gH gL _ _ [⟨#[100, 101, 108, 105, 118, 101, 114]⟩, itoaB k] w _ from Hst3.out.setL 1 (itoaB k))
  clear l1 f1 Hst3
  generalize w5.setCell ⟨gL, 1, none⟩ (.string (itoaB k)) = w6 at *
  rw [rounds_succ]
  go_wp2_with fail
  have hj := Lib.hid (fun (w' : World) (kk : Keep [] w6 w') => join_spec (n := 2) (ps := partsL ⟨3, node, k, bit⟩) (Hst.out.l.keep kk (by simp)) rfl (by simp [partsL, wordL, fieldsL, itoaB, strB_data, kDeliver]) (by simp [partsL]) (line_len HS.out))
  rcases (show (node = 0 ∧ bit = 0) ∨ (node = 0 ∧ ¬ (0 : Int) = bit) ∨ (¬ (0 : Int) = node) by omega) with ⟨rfl, rfl⟩ | ⟨rfl, hne⟩ | hne
  · go_region_held3 (fun w' => w'.cell? ⟨gA, 0, none⟩ = some (.int .i64 3) ∧ w'.cell? ⟨gA, 1, none⟩ = some (.int .i64 0) ∧ w'.cell? ⟨gA, 2, none⟩ = some (.int .i64 k) ∧ w'.cell? ⟨gA, 3, none⟩ = some (.int .i64 0) ∧ w'.cell? ⟨gH, 0, none⟩ = some (.int .i64 3) ∧ w'.cell? ⟨gH, 1, none⟩ = some (.int .i64 0) ∧ w'.cell? ⟨gH, 2, none⟩ = some (.int .i64 k) ∧ w'.cell? ⟨gH, 3, none⟩ = some (.int .i64 0)) (first | exact ⟨by assumption, by assumption, by assumption, by assumption, by assumption, by assumption, by assumption, by assumption⟩ | exact ⟨Hst.out.a.cell 0, Hst.out.a.cell 1, Hst.out.a.cell 2, Hst.out.a.cell 3, Hst.out.h.cell 0, Hst.out.h.cell 1, Hst.out.h.cell 2, Hst.out.h.cell 3⟩ | go_keep)
      (first | (go_at_call 61; go_must (refine (hj.out _ ((Keep.refl [] _).drewN 1)).mono ?_; rintro e wj ⟨rfl, hkj⟩; have q0 := cell_keep0 hkj.of_drew (Hst.out.a.cell 0); have q1 := cell_keep0 hkj.of_drew (Hst.out.a.cell 1); have q2 := cell_keep0 hkj.of_drew (Hst.out.a.cell 2); have q3 := cell_keep0 hkj.of_drew (Hst.out.a.cell 3); have q4 := cell_keep0 hkj.of_drew (Hst.out.h.cell 0); have q5 := cell_keep0 hkj.of_drew (Hst.out.h.cell 1); have q6 := cell_keep0 hkj.of_drew (Hst.out.h.cell 2); have q7 := cell_keep0 hkj.of_drew (Hst.out.h.cell 3); have Hk := Lib.hid (Hst.out.k.trans hkj.of_drew (by simp)))))
    go_wp2
    go_ret2
    exact ⟨line_end _ _ (by first | (simp [ownL]; done) | (simp [ownL]; omega)), Hid.out ‹_›⟩
  · go_region_held3 (fun w' => w'.cell? ⟨gA, 0, none⟩ = some (.int .i64 3) ∧ w'.cell? ⟨gA, 1, none⟩ = some (.int .i64 0) ∧ w'.cell? ⟨gA, 2, none⟩ = some (.int .i64 k) ∧ w'.cell? ⟨gA, 3, none⟩ = some (.int .i64 bit) ∧ w'.cell? ⟨gH, 0, none⟩ = some (.int .i64 3) ∧ w'.cell? ⟨gH, 1, none⟩ = some (.int .i64 0) ∧ w'.cell? ⟨gH, 2, none⟩ = some (.int .i64 k) ∧ w'.cell? ⟨gH, 3, none⟩ = some (.int .i64 0)) (first | exact ⟨by assumption, by assumption, by assumption, by assumption, by assumption, by assumption, by assumption, by assumption⟩ | exact ⟨Hst.out.a.cell 0, Hst.out.a.cell 1, Hst.out.a.cell 2, Hst.out.a.cell 3, Hst.out.h.cell 0, Hst.out.h.cell 1, Hst.out.h.cell 2, Hst.out.h.cell 3⟩ | go_keep)
      (first | (go_at_call 61; go_must (refine (hj.out _ ((Keep.refl [] _).drewN 1)).mono ?_; rintro e wj ⟨rfl, hkj⟩; have q0 := cell_keep0 hkj.of_drew (Hst.out.a.cell 0); have q1 := cell_keep0 hkj.of_drew (Hst.out.a.cell 1); have q2 := cell_keep0 hkj.of_drew (Hst.out.a.cell 2); have q3 := cell_keep0 hkj.of_drew (Hst.out.a.cell 3); have q4 := cell_keep0 hkj.of_drew (Hst.out.h.cell 0); have q5 := cell_keep0 hkj.of_drew (Hst.out.h.cell 1); have q6 := cell_keep0 hkj.of_drew (Hst.out.h.cell 2); have q7 := cell_keep0 hkj.of_drew (Hst.out.h.cell 3); have Hk := Lib.hid (Hst.out.k.trans hkj.of_drew (by simp)))))
    go_wp2
    go_ret2
    exact ⟨line_end _ _ (by first | (simp [ownL]; done) | (simp [ownL]; omega)), Hid.out ‹_›⟩
  · go_region_held3 (fun w' => w'.cell? ⟨gA, 0, none⟩ = some (.int .i64 3) ∧ w'.cell? ⟨gA, 1, none⟩ = some (.int .i64 node) ∧ w'.cell? ⟨gA, 2, none⟩ = some (.int .i64 k) ∧ w'.cell? ⟨gA, 3, none⟩ = some (.int .i64 bit) ∧ w'.cell? ⟨gH, 0, none⟩ = some (.int .i64 3) ∧ w'.cell? ⟨gH, 1, none⟩ = some (.int .i64 0) ∧ w'.cell? ⟨gH, 2, none⟩ = some (.int .i64 k) ∧ w'.cell? ⟨gH, 3, none⟩ = some (.int .i64 0)) (first | exact ⟨by assumption, by assumption, by assumption, by assumption, by assumption, by assumption, by assumption, by assumption⟩ | exact ⟨Hst.out.a.cell 0, Hst.out.a.cell 1, Hst.out.a.cell 2, Hst.out.a.cell 3, Hst.out.h.cell 0, Hst.out.h.cell 1, Hst.out.h.cell 2, Hst.out.h.cell 3⟩ | go_keep)
      (first | (go_at_call 61; go_must (refine (hj.out _ ((Keep.refl [] _).drewN 1)).mono ?_; rintro e wj ⟨rfl, hkj⟩; have q0 := cell_keep0 hkj.of_drew (Hst.out.a.cell 0); have q1 := cell_keep0 hkj.of_drew (Hst.out.a.cell 1); have q2 := cell_keep0 hkj.of_drew (Hst.out.a.cell 2); have q3 := cell_keep0 hkj.of_drew (Hst.out.a.cell 3); have q4 := cell_keep0 hkj.of_drew (Hst.out.h.cell 0); have q5 := cell_keep0 hkj.of_drew (Hst.out.h.cell 1); have q6 := cell_keep0 hkj.of_drew (Hst.out.h.cell 2); have q7 := cell_keep0 hkj.of_drew (Hst.out.h.cell 3); have Hk := Lib.hid (Hst.out.k.trans hkj.of_drew (by simp)))))
    go_wp2
    go_ret2
    exact ⟨line_end _ _ (by first | (simp [ownL]; done) | (simp [ownL]; omega)), Hid.out ‹_›⟩

set_option maxRecDepth 100000 in
set_option maxHeartbeats 3200000 in
theorem line_4 (w : World) (hE : Env w) (s : ST) (hs : s.In) (hk : s.kind = 4) : Calls Tryd.prog 45 #[stV s] w (LinePost s w) := by
  obtain ⟨kind, node, k, bit⟩ := s
  simp only at hk
  subst hk
  have kA : Keep [] w (w.alloc (.cells #[.int .i64 4, .int .i64 node, .int .i64 k, .int .i64 bit] 38)) := (Keep.refl _ _).alloc _
  have bA : Blk (w.alloc (.cells #[.int .i64 4, .int .i64 node, .int .i64 k, .int .i64 bit] 38)) w.heap.size 38 (stC ⟨4, node, k, bit⟩) := Blk.new' _ _ _ _ rfl
  have H := Lib.hid (And.intro kA bA)
  have HE := Lib.hid hE
  have HS := Lib.hid hs
  unfold stV
  simp only at *
  clear hs kA bA hE
  go_enter Tryd.func45, Tryd.ntmps45
  go_wp2_with fail
  generalize w.alloc (.cells #[.int .i64 4, .int .i64 node, .int .i64 k, .int .i64 bit] 38) = wA at *
  generalize w.heap.size = gA at *
  have hcA : wA.cell? ⟨gA, 0, none⟩ = some (.int .i64 4) := H.out.2.cell 0
  go_region_held3 (fun w' => w'.cell? ⟨gA, 0, none⟩ = some (.int .i64 4)) (first | assumption | go_keep)
    (first | (go_at_call 58; go_must (refine (words_spec _).mono ?_; rintro e w1 ⟨rfl, hm⟩; have hl : (Instr.lookup 114 (.map (some wA.heap.size)) (.int .i64 4) true).run Tryd.prog w1 = .ok (.tuple #[.string (strB (fullL 4)), .bool true]) w1 := look_word hm (by decide) (by decide) 0; have hc : w1.cell? ⟨gA, 0, none⟩ = some (.int .i64 4) := cell_keep0 hm.2.1.of_drew (H.out.2.cell 0); have hk1 := Lib.hid (hm.2.1.of_drew))))
  have hk2 := H.out.1.trans hk1.out (by simp)
  have hsp := split_k (HE.out.keep hk2) 4 [kDrop, [107]] 2 (by decide) rfl (by decide)
  have HSP := Lib.hid hsp
  have B1 := Lib.hid (And.intro hk2 (H.out.2.keep hk1.out (by simp)))
  clear hk2 hsp hl hc hcA hm hk1 H
  go_wp2_with fail
  refine HSP.out.mono ?_
  rintro e w2 ⟨rfl, hl2, hk2, hsz⟩
  have b2 := B1.out.2.keep hk2 (by simp)
  have c0 : w2.cell? ⟨gA, 0, none⟩ = some (.int .i64 4) := b2.cell 0
  have hst : LSt gA w2.heap.size w1.heap.size ⟨4, node, k, bit⟩ ⟨4, 0, 0, 0⟩ [⟨#[100, 114, 111, 112]⟩, ⟨#[107]⟩] w (w2.alloc (.cells #[.int .i64 4, .int .i64 0, .int .i64 0, .int .i64 0] 38)) :=
    ⟨b2.alloc _, Blk.new' _ _ _ _ rfl, hl2.alloc _, (B1.out.1.trans hk2 (by simp)).alloc _, Nat.le_trans B1.out.1.size hk2.size, B1.out.1.size, Nat.ne_of_lt b2.lt⟩
  have Hst := Lib.hid hst
  clear b2 hst hsz hl2 hk2 HSP B1
  go_upto_region 7 with fail
  generalize w2.alloc (.cells #[.int .i64 4, .int .i64 0, .int .i64 0, .int .i64 0] 38) = w3 at *
  generalize w2.heap.size = gH at *
  generalize w1.heap.size = gL at *
  clear c0
  have l0 : w3.cell? ⟨gL, 0, none⟩ = some (.string ⟨#[100, 114, 111, 112]⟩) := Hst.out.l.cell 0
  refine wp_loop_rounds 3 ?_
  rw [rounds_succ]
  go_wp2_with fail
  clear l0
  have l1 : w3.cell? ⟨gL, 1, none⟩ = some (.string ⟨#[107]⟩) := Hst.out.l.cell 1
  have a1 : w3.cell? ⟨gA, 2, none⟩ = some (.int .i64 k) := Hst.out.a.cell 2
  have h1 : w3.cell? ⟨gH, 2, none⟩ = some (.int .i64 0) := Hst.out.h.cell 2
  have f1 : w3.frozen? ⟨gH, 2, none⟩ = false := Hst.out.h.frozen 2
  rw [rounds_succ]
  go_upto_region 11 with (first | (go_at_call 60; refine (field_k _ _).mono ?_; rintro e w' ⟨rfl, rfl⟩))
  have Hst2 := Lib.hid (Hst.out.setH 2 (.int .i64 k) ⟨4, 0, k, 0⟩ rfl)
  clear l1 a1 h1 f1 Hst
  generalize w3.setCell ⟨gH, 2, none⟩ (.int .i64 k) = w4 at *
  have a1 : w4.cell? ⟨gA, 2, none⟩ = some (.int .i64 k) := Hst2.out.a.cell 2
  have hit := Lib.hid (itoa_spec (HE.out.keep Hst2.out.k) HS.out.k)
  go_wp2_with (first | (go_at_call 60; refine (field_k _ _).mono ?_; rintro e w' ⟨rfl, rfl⟩))
  refine hit.out.mono ?_
  rintro e w5 ⟨rfl, hkw⟩
  have Hst3 := Lib.hid (Hst2.out.keep hkw)
  clear a1 hit hkw Hst2
  have l1 : w5.cell? ⟨gL, 1, none⟩ = some (.string ⟨#[107]⟩) := Hst3.out.l.cell 1
  have f1 : w5.frozen? ⟨gL, 1, none⟩ = false := Hst3.out.l.frozen 1
  go_wp2_with fail
  have Hst := Lib.hid (show LSt gA gH gL _ _ [⟨#[100, 114, 111, 112]⟩, itoaB k] w _ from Hst3.out.setL 1 (itoaB k))
  clear l1 f1 Hst3
  generalize w5.setCell ⟨gL, 1, none⟩ (.string (itoaB k)) = w6 at *
  rw [rounds_succ]
  go_wp2_with fail
  have hj := Lib.hid (fun (w' : World) (kk : Keep [] w6 w') => join_spec (n := 2) (ps := partsL ⟨4, node, k, bit⟩) (Hst.out.l.keep kk (by simp)) rfl (by simp [partsL, wordL, fieldsL, itoaB, strB_data, kDrop]) (by simp [partsL]) (line_len HS.out))
  rcases (show (node = 0 ∧ bit = 0) ∨ (node = 0 ∧ ¬ (0 : Int) = bit) ∨ (¬ (0 : Int) = node) by omega) with ⟨rfl, rfl⟩ | ⟨rfl, hne⟩ | hne
  · go_region_held3 (fun w' => w'.cell? ⟨gA, 0, none⟩ = some (.int .i64 4) ∧ w'.cell? ⟨gA, 1, none⟩ = some (.int .i64 0) ∧ w'.cell? ⟨gA, 2, none⟩ = some (.int .i64 k) ∧ w'.cell? ⟨gA, 3, none⟩ = some (.int .i64 0) ∧ w'.cell? ⟨gH, 0, none⟩ = some (.int .i64 4) ∧ w'.cell? ⟨gH, 1, none⟩ = some (.int .i64 0) ∧ w'.cell? ⟨gH, 2, none⟩ = some (.int .i64 k) ∧ w'.cell? ⟨gH, 3, none⟩ = some (.int .i64 0)) (first | exact ⟨by assumption, by assumption, by assumption, by assumption, by assumption, by assumption, by assumption, by assumption⟩ | exact ⟨Hst.out.a.cell 0, Hst.out.a.cell 1, Hst.out.a.cell 2, Hst.out.a.cell 3, Hst.out.h.cell 0, Hst.out.h.cell 1, Hst.out.h.cell 2, Hst.out.h.cell 3⟩ | go_keep)
      (first | (go_at_call 61; go_must (refine (hj.out _ ((Keep.refl [] _).drewN 1)).mono ?_; rintro e wj ⟨rfl, hkj⟩; have q0 := cell_keep0 hkj.of_drew (Hst.out.a.cell 0); have q1 := cell_keep0 hkj.of_drew (Hst.out.a.cell 1); have q2 := cell_keep0 hkj.of_drew (Hst.out.a.cell 2); have q3 := cell_keep0 hkj.of_drew (Hst.out.a.cell 3); have q4 := cell_keep0 hkj.of_drew (Hst.out.h.cell 0); have q5 := cell_keep0 hkj.of_drew (Hst.out.h.cell 1); have q6 := cell_keep0 hkj.of_drew (Hst.out.h.cell 2); have q7 := cell_keep0 hkj.of_drew (Hst.out.h.cell 3); have Hk := Lib.hid (Hst.out.k.trans hkj.of_drew (by simp)))))
    go_wp2
    go_ret2
    exact ⟨line_end _ _ (by first | (simp [ownL]; done) | (simp [ownL]; omega)), Hid.out ‹_›⟩
  · go_region_held3 (fun w' => w'.cell? ⟨gA, 0, none⟩ = some (.int .i64 4) ∧ w'.cell? ⟨gA, 1, none⟩ = some (.int .i64 0) ∧ w'.cell? ⟨gA, 2, none⟩ = some (.int .i64 k) ∧ w'.cell? ⟨gA, 3, none⟩ = some (.int .i64 bit) ∧ w'.cell? ⟨gH, 0, none⟩ = some (.int .i64 4) ∧ w'.cell? ⟨gH, 1, none⟩ = some (.int .i64 0) ∧ w'.cell? ⟨gH, 2, none⟩ = some (.int .i64 k) ∧ w'.cell? ⟨gH, 3, none⟩ = some (.int .i64 0)) (first | exact ⟨by assumption, by assumption, by assumption, by assumption, by assumption, by assumption, by assumption, by assumption⟩ | exact ⟨Hst.out.a.cell 0, Hst.out.a.cell 1, Hst.out.a.cell 2, Hst.out.a.cell 3, Hst.out.h.cell 0, Hst.out.h.cell 1, Hst.out.h.cell 2, Hst.out.h.cell 3⟩ | go_keep)
      (first | (go_at_call 61; go_must (refine (hj.out _ ((Keep.refl [] _).drewN 1)).mono ?_; rintro e wj ⟨rfl, hkj⟩; have q0 := cell_keep0 hkj.of_drew (Hst.out.a.cell 0); have q1 := cell_keep0 hkj.of_drew (Hst.out.a.cell 1); have q2 := cell_keep0 hkj.of_drew (Hst.out.a.cell 2); have q3 := cell_keep0 hkj.of_drew (Hst.out.a.cell 3); have q4 := cell_keep0 hkj.of_drew (Hst.out.h.cell 0); have q5 := cell_keep0 hkj.of_drew (Hst.out.h.cell 1); have q6 := cell_keep0 hkj.of_drew (Hst.out.h.cell 2); have q7 := cell_keep0 hkj.of_drew (Hst.out.h.cell 3); have Hk := Lib.hid (Hst.out.k.trans hkj.of_drew (by simp)))))
    go_wp2
    go_ret2
    exact ⟨line_end _ _ (by first | (simp [ownL]; done) | (simp [ownL]; omega)), Hid.out ‹_›⟩
  · go_region_held3 (fun w' => w'.cell? ⟨gA, 0, none⟩ = some (.int .i64 4) ∧ w'.cell? ⟨gA, 1, none⟩ = some (.int .i64 node) ∧ w'.cell? ⟨gA, 2, none⟩ = some (.int .i64 k) ∧ w'.cell? ⟨gA, 3, none⟩ = some (.int .i64 bit) ∧ w'.cell? ⟨gH, 0, none⟩ = some (.int .i64 4) ∧ w'.cell? ⟨gH, 1, none⟩ = some (.int .i64 0) ∧ w'.cell? ⟨gH, 2, none⟩ = some (.int .i64 k) ∧ w'.cell? ⟨gH, 3, none⟩ = some (.int .i64 0)) (first | exact ⟨by assumption, by assumption, by assumption, by assumption, by assumption, by assumption, by assumption, by assumption⟩ | exact ⟨Hst.out.a.cell 0, Hst.out.a.cell 1, Hst.out.a.cell 2, Hst.out.a.cell 3, Hst.out.h.cell 0, Hst.out.h.cell 1, Hst.out.h.cell 2, Hst.out.h.cell 3⟩ | go_keep)
      (first | (go_at_call 61; go_must (refine (hj.out _ ((Keep.refl [] _).drewN 1)).mono ?_; rintro e wj ⟨rfl, hkj⟩; have q0 := cell_keep0 hkj.of_drew (Hst.out.a.cell 0); have q1 := cell_keep0 hkj.of_drew (Hst.out.a.cell 1); have q2 := cell_keep0 hkj.of_drew (Hst.out.a.cell 2); have q3 := cell_keep0 hkj.of_drew (Hst.out.a.cell 3); have q4 := cell_keep0 hkj.of_drew (Hst.out.h.cell 0); have q5 := cell_keep0 hkj.of_drew (Hst.out.h.cell 1); have q6 := cell_keep0 hkj.of_drew (Hst.out.h.cell 2); have q7 := cell_keep0 hkj.of_drew (Hst.out.h.cell 3); have Hk := Lib.hid (Hst.out.k.trans hkj.of_drew (by simp)))))
    go_wp2
    go_ret2
    exact ⟨line_end _ _ (by first | (simp [ownL]; done) | (simp [ownL]; omega)), Hid.out ‹_›⟩

set_option maxRecDepth 100000 in
set_option maxHeartbeats 3200000 in
theorem line_5 (w : World) (hE : Env w) (s : ST) (hs : s.In) (hk : s.kind = 5) : Calls Tryd.prog 45 #[stV s] w (LinePost s w) := by
  obtain ⟨kind, node, k, bit⟩ := s
  simp only at hk
  subst hk
  have kA : Keep [] w (w.alloc (.cells #[.int .i64 5, .int .i64 node, .int .i64 k, .int .i64 bit] 38)) := (Keep.refl _ _).alloc _
  have bA : Blk (w.alloc (.cells #[.int .i64 5, .int .i64 node, .int .i64 k, .int .i64 bit] 38)) w.heap.size 38 (stC ⟨5, node, k, bit⟩) := Blk.new' _ _ _ _ rfl
  have H := Lib.hid (And.intro kA bA)
  have HE := Lib.hid hE
  have HS := Lib.hid hs
  unfold stV
  simp only at *
  clear hs kA bA hE
  go_enter Tryd.func45, Tryd.ntmps45
  go_wp2_with fail
  generalize w.alloc (.cells #[.int .i64 5, .int .i64 node, .int .i64 k, .int .i64 bit] 38) = wA at *
  generalize w.heap.size = gA at *
  have hcA : wA.cell? ⟨gA, 0, none⟩ = some (.int .i64 5) := H.out.2.cell 0
  go_region_held3 (fun w' => w'.cell? ⟨gA, 0, none⟩ = some (.int .i64 5)) (first | assumption | go_keep)
    (first | (go_at_call 58; go_must (refine (words_spec _).mono ?_; rintro e w1 ⟨rfl, hm⟩; have hl : (Instr.lookup 114 (.map (some wA.heap.size)) (.int .i64 5) true).run Tryd.prog w1 = .ok (.tuple #[.string (strB (fullL 5)), .bool true]) w1 := look_word hm (by decide) (by decide) 0; have hc : w1.cell? ⟨gA, 0, none⟩ = some (.int .i64 5) := cell_keep0 hm.2.1.of_drew (H.out.2.cell 0); have hk1 := Lib.hid (hm.2.1.of_drew))))
  have hk2 := H.out.1.trans hk1.out (by simp)
  have hsp := split_k (HE.out.keep hk2) 5 [kDup, [107]] 2 (by decide) rfl (by decide)
  have HSP := Lib.hid hsp
  have B1 := Lib.hid (And.intro hk2 (H.out.2.keep hk1.out (by simp)))
  clear hk2 hsp hl hc hcA hm hk1 H
  go_wp2_with fail
  refine HSP.out.mono ?_
  rintro e w2 ⟨rfl, hl2, hk2, hsz⟩
  have b2 := B1.out.2.keep hk2 (by simp)
  have c0 : w2.cell? ⟨gA, 0, none⟩ = some (.int .i64 5) := b2.cell 0
  have hst : LSt gA w2.heap.size w1.heap.size ⟨5, node, k, bit⟩ ⟨5, 0, 0, 0⟩ [⟨#[100, 117, 112]⟩, ⟨#[107]⟩] w (w2.alloc (.cells #[.int .i64 5, .int .i64 0, .int .i64 0, .int .i64 0] 38)) :=
    ⟨b2.alloc _, Blk.new' _ _ _ _ rfl, hl2.alloc _, (B1.out.1.trans hk2 (by simp)).alloc _, Nat.le_trans B1.out.1.size hk2.size, B1.out.1.size, Nat.ne_of_lt b2.lt⟩
  have Hst := Lib.hid hst
  clear b2 hst hsz hl2 hk2 HSP B1
  go_upto_region 7 with fail
  generalize w2.alloc (.cells #[.int .i64 5, .int .i64 0, .int .i64 0, .int .i64 0] 38) = w3 at *
  generalize w2.heap.size = gH at *
  generalize w1.heap.size = gL at *
  clear c0
  have l0 : w3.cell? ⟨gL, 0, none⟩ = some (.string ⟨#[100, 117, 112]⟩) := Hst.out.l.cell 0
  refine wp_loop_rounds 3 ?_
  rw [rounds_succ]
  go_wp2_with fail
  clear l0
  have l1 : w3.cell? ⟨gL, 1, none⟩ = some (.string ⟨#[107]⟩) := Hst.out.l.cell 1
  have a1 : w3.cell? ⟨gA, 2, none⟩ = some (.int .i64 k) := Hst.out.a.cell 2
  have h1 : w3.cell? ⟨gH, 2, none⟩ = some (.int .i64 0) := Hst.out.h.cell 2
  have f1 : w3.frozen? ⟨gH, 2, none⟩ = false := Hst.out.h.frozen 2
  rw [rounds_succ]
  go_upto_region 11 with (first | (go_at_call 60; refine (field_k _ _).mono ?_; rintro e w' ⟨rfl, rfl⟩))
  have Hst2 := Lib.hid (Hst.out.setH 2 (.int .i64 k) ⟨5, 0, k, 0⟩ rfl)
  clear l1 a1 h1 f1 Hst
  generalize w3.setCell ⟨gH, 2, none⟩ (.int .i64 k) = w4 at *
  have a1 : w4.cell? ⟨gA, 2, none⟩ = some (.int .i64 k) := Hst2.out.a.cell 2
  have hit := Lib.hid (itoa_spec (HE.out.keep Hst2.out.k) HS.out.k)
  go_wp2_with (first | (go_at_call 60; refine (field_k _ _).mono ?_; rintro e w' ⟨rfl, rfl⟩))
  refine hit.out.mono ?_
  rintro e w5 ⟨rfl, hkw⟩
  have Hst3 := Lib.hid (Hst2.out.keep hkw)
  clear a1 hit hkw Hst2
  have l1 : w5.cell? ⟨gL, 1, none⟩ = some (.string ⟨#[107]⟩) := Hst3.out.l.cell 1
  have f1 : w5.frozen? ⟨gL, 1, none⟩ = false := Hst3.out.l.frozen 1
  go_wp2_with fail
  have Hst := Lib.hid (show LSt gA gH gL _ _ [⟨#[100, 117, 112]⟩, itoaB k] w _ from Hst3.out.setL 1 (itoaB k))
  clear l1 f1 Hst3
  generalize w5.setCell ⟨gL, 1, none⟩ (.string (itoaB k)) = w6 at *
  rw [rounds_succ]
  go_wp2_with fail
  have hj := Lib.hid (fun (w' : World) (kk : Keep [] w6 w') => join_spec (n := 2) (ps := partsL ⟨5, node, k, bit⟩) (Hst.out.l.keep kk (by simp)) rfl (by simp [partsL, wordL, fieldsL, itoaB, strB_data, kDup]) (by simp [partsL]) (line_len HS.out))
  rcases (show (node = 0 ∧ bit = 0) ∨ (node = 0 ∧ ¬ (0 : Int) = bit) ∨ (¬ (0 : Int) = node) by omega) with ⟨rfl, rfl⟩ | ⟨rfl, hne⟩ | hne
  · go_region_held3 (fun w' => w'.cell? ⟨gA, 0, none⟩ = some (.int .i64 5) ∧ w'.cell? ⟨gA, 1, none⟩ = some (.int .i64 0) ∧ w'.cell? ⟨gA, 2, none⟩ = some (.int .i64 k) ∧ w'.cell? ⟨gA, 3, none⟩ = some (.int .i64 0) ∧ w'.cell? ⟨gH, 0, none⟩ = some (.int .i64 5) ∧ w'.cell? ⟨gH, 1, none⟩ = some (.int .i64 0) ∧ w'.cell? ⟨gH, 2, none⟩ = some (.int .i64 k) ∧ w'.cell? ⟨gH, 3, none⟩ = some (.int .i64 0)) (first | exact ⟨by assumption, by assumption, by assumption, by assumption, by assumption, by assumption, by assumption, by assumption⟩ | exact ⟨Hst.out.a.cell 0, Hst.out.a.cell 1, Hst.out.a.cell 2, Hst.out.a.cell 3, Hst.out.h.cell 0, Hst.out.h.cell 1, Hst.out.h.cell 2, Hst.out.h.cell 3⟩ | go_keep)
      (first | (go_at_call 61; go_must (refine (hj.out _ ((Keep.refl [] _).drewN 1)).mono ?_; rintro e wj ⟨rfl, hkj⟩; have q0 := cell_keep0 hkj.of_drew (Hst.out.a.cell 0); have q1 := cell_keep0 hkj.of_drew (Hst.out.a.cell 1); have q2 := cell_keep0 hkj.of_drew (Hst.out.a.cell 2); have q3 := cell_keep0 hkj.of_drew (Hst.out.a.cell 3); have q4 := cell_keep0 hkj.of_drew (Hst.out.h.cell 0); have q5 := cell_keep0 hkj.of_drew (Hst.out.h.cell 1); have q6 := cell_keep0 hkj.of_drew (Hst.out.h.cell 2); have q7 := cell_keep0 hkj.of_drew (Hst.out.h.cell 3); have Hk := Lib.hid (Hst.out.k.trans hkj.of_drew (by simp)))))
    go_wp2
    go_ret2
    exact ⟨line_end _ _ (by first | (simp [ownL]; done) | (simp [ownL]; omega)), Hid.out ‹_›⟩
  · go_region_held3 (fun w' => w'.cell? ⟨gA, 0, none⟩ = some (.int .i64 5) ∧ w'.cell? ⟨gA, 1, none⟩ = some (.int .i64 0) ∧ w'.cell? ⟨gA, 2, none⟩ = some (.int .i64 k) ∧ w'.cell? ⟨gA, 3, none⟩ = some (.int .i64 bit) ∧ w'.cell? ⟨gH, 0, none⟩ = some (.int .i64 5) ∧ w'.cell? ⟨gH, 1, none⟩ = some (.int .i64 0) ∧ w'.cell? ⟨gH, 2, none⟩ = some (.int .i64 k) ∧ w'.cell? ⟨gH, 3, none⟩ = some (.int .i64 0)) (first | exact ⟨by assumption, by assumption, by assumption, by assumption, by assumption, by assumption, by assumption, by assumption⟩ | exact ⟨Hst.out.a.cell 0, Hst.out.a.cell 1, Hst.out.a.cell 2, Hst.out.a.cell 3, Hst.out.h.cell 0, Hst.out.h.cell 1, Hst.out.h.cell 2, Hst.out.h.cell 3⟩ | go_keep)
      (first | (go_at_call 61; go_must (refine (hj.out _ ((Keep.refl [] _).drewN 1)).mono ?_; rintro e wj ⟨rfl, hkj⟩; have q0 := cell_keep0 hkj.of_drew (Hst.out.a.cell 0); have q1 := cell_keep0 hkj.of_drew (Hst.out.a.cell 1); have q2 := cell_keep0 hkj.of_drew (Hst.out.a.cell 2); have q3 := cell_keep0 hkj.of_drew (Hst.out.a.cell 3); have q4 := cell_keep0 hkj.of_drew (Hst.out.h.cell 0); have q5 := cell_keep0 hkj.of_drew (Hst.out.h.cell 1); have q6 := cell_keep0 hkj.of_drew (Hst.out.h.cell 2); have q7 := cell_keep0 hkj.of_drew (Hst.out.h.cell 3); have Hk := Lib.hid (Hst.out.k.trans hkj.of_drew (by simp)))))
    go_wp2
    go_ret2
    exact ⟨line_end _ _ (by first | (simp [ownL]; done) | (simp [ownL]; omega)), Hid.out ‹_›⟩
  · go_region_held3 (fun w' => w'.cell? ⟨gA, 0, none⟩ = some (.int .i64 5) ∧ w'.cell? ⟨gA, 1, none⟩ = some (.int .i64 node) ∧ w'.cell? ⟨gA, 2, none⟩ = some (.int .i64 k) ∧ w'.cell? ⟨gA, 3, none⟩ = some (.int .i64 bit) ∧ w'.cell? ⟨gH, 0, none⟩ = some (.int .i64 5) ∧ w'.cell? ⟨gH, 1, none⟩ = some (.int .i64 0) ∧ w'.cell? ⟨gH, 2, none⟩ = some (.int .i64 k) ∧ w'.cell? ⟨gH, 3, none⟩ = some (.int .i64 0)) (first | exact ⟨by assumption, by assumption, by assumption, by assumption, by assumption, by assumption, by assumption, by assumption⟩ | exact ⟨Hst.out.a.cell 0, Hst.out.a.cell 1, Hst.out.a.cell 2, Hst.out.a.cell 3, Hst.out.h.cell 0, Hst.out.h.cell 1, Hst.out.h.cell 2, Hst.out.h.cell 3⟩ | go_keep)
      (first | (go_at_call 61; go_must (refine (hj.out _ ((Keep.refl [] _).drewN 1)).mono ?_; rintro e wj ⟨rfl, hkj⟩; have q0 := cell_keep0 hkj.of_drew (Hst.out.a.cell 0); have q1 := cell_keep0 hkj.of_drew (Hst.out.a.cell 1); have q2 := cell_keep0 hkj.of_drew (Hst.out.a.cell 2); have q3 := cell_keep0 hkj.of_drew (Hst.out.a.cell 3); have q4 := cell_keep0 hkj.of_drew (Hst.out.h.cell 0); have q5 := cell_keep0 hkj.of_drew (Hst.out.h.cell 1); have q6 := cell_keep0 hkj.of_drew (Hst.out.h.cell 2); have q7 := cell_keep0 hkj.of_drew (Hst.out.h.cell 3); have Hk := Lib.hid (Hst.out.k.trans hkj.of_drew (by simp)))))
    go_wp2
    go_ret2
    exact ⟨line_end _ _ (by first | (simp [ownL]; done) | (simp [ownL]; omega)), Hid.out ‹_›⟩

set_option maxRecDepth 100000 in
set_option maxHeartbeats 3200000 in
theorem line_6 (w : World) (hE : Env w) (s : ST) (hs : s.In) (hk : s.kind = 6) : Calls Tryd.prog 45 #[stV s] w (LinePost s w) := by
  obtain ⟨kind, node, k, bit⟩ := s
  simp only at hk
  subst hk
  have kA : Keep [] w (w.alloc (.cells #[.int .i64 6, .int .i64 node, .int .i64 k, .int .i64 bit] 38)) := (Keep.refl _ _).alloc _
  have bA : Blk (w.alloc (.cells #[.int .i64 6, .int .i64 node, .int .i64 k, .int .i64 bit] 38)) w.heap.size 38 (stC ⟨6, node, k, bit⟩) := Blk.new' _ _ _ _ rfl
  have H := Lib.hid (And.intro kA bA)
  have HE := Lib.hid hE
  have HS := Lib.hid hs
  unfold stV
  simp only at *
  clear hs kA bA hE
  go_enter Tryd.func45, Tryd.ntmps45
  go_wp2_with fail
  generalize w.alloc (.cells #[.int .i64 6, .int .i64 node, .int .i64 k, .int .i64 bit] 38) = wA at *
  generalize w.heap.size = gA at *
  have hcA : wA.cell? ⟨gA, 0, none⟩ = some (.int .i64 6) := H.out.2.cell 0
  go_region_held3 (fun w' => w'.cell? ⟨gA, 0, none⟩ = some (.int .i64 6)) (first | assumption | go_keep)
    (first | (go_at_call 58; go_must (refine (words_spec _).mono ?_; rintro e w1 ⟨rfl, hm⟩; have hl : (Instr.lookup 114 (.map (some wA.heap.size)) (.int .i64 6) true).run Tryd.prog w1 = .ok (.tuple #[.string (strB (fullL 6)), .bool true]) w1 := look_word hm (by decide) (by decide) 0; have hc : w1.cell? ⟨gA, 0, none⟩ = some (.int .i64 6) := cell_keep0 hm.2.1.of_drew (H.out.2.cell 0); have hk1 := Lib.hid (hm.2.1.of_drew))))
  have hk2 := H.out.1.trans hk1.out (by simp)
  have hsp := split_k (HE.out.keep hk2) 6 [kFlip, [107], [98]] 3 (by decide) rfl (by decide)
  have HSP := Lib.hid hsp
  have B1 := Lib.hid (And.intro hk2 (H.out.2.keep hk1.out (by simp)))
  clear hk2 hsp hl hc hcA hm hk1 H
  go_wp2_with fail
  refine HSP.out.mono ?_
  rintro e w2 ⟨rfl, hl2, hk2, hsz⟩
  have b2 := B1.out.2.keep hk2 (by simp)
  have c0 : w2.cell? ⟨gA, 0, none⟩ = some (.int .i64 6) := b2.cell 0
  have hst : LSt gA w2.heap.size w1.heap.size ⟨6, node, k, bit⟩ ⟨6, 0, 0, 0⟩ [⟨#[102, 108, 105, 112]⟩, ⟨#[107]⟩, ⟨#[98]⟩] w (w2.alloc (.cells #[.int .i64 6, .int .i64 0, .int .i64 0, .int .i64 0] 38)) :=
    ⟨b2.alloc _, Blk.new' _ _ _ _ rfl, hl2.alloc _, (B1.out.1.trans hk2 (by simp)).alloc _, Nat.le_trans B1.out.1.size hk2.size, B1.out.1.size, Nat.ne_of_lt b2.lt⟩
  have Hst := Lib.hid hst
  clear b2 hst hsz hl2 hk2 HSP B1
  go_upto_region 7 with fail
  generalize w2.alloc (.cells #[.int .i64 6, .int .i64 0, .int .i64 0, .int .i64 0] 38) = w3 at *
  generalize w2.heap.size = gH at *
  generalize w1.heap.size = gL at *
  clear c0
  have l0 : w3.cell? ⟨gL, 0, none⟩ = some (.string ⟨#[102, 108, 105, 112]⟩) := Hst.out.l.cell 0
  refine wp_loop_rounds 4 ?_
  rw [rounds_succ]
  go_wp2_with fail
  clear l0
  have l1 : w3.cell? ⟨gL, 1, none⟩ = some (.string ⟨#[107]⟩) := Hst.out.l.cell 1
  have a1 : w3.cell? ⟨gA, 2, none⟩ = some (.int .i64 k) := Hst.out.a.cell 2
  have h1 : w3.cell? ⟨gH, 2, none⟩ = some (.int .i64 0) := Hst.out.h.cell 2
  have f1 : w3.frozen? ⟨gH, 2, none⟩ = false := Hst.out.h.frozen 2
  rw [rounds_succ]
  go_upto_region 11 with (first | (go_at_call 60; refine (field_k _ _).mono ?_; rintro e w' ⟨rfl, rfl⟩))
  have Hst2 := Lib.hid (Hst.out.setH 2 (.int .i64 k) ⟨6, 0, k, 0⟩ rfl)
  clear l1 a1 h1 f1 Hst
  generalize w3.setCell ⟨gH, 2, none⟩ (.int .i64 k) = w4 at *
  have a1 : w4.cell? ⟨gA, 2, none⟩ = some (.int .i64 k) := Hst2.out.a.cell 2
  have hit := Lib.hid (itoa_spec (HE.out.keep Hst2.out.k) HS.out.k)
  go_wp2_with (first | (go_at_call 60; refine (field_k _ _).mono ?_; rintro e w' ⟨rfl, rfl⟩))
  refine hit.out.mono ?_
  rintro e w5 ⟨rfl, hkw⟩
  have Hst3 := Lib.hid (Hst2.out.keep hkw)
  clear a1 hit hkw Hst2
  have l1 : w5.cell? ⟨gL, 1, none⟩ = some (.string ⟨#[107]⟩) := Hst3.out.l.cell 1
  have f1 : w5.frozen? ⟨gL, 1, none⟩ = false := Hst3.out.l.frozen 1
  go_wp2_with fail
  have Hst := Lib.hid (show LSt gA gH gL _ _ [⟨#[102, 108, 105, 112]⟩, itoaB k, ⟨#[98]⟩] w _ from Hst3.out.setL 1 (itoaB k))
  clear l1 f1 Hst3
  generalize w5.setCell ⟨gL, 1, none⟩ (.string (itoaB k)) = w6 at *
  have l1 : w6.cell? ⟨gL, 2, none⟩ = some (.string ⟨#[98]⟩) := Hst.out.l.cell 2
  have a1 : w6.cell? ⟨gA, 3, none⟩ = some (.int .i64 bit) := Hst.out.a.cell 3
  have h1 : w6.cell? ⟨gH, 3, none⟩ = some (.int .i64 0) := Hst.out.h.cell 3
  have f1 : w6.frozen? ⟨gH, 3, none⟩ = false := Hst.out.h.frozen 3
  rw [rounds_succ]
  go_upto_region 11 with (first | (go_at_call 60; refine (field_b _ _).mono ?_; rintro e w' ⟨rfl, rfl⟩))
  have Hst2 := Lib.hid (Hst.out.setH 3 (.int .i64 bit) ⟨6, 0, k, bit⟩ rfl)
  clear l1 a1 h1 f1 Hst
  generalize w6.setCell ⟨gH, 3, none⟩ (.int .i64 bit) = w7 at *
  have a1 : w7.cell? ⟨gA, 3, none⟩ = some (.int .i64 bit) := Hst2.out.a.cell 3
  have hit := Lib.hid (itoa_spec (HE.out.keep Hst2.out.k) HS.out.bit)
  go_wp2_with (first | (go_at_call 60; refine (field_b _ _).mono ?_; rintro e w' ⟨rfl, rfl⟩))
  refine hit.out.mono ?_
  rintro e w8 ⟨rfl, hkw⟩
  have Hst3 := Lib.hid (Hst2.out.keep hkw)
  clear a1 hit hkw Hst2
  have l1 : w8.cell? ⟨gL, 2, none⟩ = some (.string ⟨#[98]⟩) := Hst3.out.l.cell 2
  have f1 : w8.frozen? ⟨gL, 2, none⟩ = false := Hst3.out.l.frozen 2
  go_wp2_with fail
  have Hst := Lib.hid (show LSt gA gH gL _ _ [⟨#[102, 108, 105, 112]⟩, itoaB k, itoaB bit] w _ from Hst3.out.setL 2 (itoaB bit))
  clear l1 f1 Hst3
  generalize w8.setCell ⟨gL, 2, none⟩ (.string (itoaB bit)) = w9 at *
  rw [rounds_succ]
  go_wp2_with fail
  have hj := Lib.hid (fun (w' : World) (kk : Keep [] w9 w') => join_spec (n := 3) (ps := partsL ⟨6, node, k, bit⟩) (Hst.out.l.keep kk (by simp)) rfl (by simp [partsL, wordL, fieldsL, itoaB, strB_data, kFlip]) (by simp [partsL]) (line_len HS.out))
  rcases (show (node = 0) ∨ (¬ (0 : Int) = node) by omega) with rfl | hne
  · go_region_held3 (fun w' => w'.cell? ⟨gA, 0, none⟩ = some (.int .i64 6) ∧ w'.cell? ⟨gA, 1, none⟩ = some (.int .i64 0) ∧ w'.cell? ⟨gA, 2, none⟩ = some (.int .i64 k) ∧ w'.cell? ⟨gA, 3, none⟩ = some (.int .i64 bit) ∧ w'.cell? ⟨gH, 0, none⟩ = some (.int .i64 6) ∧ w'.cell? ⟨gH, 1, none⟩ = some (.int .i64 0) ∧ w'.cell? ⟨gH, 2, none⟩ = some (.int .i64 k) ∧ w'.cell? ⟨gH, 3, none⟩ = some (.int .i64 bit)) (first | exact ⟨by assumption, by assumption, by assumption, by assumption, by assumption, by assumption, by assumption, by assumption⟩ | exact ⟨Hst.out.a.cell 0, Hst.out.a.cell 1, Hst.out.a.cell 2, Hst.out.a.cell 3, Hst.out.h.cell 0, Hst.out.h.cell 1, Hst.out.h.cell 2, Hst.out.h.cell 3⟩ | go_keep)
      (first | (go_at_call 61; go_must (refine (hj.out _ ((Keep.refl [] _).drewN 1)).mono ?_; rintro e wj ⟨rfl, hkj⟩; have q0 := cell_keep0 hkj.of_drew (Hst.out.a.cell 0); have q1 := cell_keep0 hkj.of_drew (Hst.out.a.cell 1); have q2 := cell_keep0 hkj.of_drew (Hst.out.a.cell 2); have q3 := cell_keep0 hkj.of_drew (Hst.out.a.cell 3); have q4 := cell_keep0 hkj.of_drew (Hst.out.h.cell 0); have q5 := cell_keep0 hkj.of_drew (Hst.out.h.cell 1); have q6 := cell_keep0 hkj.of_drew (Hst.out.h.cell 2); have q7 := cell_keep0 hkj.of_drew (Hst.out.h.cell 3); have Hk := Lib.hid (Hst.out.k.trans hkj.of_drew (by simp)))))
    go_wp2
    go_ret2
    exact ⟨line_end _ _ (by first | (simp [ownL]; done) | (simp [ownL]; omega)), Hid.out ‹_›⟩
  · go_region_held3 (fun w' => w'.cell? ⟨gA, 0, none⟩ = some (.int .i64 6) ∧ w'.cell? ⟨gA, 1, none⟩ = some (.int .i64 node) ∧ w'.cell? ⟨gA, 2, none⟩ = some (.int .i64 k) ∧ w'.cell? ⟨gA, 3, none⟩ = some (.int .i64 bit) ∧ w'.cell? ⟨gH, 0, none⟩ = some (.int .i64 6) ∧ w'.cell? ⟨gH, 1, none⟩ = some (.int .i64 0) ∧ w'.cell? ⟨gH, 2, none⟩ = some (.int .i64 k) ∧ w'.cell? ⟨gH, 3, none⟩ = some (.int .i64 bit)) (first | exact ⟨by assumption, by assumption, by assumption, by assumption, by assumption, by assumption, by assumption, by assumption⟩ | exact ⟨Hst.out.a.cell 0, Hst.out.a.cell 1, Hst.out.a.cell 2, Hst.out.a.cell 3, Hst.out.h.cell 0, Hst.out.h.cell 1, Hst.out.h.cell 2, Hst.out.h.cell 3⟩ | go_keep)
      (first | (go_at_call 61; go_must (refine (hj.out _ ((Keep.refl [] _).drewN 1)).mono ?_; rintro e wj ⟨rfl, hkj⟩; have q0 := cell_keep0 hkj.of_drew (Hst.out.a.cell 0); have q1 := cell_keep0 hkj.of_drew (Hst.out.a.cell 1); have q2 := cell_keep0 hkj.of_drew (Hst.out.a.cell 2); have q3 := cell_keep0 hkj.of_drew (Hst.out.a.cell 3); have q4 := cell_keep0 hkj.of_drew (Hst.out.h.cell 0); have q5 := cell_keep0 hkj.of_drew (Hst.out.h.cell 1); have q6 := cell_keep0 hkj.of_drew (Hst.out.h.cell 2); have q7 := cell_keep0 hkj.of_drew (Hst.out.h.cell 3); have Hk := Lib.hid (Hst.out.k.trans hkj.of_drew (by simp)))))
    go_wp2
    go_ret2
    exact ⟨line_end _ _ (by first | (simp [ownL]; done) | (simp [ownL]; omega)), Hid.out ‹_›⟩

set_option maxRecDepth 100000 in
set_option maxHeartbeats 3200000 in
theorem line_7 (w : World) (hE : Env w) (s : ST) (hs : s.In) (hk : s.kind = 7) : Calls Tryd.prog 45 #[stV s] w (LinePost s w) := by
  obtain ⟨kind, node, k, bit⟩ := s
  simp only at hk
  subst hk
  have kA : Keep [] w (w.alloc (.cells #[.int .i64 7, .int .i64 node, .int .i64 k, .int .i64 bit] 38)) := (Keep.refl _ _).alloc _
  have bA : Blk (w.alloc (.cells #[.int .i64 7, .int .i64 node, .int .i64 k, .int .i64 bit] 38)) w.heap.size 38 (stC ⟨7, node, k, bit⟩) := Blk.new' _ _ _ _ rfl
  have H := Lib.hid (And.intro kA bA)
  have HE := Lib.hid hE
  have HS := Lib.hid hs
  unfold stV
  simp only at *
  clear hs kA bA hE
  go_enter Tryd.func45, Tryd.ntmps45
  go_wp2_with fail
  generalize w.alloc (.cells #[.int .i64 7, .int .i64 node, .int .i64 k, .int .i64 bit] 38) = wA at *
  generalize w.heap.size = gA at *
  have hcA : wA.cell? ⟨gA, 0, none⟩ = some (.int .i64 7) := H.out.2.cell 0
  go_region_held3 (fun w' => w'.cell? ⟨gA, 0, none⟩ = some (.int .i64 7)) (first | assumption | go_keep)
    (first | (go_at_call 58; go_must (refine (words_spec _).mono ?_; rintro e w1 ⟨rfl, hm⟩; have hl : (Instr.lookup 114 (.map (some wA.heap.size)) (.int .i64 7) true).run Tryd.prog w1 = .ok (.tuple #[.string (strB (fullL 7)), .bool true]) w1 := look_word hm (by decide) (by decide) 0; have hc : w1.cell? ⟨gA, 0, none⟩ = some (.int .i64 7) := cell_keep0 hm.2.1.of_drew (H.out.2.cell 0); have hk1 := Lib.hid (hm.2.1.of_drew))))
  have hk2 := H.out.1.trans hk1.out (by simp)
  have hsp := split_k (HE.out.keep hk2) 7 [kCrash, [110]] 2 (by decide) rfl (by decide)
  have HSP := Lib.hid hsp
  have B1 := Lib.hid (And.intro hk2 (H.out.2.keep hk1.out (by simp)))
  clear hk2 hsp hl hc hcA hm hk1 H
  go_wp2_with fail
  refine HSP.out.mono ?_
  rintro e w2 ⟨rfl, hl2, hk2, hsz⟩
  have b2 := B1.out.2.keep hk2 (by simp)
  have c0 : w2.cell? ⟨gA, 0, none⟩ = some (.int .i64 7) := b2.cell 0
  have hst : LSt gA w2.heap.size w1.heap.size ⟨7, node, k, bit⟩ ⟨7, 0, 0, 0⟩ [⟨#[99, 114, 97, 115, 104]⟩, ⟨#[110]⟩] w (w2.alloc (.cells #[.int .i64 7, .int .i64 0, .int .i64 0, .int .i64 0] 38)) :=
    ⟨b2.alloc _, Blk.new' _ _ _ _ rfl, hl2.alloc _, (B1.out.1.trans hk2 (by simp)).alloc _, Nat.le_trans B1.out.1.size hk2.size, B1.out.1.size, Nat.ne_of_lt b2.lt⟩
  have Hst := Lib.hid hst
  clear b2 hst hsz hl2 hk2 HSP B1
  go_upto_region 7 with fail
  generalize w2.alloc (.cells #[.int .i64 7, .int .i64 0, .int .i64 0, .int .i64 0] 38) = w3 at *
  generalize w2.heap.size = gH at *
  generalize w1.heap.size = gL at *
  clear c0
  have l0 : w3.cell? ⟨gL, 0, none⟩ = some (.string ⟨#[99, 114, 97, 115, 104]⟩) := Hst.out.l.cell 0
  refine wp_loop_rounds 3 ?_
  rw [rounds_succ]
  go_wp2_with fail
  clear l0
  have l1 : w3.cell? ⟨gL, 1, none⟩ = some (.string ⟨#[110]⟩) := Hst.out.l.cell 1
  have a1 : w3.cell? ⟨gA, 1, none⟩ = some (.int .i64 node) := Hst.out.a.cell 1
  have h1 : w3.cell? ⟨gH, 1, none⟩ = some (.int .i64 0) := Hst.out.h.cell 1
  have f1 : w3.frozen? ⟨gH, 1, none⟩ = false := Hst.out.h.frozen 1
  rw [rounds_succ]
  go_upto_region 11 with (first | (go_at_call 60; refine (field_n _ _).mono ?_; rintro e w' ⟨rfl, rfl⟩))
  have Hst2 := Lib.hid (Hst.out.setH 1 (.int .i64 node) ⟨7, node, 0, 0⟩ rfl)
  clear l1 a1 h1 f1 Hst
  generalize w3.setCell ⟨gH, 1, none⟩ (.int .i64 node) = w4 at *
  have a1 : w4.cell? ⟨gA, 1, none⟩ = some (.int .i64 node) := Hst2.out.a.cell 1
  have hit := Lib.hid (itoa_spec (HE.out.keep Hst2.out.k) HS.out.node)
  go_wp2_with (first | (go_at_call 60; refine (field_n _ _).mono ?_; rintro e w' ⟨rfl, rfl⟩))
  refine hit.out.mono ?_
  rintro e w5 ⟨rfl, hkw⟩
  have Hst3 := Lib.hid (Hst2.out.keep hkw)
  clear a1 hit hkw Hst2
  have l1 : w5.cell? ⟨gL, 1, none⟩ = some (.string ⟨#[110]⟩) := Hst3.out.l.cell 1
  have f1 : w5.frozen? ⟨gL, 1, none⟩ = false := Hst3.out.l.frozen 1
  go_wp2_with fail
  have Hst := Lib.hid (show LSt gA gH gL _ _ [⟨#[99, 114, 97, 115, 104]⟩, itoaB node] w _ from Hst3.out.setL 1 (itoaB node))
  clear l1 f1 Hst3
  generalize w5.setCell ⟨gL, 1, none⟩ (.string (itoaB node)) = w6 at *
  rw [rounds_succ]
  go_wp2_with fail
  have hj := Lib.hid (fun (w' : World) (kk : Keep [] w6 w') => join_spec (n := 2) (ps := partsL ⟨7, node, k, bit⟩) (Hst.out.l.keep kk (by simp)) rfl (by simp [partsL, wordL, fieldsL, itoaB, strB_data, kCrash]) (by simp [partsL]) (line_len HS.out))
  rcases (show (k = 0 ∧ bit = 0) ∨ (k = 0 ∧ ¬ (0 : Int) = bit) ∨ (¬ (0 : Int) = k) by omega) with ⟨rfl, rfl⟩ | ⟨rfl, hne⟩ | hne
  · go_region_held3 (fun w' => w'.cell? ⟨gA, 0, none⟩ = some (.int .i64 7) ∧ w'.cell? ⟨gA, 1, none⟩ = some (.int .i64 node) ∧ w'.cell? ⟨gA, 2, none⟩ = some (.int .i64 0) ∧ w'.cell? ⟨gA, 3, none⟩ = some (.int .i64 0) ∧ w'.cell? ⟨gH, 0, none⟩ = some (.int .i64 7) ∧ w'.cell? ⟨gH, 1, none⟩ = some (.int .i64 node) ∧ w'.cell? ⟨gH, 2, none⟩ = some (.int .i64 0) ∧ w'.cell? ⟨gH, 3, none⟩ = some (.int .i64 0)) (first | exact ⟨by assumption, by assumption, by assumption, by assumption, by assumption, by assumption, by assumption, by assumption⟩ | exact ⟨Hst.out.a.cell 0, Hst.out.a.cell 1, Hst.out.a.cell 2, Hst.out.a.cell 3, Hst.out.h.cell 0, Hst.out.h.cell 1, Hst.out.h.cell 2, Hst.out.h.cell 3⟩ | go_keep)
      (first | (go_at_call 61; go_must (refine (hj.out _ ((Keep.refl [] _).drewN 1)).mono ?_; rintro e wj ⟨rfl, hkj⟩; have q0 := cell_keep0 hkj.of_drew (Hst.out.a.cell 0); have q1 := cell_keep0 hkj.of_drew (Hst.out.a.cell 1); have q2 := cell_keep0 hkj.of_drew (Hst.out.a.cell 2); have q3 := cell_keep0 hkj.of_drew (Hst.out.a.cell 3); have q4 := cell_keep0 hkj.of_drew (Hst.out.h.cell 0); have q5 := cell_keep0 hkj.of_drew (Hst.out.h.cell 1); have q6 := cell_keep0 hkj.of_drew (Hst.out.h.cell 2); have q7 := cell_keep0 hkj.of_drew (Hst.out.h.cell 3); have Hk := Lib.hid (Hst.out.k.trans hkj.of_drew (by simp)))))
    go_wp2
    go_ret2
    exact ⟨line_end _ _ (by first | (simp [ownL]; done) | (simp [ownL]; omega)), Hid.out ‹_›⟩
  · go_region_held3 (fun w' => w'.cell? ⟨gA, 0, none⟩ = some (.int .i64 7) ∧ w'.cell? ⟨gA, 1, none⟩ = some (.int .i64 node) ∧ w'.cell? ⟨gA, 2, none⟩ = some (.int .i64 0) ∧ w'.cell? ⟨gA, 3, none⟩ = some (.int .i64 bit) ∧ w'.cell? ⟨gH, 0, none⟩ = some (.int .i64 7) ∧ w'.cell? ⟨gH, 1, none⟩ = some (.int .i64 node) ∧ w'.cell? ⟨gH, 2, none⟩ = some (.int .i64 0) ∧ w'.cell? ⟨gH, 3, none⟩ = some (.int .i64 0)) (first | exact ⟨by assumption, by assumption, by assumption, by assumption, by assumption, by assumption, by assumption, by assumption⟩ | exact ⟨Hst.out.a.cell 0, Hst.out.a.cell 1, Hst.out.a.cell 2, Hst.out.a.cell 3, Hst.out.h.cell 0, Hst.out.h.cell 1, Hst.out.h.cell 2, Hst.out.h.cell 3⟩ | go_keep)
      (first | (go_at_call 61; go_must (refine (hj.out _ ((Keep.refl [] _).drewN 1)).mono ?_; rintro e wj ⟨rfl, hkj⟩; have q0 := cell_keep0 hkj.of_drew (Hst.out.a.cell 0); have q1 := cell_keep0 hkj.of_drew (Hst.out.a.cell 1); have q2 := cell_keep0 hkj.of_drew (Hst.out.a.cell 2); have q3 := cell_keep0 hkj.of_drew (Hst.out.a.cell 3); have q4 := cell_keep0 hkj.of_drew (Hst.out.h.cell 0); have q5 := cell_keep0 hkj.of_drew (Hst.out.h.cell 1); have q6 := cell_keep0 hkj.of_drew (Hst.out.h.cell 2); have q7 := cell_keep0 hkj.of_drew (Hst.out.h.cell 3); have Hk := Lib.hid (Hst.out.k.trans hkj.of_drew (by simp)))))
    go_wp2
    go_ret2
    exact ⟨line_end _ _ (by first | (simp [ownL]; done) | (simp [ownL]; omega)), Hid.out ‹_›⟩
  · go_region_held3 (fun w' => w'.cell? ⟨gA, 0, none⟩ = some (.int .i64 7) ∧ w'.cell? ⟨gA, 1, none⟩ = some (.int .i64 node) ∧ w'.cell? ⟨gA, 2, none⟩ = some (.int .i64 k) ∧ w'.cell? ⟨gA, 3, none⟩ = some (.int .i64 bit) ∧ w'.cell? ⟨gH, 0, none⟩ = some (.int .i64 7) ∧ w'.cell? ⟨gH, 1, none⟩ = some (.int .i64 node) ∧ w'.cell? ⟨gH, 2, none⟩ = some (.int .i64 0) ∧ w'.cell? ⟨gH, 3, none⟩ = some (.int .i64 0)) (first | exact ⟨by assumption, by assumption, by assumption, by assumption, by assumption, by assumption, by assumption, by assumption⟩ | exact ⟨Hst.out.a.cell 0, Hst.out.a.cell 1, Hst.out.a.cell 2, Hst.out.a.cell 3, Hst.out.h.cell 0, Hst.out.h.cell 1, Hst.out.h.cell 2, Hst.out.h.cell 3⟩ | go_keep)
      (first | (go_at_call 61; go_must (refine (hj.out _ ((Keep.refl [] _).drewN 1)).mono ?_; rintro e wj ⟨rfl, hkj⟩; have q0 := cell_keep0 hkj.of_drew (Hst.out.a.cell 0); have q1 := cell_keep0 hkj.of_drew (Hst.out.a.cell 1); have q2 := cell_keep0 hkj.of_drew (Hst.out.a.cell 2); have q3 := cell_keep0 hkj.of_drew (Hst.out.a.cell 3); have q4 := cell_keep0 hkj.of_drew (Hst.out.h.cell 0); have q5 := cell_keep0 hkj.of_drew (Hst.out.h.cell 1); have q6 := cell_keep0 hkj.of_drew (Hst.out.h.cell 2); have q7 := cell_keep0 hkj.of_drew (Hst.out.h.cell 3); have Hk := Lib.hid (Hst.out.k.trans hkj.of_drew (by simp)))))
    go_wp2
    go_ret2
    exact ⟨line_end _ _ (by first | (simp [ownL]; done) | (simp [ownL]; omega)), Hid.out ‹_›⟩

theorem line_spec (w : World) (hE : Env w) (s : ST) (hs : s.In) (h1 : 1 ≤ s.kind) (h7 : s.kind ≤ 7) : Calls Tryd.prog 45 #[stV s] w (LinePost s w) := by
  rcases (show s.kind = 1 ∨ s.kind = 2 ∨ s.kind = 3 ∨ s.kind = 4 ∨ s.kind = 5 ∨ s.kind = 6 ∨ s.kind = 7 by omega) with h | h | h | h | h | h | h
  · exact line_1 w hE s hs h
  · exact line_2 w hE s hs h
  · exact line_3 w hE s hs h
  · exact line_4 w hE s hs h
  · exact line_5 w hE s hs h
  · exact line_6 w hE s hs h
  · exact line_7 w hE s hs h

end Go.Proofs.YtndpbkhpllmhmaaDoor
