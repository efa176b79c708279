/- fair: Read. -/
import Derived.Test.YtndpbkhpllmhmaaDoorRows
import Derived.WalkKit
import Derived.WalkSpells
import Derived.WalkLawsBesides
import Derived.RegionTactic
import Derived.ChangeAlike
import Derived.BigQuiet
import Derived.Deep.QuietTactic
import Derived.StillTailTactics
import Derived.IntWalk
import Derived.Handy
import Derived.Lib.Hide
import Derived.Deep.AppendLies
import Derived.Deep.RegionWith
import Derived.Test.YtndpbkhpllmhmaaDoorMSAA
import Derived.Test.YtndpbkhpllmhmaaDoorMSAB
import Derived.Carry
import Derived.Deep.RegionHeld3
import Derived.BigRegion
import Derived.Maps.OwnSet
import Derived.Maps.Views
import Derived.Maps.StringElems
import Derived.Test.YtndpbkhpllmhmaaDoorMSAC
import Derived.Test.YtndpbkhpllmhmaaDoorMSAJ
namespace Go.Proofs.YtndpbkhpllmhmaaDoor
set_option linter.unusedSimpArgs false
set_option linter.unnecessarySimpa false
set_option linter.unusedVariables false
open Go.RowKit
theorem index_none {c : UInt8} : ∀ {l : BS}, (∀ b ∈ l, b ≠ c) → Lib.index l [c] = -1
  | [], _ => index_nil c
  | b :: l, h => by rw [index_cons_ne (h b (by simp)), index_none (fun x hx => h x (by simp [hx]))]; rfl
theorem index_at {c : UInt8} (r : BS) : ∀ {l : BS}, (∀ b ∈ l, b ≠ c) → Lib.index (l ++ c :: r) [c] = l.length
  | [], _ => by rw [List.nil_append, index_cons_eq]; rfl
  | b :: l, h => by
    rw [List.cons_append, index_cons_ne (h b (by simp)), index_at r (fun x hx => h x (by simp [hx]))]
    have : ((l.length : Int) == -1) = false := by simp
    rw [this]
    simp
theorem cut_none {c : UInt8} {l : BS} (h : ∀ b ∈ l, b ≠ c) : Lib.cut l [c] = (l, [], false) := by
  unfold Lib.cut
  rw [index_none h, if_neg (by decide)]
theorem cut_at {c : UInt8} {l : BS} (r : BS) (h : ∀ b ∈ l, b ≠ c) : Lib.cut (l ++ c :: r) [c] = (l, r, true) := by
  unfold Lib.cut
  rw [index_at r h, if_pos (by omega)]
  simp
/-- what a text is as a script -/
def runL (acc : List ST) : List BS → Except Nat (List ST)
  | [] => .ok acc
  | [t] => if t = [] then .ok acc else .error (acc.length + 1)
  | x :: y :: r => match stepC x with
    | none => .error (acc.length + 1)
    | some s => runL (acc ++ [s]) (y :: r)
def readL (bs : BS) : Except Nat (List ST) := runL [] (pieces 10 bs)
theorem Tryd.sts35 : SliceTy Tryd.prog 35 38 (.agg #[.int .i64 0, .int .i64 0, .int .i64 0, .int .i64 0]) 4 32 := ⟨Tryd.underlying35, by kernel_rfl, by kernel_rfl, by decide⟩
theorem cut_one {w : World} (hE : Env w) {rem p : BS} (h : pieces 10 rem = [p]) (hl : rem.length ≤ 131072) : Calls Tryd.prog 48 #[.string (strB rem), .string ⟨#[10]⟩] w fun e w' => e = .returned (.tuple #[.string (strB rem), .string (strB []), .bool false]) ∧ Keep [] w w' := by
  obtain ⟨m, hm⟩ := hE.max
  have hg := glue_pieces 10 rem
  have hp := pieces_all 10 rem p (by rw [h]; simp)
  rw [h, glue_cons, List.flatMap_nil, List.append_nil] at hg
  have hc := cut_none (c := 10) (l := rem) (by rw [← hg]; exact fun b hb => (hp b hb).1)
  refine (Tryd.strings_Cut (strB rem) ⟨#[10]⟩ m w (by rw [strB_size]; omega) hm).mono ?_
  rintro e w' ⟨he, n, rfl⟩
  rw [strB_data] at he
  change e = .returned (.tuple #[.string ⟨(Lib.cut rem [10]).1.toArray⟩, .string ⟨(Lib.cut rem [10]).2.1.toArray⟩, .bool (Lib.cut rem [10]).2.2]) at he
  rw [hc] at he
  exact ⟨he, (Keep.refl _ _).drewN n⟩
theorem cut_more {w : World} (hE : Env w) {rem p q : BS} {qs : List BS} (h : pieces 10 rem = p :: q :: qs) (hl : rem.length ≤ 131072) : Calls Tryd.prog 48 #[.string (strB rem), .string ⟨#[10]⟩] w fun e w' => e = .returned (.tuple #[.string (strB p), .string (strB (glue 10 (q :: qs))), .bool true]) ∧ Keep [] w w' := by
  obtain ⟨m, hm⟩ := hE.max
  have hg := glue_pieces 10 rem
  have hp := pieces_all 10 rem p (by rw [h]; simp)
  rw [h, glue_cons, List.flatMap_cons, List.cons_append, ← glue_cons] at hg
  have hc := cut_at (c := 10) (l := p) (glue 10 (q :: qs)) (fun b hb => (hp b hb).1)
  rw [hg] at hc
  refine (Tryd.strings_Cut (strB rem) ⟨#[10]⟩ m w (by rw [strB_size]; omega) hm).mono ?_
  rintro e w' ⟨he, n, rfl⟩
  rw [strB_data] at he
  change e = .returned (.tuple #[.string ⟨(Lib.cut rem [10]).1.toArray⟩, .string ⟨(Lib.cut rem [10]).2.1.toArray⟩, .bool (Lib.cut rem [10]).2.2]) at he
  rw [hc] at he
  exact ⟨he, (Keep.refl _ _).drewN n⟩
/-- the rest of a text -/
theorem rest_of {rem p q : BS} {qs : List BS} (h : pieces 10 rem = p :: q :: qs) : pieces 10 (glue 10 (q :: qs)) = q :: qs ∧ p.length + 1 + (glue 10 (q :: qs)).length = rem.length := by
  have hg := glue_pieces 10 rem
  rw [h, glue_cons, List.flatMap_cons, List.cons_append, ← glue_cons] at hg
  refine ⟨pieces_glue (fun x hx b hb => (pieces_all 10 rem x (by rw [h]; exact List.mem_cons_of_mem _ hx) b hb).1), ?_⟩
  have := congrArg List.length hg
  rw [List.length_append, List.length_cons] at this
  omega
theorem mem_own {v : Value} {x : Nat} : x ∈ ownBlocks v ↔ v.ownBlock = some x := by simp [ownBlocks]
theorem src_step {w : World} (s : ST) : SrcOf ((w.alloc (.cells #[.int .i64 s.kind, .int .i64 s.node, .int .i64 s.k, .int .i64 s.bit] 38)).alloc (.cells #[.int .i64 s.kind, .int .i64 s.node, .int .i64 s.k, .int .i64 s.bit] 38)) (.slice (some ⟨w.heap.size + 1, 0, none⟩) 1 1) 4 1 (stC s) := by
  have hb := Blk.new' (w.alloc (.cells #[.int .i64 s.kind, .int .i64 s.node, .int .i64 s.k, .int .i64 s.bit] 38)) 38 _ (stC s) rfl
  have hz : (w.alloc (.cells #[.int .i64 s.kind, .int .i64 s.node, .int .i64 s.k, .int .i64 s.bit] 38)).heap.size = w.heap.size + 1 := by simp
  rw [hz] at hb
  refine ⟨_, _, rfl, rfl, fun _ => ⟨_, rfl, fun j u hu => ?_⟩⟩
  rw [add_none, Nat.zero_add]
  exact (hb.cell j).trans hu
def ReadsPost (bs : BS) (w : World) (e : Ending) (w' : World) : Prop :=
  Keep [] w w' ∧ ((∃ l v, readL bs = .ok l ∧ StepsAt w' v l ∧ e = .returned (.tuple #[v, .int .i64 0, .int .i64 0])) ∨ (∃ n : Nat, readL bs = .error n ∧ e = .returned (.tuple #[.slice none 0 0, .int .i64 n, .int .i64 2])))
theorem strB_emp (a : BS) {r : Bool} (h : a.isEmpty = r) : (strB a).toList.isEmpty = r := by rw [strB_toList]; exact h
set_option maxHeartbeats 6400000 in
set_option maxRecDepth 100000 in
theorem reads_spec {w : World} (hE : Env1 w) (bs : BS) (hl : bs.length ≤ 131072) : Calls Tryd.prog 26 #[.string (strB bs)] w (ReadsPost bs w) := by
  have HE := Lib.hid hE
  have Hl := Lib.hid hl
  have hsz : (strB bs).size ≤ 131072 := by rw [strB_size]; exact hl
  clear hE hl
  go_enter Tryd.func26, Tryd.ntmps26
  go_wp2_with fail
  go_loopw [0, 5, 6, 7, 8, 9, 10] (fun v0 v5 _ _ _ _ _ wr => ∃ (acc : List ST) (rem : BS), v0 = .string (strB rem) ∧ OwnsAt wr w.heap.size 38 4 v5 acc.length (acc.flatMap stC) ∧ runL acc (pieces 10 rem) = readL bs ∧ acc.length + rem.length ≤ bs.length ∧ Keep [] w wr) (fun v0 _ _ _ _ _ _ _ => match v0 with | .string s => s.size | _ => 0)
  case atStart => exact ⟨[], bs, rfl, OwnsAt.nil _ _ _ _, rfl, by simp, Keep.refl _ _⟩
  case round =>
    obtain ⟨acc, rem, rfl, ho, hr, hle, hk⟩ := hrel
    by_cases hne : rem = []
    · subst hne
      have e1 : (strB []).toList.isEmpty = true := strB_emp [] rfl
      have e2 : (strB []).toList = [] := strB_toList []
      have Hr := Lib.hid (show readL bs = .ok acc from hr.symm)
      have Ho := Lib.hid (StepsAt.of_own ho)
      have Hk := Lib.hid hk
      clear hr ho hk hle
      go_wp2
      go_ret3
      exact ⟨Hk.out, Or.inl ⟨acc, _, Hr.out, Ho.out, rfl⟩⟩
    · have e1 : (strB rem).toList.isEmpty = false := strB_emp rem (by cases rem with
        | nil => exact absurd rfl hne
        | cons a b => rfl)
      have e2 : (!(strB rem).toList.isEmpty) = true := by rw [e1]; rfl
      have e3 : (strB rem).toList ≠ [] := by rw [strB_toList]; exact hne
      obtain ⟨ao, co, rfl⟩ := ho.shape
      have hlr : rem.length ≤ 131072 := by have := Hl.out; omega
      have hla : (acc.length : Int) ≤ 131072 := by have := Hl.out; omega
      have G := Lib.hid (And.intro ho (And.intro hr (And.intro hle (And.intro hk (And.intro hlr hne)))))
      clear ho hr hle hk hlr hne
      cases hp : pieces 10 rem with
      | nil => exact absurd hp (pieces_ne 10 rem)
      | cons p ps =>
        cases ps with
        | nil =>
          have hc := Lib.hid (cut_one (HE.out.env.keep G.out.2.2.2.1) hp G.out.2.2.2.2.1)
          have hres : readL bs = .error (acc.length + 1) := by
            have h := G.out.2.1
            have hg := glue_pieces 10 rem
            rw [hp, glue_cons, List.flatMap_nil, List.append_nil] at hg
            rw [hp, runL, if_neg (by rw [hg]; exact G.out.2.2.2.2.2)] at h
            exact h.symm
          have Hres := Lib.hid hres
          clear hp hres
          go_wp2_with fail
          refine hc.out.mono ?_
          rintro e w5 ⟨rfl, hk5⟩
          have Hk5 := Lib.hid (G.out.2.2.2.1.trans hk5 (by simp))
          clear hc hk5 e1 e2 e3
          have hrd := Lib.hid (read_spec (HE.out.keep Hk5.out) rem (by have := G.out.2.2.2.2.1; omega))
          go_wp2_with fail
          refine hrd.out.mono ?_
          rintro e w6 ⟨hk6, hpost⟩
          have Hk6 := Lib.hid (Hk5.out.trans hk6 (by simp))
          obtain ⟨s, b, rfl⟩ : ∃ s b, e = .returned (.tuple #[stV s, .bool b]) := by
            rcases hpost with ⟨s, _, h⟩ | ⟨_, s, h⟩ <;> exact ⟨s, _, h⟩
          clear hrd hk6 hpost
          unfold stV
          go_wp2
          go_ret3
          exact ⟨Hk6.out.trans ((Keep.refl [] _).alloc _) (by simp), Or.inr ⟨acc.length + 1, Hres.out, by simp⟩⟩
        | cons q qs =>
          have hc := Lib.hid (cut_more (HE.out.env.keep G.out.2.2.2.1) hp G.out.2.2.2.2.1)
          have Hrest := Lib.hid (rest_of hp)
          have hgr := G.out.2.1
          rw [hp] at hgr
          have Hgr := Lib.hid hgr
          have hpl : p.length ≤ 1000000 := by have := pieces_len (c := 10) (l := rem) (p := p) (by rw [hp]; simp); have := G.out.2.2.2.2.1; omega
          have Hpl := Lib.hid hpl
          clear hp hgr hpl
          go_wp2_with fail
          refine hc.out.mono ?_
          rintro e w5 ⟨rfl, hk5⟩
          have Hk5 := Lib.hid hk5
          clear hc hk5 e1 e2 e3
          have hrd := Lib.hid (read_spec (HE.out.keep (G.out.2.2.2.1.trans Hk5.out (by simp))) p Hpl.out)
          go_wp2_with fail
          refine hrd.out.mono ?_
          rintro e w6 ⟨hk6, hpost⟩
          have Hk6 := Lib.hid (Hk5.out.trans hk6 (by simp))
          rcases hpost with ⟨s, hs, rfl⟩ | ⟨hs, s, rfl⟩
          · have hgr2 := Hgr.out
            rw [runL, hs] at hgr2
            have Hgr2 := Lib.hid hgr2
            clear hrd hk6 hs hgr2
            unfold stV
            have Ho6 := Lib.hid ((G.out.1.keep Hk6.out (by simp)).keep (((Keep.refl [] w6).alloc (.cells #[.int .i64 s.kind, .int .i64 s.node, .int .i64 s.k, .int .i64 s.bit] 38)).alloc (.cells #[.int .i64 s.kind, .int .i64 s.node, .int .i64 s.k, .int .i64 s.bit] 38)) (by simp))
            have hla2 : acc.length ≤ 131072 := by omega
            have Hz : Hid (w.heap.size ≤ ((w6.alloc (.cells #[.int .i64 s.kind, .int .i64 s.node, .int .i64 s.k, .int .i64 s.bit] 38)).alloc (.cells #[.int .i64 s.kind, .int .i64 s.node, .int .i64 s.k, .int .i64 s.bit] 38)).heap.size) := Lib.hid (((G.out.2.2.2.1.trans Hk6.out (by simp)).alloc _).alloc _).size
            go_wp2_with (at_builtin; refine wpList_append_off rfl _ _ rfl Tryd.sts35 w.heap.size (.slice ao acc.length co) acc.length _ rfl Ho6.out _ 1 (stC s) rfl (src_step s) (by simp [stC, Value.oneCell']) (by unfold maxLen; omega) (by omega) Hz.out ?_)
            intro v7 w7 ho7 hk7 hb7
            have Ho7 := Lib.hid ho7
            have Hk7 := Lib.hid (show Keep [] w w7 from (((G.out.2.2.2.1.trans Hk6.out (by simp)).alloc _).alloc _).trans hk7 (fun x hx => Or.inr (Ho6.out.lt x (mem_own.1 hx)).1))
            clear ho7 hk7 hb7 Ho6 Hz
            go_wp2
            go_roundw
            case rel =>
              refine ⟨acc ++ [s], glue 10 (q :: qs), rfl, ?_, by rw [Hrest.out.1]; exact Hgr2.out, by have := Hrest.out.2; have := G.out.2.2.1; rw [List.length_append]; simp; omega, Hk7.out⟩
              have := Ho7.out
              rw [List.length_append, List.flatMap_append]
              simpa using this
            case measure =>
              have := Hrest.out.2
              show (strB (glue 10 (q :: qs))).size < (strB rem).size
              rw [strB_size, strB_size]
              omega
          · have hres : readL bs = .error (acc.length + 1) := by
              have h := Hgr.out
              rw [runL, hs] at h
              exact h.symm
            have Hres := Lib.hid hres
            clear hrd hk6 hs hres
            unfold stV
            go_wp2
            go_ret3
            exact ⟨(G.out.2.2.2.1.trans Hk6.out (by simp)).trans ((Keep.refl [] _).alloc _) (by simp), Or.inr ⟨acc.length + 1, Hres.out, by simp⟩⟩
end Go.Proofs.YtndpbkhpllmhmaaDoor
