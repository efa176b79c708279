/- slices.Grow of a slice of instructions, by the library's contract (laid by the kit's tool, in plain words); slices.Concat's first half. slices.Concat of instructions. copy of elements of several cells. bits.Mul at small numbers. Rows of instructions, again and again: plain. slices.Repeat at instructions. lots.function. Trees of tasks: plain. Trees of tasks. The reference's evaluation of the example's job. The example of the document is alive. -/
import Derived.Test.YtndpbkhpllmhmaaDoorRows
import Derived.WalkKit
import Derived.WalkSpells
import Derived.WalkLawsBesides
import Derived.RegionTactic
import Derived.ChangeAlike
import Derived.BigQuiet
import Derived.Deep.QuietTactic
import Derived.StillTailTactics
import Derived.IntWalk
import Derived.Handy
import Derived.Lib.Hide
import Derived.Deep.AppendLies
import Derived.Deep.RegionWith
import Derived.Test.YtndpbkhpllmhmaaDoorMSAA
import Derived.Test.YtndpbkhpllmhmaaDoorMSAB
import Derived.Carry
import Derived.Deep.RegionHeld3
import Derived.BigRegion
import Derived.Maps.OwnSet
import Derived.Maps.Views
import Derived.Maps.StringElems
import Derived.Test.YtndpbkhpllmhmaaDoorMSAC
import Derived.Shelf.Spec.SlicesGrow
import Derived.Laws.MakeOwn
import Derived.Laws.Tables
import Derived.Deep.RegionLaw
import Derived.Test.YtndpbkhpllmhmaaDoorMSAD
import Derived.Test.YtndpbkhpllmhmaaDoorMSAG
namespace Go.Proofs
set_option linter.unusedSimpArgs false
set_option linter.unnecessarySimpa false
set_option linter.unusedVariables false
open Go.Shelf
def Tryd.growI_ren : Go.Shelf.Ren := ⟨fun | 4 => 76 | n => n, fun | 22 => 31 | 25 => 67 | 3 => 3 | 4 => 4 | 9 => 9 | 20 => 20 | 0 => 0 | 2 => 3 | n => n, fun | n => n⟩
theorem Tryd.growI : Go.Proofs.Lays8.n4 Tryd.prog Tryd.growI_ren := {
  mixed := by kernel_rfl
  f4 := ⟨Tryd.f76.name, by decide, Tryd.func76.trans (congrArg some (by kernel_rfl))⟩
  t0 := Tryd.underlying0
  a0 := Tryd.isAgg0
  z0 := Tryd.sizeOf0
  v0 := Tryd.zeroValue0
  t3 := Tryd.underlying3
  a3 := Tryd.isAgg3
  z3 := Tryd.sizeOf3
  v3 := Tryd.zeroValue3
  t4 := Tryd.underlying4
  a4 := Tryd.isAgg4
  z4 := Tryd.sizeOf4
  v4 := Tryd.zeroValue4
  t9 := Tryd.underlying9
  a9 := Tryd.isAgg9
  z9 := Tryd.sizeOf9
  v9 := Tryd.zeroValue9
  t20 := Tryd.underlying20
  a20 := Tryd.isAgg20
  z20 := Tryd.sizeOf20
  v20 := Tryd.zeroValue20
  t22 := Tryd.underlying31
  a22 := Tryd.isAgg31
  z22 := Tryd.sizeOf31
  v22 := Tryd.zeroValue31 }
end Go.Proofs
namespace Go.Proofs.YtndpbkhpllmhmaaDoor
open Go.RowKit
theorem Tryd.sts31 : SliceTy Tryd.prog 31 67 (.agg #[.int .i64 0, .int .i64 0]) 2 16 := ⟨Tryd.underlying31, by kernel_rfl, by kernel_rfl, by decide⟩
def GrowPost (w : World) (e : Ending) (w' : World) : Prop := ∃ v, e = .returned v ∧ OwnsAt w' w.heap.size 67 2 v 0 [] ∧ Keep [] w w' ∧ ∃ cap, v = .slice (some ⟨w.heap.size, 0, none⟩) 0 cap
theorem grow_spec (w : World) (n : Nat) (h : 0 < n) (h2 : n ≤ 64) : Calls Tryd.prog 76 #[.slice none 0 0, .int .i64 n] w (GrowPost w) := by
  obtain ⟨i, hi, hz0, hz1, hz2⟩ := info_parts Tryd.sts31.info
  have hge := grownCap_ge w n 0 67
  have hcm : grownCap w n 0 67 ≤ maxLen := grownCap_le_maxLen w n 0 67 (by unfold maxLen; omega)
  refine (Any8.slices_Grow_grow Tryd.growI i _ hi hz0 (by omega) none 0 0 n [] w (by omega) (by omega) (by rw [hz2]; omega) (by omega) (by simp) (fun _ => rfl) (fun a ha => by cases ha)).mono ?_
  rintro e w' ⟨rfl, rfl⟩
  simp only [Nat.zero_add]
  refine ⟨_, rfl, ⟨by simp, Or.inr ⟨w.heap.size, 0, _, _, rfl, Nat.le_refl _, heap_alloc_new w.drew _, by omega, hcm, ?_, ?_⟩⟩, (Keep.refl [] w).drew.alloc _, _, rfl⟩
  · simp only [Array.size_append, size_zeroCells, List.size_toArray, List.length_nil]
    have hs : (Value.agg #[.int .i64 0, .int .i64 0]).cells.size = 2 := rfl
    rw [hs]
    have : Tryd.growI_ren.t 25 = 67 := rfl
    rw [this]
    omega
  · simp
end Go.Proofs.YtndpbkhpllmhmaaDoor
namespace Go.Proofs.YtndpbkhpllmhmaaDoor
set_option linter.unusedSimpArgs false
set_option linter.unnecessarySimpa false
set_option linter.unusedVariables false
open Go.RowKit
theorem inC_len (x : IN) : (inC x).length = 2 := rfl
theorem src_code {B : Nat} {w : World} {v : Value} {l : List IN} (h : CodeAt B w v l) : SrcOf w v 2 l.length (l.flatMap inC) := by
  obtain ⟨a, c, rfl, hc⟩ := h
  rw [List.length_map]
  refine ⟨a, c, rfl, flat_len inC_len l, fun hne => ?_⟩
  have hl : l ≠ [] := by rintro rfl; exact hne rfl
  obtain ⟨x0, xs, hx⟩ := List.exists_cons_of_ne_nil hl
  obtain ⟨b, off, rfl, _, _⟩ := hc 0 (inC x0) (by rw [hx]; rfl)
  refine ⟨_, rfl, fun j u hu => ?_⟩
  have hj : j < l.length * 2 := by
    have := (List.getElem?_eq_some_iff.1 hu).1
    rw [flat_len inC_len] at this
    exact this
  obtain ⟨x, hxi⟩ : ∃ x, l[j / 2]? = some x := ⟨_, List.getElem?_eq_getElem (by omega)⟩
  obtain ⟨b', off', e, _, hcell⟩ := hc (j / 2) (inC x) (by rw [List.getElem?_map, hxi]; rfl)
  injection e with e
  injection e with e1 e2
  subst e1 e2
  have hdj : j / 2 * 2 + j % 2 = j := by omega
  have hr : j % 2 < 2 := by omega
  have h1 := flat_at inC_len l (j / 2) x (j % 2) hxi hr
  rw [hdj, hu] at h1
  have h2 := hcell (j % 2) u h1.symm
  rw [add_none]
  rw [Nat.add_assoc, hdj] at h2
  exact h2
/-- v is a slice of slices of instructions -/
def PartsAt (B : Nat) (w : World) (v : Value) (ps : List (List IN)) : Prop :=
  ∃ pvs : List Value, pvs.length = ps.length ∧ RowsAt B 1 w v (pvs.map fun x => [x]) ∧ ∀ (i : Nat) (p : List IN) (pv : Value), ps[i]? = some p → pvs[i]? = some pv → CodeAt B w pv p
theorem PartsAt.below {B : Nat} {w w' : World} {v : Value} {ps : List (List IN)} (h : PartsAt B w v ps) (k : Below B w w') : PartsAt B w' v ps := by
  obtain ⟨pvs, hl, hr, hc⟩ := h
  exact ⟨pvs, hl, hr.below k, fun i f cv h1 h2 => (hc i f cv h1 h2).below k⟩
theorem PartsAt.shape {B : Nat} {w : World} {v : Value} {ps : List (List IN)} (h : PartsAt B w v ps) : ∃ a c, v = .slice a ps.length c := by
  obtain ⟨pvs, hl, hr, _⟩ := h
  obtain ⟨a, c, rfl⟩ := hr.shape
  exact ⟨a, c, by rw [List.length_map, hl]⟩
theorem PartsAt.at_ {B : Nat} {w : World} {av : Option Addr} {n c : Nat} {ps : List (List IN)} (h : PartsAt B w (.slice av n c) ps) {k : Nat} {p : List IN} (hk : ps[k]? = some p) :
    ∃ b off a2 c2, av = some ⟨b, off, none⟩ ∧ b < B ∧ w.cell? ⟨b, off + k, none⟩ = some (.slice a2 p.length c2) ∧ CodeAt B w (.slice a2 p.length c2) p := by
  obtain ⟨pvs, hl, ⟨a, c', hv, hr⟩, hc⟩ := h
  injection hv with e1 e2 e3
  subst e1
  have hlt : k < ps.length := (List.getElem?_eq_some_iff.1 hk).1
  obtain ⟨pv, hpv⟩ : ∃ pv, pvs[k]? = some pv := ⟨_, List.getElem?_eq_getElem (by omega)⟩
  obtain ⟨b, off, hav, hb, hcell⟩ := hr k [pv] (by rw [List.getElem?_map, hpv]; rfl)
  have hcode := hc k p pv hk hpv
  obtain ⟨a2, c2, rfl⟩ := hcode.shape
  have h0 := hcell 0 _ rfl
  exact ⟨b, off, a2, c2, hav, hb, by simpa using h0, hcode⟩
def sumL (ps : List (List IN)) : Nat := ps.flatten.length
theorem take_next {ps : List (List IN)} {i : Nat} {p : List IN} (h : ps[i]? = some p) : (ps.take (i + 1)).flatten = (ps.take i).flatten ++ p := by
  rw [List.take_add_one, h]
  simp
theorem take_le (ps : List (List IN)) (i : Nat) : (ps.take i).flatten.length ≤ sumL ps := by
  unfold sumL
  have h := congrArg List.flatten (List.take_append_drop i ps)
  rw [List.flatten_append] at h
  rw [← h, List.length_append]
  omega
def flen (ps : List (List IN)) (i : Nat) : Nat := (ps.take i).flatten.length
theorem flen_next {ps : List (List IN)} {i : Nat} {p : List IN} (h : ps[i]? = some p) : flen ps (i + 1) = flen ps i + p.length := by unfold flen; rw [take_next h, List.length_append]
theorem flen_all (ps : List (List IN)) : flen ps ps.length = sumL ps := by unfold flen sumL; rw [List.take_length]
theorem flen_le (ps : List (List IN)) (i : Nat) : flen ps i ≤ sumL ps := take_le ps i
def CatPost (w : World) (code : List IN) (e : Ending) (w' : World) : Prop := ∃ v, e = .returned v ∧ OwnsAt w' w.heap.size 67 2 v code.length (code.flatMap inC) ∧ Keep [] w w'
set_option maxHeartbeats 6400000 in
set_option maxRecDepth 100000 in
theorem concat_spec (w : World) (B : Nat) (v : Value) (ps : List (List IN)) (hp : PartsAt B w v ps) (hB : B ≤ w.heap.size) (h0 : 0 < sumL ps) (h1 : sumL ps ≤ 64) (h2 : ps.length ≤ 8) :
    Calls Tryd.prog 56 #[v] w (CatPost w ps.flatten) := by
  have HP := Lib.hid hp
  obtain ⟨av, cv, rfl⟩ := hp.shape
  have hlI : (ps.length : Int) ≤ 8 := by omega
  clear hp
  go_enter Tryd.func56, Tryd.ntmps56
  go_wp2_with fail
  go_loopw [3, 5, 11] (fun v3 _ v11 wr => w = wr ∧ ∃ i : Nat, i ≤ ps.length ∧ v11 = .int .i64 i ∧ v3 = .int .i64 (flen ps i : Nat)) (fun _ _ v _ => ps.length - (intOf v).toNat)
  case atStart => exact ⟨rfl, 0, by omega, rfl, rfl⟩
  case round =>
    obtain ⟨rfl, i, hi, rfl, rfl⟩ := hrel
    by_cases hlt : i < ps.length
    · obtain ⟨p, hpi⟩ : ∃ p, ps[i]? = some p := ⟨_, List.getElem?_eq_getElem hlt⟩
      obtain ⟨b, off, a2, c2, rfl, hb, hcell, _⟩ := HP.out.at_ hpi
      have hltI : (i : Int) < (ps.length : Int) := by omega
      have hi0 : (0 : Int) ≤ (i : Int) := by omega
      have Hn := Lib.hid (flen_next hpi)
      have hle := flen_le ps (i + 1)
      rw [Hn.out] at hle
      have hS : (flen ps i : Int) + (p.length : Int) ≤ 64 := by omega
      clear hle hpi
      go_wp2_with fail
      go_roundw
      case rel => exact ⟨trivial, i + 1, by omega, by go_num, by rw [Hn.out, Int.natCast_add]⟩
      case measure => simp [intOf]; omega
    · obtain rfl : i = ps.length := by omega
      rw [flen_all]
      have h0' : 0 < sumL ps := h0
      have h1' : sumL ps ≤ 64 := h1
      have HL := Lib.hid (And.intro h0' h1')
      clear h0' h1' h0 h1
      go_wp2_with fail
      refine (grow_spec w (sumL ps) HL.out.1 HL.out.2).mono ?_
      rintro e w2 ⟨v2, rfl, ho, hk, _⟩
      have HO := Lib.hid (And.intro ho hk)
      clear ho hk
      go_wp2_with fail
      go_loopw [6, 8, 27] (fun v6 _ v27 wr => ∃ (i : Nat) (vv : Value), i ≤ ps.length ∧ v27 = .int .i64 i ∧ OwnsAt wr w.heap.size 67 2 v6 (flen ps i) ((ps.take i).flatten.flatMap inC) ∧ Keep [] w wr ∧ vv = v6) (fun _ _ v _ => ps.length - (intOf v).toNat)
      case atStart => exact ⟨0, _, by omega, rfl, HO.out.1, HO.out.2, rfl⟩
      case round =>
        obtain ⟨i, vv, hi, rfl, ho, hk, rfl⟩ := hrel
        obtain ⟨ao, co, rfl⟩ := ho.shape
        by_cases hlt : i < ps.length
        · obtain ⟨p, hpi⟩ : ∃ p, ps[i]? = some p := ⟨_, List.getElem?_eq_getElem hlt⟩
          obtain ⟨b, off, a2, c2, rfl, hb, hcell, hcode⟩ := (HP.out.below (below_of hk hB)).at_ hpi
          have hltI : (i : Int) < (ps.length : Int) := by omega
          have hi0 : (0 : Int) ≤ (i : Int) := by omega
          have hle := flen_le ps (i + 1)
          rw [flen_next hpi] at hle
          have hle2 : flen ps i + p.length ≤ 64 := Nat.le_trans hle HL.out.2
          have Hn := Lib.hid (And.intro (flen_next hpi) (take_next hpi))
          have HK := Lib.hid (And.intro ho (And.intro hk (And.intro (src_code hcode) hk.size)))
          clear hle hpi ho hk hcode
          go_wp2_with (at_builtin; refine wpList_append_off rfl _ _ rfl Tryd.sts31 w.heap.size (.slice ao (flen ps i) co) (flen ps i) _ rfl HK.out.1 _ p.length _ rfl HK.out.2.2.1 (by intro u hu; obtain ⟨x, _, hx⟩ := List.mem_flatMap.1 hu; rcases List.mem_cons.1 hx with rfl | hx; rfl; rw [List.mem_singleton.1 hx]; rfl) (by unfold maxLen; omega) (by omega) HK.out.2.2.2 ?_)
          intro v7 w7 ho7 hk7 hb7
          have ho8 : OwnsAt w7 w.heap.size 67 2 v7 (flen ps (i + 1)) ((ps.take (i + 1)).flatten.flatMap inC) := by
            rw [Hn.out.1, Hn.out.2, List.flatMap_append]
            exact ho7
          have HF := Lib.hid (And.intro ho8 (HK.out.2.1.trans hk7 (fun x hx => Or.inr (HK.out.1.lt x (by simpa [ownBlocks] using hx)).1)))
          clear ho7 ho8 hk7 hb7
          go_wp2
          go_roundw
          case rel => exact ⟨i + 1, v7, by omega, by go_num, HF.out.1, HF.out.2, rfl⟩
          case measure => simp [intOf]; omega
        · obtain rfl : i = ps.length := by omega
          rw [List.take_length] at ho
          have HK := Lib.hid (And.intro ho hk)
          clear ho hk
          go_wp2
          go_ret
          have hfl : flen ps ps.length = ps.flatten.length := flen_all ps
          exact ⟨_, rfl, by rw [← hfl]; exact HK.out.1, HK.out.2⟩
end Go.Proofs.YtndpbkhpllmhmaaDoor
namespace Go.Proofs.YtndpbkhpllmhmaaDoor
set_option linter.unusedSimpArgs false
set_option linter.unnecessarySimpa false
set_option linter.unusedVariables false
open Go.RowKit
section
variable {P : Program}
/-- 'copy' of elements of however many cells, into a row known whole -/
theorem run_copy_wide (w : World) (dT sT ty elem : TypeId) (g o dLen dCap : Nat) (a : Addr) (sLen sCap size : Nat) (cur : Array Value) (t : TypeId) (cs : List Value)
    (hu : P.underlying dT = some (.slice elem)) (hs : (P.info? elem).map (·.size) = some size)
    (hg : w.heap[g]? = some (.cells cur t (0, 0))) (hn : cs.length = Nat.min sLen dLen * size)
    (hsrc : ∀ j v, cs[j]? = some v → w.cell? (a.add j) = some v) (hfit : o + cs.length ≤ cur.size) (h1 : ∀ v ∈ cs, v.oneCell' = true) :
    (Builtin.copy_ #[dT, sT] ty #[.slice (some ⟨g, o, none⟩) dLen dCap, .slice (some a) sLen sCap]).run P w =
      .ok (goInt (Nat.min sLen dLen)) (w.setRow g (cur.toList.take o ++ cs ++ cur.toList.drop (o + cs.length)).toArray) := by
  have hl := run_loadCells_list (P := P) w a cs hsrc
  have hst := run_storeCells_at P g o t cs 0 cur w hg (by simpa using hfit) h1
  cases hq : P.info? elem with
  | none => simp [hq] at hs
  | some i =>
    have hi : i.size = size := by simpa [hq] using hs
    simp [Builtin.copy_, run_underlying hu, Builtin.lenOf, Builtin.firstCells, sizeOf, typeInfo, hq, hi, ← hn, hl, hst]
theorem wpList_copy_wide {w : World} {ops : Array Oper} {rest : List Oper} {o : Oper} {a : Act} {Q : Exit → Act → World → Prop} (hgd : o.guard = none) (d s : Operand) (dT sT : TypeId)
    (ho : o.op = .call { callee := .builtin .copy, args := #[d, s], argTypes := #[dT, sT] }) (elem : TypeId) (size : Nat) (hu : P.underlying dT = some (.slice elem)) (hsz : (P.info? elem).map (·.size) = some size)
    (g off dLen dCap : Nat) (ad : Addr) (sLen sCap : Nat) (hd : a.eval d = .slice (some ⟨g, off, none⟩) dLen dCap) (hs : a.eval s = .slice (some ad) sLen sCap)
    (cur : Array Value) (t : TypeId) (hg : w.heap[g]? = some (.cells cur t (0, 0))) (cs : List Value) (hn : cs.length = Nat.min sLen dLen * size)
    (hsrc : ∀ j v, cs[j]? = some v → w.cell? (ad.add j) = some v) (hfit : off + cs.length ≤ cur.size) (h1 : ∀ v ∈ cs, v.oneCell' = true)
    (h : wpList P ops Q rest (a.put o.dst (goInt (Nat.min sLen dLen))) (w.setRow g (cur.toList.take off ++ cs ++ cur.toList.drop (off + cs.length)).toArray)) : wpList P ops Q (o :: rest) a w := by
  refine wpList_plain hgd fun K hK => ?_
  have hrun := run_copy_wide (P := P) w dT sT o.type elem g off dLen dCap ad sLen sCap size cur t cs hu hsz hg hn hsrc hfit h1
  unfold Oper.wp execOp
  simp only [ho, resolve, invoke, builtin, Sem.run_bind, Sem.run_pure, Result.andThen_ok, List.map_toArray, List.map_cons, List.map_nil, hd, hs, hrun]
  exact hK _ _ h
theorem step_copy_wide {w : World} {ops : Array Oper} {o : Oper} {a : Act} {K : Act → World → Prop} {Q : Exit → Act → World → Prop} {E : Prop} (hgd : o.guard = none) (d s : Operand) (dT sT : TypeId)
    (ho : o.op = .call { callee := .builtin .copy, args := #[d, s], argTypes := #[dT, sT] }) (elem : TypeId) (size : Nat) (hu : P.underlying dT = some (.slice elem)) (hsz : (P.info? elem).map (·.size) = some size)
    (g off dLen dCap : Nat) (ad : Addr) (sLen sCap : Nat) (hd : a.eval d = .slice (some ⟨g, off, none⟩) dLen dCap) (hs : a.eval s = .slice (some ad) sLen sCap)
    (cur : Array Value) (t : TypeId) (hg : w.heap[g]? = some (.cells cur t (0, 0))) (cs : List Value) (hn : cs.length = Nat.min sLen dLen * size)
    (hsrc : ∀ j v, cs[j]? = some v → w.cell? (ad.add j) = some v) (hfit : off + cs.length ≤ cur.size) (h1 : ∀ v ∈ cs, v.oneCell' = true)
    (h : K (a.put o.dst (goInt (Nat.min sLen dLen))) (w.setRow g (cur.toList.take off ++ cs ++ cur.toList.drop (off + cs.length)).toArray)) :
    if Region.wanted o (yielded ops a.tmps) = true then Oper.wp P o a w K Q else E := by
  have hw : Region.wanted o (yielded ops a.tmps) = true := by simp [Region.wanted, hgd]
  rw [if_pos hw]
  have hrun := run_copy_wide (P := P) w dT sT o.type elem g off dLen dCap ad sLen sCap size cur t cs hu hsz hg hn hsrc hfit h1
  unfold Oper.wp execOp
  simp only [ho, resolve, invoke, builtin, Sem.run_bind, Sem.run_pure, Result.andThen_ok, List.map_toArray, List.map_cons, List.map_nil, hd, hs, hrun]
  exact h
end
end Go.Proofs.YtndpbkhpllmhmaaDoor
namespace Go.Proofs.YtndpbkhpllmhmaaDoor
set_option linter.unusedSimpArgs false
set_option linter.unnecessarySimpa false
set_option linter.unusedVariables false
open Go.RowKit
def MulOk (x y : Nat) (w : World) (e : Ending) (w' : World) : Prop := e = .returned (.tuple #[.int .u64 0, .int .u64 (x * y : Nat)]) ∧ w' = w
set_option maxHeartbeats 3200000 in
theorem mul64_spec (w : World) (x y : Nat) (hx : x = 1 ∨ x = 3) (hy : y ≤ 8) : Calls Tryd.prog 74 #[.int .u64 x, .int .u64 y] w (MulOk x y w) := by
  obtain rfl | rfl | rfl | rfl | rfl | rfl | rfl | rfl | rfl : y = 0 ∨ y = 1 ∨ y = 2 ∨ y = 3 ∨ y = 4 ∨ y = 5 ∨ y = 6 ∨ y = 7 ∨ y = 8 := by omega
  all_goals
    rcases hx with rfl | rfl
    all_goals
      clear hy
      go_enter Tryd.func74, Tryd.ntmps74
      go_wp2
      go_ret2
      exact ⟨rfl, rfl⟩
set_option maxHeartbeats 3200000 in
theorem mul_spec (w : World) (x y : Nat) (hx : x = 1 ∨ x = 3) (hy : y ≤ 8) : Calls Tryd.prog 54 #[.int .u64 x, .int .u64 y] w (MulOk x y w) := by
  have h64 := mul64_spec w x y hx hy
  clear hx hy
  go_enter Tryd.func54, Tryd.ntmps54
  go_wp2_with fail
  refine h64.mono ?_
  rintro e w1 ⟨rfl, rfl⟩
  go_wp2
  go_ret2
  exact ⟨rfl, rfl⟩
end Go.Proofs.YtndpbkhpllmhmaaDoor
namespace Go.Proofs.YtndpbkhpllmhmaaDoor
set_option linter.unusedSimpArgs false
set_option linter.unnecessarySimpa false
set_option linter.unusedVariables false
open Go.RowKit
def RB (l : List IN) (q : Nat) : List Value := ((List.replicate q l).flatten).flatMap inC
theorem RB_len (l : List IN) (q : Nat) : (RB l q).length = q * l.length * 2 := by
  unfold RB
  rw [flat_len inC_len]
  simp
theorem RB_add (l : List IN) (a b : Nat) : RB l (a + b) = RB l a ++ RB l b := by
  unfold RB
  rw [← List.replicate_append_replicate, List.flatten_append, List.flatMap_append]
theorem RB_one (l : List IN) : RB l 1 = l.flatMap inC := by simp [RB]
theorem RB_cell (l : List IN) (q : Nat) : ∀ v ∈ RB l q, v.oneCell' = true := by
  intro u hu
  unfold RB at hu
  obtain ⟨x, _, hx⟩ := List.mem_flatMap.1 hu
  rcases List.mem_cons.1 hx with rfl | hx
  · rfl
  · rw [List.mem_singleton.1 hx]; rfl
/-- block g: c times l, of which q are there -/
def RepB (w : World) (g : Nat) (l : List IN) (c q : Nat) : Prop := ∃ cur, w.heap[g]? = some (.cells cur 67 (0, 0)) ∧ cur.size = c * l.length * 2 ∧ cur.toList.take (q * l.length * 2) = RB l q
theorem rep_copy {w : World} {g c q k : Nat} {l : List IN} {cur : Array Value} (hg : w.heap[g]? = some (.cells cur 67 (0, 0))) (hs : cur.size = c * l.length * 2) (ht : cur.toList.take (q * l.length * 2) = RB l q) (hk : q + k ≤ c) :
    RepB (w.setRow g (cur.toList.take (q * l.length * 2) ++ RB l k ++ cur.toList.drop (q * l.length * 2 + (RB l k).length)).toArray) g l c (q + k) := by
  have h1 : (q + k) * l.length ≤ c * l.length := Nat.mul_le_mul_right _ hk
  have h2 : (q + k) * l.length = q * l.length + k * l.length := Nat.add_mul _ _ _
  have hl : cur.toList.length = c * l.length * 2 := by simpa using hs
  have hlen : (RB l q ++ RB l k).length = (q + k) * l.length * 2 := by rw [List.length_append, RB_len, RB_len, h2]; omega
  refine ⟨_, setRow_heap w g cur _ 67 (0, 0) hg, ?_, ?_⟩
  · rw [ht, RB_len]
    simp only [List.size_toArray, List.length_append, RB_len, List.length_drop, hl]
    omega
  · rw [ht, List.take_append_of_le_length (by rw [hlen]; exact Nat.le_refl _), ← hlen, List.take_length, RB_add]
theorem rep_src {w : World} {g q k : Nat} {l : List IN} {cur : Array Value} (hg : w.heap[g]? = some (.cells cur 67 (0, 0))) (ht : cur.toList.take (q * l.length * 2) = RB l q) (hk : k ≤ q) (j : Nat) (v : Value) (hj : (RB l k)[j]? = some v) : w.cell? ((⟨g, 0, none⟩ : Addr).add j) = some v := by
  rw [add_none, Nat.zero_add, cell_of_row w g j cur 67 (0, 0) hg]
  have hjl := get_lt hj
  obtain ⟨d, rfl⟩ : ∃ d, q = k + d := ⟨q - k, by omega⟩
  rw [RB_add] at ht
  have h3 : (cur.toList.take ((k + d) * l.length * 2))[j]? = some v := by rw [ht, List.getElem?_append_left hjl]; exact hj
  rw [List.getElem?_take] at h3
  split at h3
  · simpa using h3
  · cases h3
theorem Tryd.infoIN : (Tryd.prog.info? 67).map (fun i => (i.zero, i.size, i.bytes)) = some (some (.agg #[.int .i64 0, .int .i64 0]), 2, 16) := by kernel_rfl
theorem mk_ins (n : Nat) (hn : n ≤ 65536) (w : World) :
    (Instr.makeSlice 31 (.int .i64 n) (.int .i64 n)).run Tryd.prog w = .ok (.slice (some ⟨w.heap.size, 0, none⟩) n n) (w.alloc (.cells (madeCells #[.int .i64 0, .int .i64 0] (n * 2)) 67)) := by
  obtain ⟨i0, hi, hz0, hz1, hz2⟩ := info_parts Tryd.infoIN
  have := run_make (P := Tryd.prog) w 31 67 i0 _ Tryd.underlying31 hi hz0 .i64 .i64 n n (by omega) (Int.le_refl _) (by rw [hz2]; omega) (by omega)
  rw [this, hz1]
  simp
  rfl
end Go.Proofs.YtndpbkhpllmhmaaDoor
namespace Go.Proofs.YtndpbkhpllmhmaaDoor
set_option linter.unusedSimpArgs false
set_option linter.unnecessarySimpa false
set_option linter.unusedVariables false
open Go.RowKit
def RepPost (l : List IN) (c : Nat) (w : World) (e : Ending) (w' : World) : Prop := ∃ v, e = .returned v ∧ CodeAt w'.heap.size w' v (List.replicate c l).flatten ∧ (∀ x ∈ sliceBlock v, w.heap.size ≤ x) ∧ Keep [] w w'
theorem mulc (m c : Nat) (hm : m = 1 ∨ m = 3) (hc : c ≤ 8) : c * m ≤ 24 := by rcases hm with rfl | rfl <;> omega
def first01 (c : Nat) : Nat := min 1 c
theorem first01_min (m c : Nat) : Nat.min m (c * m) = first01 c * m := by
  unfold first01
  rcases Nat.eq_zero_or_pos c with h | h
  · subst h; simp
  · have : m ≤ c * m := Nat.le_mul_of_pos_left m h
    rw [Nat.min_eq_left h, Nat.one_mul]
    exact Nat.min_eq_left this
theorem more_min (m c q : Nat) : Nat.min (q * m) (c * m - q * m) = min q (c - q) * m := by
  rw [← Nat.sub_mul]
  rcases Nat.le_total q (c - q) with h | h
  · rw [Nat.min_eq_left h]; exact Nat.min_eq_left (Nat.mul_le_mul_right _ h)
  · rw [Nat.min_eq_right h]; exact Nat.min_eq_right (Nat.mul_le_mul_right _ h)
theorem rep_keep {w wr : World} {g : Nat} (h : Keep [] w wr) (hg : w.heap.size ≤ g) (row : Array Value) : Keep [] w (wr.setRow g row) :=
  h.trans (T := [g]) ⟨rfl, rfl, rfl, by simp [World.setRow], fun k _ hk => by
    simp at hk
    simp [World.setRow, Array.getElem?_modify, Ne.symm hk]⟩ (by simpa using hg)
set_option maxHeartbeats 6400000 in
set_option maxRecDepth 100000 in
theorem repeat_spec (w : World) (B : Nat) (xv : Value) (l : List IN) (c : Nat) (hx : CodeAt B w xv l) (hB : B ≤ w.heap.size) (hm : l.length = 1 ∨ l.length = 3) (hc : c ≤ 8) :
    Calls Tryd.prog 33 #[xv, .int .i64 c] w (RepPost l c w) := by
  have HX := Lib.hid (And.intro hx (And.intro hB hm))
  obtain ⟨ax, cx, rfl⟩ := hx.shape
  have hT := mulc l.length c hm hc
  obtain ⟨T, hTT⟩ : ∃ T, T = c * l.length := ⟨_, rfl⟩
  rw [← hTT] at hT
  have hl3 : (l.length : Int) ≤ 3 := by rcases hm with h | h <;> omega
  have hl0 : (0 : Int) ≤ (l.length : Int) := by omega
  have hc0 : (0 : Int) ≤ (c : Int) := by omega
  have hc8 : (c : Int) ≤ 8 := by omega
  have hT0 : (0 : Int) ≤ (T : Int) := by omega
  have hT24 : (T : Int) ≤ 24 := by omega
  have HT := Lib.hid hTT
  have hmk := mk_ins T (by omega)
  obtain ⟨x0, hx0⟩ := get_ex (show 0 < l.length by rcases hm with h | h <;> omega)
  obtain ⟨b, offx, rfl, hbx, _, _⟩ := hx.at_ hx0
  have hd1 : decide ((c : Int) < 0) = false := by rw [decide_eq_false_iff_not]; omega
  have hd2 : decide ((9223372036854775807 : Int) < (T : Int)) = false := by rw [decide_eq_false_iff_not]; omega
  clear hx hB hm hTT hT hx0
  go_enter Tryd.func33, Tryd.ntmps33
  go_wp2_with fail
  refine (mul_spec _ l.length c HX.out.2.2 (by omega)).mono ?_
  rintro e w2 ⟨rfl, hw2⟩
  rw [Nat.mul_comm, ← HT.out, hw2]
  clear hw2 w2
  have hsz : (madeCells #[.int .i64 0, .int .i64 0] (T * 2)).size = c * l.length * 2 := by rw [size_madeCells, HT.out]
  have hnew : (w.alloc (.cells (madeCells #[.int .i64 0, .int .i64 0] (T * 2)) 67)).heap[w.heap.size]? = some (.cells (madeCells #[.int .i64 0, .int .i64 0] (T * 2)) 67 (0, 0)) := heap_alloc_new w _
  have hf1 : first01 c ≤ c := Nat.min_le_right _ _
  have hf2 : first01 c ≤ 1 := Nat.min_le_left _ _
  have hsrc : ∀ (j : Nat) (v : Value), (RB l (first01 c))[j]? = some v → (w.alloc (.cells (madeCells #[.int .i64 0, .int .i64 0] (T * 2)) 67)).cell? ((⟨b, offx, none⟩ : Addr).add j) = some v := by
    intro j v hj
    have hk : Keep [] w (w.alloc (.cells (madeCells #[.int .i64 0, .int .i64 0] (T * 2)) 67)) := (Keep.refl [] w).alloc _
    obtain ⟨a', c', he, _, hcells⟩ := src_code (show CodeAt B (w.alloc (.cells (madeCells #[.int .i64 0, .int .i64 0] (T * 2)) 67)) (.slice (some ⟨b, offx, none⟩) l.length cx) l from HX.out.1.below (below_of hk HX.out.2.1))
    have h2 : (l.flatMap inC)[j]? = some v := by
      rcases Nat.eq_zero_or_pos c with h0 | h0
      · subst h0; simp [first01, RB] at hj
      · have : first01 c = 1 := by unfold first01; omega
        rw [this, RB_one] at hj; exact hj
    obtain ⟨ad, e1, e2⟩ := hcells (by intro h; rw [h] at h2; simp at h2)
    injection he with he1 _ _
    rw [e1] at he1
    injection he1 with he1
    rw [he1]
    exact e2 j v h2
  have hn1 : (RB l (first01 c)).length = Nat.min l.length T * 2 := by rw [RB_len, HT.out, first01_min]
  have hfit : 0 + (RB l (first01 c)).length ≤ (madeCells #[.int .i64 0, .int .i64 0] (T * 2)).size := by
    rw [hsz, RB_len, Nat.zero_add]
    exact Nat.mul_le_mul_right _ (Nat.mul_le_mul_right _ hf1)
  have hR0 := rep_copy (q := 0) (k := first01 c) (l := l) (c := c) hnew hsz (by simp [RB]) (by omega)
  have hK0 := rep_keep (w := w) (g := w.heap.size) ((Keep.refl [] w).alloc (.cells (madeCells #[.int .i64 0, .int .i64 0] (T * 2)) 67)) (Nat.le_refl _) ((madeCells #[.int .i64 0, .int .i64 0] (T * 2)).toList.take (0 * l.length * 2) ++ RB l (first01 c) ++ (madeCells #[.int .i64 0, .int .i64 0] (T * 2)).toList.drop (0 * l.length * 2 + (RB l (first01 c)).length)).toArray
  obtain ⟨F0, hF0⟩ : ∃ F0, F0 = first01 c * l.length := ⟨_, rfl⟩
  have hgo : goInt (Nat.min l.length T) = .int .i64 (F0 : Int) := by rw [HT.out, first01_min, ← hF0]; rfl
  have HF0 := Lib.hid hF0
  clear hF0
  rw [Nat.zero_mul, Nat.zero_mul] at hR0 hK0
  rw [Nat.zero_add] at hR0
  have HR0 := Lib.hid (And.intro hR0 hK0)
  have HC := Lib.hid (And.intro hnew (And.intro hsrc (And.intro hn1 hfit)))
  clear hsz hnew hsrc hn1 hfit hR0 hK0
  go_wp2_with (refine wpList_copy_wide rfl (.tmp 31) (.tmp 32) 31 31 rfl 67 2 Tryd.underlying31 (by kernel_rfl) w.heap.size 0 T T ⟨b, offx, none⟩ l.length cx (by simp [Act.eval, Act.put]) (by simp [Act.eval, Act.put]) _ 67 HC.out.1 (RB l (first01 c)) HC.out.2.2.1 HC.out.2.1 HC.out.2.2.2 (RB_cell _ _) ?_; rw [hgo])
  clear HC hmk hgo
  go_loopw [8] (fun v wr => ∃ q N : Nat, N = q * l.length ∧ q ≤ c ∧ first01 c ≤ q ∧ v = .int .i64 (N : Int) ∧ RepB wr w.heap.size l c q ∧ Keep [] w wr) (fun v _ => T - (intOf v).toNat)
  case atStart =>
    refine ⟨first01 c, F0, HF0.out, hf1, Nat.le_refl _, rfl, ?_, ?_⟩
    · simpa using HR0.out.1
    · simpa using HR0.out.2
  case round =>
    obtain ⟨q, N, hN, hq, hq1, rfl, ⟨cur, hcur, hcs, htk⟩, hkw⟩ := hrel
    by_cases hlt : q < c
    · have hq0 : 1 ≤ q := by unfold first01 at hq1; omega
      have hNT : N < T := by
        rw [hN, HT.out]
        exact (Nat.mul_lt_mul_right (by rcases HX.out.2.2 with h | h <;> omega)).2 hlt
      have hNI : (N : Int) < (T : Int) := by omega
      have hN0 : (0 : Int) ≤ (N : Int) := by omega
      have hgo : goInt (Nat.min N (T - N)) = .int .i64 ((min q (c - q) * l.length : Nat) : Int) := by rw [hN, HT.out, more_min]; rfl
      have hn1 : (RB l (min q (c - q))).length = Nat.min N (T - N) * 2 := by rw [RB_len, hN, HT.out, more_min]
      have hsrc := rep_src hcur htk (Nat.min_le_left q (c - q))
      have hR := rep_copy (w := wr.drew) (k := min q (c - q)) hcur hcs htk (by omega)
      have hK := rep_keep (g := w.heap.size) hkw.drew (Nat.le_refl _) (cur.toList.take (q * l.length * 2) ++ RB l (min q (c - q)) ++ cur.toList.drop (q * l.length * 2 + (RB l (min q (c - q))).length)).toArray
      have hfit : N * 2 + (RB l (min q (c - q))).length ≤ cur.size := by
        rw [RB_len, hN, hcs, ← Nat.add_mul, ← Nat.add_mul]
        exact Nat.mul_le_mul_right _ (Nat.mul_le_mul_right _ (by omega))
      rw [← hN, List.append_assoc] at hR hK
      have hkl : (q + min q (c - q)) * l.length = N + min q (c - q) * l.length := by rw [Nat.add_mul, hN]
      have hpos : 0 < min q (c - q) * l.length := Nat.mul_pos (by omega) (by rcases HX.out.2.2 with h | h <;> omega)
      have hkT : min q (c - q) * l.length ≤ 24 := by
        have h1 : (q + min q (c - q)) * l.length ≤ c * l.length := Nat.mul_le_mul_right _ (by omega)
        rw [hkl, ← HT.out] at h1
        omega
      obtain ⟨M, hM⟩ : ∃ M, M = min q (c - q) * l.length := ⟨_, rfl⟩
      rw [← hM] at hgo hkl hpos hkT
      have hMI : (M : Int) ≤ 24 := by omega
      have hM0 : (0 : Int) ≤ (M : Int) := by omega
      have h7 : N ≤ T := by omega
      have h8 : ¬ T = N := by omega
      have hsub : ((T - N : Nat) : Int) = (T : Int) - (N : Int) := by omega
      have HQ := Lib.hid (And.intro hR (And.intro hK (And.intro hcur (And.intro hsrc (And.intro hn1 (And.intro hfit (And.intro hkl hpos)))))))
      clear hR hK hcur hsrc hn1 hfit hkl hpos hcs htk hkw hN hq hq1 hM hkT HR0
      go_wp2_with fail
      go_region_law (refine step_copy_wide rfl (.tmp 41) (.tmp 44) 31 31 rfl 67 2 Tryd.underlying31 (by kernel_rfl) w.heap.size (N * 2) (T - N) (T - N) ⟨w.heap.size, 0, none⟩ N T (by simp [Act.eval, Act.put]) (by simp [Act.eval, Act.put]) cur 67 HQ.out.2.2.1 (RB l (min q (c - q))) HQ.out.2.2.2.2.1 HQ.out.2.2.2.1 HQ.out.2.2.2.2.2.1 (RB_cell _ _) ?_; rw [hgo])
      (try simp only [List.getElem_toArray, List.getElem_cons_succ, List.getElem_cons_zero, Act.put, List.setIfInBounds_toArray, List.set_cons_zero, List.set_cons_succ])
      go_wp2_with fail
      go_roundw
      case rel =>
        exact ⟨q + min q (c - q), N + M, by rw [HQ.out.2.2.2.2.2.2.1], by omega, by unfold first01; omega, by rw [IntWalk.i64_in _ (by omega)]; push_cast; rfl, HQ.out.1, HQ.out.2.1⟩
      case measure =>
        have := HQ.out.2.2.2.2.2.2.2
        rw [IntWalk.i64_in _ (by omega)]
        simp [intOf]; omega
    · obtain rfl : c = q := by omega
      have hNT : N = T := by rw [hN, HT.out]
      subst hNT
      have H := Lib.hid (And.intro hcur (And.intro hcs (And.intro htk hkw)))
      clear hcur hcs htk hkw hN hq hq1 hlt HR0
      go_wp2_with fail
      go_ret
      refine ⟨.slice (some ⟨w.heap.size, 0, none⟩) N N, rfl, ?_, by simp [sliceBlock], H.out.2.2.2⟩
      have hlen : (List.replicate c l).flatten.length = N := by simp [HT.out]
      refine ⟨some ⟨w.heap.size, 0, none⟩, N, by rw [List.length_map, hlen], ?_⟩
      intro i r hr
      rw [List.getElem?_map] at hr
      obtain ⟨x, hx, rfl⟩ := Option.map_eq_some_iff.1 hr
      refine ⟨w.heap.size, 0, rfl, lt_of_block H.out.1, fun j u hu => ?_⟩
      have hj : j < 2 := by have := get_lt hu; simpa [inC] using this
      have h5 := rep_src H.out.1 H.out.2.2.1 (Nat.le_refl c) (i * 2 + j) u (by
        unfold RB
        rw [flat_at inC_len _ i x j hx hj]; exact hu)
      rw [add_none] at h5
      rw [Nat.add_assoc]
      exact h5
end Go.Proofs.YtndpbkhpllmhmaaDoor
namespace Go.Proofs.YtndpbkhpllmhmaaDoor
set_option linter.unusedSimpArgs false
set_option linter.unnecessarySimpa false
set_option linter.unusedVariables false
open Go.RowKit
theorem code_of_own {w : World} {B : Nat} {v : Value} {l : List IN} (h : OwnsAt w B 67 2 v l.length (l.flatMap inC)) : CodeAt w.heap.size w v l := by
  obtain ⟨a, c, rfl⟩ := h.shape
  refine ⟨a, c, by rw [List.length_map], fun i r hr => ?_⟩
  rw [List.getElem?_map] at hr
  obtain ⟨x, hx, rfl⟩ := Option.map_eq_some_iff.1 hr
  have hi : i < l.length := (List.getElem?_eq_some_iff.1 hx).1
  obtain ⟨g, off, cap, hv, _, _, _, h4, h5⟩ := h.form (by omega)
  injection hv with e1 e2 e3
  subst e1
  refine ⟨g, off, rfl, h4, fun j u hu => ?_⟩
  have hj : j < 2 := by
    have := (List.getElem?_eq_some_iff.1 hu).1
    rw [inC_len] at this
    exact this
  rw [Nat.add_assoc]
  exact h5 _ u (by rw [flat_at inC_len l i x j hx hj]; exact hu)
def FunPost (w : World) (f : FN) (e : Ending) (w' : World) : Prop := ∃ cv, e = .returned (fnV f cv) ∧ OwnsAt w' (w.heap.size + 1) 67 2 cv f.code.length (f.code.flatMap inC) ∧ Keep [] w w'
set_option maxHeartbeats 3200000 in
theorem function_spec (w : World) (B k : Nat) (v : Value) (ps : List (List IN)) (hk : k < 100) (hp : PartsAt B w v ps) (hB : B ≤ w.heap.size) (h0 : 0 < sumL ps) (h1 : sumL ps ≤ 64) (h2 : ps.length ≤ 8) :
    Calls Tryd.prog 34 #[.int .i64 k, v] w (FunPost w ⟨102 :: Lib.decDigits k, ps.flatten⟩) := by
  have HP := Lib.hid (And.intro hp (And.intro hB (And.intro h0 (And.intro h1 h2))))
  obtain ⟨av, cv, rfl⟩ := hp.shape
  clear hp hB h0 h1 h2
  go_enter Tryd.func34, Tryd.ntmps34
  go_wp2_with fail
  refine (Tryd.strconv_Itoa_small k hk _).mono ?_
  rintro e w1 ⟨rfl, rfl⟩
  have hsz : (⟨(Lib.decDigits k).toArray⟩ : ByteArray).size ≤ 21 := by
    have h1 : (Lib.decDigits k).length = Lib.nDigits k := Lib.decDigits_length k
    have h2 : (Lib.itoa (k : Int)).length ≤ 21 := Lib.itoa_length_le (k : Int) (by omega) (by omega)
    have h3 : Lib.itoa (k : Int) = Lib.decDigits k := Lib.itoa_nonneg k
    rw [h3] at h2
    simpa [ByteArray.size] using h2
  obtain ⟨s, hs⟩ : ∃ s, s = (⟨(Lib.decDigits k).toArray⟩ : ByteArray) := ⟨_, rfl⟩
  rw [← hs] at hsz ⊢
  have hbig : ¬ (9223372036854775807 : Nat) < 1 + s.size := by omega
  have HS := Lib.hid hs
  clear hs hsz
  go_wp2_with fail
  refine (concat_spec _ B _ ps (HP.out.1.below (below_of ((Keep.refl [] w).alloc _) HP.out.2.1)) (by have := HP.out.2.1; simp; omega) HP.out.2.2.1 HP.out.2.2.2.1 HP.out.2.2.2.2).mono ?_
  rintro e w2 ⟨cv2, rfl, ho, hk2⟩
  obtain ⟨L, hL⟩ : ∃ L, L = ps.flatten := ⟨_, rfl⟩
  rw [← hL] at ho
  have HL := Lib.hid hL
  clear hL
  have hr := (Blk.new' w 33 #[.string ⟨#[]⟩, .int .i64 0, .int .i64 0, .slice none 0 0] [.string ⟨#[]⟩, .int .i64 0, .int .i64 0, .slice none 0 0] rfl).keep hk2 (by simp)
  have hK : Keep [] w w2 := ((Keep.refl [] w).alloc _).trans hk2 (by simp)
  obtain ⟨a9, c9, rfl⟩ := ho.shape
  rw [World.size_alloc] at ho
  have q : ∀ g, (Value.slice a9 L.length c9).ownBlock = some g → g ≠ w.heap.size := fun g hg => by
    have := (ho.lt g hg).1
    omega
  have r0 : w2.cell? ⟨w.heap.size, 0, none⟩ = some (.string ⟨#[]⟩) := hr.cell 0
  have r1 : w2.cell? ⟨w.heap.size, 1, none⟩ = some (.int .i64 0) := hr.cell 1
  have r2 : w2.cell? ⟨w.heap.size, 2, none⟩ = some (.int .i64 0) := hr.cell 2
  have r3 : w2.cell? ⟨w.heap.size, 3, none⟩ = some (.slice none 0 0) := hr.cell 3
  have rf : ∀ i, w2.frozen? ⟨w.heap.size, i, none⟩ = false := fun i => hr.frozen i
  have D := (((hr.set_ 0 (.string (⟨#[102]⟩ ++ s))).set_ 1 (.int .i64 0)).set_ 2 (.int .i64 0)).set_ 3 (.slice a9 L.length c9)
  have hKF := (((hK.setCell (p := ⟨w.heap.size, 0, none⟩) (Or.inr (Nat.le_refl _)) (.string (⟨#[102]⟩ ++ s))).setCell (p := ⟨w.heap.size, 1, none⟩) (Or.inr (Nat.le_refl _)) (.int .i64 0)).setCell (p := ⟨w.heap.size, 2, none⟩) (Or.inr (Nat.le_refl _)) (.int .i64 0)).setCell (p := ⟨w.heap.size, 3, none⟩) (Or.inr (Nat.le_refl _)) (.slice a9 L.length c9)
  have hKS := ((((Keep.refl [w.heap.size] w2).setCell (p := ⟨w.heap.size, 0, none⟩) (by simp) (.string (⟨#[102]⟩ ++ s))).setCell (p := ⟨w.heap.size, 1, none⟩) (by simp) (.int .i64 0)).setCell (p := ⟨w.heap.size, 2, none⟩) (by simp) (.int .i64 0)).setCell (p := ⟨w.heap.size, 3, none⟩) (by simp) (.slice a9 L.length c9)
  have ho2 := ho.keep hKS (fun g hg hx => q g hg (List.mem_singleton.1 hx))
  have d0 := D.cell 0; have d1 := D.cell 1; have d2 := D.cell 2; have d3 := D.cell 3
  have F := Lib.hid (And.intro d0 (And.intro d1 (And.intro d2 (And.intro d3 (And.intro hKF ho2)))))
  clear hr hK hk2 ho q D hKF hKS ho2 d0 d1 d2 d3
  go_wp2_with fail
  obtain ⟨d0, d1, d2, d3, hKF, ho2⟩ := F.out
  have hname : (⟨#[102]⟩ : ByteArray) ++ s = strB (102 :: Lib.decDigits k) := by
    rw [HS.out]
    apply ByteArray.ext
    rw [ByteArray.data_append]
    simp [strB]
  exact bodyPost_ret (v := .agg #[.string (⟨#[102]⟩ ++ s), .int .i64 0, .int .i64 0, .slice a9 L.length c9]) (by simp [results, Tryd.results34, go_sem, d0, d1, d2, d3]) rfl ⟨_, by unfold fnV; rw [hname], by rw [← HL.out]; exact ho2, hKF⟩
end Go.Proofs.YtndpbkhpllmhmaaDoor
namespace Go.Proofs.YtndpbkhpllmhmaaDoor
set_option linter.unusedSimpArgs false
set_option linter.unnecessarySimpa false
set_option linter.unusedVariables false
open Go.RowKit
theorem Tryd.sts68 : SliceTy Tryd.prog 68 31 (.slice none 0 0) 1 24 := ⟨Tryd.underlying68, by kernel_rfl, by kernel_rfl, by decide⟩
theorem Tryd.sts23 : SliceTy Tryd.prog 23 33 (.agg #[.string ⟨#[]⟩, .int .i64 0, .int .i64 0, .slice none 0 0]) 4 56 := ⟨Tryd.underlying23, by kernel_rfl, by kernel_rfl, by decide⟩
theorem own_lit {w : World} {g n : Nat} {t : TypeId} {cs : List Value} (size : Nat) (h : Blk w g t cs) (hl : cs.length = n * size) (hn : n ≤ maxLen) : OwnsAt w g t size (.slice (some ⟨g, 0, none⟩) n n) n cs :=
  ⟨hl, Or.inr ⟨g, 0, n, cs.toArray, rfl, Nat.le_refl _, h, Nat.le_refl _, hn, by simp [hl], by simp [← hl]⟩⟩
theorem code_lit {w : World} {g n : Nat} {cs : List Value} {l : List IN} (h : Blk w g 67 cs) (hc : cs = l.flatMap inC) (hn : n = l.length) : CodeAt (g + 1) w (.slice (some ⟨g, 0, none⟩) n n) l := by
  subst hn
  refine ⟨_, _, by rw [List.length_map], fun i r hr => ?_⟩
  rw [List.getElem?_map] at hr
  obtain ⟨x, hx, rfl⟩ := Option.map_eq_some_iff.1 hr
  refine ⟨g, 0, rfl, Nat.lt_succ_self _, fun j u hu => ?_⟩
  have hj : j < 2 := by have := get_lt hu; simpa [inC] using this
  rw [Nat.zero_add, h.cell, hc, flat_at inC_len l i x j hx hj]
  exact hu
theorem OwnsAt.low {w : World} {B B' : Nat} {e : TypeId} {size n : Nat} {v : Value} {xs : List Value} (h : OwnsAt w B e size v n xs) (hB : B' ≤ B) : OwnsAt w B' e size v n xs := by
  obtain ⟨h1, h2⟩ := h
  refine ⟨h1, ?_⟩
  rcases h2 with h2 | ⟨g, off, cap, cur, h3, h4, h5⟩
  · exact Or.inl h2
  · exact Or.inr ⟨g, off, cap, cur, h3, Nat.le_trans hB h4, h5⟩
theorem CodeAt.mono {B B' : Nat} {w : World} {v : Value} {l : List IN} (h : CodeAt B w v l) (k : B ≤ B') : CodeAt B' w v l := RowsAt.mono h k
def fnP (p : FN × Value) : List Value := fnC p.1 p.2
theorem fnP_len (p : FN × Value) : (fnP p).length = 4 := rfl
/-- functions of the call's own -/
def FnsOwn (B : Nat) (wr : World) (lv : Value) (fs : List FN) : Prop :=
  ∃ cvs : List Value, cvs.length = fs.length ∧ OwnsAt wr B 33 4 lv fs.length ((fs.zip cvs).flatMap fnP) ∧ ∀ (i : Nat) (f : FN) (cv : Value), fs[i]? = some f → cvs[i]? = some cv → OwnsAt wr B 67 2 cv f.code.length (f.code.flatMap inC)
theorem FnsOwn.nil (B : Nat) (w : World) : FnsOwn B w (.slice none 0 0) [] := ⟨[], rfl, OwnsAt.nil _ _ _ _, fun i f cv h => by cases h⟩
theorem fns_snoc {B : Nat} {w2 w' : World} {lv v' cv : Value} {fs : List FN} {cvs : List Value} {f : FN} (hl : cvs.length = fs.length) (hlv : OwnsAt w2 B 33 4 lv fs.length ((fs.zip cvs).flatMap fnP)) (hall : ∀ (i : Nat) (f : FN) (cv : Value), fs[i]? = some f → cvs[i]? = some cv → OwnsAt w2 B 67 2 cv f.code.length (f.code.flatMap inC))
    (hcv : OwnsAt w2 B 67 2 cv f.code.length (f.code.flatMap inC)) (k : Keep (ownBlocks lv) w2 w') (ho : OwnsAt w' B 33 4 v' (fs.length + 1) ((fs.zip cvs).flatMap fnP ++ fnC f cv)) : FnsOwn B w' v' (fs ++ [f]) := by
  refine ⟨cvs ++ [cv], by simp [hl], ?_, fun i f' cv' h1 h2 => ?_⟩
  · rw [List.zip_append hl.symm, List.flatMap_append, List.length_append, List.length_singleton]
    simpa [fnP] using ho
  · rcases Nat.lt_or_ge i fs.length with hi | hi
    · rw [List.getElem?_append_left hi] at h1
      rw [List.getElem?_append_left (by omega)] at h2
      exact (hall i f' cv' h1 h2).keep k (own_own (hall i f' cv' h1 h2) hlv (by decide))
    · have h3 := get_lt h1
      rw [List.length_append, List.length_singleton] at h3
      obtain rfl : i = fs.length := by omega
      rw [List.getElem?_append_right (Nat.le_refl _), Nat.sub_self] at h1
      rw [← hl, List.getElem?_append_right (Nat.le_refl _), Nat.sub_self] at h2
      simp at h1 h2
      subst h1 h2
      exact hcv.keep k (own_own hcv hlv (by decide))
theorem FnsOwn.more {B : Nat} {w w' : World} {lv : Value} {fs : List FN} (h : FnsOwn B w lv fs) (k : Keep [] w w') : FnsOwn B w' lv fs := by
  obtain ⟨cvs, hl, ho, hall⟩ := h
  exact ⟨cvs, hl, ho.keep k (by simp), fun i f cv h1 h2 => (hall i f cv h1 h2).keep k (by simp)⟩
theorem FnsOwn.keepS {B : Nat} {S : List Nat} {w w' : World} {lv : Value} {fs : List FN} (h : FnsOwn B w lv fs) (k : Keep S w w') (hS : ∀ x ∈ S, x < B) : FnsOwn B w' lv fs := by
  obtain ⟨cvs, hl, ho, hall⟩ := h
  exact ⟨cvs, hl, ho.keep k (fun x hx hm => by have := (ho.lt x hx).1; have := hS x hm; omega), fun i f cv h1 h2 => (hall i f cv h1 h2).keep k (fun x hx hm => by have := ((hall i f cv h1 h2).lt x hx).1; have := hS x hm; omega)⟩
theorem keep5 {w : World} {g : Nat} (x0 x1 x2 x3 x4 : Value) : Keep [g] w (((((w.setCell ⟨g, 0, none⟩ x0).setCell ⟨g, 1, none⟩ x1).setCell ⟨g, 2, none⟩ x2).setCell ⟨g, 3, none⟩ x3).setCell ⟨g, 4, none⟩ x4) :=
  (((((Keep.refl _ _).setCell (by simp) _).setCell (by simp) _).setCell (by simp) _).setCell (by simp) _).setCell (by simp) _
theorem set5 {w : World} {g : Nat} {t : TypeId} {a b c d e : Value} (H : Blk w g t [a, b, c, d, e]) (x0 x1 x2 x3 x4 : Value) :
    Blk (((((w.setCell ⟨g, 0, none⟩ x0).setCell ⟨g, 1, none⟩ x1).setCell ⟨g, 2, none⟩ x2).setCell ⟨g, 3, none⟩ x3).setCell ⟨g, 4, none⟩ x4) g t [x0, x1, x2, x3, x4] :=
  ((((H.set_ 0 x0).set_ 1 x1).set_ 2 x2).set_ 3 x3).set_ 4 x4
theorem FnsOwn.funcs {B : Nat} {w : World} {lv : Value} {fs : List FN} (h : FnsOwn B w lv fs) : FuncsAt w.heap.size w lv fs := by
  obtain ⟨cvs, hl, ho, hall⟩ := h
  refine ⟨cvs, hl, ?_, fun i f cv h1 h2 => code_of_own (hall i f cv h1 h2)⟩
  have hz : (List.zipWith fnC fs cvs).length = fs.length := by rw [List.length_zipWith, hl, Nat.min_self]
  obtain ⟨a, c, rfl⟩ := ho.shape
  refine ⟨a, c, by rw [hz], fun i r hr => ?_⟩
  rw [List.getElem?_zipWith] at hr
  have hi : i < fs.length := by
    rcases Nat.lt_or_ge i fs.length with h1 | h1
    · exact h1
    · rw [List.getElem?_eq_none h1] at hr; cases hr
  obtain ⟨f, hf⟩ := get_ex hi
  obtain ⟨cv, hcv⟩ := get_ex (show i < cvs.length by omega)
  rw [hf, hcv] at hr
  simp at hr
  subst hr
  obtain ⟨g, off, cap, hv, _, _, _, h4, h5⟩ := ho.form (by omega)
  injection hv with e1 e2 e3
  subst e1
  refine ⟨g, off, rfl, h4, fun j u hu => ?_⟩
  have hj : j < 4 := by have := get_lt hu; simpa [fnC] using this
  rw [Nat.add_assoc]
  exact h5 _ u (by rw [flat_at fnP_len (fs.zip cvs) i (f, cv) j (by rw [List.getElem?_zip_eq_some]; exact ⟨hf, hcv⟩) hj]; exact hu)
theorem CodeAt.keepS {B : Nat} {S : List Nat} {w w' : World} {v : Value} {l : List IN} (h : CodeAt B w v l) (k : Keep S w w') (hB : B ≤ w.heap.size) (hS : ∀ x ∈ sliceBlock v, x ∉ S) : CodeAt B w' v l := by
  obtain ⟨a, c, rfl, h⟩ := h
  refine ⟨a, c, rfl, fun i r hr => ?_⟩
  obtain ⟨b, off, rfl, hb, hc⟩ := h i r hr
  exact ⟨b, off, rfl, hb, fun j u hu => (k.cell (p := ⟨b, off + i * 2 + j, none⟩) (Nat.lt_of_lt_of_le hb hB) (hS b (by simp [sliceBlock]))).trans (hc j u hu)⟩
def fnsUpto (W n : Nat) : List FN := (List.range n).map (fun k : Nat => treeFn k (treeCode W k))
theorem fnsUpto_len (W n : Nat) : (fnsUpto W n).length = n := by simp [fnsUpto]
theorem fnsUpto_next (W n : Nat) : fnsUpto W (n + 1) = fnsUpto W n ++ [treeFn n (treeCode W n)] := by simp [fnsUpto, List.range_succ]
/-- the parts of a tree's function -/
def treeParts (wide k : Nat) : List (List IN) := [(List.replicate wide [⟨16, (k : Int) + 1⟩]).flatten, [⟨1, 1⟩], (List.replicate wide [⟨4, 0⟩, ⟨17, 0⟩, ⟨7, 0⟩]).flatten, [⟨18, 0⟩]]
theorem treeParts_flat (wide k : Nat) : (treeParts wide k).flatten = treeCode wide k := by
  unfold treeParts treeCode
  have h : ∀ (n : Nat) (x : IN), (List.replicate n [x]).flatten = List.replicate n x := by
    intro n x
    induction n with
    | zero => rfl
    | succ n ih => rw [List.replicate_succ, List.flatten_cons, ih, List.replicate_succ]; rfl
  simp [h]
theorem treeParts_sum (wide k : Nat) (h : wide ≤ 8) : 0 < sumL (treeParts wide k) ∧ sumL (treeParts wide k) ≤ 64 := by
  unfold sumL treeParts
  simp
  omega
theorem parts_of {B0 B : Nat} {w : World} {v : Value} {ps : List (List IN)} {pvs : List Value} (hl : pvs.length = ps.length) (ho : OwnsAt w B0 31 1 v ps.length pvs) (hc : ∀ (i : Nat) (p : List IN) (pv : Value), ps[i]? = some p → pvs[i]? = some pv → CodeAt B w pv p) (hB : w.heap.size ≤ B) : PartsAt B w v ps := by
  refine ⟨pvs, hl, ?_, hc⟩
  obtain ⟨a, c, rfl⟩ := ho.shape
  refine ⟨a, c, by rw [List.length_map, hl], fun i r hr => ?_⟩
  rw [List.getElem?_map] at hr
  obtain ⟨x, hx, rfl⟩ := Option.map_eq_some_iff.1 hr
  have hi := get_lt hx
  obtain ⟨g, off, cap, hv, _, _, _, h4, h5⟩ := ho.form (by omega)
  injection hv with e1 e2 e3
  subst e1
  refine ⟨g, off, rfl, by omega, fun j u hu => ?_⟩
  rcases j with _ | j
  · simp at hu
    subst hu
    rw [Nat.mul_one, Nat.add_zero]
    exact h5 i x hx
  · simp at hu
def TreePost (wide deep : Nat) (fuel tasks : Int) (w : World) (e : Ending) (w' : World) : Prop :=
  ∃ fv, e = .returned (.agg #[fv, .int .i64 0, .slice none 0 0, .int .i64 (cut3 fuel 200 5000), .int .i64 (cut3 tasks 1 500)]) ∧ FuncsAt w'.heap.size w' fv (treeFns wide deep) ∧ Keep [] w w'
end Go.Proofs.YtndpbkhpllmhmaaDoor
namespace Go.Proofs.YtndpbkhpllmhmaaDoor
set_option linter.unusedSimpArgs false
set_option linter.unnecessarySimpa false
set_option linter.unusedVariables false
open Go.RowKit
set_option maxHeartbeats 6400000 in
set_option maxRecDepth 100000 in
theorem tree_spec (w : World) (wide deep : Int) (W D : Nat) (fuel tasks : Int) (hW : min (max 0 wide) 8 = (W : Int)) (hD : min (max 0 deep) 5 = (D : Int)) :
    Calls Tryd.prog 13 #[.int .i64 wide, .int .i64 deep, .int .i64 fuel, .int .i64 tasks] w (TreePost W D fuel tasks w) := by
  have hW8 : W ≤ 8 := by omega
  have hD5 : D ≤ 5 := by omega
  have HW := Lib.hid hW
  have HD := Lib.hid hD
  have hDI : (D : Int) ≤ 5 := by omega
  have hD0 : (0 : Int) ≤ (D : Int) := by omega
  clear hW hD
  go_enter Tryd.func13, Tryd.ntmps13
  go_wp2_with fail
  refine (cut_spec _ _ _ _).mono ?_
  rintro e w2 ⟨rfl, hw2⟩
  rw [HW.out, hw2]
  clear hw2 w2
  go_wp2_with fail
  refine (cut_spec _ _ _ _).mono ?_
  rintro e w2 ⟨rfl, hw2⟩
  rw [HD.out, hw2]
  clear hw2 w2
  go_wp2_with fail
  go_loopw [9, 17] (fun lv kv wr => ∃ n : Nat, n ≤ D ∧ kv = .int .i64 n ∧ FnsOwn (w.heap.size + 1) wr lv (fnsUpto W n) ∧ Keep [] w wr ∧ Blk wr w.heap.size 26 [.slice none 0 0, .int .i64 0, .slice none 0 0, .int .i64 0, .int .i64 0]) (fun _ kv _ => D - (intOf kv).toNat)
  case atStart => exact ⟨0, Nat.zero_le _, rfl, FnsOwn.nil _ _, (Keep.refl [] w).alloc _, Blk.new' _ _ _ _ rfl⟩
  case round =>
    obtain ⟨n, hn, rfl, hF, hk, hb⟩ := hrel
    have HF := Lib.hid hF
    have HK := Lib.hid (And.intro hk hb)
    obtain ⟨cvs, hcl, hown, hall⟩ := hF
    rw [fnsUpto_len] at hown
    obtain ⟨al, cl, rfl⟩ := hown.shape
    by_cases hlt : n < D
    · have hnI : (n : Int) < (D : Int) := by omega
      have hn0 : (0 : Int) ≤ (n : Int) := by omega
      have HO := Lib.hid (And.intro hown (And.intro hcl hall))
      obtain ⟨L1, hL1⟩ : ∃ L1, L1 = (List.replicate W [(⟨16, (n : Int) + 1⟩ : IN)]).flatten := ⟨_, rfl⟩
      obtain ⟨L2, hL2⟩ : ∃ L2, L2 = (List.replicate W [(⟨4, 0⟩ : IN), ⟨17, 0⟩, ⟨7, 0⟩]).flatten := ⟨_, rfl⟩
      have HL1 := Lib.hid hL1
      have HL2 := Lib.hid hL2
      clear hk hb hcl hall hn hown hL1 hL2
      go_wp2_with fail
      refine (repeat_spec _ (wr.heap.size + 1) _ [⟨16, (n : Int) + 1⟩] W (code_lit (Blk.new' _ _ _ _ rfl) rfl rfl) (by simp) (Or.inl rfl) hW8).mono ?_
      rintro e w2 ⟨v1, rfl, hc1, hs1, hk1⟩
      rw [← HL1.out] at hc1
      obtain ⟨a1, c1, rfl⟩ := hc1.shape
      have K1 := Lib.hid (show Keep [] wr w2 from ((Keep.refl [] wr).alloc _).trans hk1 (by simp))
      have H1 := Lib.hid hc1
      clear hc1 hs1 hk1
      go_wp2_with fail
      refine (repeat_spec _ _ _ [⟨4, 0⟩, ⟨17, 0⟩, ⟨7, 0⟩] W (code_lit (blk_at (by simp) rfl) rfl rfl) (by simp) (Or.inr rfl) hW8).mono ?_
      rintro e w3 ⟨v2, rfl, hc2, hs2, hk2⟩
      rw [← HL2.out] at hc2
      obtain ⟨a2, c2, rfl⟩ := hc2.shape
      have hp2 := (((Blk.new' (w2.alloc (.cells #[.int .i64 1, .int .i64 1] 67)) 31 #[.slice a1 L1.length c1, .slice (some ⟨w2.heap.size, 0, none⟩) 1 1] [.slice a1 L1.length c1, .slice (some ⟨w2.heap.size, 0, none⟩) 1 1] rfl).alloc _).keep hk2 (by simp))
      have hq2 := ((((Blk.new' w2 67 #[.int .i64 1, .int .i64 1] [.int .i64 1, .int .i64 1] rfl).alloc _).alloc _).keep hk2 (by simp))
      have K2 : Hid (Keep [] w2 w3) := Lib.hid (((((Keep.refl [] w2).alloc _).alloc _).alloc _).trans hk2 (by simp))
      have hs2' : ∀ x ∈ sliceBlock (.slice a2 L2.length c2), w2.heap.size + 3 ≤ x := fun x hx => by have := hs2 x hx; simp at this; omega
      rw [World.size_alloc] at hp2
      have hown2 := own_lit 1 (n := 2) hp2 rfl (by unfold maxLen; omega)
      have hk3 : Keep [] w3 ((w3.alloc (.cells #[.int .i64 18, .int .i64 0] 67)).alloc (.cells #[.slice a2 L2.length c2, .slice (some ⟨w3.heap.size, 0, none⟩) 1 1] 31)) := ((Keep.refl [] w3).alloc _).alloc _
      have hsrc := src_lit (w3.alloc (.cells #[.int .i64 18, .int .i64 0] 67)) #[.slice a2 L2.length c2, .slice (some ⟨w3.heap.size, 0, none⟩) 1 1] _ 31 1 2 rfl rfl
      rw [World.size_alloc] at hsrc
      have hsz3 : w2.heap.size + 3 ≤ w3.heap.size := by have := hk2.size; simp at this; omega
      have H2 := Lib.hid (And.intro hc2 (And.intro hs2' (And.intro hq2 (And.intro hp2 (And.intro (hown2.keep hk3 (by simp)) (And.intro hsrc hk3))))))
      clear hc2 hs2 hs2' hk2 hp2 hq2 hown2 hk3 hsrc
      go_wp2_with (at_builtin; refine wpList_append_off rfl _ _ rfl Tryd.sts68 (w2.heap.size + 1) (.slice (some ⟨w2.heap.size + 1, 0, none⟩) 2 2) 2 [.slice a1 L1.length c1, .slice (some ⟨w2.heap.size, 0, none⟩) 1 1] rfl H2.out.2.2.2.2.1 _ 2 [.slice a2 L2.length c2, .slice (some ⟨w3.heap.size, 0, none⟩) 1 1] rfl H2.out.2.2.2.2.2.1 (by simp [Value.oneCell']) (by unfold maxLen; omega) (by omega) (by simp; omega) ?_)
      intro v' w4 ho4 hk4 hb4
      obtain ⟨a3, c3, rfl⟩ := ho4.shape
      have hob : ownBlocks (.slice (some ⟨w2.heap.size + 1, 0, none⟩) 2 2) = [w2.heap.size + 1] := rfl
      rw [hob] at hk4
      have hwx : Keep [w2.heap.size + 1] w2 w4 := ((K2.out.trans H2.out.2.2.2.2.2.2 (by simp)).mono (T := [w2.heap.size + 1]) (by simp)).trans hk4 (fun x hx => Or.inl hx)
      have hw3x : Keep [w2.heap.size + 1] w3 w4 := ((H2.out.2.2.2.2.2.2).mono (T := [w2.heap.size + 1]) (by simp)).trans hk4 (fun x hx => Or.inl hx)
      have cA : CodeAt w4.heap.size w4 (.slice a1 L1.length c1) L1 := CodeAt.mono (show CodeAt w2.heap.size w4 (.slice a1 L1.length c1) L1 from H1.out.below (Keep.below (Below.refl _ _) hwx (Nat.le_refl _) (by simp))) hwx.size
      have cB : CodeAt w4.heap.size w4 (.slice (some ⟨w2.heap.size, 0, none⟩) 1 1) [⟨1, 1⟩] := CodeAt.mono ((code_lit (l := [⟨1, 1⟩]) H2.out.2.2.1 rfl rfl).keepS hw3x (by omega) (by simp [sliceBlock])) (by have := hw3x.size; omega)
      have cC : CodeAt w4.heap.size w4 (.slice a2 L2.length c2) L2 := CodeAt.mono (H2.out.1.keepS hw3x (Nat.le_refl _) (fun x hx hm => by have := H2.out.2.1 x hx; simp at hm; omega)) hw3x.size
      have cD : CodeAt w4.heap.size w4 (.slice (some ⟨w3.heap.size, 0, none⟩) 1 1) [⟨18, 0⟩] := CodeAt.mono ((code_lit (l := [⟨18, 0⟩]) ((Blk.new' w3 67 #[.int .i64 18, .int .i64 0] [.int .i64 18, .int .i64 0] rfl).alloc (.cells #[.slice a2 L2.length c2, .slice (some ⟨w3.heap.size, 0, none⟩) 1 1] 31)) rfl rfl).keepS hk4 (by simp) (fun x hx hm => by simp [sliceBlock] at hx hm; omega)) (by have := hk4.size; simp at this; omega)
      have hps : treeParts W n = [L1, [⟨1, 1⟩], L2, [⟨18, 0⟩]] := by rw [HL1.out, HL2.out]; rfl
      have hparts : PartsAt w4.heap.size w4 (.slice a3 (2 + 2) c3) (treeParts W n) := by
        rw [hps]
        refine parts_of rfl ho4 (fun i p pv h1 h2 => ?_) (Nat.le_refl _)
        rcases i with _ | _ | _ | _ | i
        · cases h1; cases h2; exact cA
        · cases h1; cases h2; exact cB
        · cases h1; cases h2; exact cC
        · cases h1; cases h2; exact cD
        · cases h1
      have HP := Lib.hid hparts
      have K4 : Hid (Keep [w2.heap.size + 1] wr w4) := Lib.hid ((K1.out.mono (T := [w2.heap.size + 1]) (by simp)).trans hwx (fun x hx => Or.inl hx))
      have hw2r : wr.heap.size ≤ w2.heap.size := K1.out.size
      clear ho4 hk4 hb4 hob hwx hw3x cA cB cC cD hps hparts
      go_wp2_with fail
      refine (function_spec w4 w4.heap.size n _ (treeParts W n) (by omega) HP.out (Nat.le_refl _) (treeParts_sum W n hW8).1 (treeParts_sum W n hW8).2 (by simp [treeParts])).mono ?_
      rintro e w5 ⟨cv, rfl, hcv, hk5⟩
      rw [treeParts_flat] at hcv
      obtain ⟨N, hN⟩ : ∃ N, N = (treeFn n (treeCode W n)).code.length := ⟨_, rfl⟩
      have hcv2 : OwnsAt w5 (w4.heap.size + 1) 67 2 cv N ((treeFn n (treeCode W n)).code.flatMap inC) := by rw [hN]; exact hcv
      obtain ⟨a4, c4, rfl⟩ := hcv2.shape
      unfold fnV
      dsimp only
      obtain ⟨bs, hbs⟩ : ∃ bs, bs = (102 : UInt8) :: Lib.decDigits n := ⟨_, rfl⟩
      rw [← hbs]
      have K5 : Keep [w2.heap.size + 1] wr w5 := K4.out.trans hk5 (by simp)
      have hkz : Keep [] w5 (w5.alloc (.cells #[.string (strB bs), .int .i64 0, .int .i64 0, .slice a4 N c4] 33)) := (Keep.refl [] w5).alloc _
      have hfar : ∀ {e size m : Nat} {v : Value} {xs : List Value} {B : Nat}, OwnsAt wr B e size v m xs → ∀ x, v.ownBlock = some x → x ∉ [w2.heap.size + 1] := fun ho x hx hm => by
        have := (ho.lt x hx).2
        rw [List.mem_singleton] at hm
        omega
      have hown5 := ((HO.out.1.keep K5 (hfar HO.out.1)).keep hkz (by simp))
      have hall5 : ∀ (i : Nat) (f : FN) (cv : Value), (fnsUpto W n)[i]? = some f → cvs[i]? = some cv → OwnsAt (w5.alloc (.cells #[.string (strB bs), .int .i64 0, .int .i64 0, .slice a4 N c4] 33)) (w.heap.size + 1) 67 2 cv f.code.length (f.code.flatMap inC) := fun i f cv h1 h2 => ((HO.out.2.2 i f cv h1 h2).keep K5 (hfar (HO.out.2.2 i f cv h1 h2))).keep hkz (by simp)
      have hwr1 : w.heap.size + 1 ≤ wr.heap.size := HK.out.2.lt
      have hw45 : w.heap.size + 1 ≤ w4.heap.size + 1 := by have := K4.out.size; omega
      have hcv5 : OwnsAt (w5.alloc (.cells #[.string (strB bs), .int .i64 0, .int .i64 0, .slice a4 N c4] 33)) (w.heap.size + 1) 67 2 (.slice a4 N c4) (treeFn n (treeCode W n)).code.length ((treeFn n (treeCode W n)).code.flatMap inC) := by
        rw [← hN]
        exact (hcv2.low hw45).keep hkz (by simp)
      have hsz5 : w.heap.size + 1 ≤ w5.heap.size := by have := K5.size; omega
      have H5 := Lib.hid (And.intro hown5 (And.intro hall5 (And.intro hcv5 (And.intro (src_lit w5 #[.string (strB bs), .int .i64 0, .int .i64 0, .slice a4 N c4] _ 33 4 1 rfl rfl) (And.intro ((K5.mono (T := [w2.heap.size + 1]) (by simp)).trans hkz (by simp)) hbs)))))
      clear hown5 hall5 hcv5 hcv hcv2 hk5 K5 hkz hN hbs
      go_wp2_with (at_builtin; refine wpList_append_off rfl _ _ rfl Tryd.sts23 (w.heap.size + 1) (.slice al n cl) n _ rfl H5.out.1 _ 1 [.string (strB bs), .int .i64 0, .int .i64 0, .slice a4 N c4] rfl H5.out.2.2.2.1 (by simp [Value.oneCell']) (by unfold maxLen; omega) (by omega) (by simp; omega) ?_)
      intro v7 w7 ho7 hk7 hb7
      obtain ⟨a7, c7, rfl⟩ := ho7.shape
      have hfin : FnsOwn (w.heap.size + 1) w7 (.slice a7 (n + 1) c7) (fnsUpto W (n + 1)) := by
        rw [fnsUpto_next]
        refine fns_snoc (cvs := cvs) (cv := .slice a4 N c4) HO.out.2.1 (by rw [fnsUpto_len]; exact H5.out.1) H5.out.2.1 H5.out.2.2.1 hk7 ?_
        rw [fnsUpto_len]
        have : fnC (treeFn n (treeCode W n)) (.slice a4 N c4) = [.string (strB bs), .int .i64 0, .int .i64 0, .slice a4 N c4] := by rw [H5.out.2.2.2.2.2]; rfl
        rw [this]
        exact ho7
      have hk57 : Keep ((w2.heap.size + 1) :: ownBlocks (.slice al n cl)) wr w7 := (H5.out.2.2.2.2.1.mono (T := (w2.heap.size + 1) :: ownBlocks (.slice al n cl)) (by simp)).trans hk7 (fun x hx => Or.inl (List.mem_cons_of_mem _ hx))
      have hge : ∀ x ∈ (w2.heap.size + 1) :: ownBlocks (.slice al n cl), w.heap.size + 1 ≤ x := fun x hx => by
        rcases List.mem_cons.1 hx with rfl | hx
        · omega
        · exact own_base HO.out.1 x hx
      have HR := Lib.hid (And.intro hfin (And.intro (HK.out.1.trans hk57 (fun x hx => Or.inr (by have := hge x hx; omega))) (HK.out.2.keep hk57 (fun hm => by have := hge _ hm; omega))))
      clear ho7 hk7 hb7 hfin hk57 hge
      go_wp2_with fail
      go_roundw
      case rel => exact ⟨n + 1, by omega, by go_num, HR.out.1, HR.out.2.1, HR.out.2.2⟩
      case measure => simp [intOf]; omega
    · obtain rfl : D = n := by omega
      have HO := Lib.hid (And.intro hown (And.intro hcl (And.intro hall (And.intro hk hb))))
      clear hk hb hcl hall hown hlt hn
      have hp1 : Blk ((wr.alloc (.cells #[.int .i64 1, .int .i64 1, .int .i64 18, .int .i64 0] 67)).alloc (.cells #[.slice (some ⟨wr.heap.size, 0, none⟩) 2 2] 31)) (wr.heap.size + 1) 31 [.slice (some ⟨wr.heap.size, 0, none⟩) 2 2] := blk_at (by simp) rfl
      have hc1 : CodeAt (wr.heap.size + 1) ((wr.alloc (.cells #[.int .i64 1, .int .i64 1, .int .i64 18, .int .i64 0] 67)).alloc (.cells #[.slice (some ⟨wr.heap.size, 0, none⟩) 2 2] 31)) (.slice (some ⟨wr.heap.size, 0, none⟩) 2 2) [⟨1, 1⟩, ⟨18, 0⟩] := code_lit ((Blk.new' wr 67 #[.int .i64 1, .int .i64 1, .int .i64 18, .int .i64 0] [.int .i64 1, .int .i64 1, .int .i64 18, .int .i64 0] rfl).alloc _) rfl rfl
      have hparts : PartsAt (wr.heap.size + 2) ((wr.alloc (.cells #[.int .i64 1, .int .i64 1, .int .i64 18, .int .i64 0] 67)).alloc (.cells #[.slice (some ⟨wr.heap.size, 0, none⟩) 2 2] 31)) (.slice (some ⟨wr.heap.size + 1, 0, none⟩) 1 1) [[⟨1, 1⟩, ⟨18, 0⟩]] := by
        refine parts_of (pvs := [.slice (some ⟨wr.heap.size, 0, none⟩) 2 2]) rfl (own_lit 1 hp1 rfl (by unfold maxLen; omega)) (fun i p pv h1 h2 => ?_) (by simp)
        rcases i with _ | i
        · cases h1; cases h2; exact CodeAt.mono hc1 (by omega)
        · cases h1
      have hkp : Keep [] wr ((wr.alloc (.cells #[.int .i64 1, .int .i64 1, .int .i64 18, .int .i64 0] 67)).alloc (.cells #[.slice (some ⟨wr.heap.size, 0, none⟩) 2 2] 31)) := ((Keep.refl [] wr).alloc _).alloc _
      have HP := Lib.hid (And.intro hparts hkp)
      clear hp1 hc1 hparts hkp
      go_wp2_with fail
      refine (function_spec _ (wr.heap.size + 2) D _ [[⟨1, 1⟩, ⟨18, 0⟩]] (by omega) HP.out.1 (by simp) (by simp [sumL]) (by simp [sumL]) (by simp)).mono ?_
      rintro e w5 ⟨cv, rfl, hcv, hk5⟩
      have hcv2 : OwnsAt w5 (wr.heap.size + 3) 67 2 cv 2 ((treeFn D [⟨1, 1⟩, ⟨18, 0⟩]).code.flatMap inC) := by
        have h := hcv
        rw [show (((wr.alloc (.cells #[.int .i64 1, .int .i64 1, .int .i64 18, .int .i64 0] 67)).alloc (.cells #[.slice (some ⟨wr.heap.size, 0, none⟩) 2 2] 31)).heap.size + 1) = wr.heap.size + 3 by simp] at h
        exact h
      obtain ⟨a4, c4, rfl⟩ := hcv2.shape
      unfold fnV
      dsimp only
      obtain ⟨bs, hbs⟩ : ∃ bs, bs = (102 : UInt8) :: Lib.decDigits D := ⟨_, rfl⟩
      rw [← hbs]
      have K5 : Keep [] wr w5 := HP.out.2.trans hk5 (by simp)
      have hkz : Keep [] wr (w5.alloc (.cells #[.string (strB bs), .int .i64 0, .int .i64 0, .slice a4 2 c4] 33)) := K5.alloc _
      have hkz5 : Keep [] w5 (w5.alloc (.cells #[.string (strB bs), .int .i64 0, .int .i64 0, .slice a4 2 c4] 33)) := (Keep.refl [] w5).alloc _
      have hwr1 : w.heap.size + 1 ≤ wr.heap.size := HO.out.2.2.2.2.lt
      have hsz5 : w.heap.size + 1 ≤ w5.heap.size := by have := K5.size; omega
      have H5 := Lib.hid (And.intro (HO.out.1.keep hkz (by simp)) (And.intro (fun (i : Nat) (f : FN) (cv : Value) (h1 : (fnsUpto W D)[i]? = some f) (h2 : cvs[i]? = some cv) => (HO.out.2.2.1 i f cv h1 h2).keep hkz (by simp)) (And.intro ((hcv2.low (show w.heap.size + 1 ≤ wr.heap.size + 3 by omega)).keep hkz5 (by simp)) (And.intro (src_lit w5 #[.string (strB bs), .int .i64 0, .int .i64 0, .slice a4 2 c4] _ 33 4 1 rfl rfl) (And.intro hkz hbs)))))
      clear hcv hcv2 hk5 K5 hkz hkz5 hbs
      go_wp2_with (at_builtin; refine wpList_append_off rfl _ _ rfl Tryd.sts23 (w.heap.size + 1) (.slice al D cl) D _ rfl H5.out.1 _ 1 [.string (strB bs), .int .i64 0, .int .i64 0, .slice a4 2 c4] rfl H5.out.2.2.2.1 (by simp [Value.oneCell']) (by unfold maxLen; omega) (by omega) (by simp; omega) ?_)
      intro v7 w7 ho7 hk7 hb7
      obtain ⟨a7, c7, rfl⟩ := ho7.shape
      have hfin : FnsOwn (w.heap.size + 1) w7 (.slice a7 (D + 1) c7) (treeFns W D) := by
        refine fns_snoc (fs := fnsUpto W D) (f := treeFn D [⟨1, 1⟩, ⟨18, 0⟩]) (cvs := cvs) (cv := .slice a4 2 c4) HO.out.2.1 (by rw [fnsUpto_len]; exact H5.out.1) H5.out.2.1 H5.out.2.2.1 hk7 ?_
        rw [fnsUpto_len]
        have : fnC (treeFn D [⟨1, 1⟩, ⟨18, 0⟩]) (.slice a4 2 c4) = [.string (strB bs), .int .i64 0, .int .i64 0, .slice a4 2 c4] := by rw [H5.out.2.2.2.2.2]; rfl
        rw [this]
        exact ho7
      have hk57 : Keep (ownBlocks (.slice al D cl)) wr w7 := (H5.out.2.2.2.2.1.mono (T := ownBlocks (.slice al D cl)) (by simp)).trans hk7 (fun x hx => Or.inl hx)
      have hk07 : Keep [] w w7 := HO.out.2.2.2.1.trans hk57 (fun x hx => Or.inr (by have := own_base HO.out.1 x hx; omega))
      have hb7 := HO.out.2.2.2.2.keep hk57 (own_apart HO.out.1 HO.out.2.2.2.2 (by decide))
      have HR := Lib.hid (And.intro hfin (And.intro hk07 hb7))
      clear ho7 hk7 hb7 hfin hk57 hk07
      go_wp2_with fail
      refine (of_spec _ fuel tasks a7 (D + 1) c7).mono ?_
      rintro e w8 ⟨rfl, hk8⟩
      have hb8 := HR.out.2.2.keep hk8 (by simp)
      have z0 : w8.cell? ⟨w.heap.size, 0, none⟩ = some (.slice none 0 0) := hb8.cell 0
      have z1 : w8.cell? ⟨w.heap.size, 1, none⟩ = some (.int .i64 0) := hb8.cell 1
      have z2 : w8.cell? ⟨w.heap.size, 2, none⟩ = some (.slice none 0 0) := hb8.cell 2
      have z3 : w8.cell? ⟨w.heap.size, 3, none⟩ = some (.int .i64 0) := hb8.cell 3
      have z4 : w8.cell? ⟨w.heap.size, 4, none⟩ = some (.int .i64 0) := hb8.cell 4
      have zf : ∀ i, w8.frozen? ⟨w.heap.size, i, none⟩ = false := fun i => hb8.frozen i
      have D8 := set5 hb8 (.slice a7 (D + 1) c7) (.int .i64 0) (.slice none 0 0) (.int .i64 (cut3 fuel 200 5000)) (.int .i64 (cut3 tasks 1 500))
      have k5 := keep5 (w := w8) (g := w.heap.size) (.slice a7 (D + 1) c7) (.int .i64 0) (.slice none 0 0) (.int .i64 (cut3 fuel 200 5000)) (.int .i64 (cut3 tasks 1 500))
      have HT := Lib.hid (And.intro ((HR.out.1.more hk8).keepS k5 (by simp)) ((HR.out.2.1.trans hk8 (by simp)).trans k5 (by simp)))
      have HD8 := Lib.hid D8
      clear hk8 hb8 D8 k5
      go_wp2_with fail
      have d0 := HD8.out.cell 0
      have d1 := HD8.out.cell 1
      have d2 := HD8.out.cell 2
      have d3 := HD8.out.cell 3
      have d4 := HD8.out.cell 4
      exact bodyPost_ret (v := .agg #[.slice a7 (D + 1) c7, .int .i64 0, .slice none 0 0, .int .i64 (cut3 fuel 200 5000), .int .i64 (cut3 tasks 1 500)]) (by simp [results, Tryd.results13, go_sem, d0, d1, d2, d3, d4]) rfl ⟨_, rfl, HT.out.1.funcs, HT.out.2⟩
end Go.Proofs.YtndpbkhpllmhmaaDoor
namespace Go.Proofs.YtndpbkhpllmhmaaDoor
set_option linter.unusedSimpArgs false
set_option linter.unnecessarySimpa false
set_option linter.unusedVariables false
open Go.RowKit
theorem do_all (J : JB) (n : Nat) (hn : n ≤ 1000) : DoSpec J n := by
  induction n using Nat.strongRecOn with
  | _ n ih => exact do_step J n hn (fun m hm => ih m hm (by omega))
theorem three_of {R2 : List ER} (h : R2.map ER.k = [([], 3), ([0], 1), ([1], 1)]) : ∃ x0 x1 x2 : ER, R2 = [x0, x1, x2] ∧ x0.k.1 = [] ∧ x0.k.2 = 3 ∧ x1.k.1 = [0] ∧ x2.k.1 = [1] := by
  rcases R2 with _ | ⟨a, _ | ⟨b, _ | ⟨c, _ | ⟨d, t⟩⟩⟩⟩
  · simp at h
  · simp at h
  · simp at h
  · simp at h
    exact ⟨a, b, c, rfl, by rw [h.1], by rw [h.1], by rw [h.2.1], by rw [h.2.2]⟩
  · simp at h
def EvalPost (w : World) (e : Ending) (w' : World) : Prop :=
  ∃ g off c, e = .returned (.tuple #[.slice (some ⟨g, off, none⟩) 3 c, .int .i64 0]) ∧ w'.cell? ⟨g, off + 4, none⟩ = some (.int .i64 3) ∧ Keep [] w w'
set_option maxHeartbeats 6400000 in
set_option maxRecDepth 100000 in
theorem eval_spec (w : World) (B : Nat) (jv : Value) (hj : JobIs B w jv J2) (hB : B ≤ w.heap.size) :
    Calls Tryd.prog 31 #[jv] w (EvalPost w) := by
  have HJ := Lib.hid (And.intro hj hB)
  obtain ⟨fv, rfl, hfs⟩ := hj
  obtain ⟨aj, cj, rfl⟩ := hfs.shape
  have hA : Blk (w.alloc (.cells #[.slice aj J2.fs.length cj, .int .i64 0, .slice none 0 0, .int .i64 J2.fuel, .int .i64 J2.tasks] 26)) w.heap.size 26 [.slice aj J2.fs.length cj, .int .i64 0, .slice none 0 0, .int .i64 J2.fuel, .int .i64 J2.tasks] := Blk.new' _ _ _ _ rfl
  have HA := Lib.hid hA
  have hkA : Keep [] w (w.alloc (.cells #[.slice aj J2.fs.length cj, .int .i64 0, .slice none 0 0, .int .i64 J2.fuel, .int .i64 J2.tasks] 26)) := (Keep.refl [] w).alloc _
  have HKA := Lib.hid hkA
  clear hfs hB hA hkA
  go_enter Tryd.func31, Tryd.ntmps31
  go_wp2_with fail
  refine (know_spec _ B _ J2 (HJ.out.1.below (below_of HKA.out HJ.out.2)) (Nat.le_trans HJ.out.2 HKA.out.size) J2_ok).mono ?_
  rintro e w1 ⟨gk, rfl, hgk, hkn, hk1⟩
  have hb1 := HA.out.keep hk1 (by simp)
  have j1 : w1.cell? ⟨w.heap.size, 1, none⟩ = some (.int .i64 0) := hb1.cell 1
  have j2 : w1.cell? ⟨w.heap.size, 2, none⟩ = some (.slice none 0 0) := hb1.cell 2
  have H1 := Lib.hid (And.intro hkn (HKA.out.trans hk1 (by simp)))
  have hl1 : w.heap.size < w1.heap.size := hb1.lt
  have hbg : Blk (w1.alloc (.cells #[.pointer (some ⟨gk, 0, none⟩), .slice none 0 0, .bool false] 106)) w1.heap.size 106 [.pointer (some ⟨gk, 0, none⟩), .slice none 0 0, .bool false] := Blk.new' _ _ _ _ rfl
  have HBG := Lib.hid hbg
  clear hb1 hkn hk1 hbg hgk
  go_wp2_with fail
  refine (do_all J2 6 (by decide) _ w1.heap.size w1.heap.size gk 0 (.slice none 0 0) [] [] _ 3 ⟨H1.out.1.below (below_of ((Keep.refl [] w1).alloc _) (Nat.le_refl _)), by simp, Nat.le_refl _, HBG.out, OwnsAt.nil _ _ _ _, by decide, by rw [J2_len]; decide, by rw [J2_fs]; decide, by decide, by decide, by decide⟩ J2_loop).mono ?_
  rintro e w2 ⟨R2, ev2, rfl, hR2, _, _, hk2, hb2, ho2, _⟩
  obtain ⟨x0, x1, x2, hR3, i0, v0, i1, i2⟩ := three_of hR2
  rw [hR3] at ho2
  clear hR2 hR3
  obtain ⟨ge, off, cap, rfl, _, _, _, hge, hc⟩ := ho2.form (by simp)
  have c0 : w2.cell? ⟨ge, off + 0, none⟩ = some (.string (strB x0.k.1)) := hc 0 (.string (strB x0.k.1)) rfl
  have c4 : w2.cell? ⟨ge, off + 4, none⟩ = some (.int .i64 x0.k.2) := hc 4 (.int .i64 x0.k.2) rfl
  have c8 : w2.cell? ⟨ge, off + 8, none⟩ = some (.string (strB x1.k.1)) := hc 8 (.string (strB x1.k.1)) rfl
  have c16 : w2.cell? ⟨ge, off + 16, none⟩ = some (.string (strB x2.k.1)) := hc 16 (.string (strB x2.k.1)) rfl
  rw [i0] at c0
  rw [v0] at c4
  rw [i1] at c8
  rw [i2] at c16
  have hk2' : Keep [] w w2 := (H1.out.2.trans ((Keep.refl [] w1).alloc _) (by simp)).trans hk2 (fun x hx => Or.inr (by simp [ownBlocks, Value.ownBlock] at hx; omega))
  have H2 := Lib.hid (And.intro hk2' (And.intro hb2 (And.intro c0 (And.intro c4 (And.intro c8 c16)))))
  have o2 : w2.cell? ⟨w1.heap.size, 2, none⟩ = some (.bool false) := hb2.cell 2
  have o1 : w2.cell? ⟨w1.heap.size, 1, none⟩ = some (.slice (some ⟨ge, off, none⟩) 3 cap) := hb2.cell 1
  have hgl : w1.heap.size < w2.heap.size := hb2.lt
  clear hc ho2 hk2 hb2 c0 c4 c8 c16 hk2' HBG
  have bl1 : Op.bytesLess (strB []).toList (strB [0]).toList = true := by rw [strB_toList, strB_toList]; rfl
  have bl2 : Op.bytesLess (strB [0]).toList (strB [1]).toList = true := by rw [strB_toList, strB_toList]; rfl
  go_wp2_with fail
  go_loopw [7] (fun v wr => (v = .int .i64 1 ∨ v = .int .i64 2 ∨ v = .int .i64 3) ∧ Keep [] w2 wr) (fun v _ => 3 - (intOf v).toNat)
  case atStart => exact ⟨Or.inl rfl, Keep.refl _ _⟩
  case round =>
    clear o1 o2
    obtain ⟨hv, hk⟩ := hrel
    have o1 : wr.cell? ⟨w1.heap.size, 1, none⟩ = some (.slice (some ⟨ge, off, none⟩) 3 cap) := cell_keep0 hk (H2.out.2.1.cell 1)
    have c0 : wr.cell? ⟨ge, off, none⟩ = some (.string (strB [])) := cell_keep0 hk H2.out.2.2.1
    have c8 : wr.cell? ⟨ge, off + 8, none⟩ = some (.string (strB [0])) := cell_keep0 hk H2.out.2.2.2.2.1
    have c16 : wr.cell? ⟨ge, off + 16, none⟩ = some (.string (strB [1])) := cell_keep0 hk H2.out.2.2.2.2.2
    have HK := Lib.hid hk
    generalize wr = wo at *
    rcases hv with rfl | rfl | rfl
    · clear hk
      go_wp2_with fail
      go_loopw [8] (fun v wr => v = .int .i64 1 ∧ Keep [] wo wr) (fun _ _ => 0)
      case atStart => exact ⟨rfl, Keep.refl _ _⟩
      case round =>
        clear o1 c0 c8 c16
        obtain ⟨rfl, hk9⟩ := hrel
        have o1 : wr.cell? ⟨w1.heap.size, 1, none⟩ = some (.slice (some ⟨ge, off, none⟩) 3 cap) := cell_keep0 (HK.out.trans hk9 (by simp)) (H2.out.2.1.cell 1)
        have c0 : wr.cell? ⟨ge, off, none⟩ = some (.string (strB [])) := cell_keep0 (HK.out.trans hk9 (by simp)) H2.out.2.2.1
        have c8 : wr.cell? ⟨ge, off + 8, none⟩ = some (.string (strB [0])) := cell_keep0 (HK.out.trans hk9 (by simp)) H2.out.2.2.2.2.1
        have c16 : wr.cell? ⟨ge, off + 16, none⟩ = some (.string (strB [1])) := cell_keep0 (HK.out.trans hk9 (by simp)) H2.out.2.2.2.2.2
        have H9 := Lib.hid (HK.out.trans hk9 (by simp))
        clear hk9
        go_wp2_with fail
        go_quiet (fail)
        go_wp2_with fail
        go_roundw
        case rel => exact ⟨Or.inr (Or.inl rfl), H9.out.drewN _⟩
        case measure => simp [intOf]
    · clear hk
      go_wp2_with fail
      go_loopw [8] (fun v wr => v = .int .i64 2 ∧ Keep [] wo wr) (fun _ _ => 0)
      case atStart => exact ⟨rfl, Keep.refl _ _⟩
      case round =>
        clear o1 c0 c8 c16
        obtain ⟨rfl, hk9⟩ := hrel
        have o1 : wr.cell? ⟨w1.heap.size, 1, none⟩ = some (.slice (some ⟨ge, off, none⟩) 3 cap) := cell_keep0 (HK.out.trans hk9 (by simp)) (H2.out.2.1.cell 1)
        have c0 : wr.cell? ⟨ge, off, none⟩ = some (.string (strB [])) := cell_keep0 (HK.out.trans hk9 (by simp)) H2.out.2.2.1
        have c8 : wr.cell? ⟨ge, off + 8, none⟩ = some (.string (strB [0])) := cell_keep0 (HK.out.trans hk9 (by simp)) H2.out.2.2.2.2.1
        have c16 : wr.cell? ⟨ge, off + 16, none⟩ = some (.string (strB [1])) := cell_keep0 (HK.out.trans hk9 (by simp)) H2.out.2.2.2.2.2
        have H9 := Lib.hid (HK.out.trans hk9 (by simp))
        clear hk9
        go_wp2_with fail
        go_quiet (fail)
        go_wp2_with fail
        go_roundw
        case rel => exact ⟨Or.inr (Or.inr rfl), H9.out.drewN _⟩
        case measure => simp [intOf]
    · clear hk
      go_wp2_with fail
      go_ret2
      exact ⟨ge, off, cap, rfl, cell_keep0 HK.out H2.out.2.2.2.1, H2.out.1.trans HK.out (by simp)⟩
end Go.Proofs.YtndpbkhpllmhmaaDoor
namespace Go.Proofs.YtndpbkhpllmhmaaDoor
set_option linter.unusedSimpArgs false
set_option linter.unnecessarySimpa false
set_option linter.unusedVariables false
open Go.RowKit
set_option maxHeartbeats 3200000 in
set_option maxRecDepth 100000 in
theorem alive_ok (w : World) : Calls Tryd.prog 12 #[] w fun e w' => e = .returned (.bool true) ∧ Keep [] w w' := by
  have e1 : cut3 1000 200 5000 = 1000 := by decide
  have e2 : cut3 100 1 500 = 100 := by decide
  go_enter Tryd.func12, Tryd.ntmps12
  go_wp2_with fail
  refine (tree_spec _ 2 1 2 1 1000 100 (by decide) (by decide)).mono ?_
  rintro e w1 ⟨fv, rfl, hf, hk1⟩
  rw [e1, e2]
  have H1 := Lib.hid (And.intro hf hk1)
  clear hf hk1
  go_wp2_with fail
  refine (eval_spec w1 w1.heap.size _ ⟨fv, rfl, H1.out.1⟩ (Nat.le_refl _)).mono ?_
  rintro e w2 ⟨g, off, c, rfl, hc, hk2⟩
  have H2 := Lib.hid (H1.out.2.trans hk2 (by simp))
  clear hk2
  go_wp2_with fail
  go_ret
  exact ⟨rfl, H2.out⟩
end Go.Proofs.YtndpbkhpllmhmaaDoor
