/- The reference term: settle. -/
import Derived.Test.YtiicmlhpcfhfeaaRows
import Derived.WalkKit
import Derived.WalkSpells
import Derived.WalkLawsBesides
import Derived.RegionTactic
import Derived.ChangeAlike
import Derived.BigQuiet
import Derived.Deep.QuietTactic
import Derived.StillTailTactics
import Derived.IntWalk
import Derived.Handy
import Derived.Lib.Hide
import Derived.Deep.AppendLies
import Derived.Deep.RegionWith
import Derived.Test.YtiicmlhpcfhfeaaBase
import Derived.Test.YtiicmlhpcfhfeaaTail
import Derived.Test.YtiicmlhpcfhfeaaArgs
import Derived.Test.YtiicmlhpcfhfeaaAppend
import Derived.Deep.RegionLaw
import Derived.Test.YtiicmlhpcfhfeaaOffs
import Derived.Test.YtiicmlhpcfhfeaaStructs
import Derived.Test.YtiicmlhpcfhfeaaSplit
import Derived.Test.YtiicmlhpcfhfeaaTermObj
import Derived.Test.YtiicmlhpcfhfeaaTermRead
import Derived.Test.YtiicmlhpcfhfeaaTermSettle
import Derived.Test.YtiicmlhpcfhfeaaTermSettle2
import Derived.Test.YtiicmlhpcfhfeaaTermDel
import Derived.Test.YtiicmlhpcfhfeaaTermSend
import Derived.Test.YtiicmlhpcfhfeaaTermDeliver
import Derived.Test.YtiicmlhpcfhfeaaTermNew2
import Derived.Test.YtiicmlhpcfhfeaaTermAlive
import Derived.Test.YtiicmlhpcfhfeaaTermInv2
import Derived.Test.YtiicmlhpcfhfeaaRefTerm
namespace Go.Proofs.Ytiicmlhpcfhfeaa
open Go.RowKit
def RSPost (B p : Nat) (F : List Nat) (w : World) (q' : TM) (e : Ending) (w' : World) : Prop :=
  e = .returned (.tuple #[]) ∧ ∃ F', RefAt w' B p F' q' ∧ Keep F w w' ∧ ∀ x ∈ F', x ∈ F ∨ w.heap.size ≤ x
structure UpsOk (q : TM) : Prop where
  root : ∀ x, q.nodes[0]? = some x → x.2.2 = -1
  ups : ∀ (k : Nat) (x : Nd), q.nodes[k]? = some x → x.2.2 = -1 ∨ 0 ≤ x.2.2
theorem stuck_act {x : Nd} (h : x.2.1 = true) : stuck x = false := by unfold stuck; simp [h]
theorem stuck_owe {x : Nd} (h : (x.1 == 0) = false) : stuck x = false := by unfold stuck; rw [h]; simp
theorem stuck_up {x : Nd} (h : x.2.2 = -1) : stuck x = false := by unfold stuck; simp [h]
set_option maxHeartbeats 8000000 in
set_option maxRecDepth 100000 in
theorem settleR_spec {w : World} {B p : Nat} {F : List Nat} {q : TM} (h : RefAt w B p F q) (hB : B ≤ w.heap.size) (hu : UpsOk q) (hl0 : 1 ≤ q.nodes.length) (hl : q.nodes.length ≤ 1000) (hwl : q.way.length ≤ 1000000000) :
    Calls Try.prog 30 #[.pointer (some ⟨p, 0, none⟩)] w (RSPost B p F w (settle q)) := by
  have Hwl := Lib.hid hwl
  have Hl := Lib.hid hl
  have Hl0 := Lib.hid hl0
  have Hu := Lib.hid hu
  have hb0 : ∀ (j : Nat) (y : Nd), j < 1 → q.nodes[j]? = some y → stuck y = false := fun j y hj hy => by
    obtain rfl : j = 0 := by omega
    exact stuck_up (hu.root y hy)
  have Hb0 := Lib.hid hb0
  clear hl hl0 hwl hu hb0
  go_enter Try.func30, Try.ntmps30
  go_wp2_with fail
  go_loopw [2] (fun v2 wr => ∃ (i : Nat) (F' : List Nat) (q' : TM), v2 = .int .i64 (i : Int) ∧ 1 ≤ i ∧ i ≤ q.nodes.length ∧ q'.nodes.length = q.nodes.length ∧ q'.way.length ≤ q.way.length + i ∧ settle q' = settle q ∧ UpsOk q' ∧
    (∀ (j : Nat) (y : Nd), j < i → q'.nodes[j]? = some y → stuck y = false) ∧ RefAt wr B p F' q' ∧ Keep F w wr ∧ ∀ x ∈ F', x ∈ F ∨ w.heap.size ≤ x) (fun v _ => q.nodes.length - (intOf v).toNat)
  case atStart => exact ⟨1, F, q, rfl, by omega, Hl0.out, rfl, by omega, rfl, Hu.out, Hb0.out, h, Keep.refl _ _, fun x hx => Or.inl hx⟩
  case round =>
    clear h Hu Hb0
    obtain ⟨i, F', q', rfl, h1i, hin, hnl, hwl, hset, hu, hb, hat, hk, hf⟩ := hrel
    have Hset := Lib.hid hset
    have Hb := Lib.hid hb
    have Hnl := Lib.hid hnl
    have Hwl2 := Lib.hid hwl
    have Hu := Lib.hid hu
    have Hin := Lib.hid hin
    clear hset hb hwl hu hin
    obtain ⟨ga, go, gu, vw, hat, rfl⟩ := hat
    have c0 : wr.cell? ⟨p, 0, none⟩ = some (.slice (some ⟨ga, 0, none⟩) q'.nodes.length q'.nodes.length) := hat.head.cell 0
    have c1 : wr.cell? ⟨p, 1, none⟩ = some (.slice (some ⟨go, 0, none⟩) q'.nodes.length q'.nodes.length) := hat.head.cell 1
    have c2 : wr.cell? ⟨p, 2, none⟩ = some (.slice (some ⟨gu, 0, none⟩) q'.nodes.length q'.nodes.length) := hat.head.cell 2
    by_cases hlt : i < q'.nodes.length
    · have hx : q'.nodes[i]? = some q'.nodes[i] := List.getElem?_eq_getElem hlt
      generalize q'.nodes[i] = x at hx
      obtain ⟨e0, e1, e2⟩ := hat.at_ hx
      have hk2 : (i : Int) < (q'.nodes.length : Int) := by omega
      have hups := Hu.out.ups i x hx
      have Hx := Lib.hid hx
      have Hat := Lib.hid hat
      have hnext : stuck x = false → ∀ (j : Nat) (y : Nd), j < i + 1 → q'.nodes[j]? = some y → stuck y = false := fun hs j y hj hy => by
        by_cases hji : j = i
        · subst hji
          rw [Hx.out] at hy
          cases hy
          exact hs
        · exact Hb.out j y (by omega) hy
      have Hnext := Lib.hid hnext
      have Hups := Lib.hid hups
      have hw2 : (i : Int) + 1 ≤ 1001 := by have := Hl.out; have := Hin.out; omega
      clear hx hat hnext hups hnl
      obtain ⟨xn, xa, xu⟩ := x
      simp only at e0 e1 e2
      have hskip : stuck (xn, xa, xu) = false → ∃ (i2 : Nat) (F' : List Nat) (q' : TM), Value.int .i64 ((i : Int) + 1) = .int .i64 (i2 : Int) ∧ 1 ≤ i2 ∧ i2 ≤ q.nodes.length ∧ q'.nodes.length = q.nodes.length ∧ q'.way.length ≤ q.way.length + i2 ∧ settle q' = settle q ∧ UpsOk q' ∧
          (∀ (j : Nat) (y : Nd), j < i2 → q'.nodes[j]? = some y → stuck y = false) ∧ RefAt wr B p F' q' ∧ Keep F w wr ∧ ∀ x ∈ F', x ∈ F ∨ w.heap.size ≤ x := fun hs =>
        ⟨i + 1, _, q', by simp, by omega, by have := Hnl.out; omega, Hnl.out, by have := Hwl2.out; omega, Hset.out, Hu.out, Hnext.out hs, ⟨ga, go, gu, vw, Hat.out, rfl⟩, hk, hf⟩
      have hm : q.nodes.length - (i + 1) < q.nodes.length - i := by have := Hnl.out; omega
      cases xa with
      | true =>
        have Hs := Lib.hid (hskip (stuck_act rfl))
        clear hskip hk hf
        go_wp2_with fail
        go_roundw
        case rel => exact Hs.out
        case measure => simpa [intOf] using hm
      | false =>
        by_cases h0 : xn = 0
        · subst h0
          have e1' : (0 : Int) = 0 := rfl
          rcases Hups.out with hu1 | hu1
          · simp only at hu1
            subst hu1
            have Hs := Lib.hid (hskip (stuck_up rfl))
            clear hskip hk hf
            go_wp2_with fail
            go_roundw
            case rel => exact Hs.out
            case measure => simpa [intOf] using hm
          · simp only at hu1
            clear hskip
            have hst : stuck ((0 : Int), false, xu) = true := by unfold stuck; simp; omega
            have hplt := Hat.out.head.lt
            have hB1 : B ≤ wr.heap.size := by have := hk.size; omega
            obtain ⟨aw, cw, rfl⟩ := Hat.out.way.shape
            have c3 : wr.cell? ⟨p, 3, none⟩ = some (.slice aw q'.way.length cw) := Hat.out.head.cell 3
            have hwlen : q'.way.length ≤ 2000000000 := by have := Hwl.out; have := Hl.out; have := Hwl2.out; have := Hin.out; omega
            have Hwlen := Lib.hid hwlen
            clear hwlen
            go_wp2_with fail
            go_region_law (refine step_append_off rfl (.tmp 44) (.tmp 54) rfl Try.sgs31 B (.slice aw q'.way.length cw) q'.way.length (q'.way.flatMap sgC) (by simp [Act.eval]) ((Hat.out.way.keep (Keep.refl [] _).drew (by simp)).keep ((Keep.refl [] _).alloc _) (by simp)) (.slice (some ⟨wr.heap.size, 0, none⟩) 1 1) 1 [.int .i64 i, .int .i64 xu, .bool true] (by simp [Act.eval]) (src_row 3 rfl _ rfl) (by simp [Value.oneCell']) (by unfold maxLen; have := Hwlen.out; omega) (by have := Hwlen.out; omega) (by simp; omega) ?_; intro v' w4 hown4 hk4 hat4; obtain ⟨g1, g2, g3⟩ := RefIn.post (s := ((i : Int), xu, true)) (Hat.out.keep (Keep.refl [] _).drew (by simp)) ((Keep.refl [] _).alloc (.cells #[.int .i64 i, .int .i64 xu, .bool true] 44)) hk4 (by simpa [sgC] using hown4) (by simpa using hat4); have hp4 : p ∉ ownBlocks (.slice aw q'.way.length cw) := (fun hx => Hat.out.way.ne_blk Hat.out.head (by decide) (mem_own.1 hx)); have c5 : w4.cell? ⟨p, 3, none⟩ = some (.slice aw q'.way.length cw) := (((Hat.out.head.drew).alloc _).keep hk4 hp4).cell 3; have f5 : w4.frozen? ⟨p, 3, none⟩ = false := (((Hat.out.head.drew).alloc _).keep hk4 hp4).frozen 3; obtain ⟨a7, c7', rfl⟩ := hown4.shape)
            all_goals
              have c6 : (w4.setCell ⟨p, 3, none⟩ (.slice a7 (q'.way.length + 1) c7')).cell? ⟨p, 2, none⟩ = some (.slice (some ⟨gu, 0, none⟩) q'.nodes.length q'.nodes.length) := g1.head.cell 2
              have e6 := (g1.at_ (q := ⟨q'.nodes, q'.way ++ [((i : Int), xu, true)]⟩) Hx.out).2.2
              simp only at e6
              have f6 := g1.up.frozen i
              obtain ⟨t1, t2⟩ := RefIn.setUp (q := ⟨q'.nodes, q'.way ++ [((i : Int), xu, true)]⟩) g1 Hx.out (-1)
              have k5 := hk.trans g2.of_drew hf
              have f7 : ∀ y ∈ refFoot p ga go gu (.slice a7 (q'.way.length + 1) c7'), y ∈ F ∨ w.heap.size ≤ y := fun y hy => by
                rcases g3 y hy with h' | h'
                · exact hf y h'
                · have := hk.size
                  simp at h'
                  exact Or.inr (by omega)
              have k6 := k5.trans t2 f7
              have hset2 := (settle_step Hx.out hst (fun j y hj hy => Hb.out j y hj hy)).trans Hset.out
              have hb2 : ∀ (j : Nat) (y : Nd), j < i + 1 → (q'.nodes.set i (0, false, -1))[j]? = some y → stuck y = false := fun j y hj hy => by
                by_cases hji : j = i
                · subst hji
                  rw [List.getElem?_set_self hlt] at hy
                  cases hy
                  rfl
                · rw [List.getElem?_set_ne (fun e => hji e.symm)] at hy
                  exact Hb.out j y (by omega) hy
              have hu2 : UpsOk ⟨q'.nodes.set i (0, false, -1), q'.way ++ [((i : Int), xu, true)]⟩ := ⟨fun x hx => by
                  simp only at hx
                  rw [List.getElem?_set_ne (by omega)] at hx
                  exact Hu.out.root x hx, fun k x hx => by
                  simp only at hx
                  by_cases hki : k = i
                  · subst hki
                    rw [List.getElem?_set_self hlt] at hx
                    cases hx
                    exact Or.inl rfl
                  · rw [List.getElem?_set_ne (fun e => hki e.symm)] at hx
                    exact Hu.out.ups k x hx⟩
              have hnl := Hnl.out
              have hwl := Hwl2.out
              have Hset2 := Lib.hid hset2
              have Hb2 := Lib.hid hb2
              have Hu2 := Lib.hid hu2
              clear hset2 hb2 hu2 g1 g2 g3 hown4 hk4 hat4 t2 k5 hk hf e0 e1 e2
              go_wp2
              go_roundw
              case rel => exact ⟨i + 1, _, _, by simp, by omega, by omega, by simpa using hnl, by simp; omega, Hset2.out, Hu2.out, Hb2.out, ⟨ga, go, gu, _, t1, rfl⟩, k6, f7⟩
              case measure => simpa [intOf] using hm
        · have hne : (xn == 0) = false := by simp [h0]
          have Hs := Lib.hid (hskip (stuck_owe hne))
          clear hskip hk hf
          go_wp2_with fail
          go_roundw
          case rel => exact Hs.out
          case measure => simpa [intOf] using hm
    · have hdone := settle_done (q := q') (fun j y hy => Hb.out j y (by have := lt_of_get hy; omega) hy)
      have hfin : RSPost B p F w (settle q) (.returned (.tuple #[])) wr := by
        rw [← Hset.out, hdone]
        exact ⟨rfl, _, ⟨ga, go, gu, vw, hat, rfl⟩, hk, hf⟩
      have Hfin := Lib.hid hfin
      have hi2 : (q'.nodes.length : Int) ≤ (i : Int) := by omega
      clear hfin hdone hk hf hat
      go_wp2
      go_end0
      exact Hfin.out
end Go.Proofs.Ytiicmlhpcfhfeaa
