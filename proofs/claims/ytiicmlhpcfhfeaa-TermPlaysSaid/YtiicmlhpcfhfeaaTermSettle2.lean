/- Terms: settle. -/
import Derived.Test.YtiicmlhpcfhfeaaRows
import Derived.WalkKit
import Derived.WalkSpells
import Derived.WalkLawsBesides
import Derived.RegionTactic
import Derived.ChangeAlike
import Derived.BigQuiet
import Derived.Deep.QuietTactic
import Derived.StillTailTactics
import Derived.IntWalk
import Derived.Handy
import Derived.Lib.Hide
import Derived.Deep.AppendLies
import Derived.Deep.RegionWith
import Derived.Test.YtiicmlhpcfhfeaaBase
import Derived.Test.YtiicmlhpcfhfeaaTail
import Derived.Test.YtiicmlhpcfhfeaaArgs
import Derived.Test.YtiicmlhpcfhfeaaAppend
import Derived.Deep.RegionLaw
import Derived.Test.YtiicmlhpcfhfeaaOffs
import Derived.Test.YtiicmlhpcfhfeaaStructs
import Derived.Test.YtiicmlhpcfhfeaaSplit
import Derived.Test.YtiicmlhpcfhfeaaTermObj
import Derived.Test.YtiicmlhpcfhfeaaTermRead
import Derived.Test.YtiicmlhpcfhfeaaTermSettle
namespace Go.Proofs.Ytiicmlhpcfhfeaa
open Go.RowKit
def SettlePost (B p : Nat) (F : List Nat) (w : World) (q' : TM) (e : Ending) (w' : World) : Prop :=
  e = .returned (.tuple #[]) ∧ ∃ F', TermAt w' B p F' q' ∧ Keep F w w' ∧ ∀ x ∈ F', x ∈ F ∨ w.heap.size ≤ x
def toGo (n : Nat) : Value → Nat
  | .int _ k => n - k.toNat
  | _ => n + 1
theorem toGo_none (n : Nat) {v : Value} (h : ∀ k x, v ≠ .int k x) : toGo n v = n + 1 := by
  unfold toGo
  split
  · rename_i k x
    exact absurd rfl (h k x)
  · rfl
set_option maxHeartbeats 8000000 in
set_option maxRecDepth 100000 in
theorem settle_spec {w : World} {B p : Nat} {F : List Nat} {q : TM} (h : TermAt w B p F q) (hB : B ≤ w.heap.size) (hl : q.nodes.length ≤ 1000) (hwl : q.way.length ≤ 1000000000) :
    Calls Try.prog 25 #[.pointer (some ⟨p, 0, none⟩)] w (SettlePost B p F w (settle q)) := by
  have Hwl := Lib.hid hwl
  have Hl := Lib.hid hl
  clear hl hwl
  go_enter Try.func25, Try.ntmps25
  go_wp2_with fail
  go_loopw [2] (fun v2 wr => ∃ (m : Nat) (F' : List Nat) (q' : TM), ((m = 0 ∧ ∀ k x, v2 ≠ .int k x) ∨ (1 ≤ m ∧ v2 = .int .i64 ((m : Int) - 1))) ∧ m ≤ q.nodes.length ∧ q'.nodes.length = q.nodes.length ∧ q'.way.length ≤ q.way.length + m ∧ settle q' = settle q ∧
    (∀ (j : Nat) (y : Nd), j < m → q'.nodes[j]? = some y → stuck y = false) ∧ TermAt wr B p F' q' ∧ Keep F w wr ∧ ∀ x ∈ F', x ∈ F ∨ w.heap.size ≤ x) (fun v _ => toGo q.nodes.length v)
  case atStart => exact ⟨0, F, q, Or.inl ⟨rfl, by intro k x h; cases h⟩, by omega, rfl, by omega, rfl, by omega, h, Keep.refl _ _, fun x hx => Or.inl hx⟩
  case round =>
    clear h
    obtain ⟨m, F', q', hv2, hm, hnl, hwl, hset, hb, hat, hk, hf⟩ := hrel
    have Hv2 := Lib.hid hv2
    have Hset := Lib.hid hset
    have Hb := Lib.hid hb
    have Hnl := Lib.hid hnl
    have Hwl2 := Lib.hid hwl
    have hnl2 : (q'.nodes.length : Int) ≤ 1000 := by have := Hl.out; omega
    clear hv2 hset hb hnl hwl
    obtain ⟨vn, vw, hat, rfl⟩ := hat
    obtain ⟨a, c, rfl⟩ := hat.nodes.shape
    have c0 : wr.cell? ⟨p, 0, none⟩ = some (.slice a q'.nodes.length c) := hat.head.cell 0
    have hidx := index_spec hat.nodes (by omega)
    have Hidx := Lib.hid hidx
    have Hat := Lib.hid hat
    clear hidx hat
    go_wp2_with fail
    refine Hidx.out.mono ?_
    rintro e w1 ⟨rfl, hk1⟩
    clear Hidx c0
    rcases firstStuck_cases q' with ⟨hfs, hnone⟩ | ⟨k, x, hfs, hx, hst, hbk⟩
    · rw [hfs]
      have hfin : SettlePost B p F w (settle q) (.returned (.tuple #[])) w1 := by
        rw [← Hset.out, settle_done hnone]
        exact ⟨rfl, _, ⟨_, _, Hat.out.keep hk1 (by simp), rfl⟩, hk.trans hk1 (by simp), hf⟩
      have Hfin := Lib.hid hfin
      clear hfin hk hk1 hf hnone
      go_wp2
      go_end0
      exact Hfin.out
    · rw [hfs]
      have hlt : k < q'.nodes.length := by
        rcases Nat.lt_or_ge k q'.nodes.length with h' | h'
        · exact h'
        · rw [List.getElem?_eq_none h'] at hx; cases hx
      have hmk : m ≤ k := by
        rcases Nat.lt_or_ge k m with h' | h'
        · have := Hb.out k x h' hx
          rw [hst] at this
          cases this
        · exact h'
      have h1 := Hat.out.keep hk1 (by simp)
      obtain ⟨g, off, rfl, _, hg2, hcells, hcap, hfr⟩ := h1.nodes.rowAt ndC_len hx hlt
      obtain ⟨aw, cw, rfl⟩ := h1.way.shape
      have c0 : w1.cell? ⟨p, 0, none⟩ = some (.slice (some ⟨g, off, none⟩) q'.nodes.length c) := h1.head.cell 0
      have c1 : w1.cell? ⟨p, 1, none⟩ = some (.slice aw q'.way.length cw) := h1.head.cell 1
      have e2 : w1.cell? ⟨g, off + k * 3 + 2, none⟩ = some (.int .i64 x.2.2) := hcells 2 _ (by omega) rfl
      have hplt := h1.head.lt
      have hk2 : (k : Int) < (q'.nodes.length : Int) := by omega
      have hwlen : q'.way.length ≤ 2000000000 := by have := Hwl.out; have := Hl.out; have := Hwl2.out; omega
      have Hwlen := Lib.hid hwlen
      have H1 := Lib.hid h1
      have Hx := Lib.hid hx
      have hB1 : B ≤ w1.heap.size := by have := hk.size; have := hk1.size; omega
      clear hcells hfr hx hwlen h1
      go_wp2_with fail
      go_region_law (refine step_append_off rfl (.tmp 14) (.tmp 25) rfl Try.sgs31 B (.slice aw q'.way.length cw) q'.way.length (q'.way.flatMap sgC) (by simp [Act.eval]) ((H1.out.way.keep (Keep.refl [] _).drew (by simp)).keep ((Keep.refl [] _).alloc _) (by simp)) (.slice (some ⟨w1.heap.size, 0, none⟩) 1 1) 1 [.int .i64 k, .int .i64 x.2.2, .bool true] (by simp [Act.eval]) (src_row 3 rfl _ rfl) (by simp [Value.oneCell']) (by unfold maxLen; have := Hwlen.out; omega) (by have := Hwlen.out; omega) (by simp; omega) ?_; intro v' w4 hown4 hk4 hat4; obtain ⟨g1, g2, g3⟩ := TermIn.post (s := ((k : Int), x.2.2, true)) (H1.out.keep (Keep.refl [] _).drew (by simp)) ((Keep.refl [] _).alloc (.cells #[.int .i64 k, .int .i64 x.2.2, .bool true] 44)) hk4 (by simpa [sgC] using hown4) (by simpa using hat4); have hp4 : p ∉ ownBlocks (.slice aw q'.way.length cw) := (fun hx => H1.out.way.ne_blk H1.out.head (by decide) (mem_own.1 hx)); have c5 : w4.cell? ⟨p, 1, none⟩ = some (.slice aw q'.way.length cw) := (((H1.out.head.drew).alloc _).keep hk4 hp4).cell 1; have f5 : w4.frozen? ⟨p, 1, none⟩ = false := (((H1.out.head.drew).alloc _).keep hk4 hp4).frozen 1; obtain ⟨a7, c7', rfl⟩ := hown4.shape)
      all_goals
        have c6 : (w4.setCell ⟨p, 1, none⟩ (.slice a7 (q'.way.length + 1) c7')).cell? ⟨p, 0, none⟩ = some (.slice (some ⟨g, off, none⟩) q'.nodes.length c) := g1.head.cell 0
        obtain ⟨g', off', hh, _, _, hcells2, _, hfr2⟩ := g1.nodes.rowAt ndC_len Hx.out hlt
        injection hh with hh
        injection hh with e1 e1'
        subst e1 e1'
        have f6 := hfr2 (off + k * 3 + 2)
        have e6 : (w4.setCell ⟨p, 1, none⟩ (.slice a7 (q'.way.length + 1) c7')).cell? ⟨g, off + k * 3 + 2, none⟩ = some (.int .i64 x.2.2) := hcells2 2 _ (by omega) rfl
        obtain ⟨t1, t2⟩ := TermIn.turn0 (q := ⟨q'.nodes, q'.way ++ [((k : Int), x.2.2, true)]⟩) g1 Hx.out 2 (by omega) (.int .i64 (-1)) (x.1, x.2.1, -1) rfl
        have k5 := ((hk.trans hk1 (by simp)).trans g2.of_drew hf)
        have f7 : ∀ y ∈ termFoot p (.slice (some ⟨g, off, none⟩) q'.nodes.length c) (.slice a7 (q'.way.length + 1) c7'), y ∈ F ∨ w.heap.size ≤ y := fun y hy => by
          rcases g3 y hy with h' | h'
          · exact hf y h'
          · have := hk.size
            have := hk1.size
            simp at h'
            exact Or.inr (by omega)
        have k6 := k5.trans t2 f7
        have hset2 := (settle_step Hx.out hst hbk).trans Hset.out
        have hb2 : ∀ (j : Nat) (y : Nd), j < k + 1 → (q'.nodes.set k (x.1, x.2.1, -1))[j]? = some y → stuck y = false := fun j y hj hy => by
          by_cases hjk : j = k
          · subst hjk
            rw [List.getElem?_set_self hlt] at hy
            cases hy
            exact stuck_let
          · rw [List.getElem?_set_ne (fun e => hjk e.symm)] at hy
            exact hbk j y (by omega) hy
        have hnl := Hnl.out
        have hwl := Hwl2.out
        have Hset2 := Lib.hid hset2
        have Hb2 := Lib.hid hb2
        clear hset2 hb2 g1 g2 g3 hown4 hk4 hat4 hcells2 hfr2 t2 k5 hk hk1 hf hbk
        go_wp2
        go_roundw
        case rel => exact ⟨k + 1, _, _, Or.inr ⟨by omega, by simp⟩, by omega, by simpa using hnl, by simp; omega, Hset2.out, Hb2.out, ⟨_, _, t1, by simp⟩, k6, f7⟩
        case measure =>
          rcases Hv2.out with ⟨rfl, hv⟩ | ⟨h1m, rfl⟩
          · rw [toGo_none _ hv]
            simp [toGo]
            omega
          · simp [toGo]
            omega
end Go.Proofs.Ytiicmlhpcfhfeaa
