/- Links: which loads are acknowledged. -/
import Derived.Test.YtacifjjhadjhfaaRows
import Derived.WalkKit
import Derived.WalkSpells
import Derived.WalkLawsBesides
import Derived.RegionTactic
import Derived.ChangeAlike
import Derived.BigQuiet
import Derived.Deep.QuietTactic
import Derived.StillTailTactics
import Derived.IntWalk
import Derived.Handy
import Derived.Lib.Hide
import Derived.Deep.AppendLies
import Derived.Deep.RegionWith
import Derived.Test.YtacifjjhadjhfaaBase
import Derived.Test.YtacifjjhadjhfaaTail
import Derived.Test.YtacifjjhadjhfaaArgs
import Derived.Test.YtacifjjhadjhfaaAppend
import Derived.Deep.RegionLaw
import Derived.Test.YtacifjjhadjhfaaOffs
import Derived.Test.YtacifjjhadjhfaaStructs
import Derived.Test.YtacifjjhadjhfaaSplit
import Derived.Maps.OwnSet
import Derived.Maps.Views
import Derived.Test.YtacifjjhadjhfaaLinkBytes
import Derived.Test.YtacifjjhadjhfaaLinkObj
import Derived.Test.YtacifjjhadjhfaaLinkSend
import Derived.Test.YtacifjjhadjhfaaLinkDue
import Derived.Test.YtacifjjhadjhfaaLinkFrame
import Derived.Test.YtacifjjhadjhfaaLinkOut
import Derived.Test.YtacifjjhadjhfaaLinkOut2
import Derived.Test.YtacifjjhadjhfaaLinkOne
import Derived.Test.YtacifjjhadjhfaaLinkLive
namespace Go.Proofs.Ytacifjjhadjhfaa
open Go.RowKit
/-- the closure: is the load's number at most n? -/
def ackB (n : Int) (s : LD) : Bool := decide (s.seq ≤ n)
theorem ack_closure {w : World} {nb : Nat} {n : Int} (sq t a : Int) (bv : Value) (bs : List UInt8) (hn : w.cell? ⟨nb, 0, none⟩ = some (.int .i64 n)) (hlt : nb < w.heap.size) :
    Calls Try.prog 37 #[.agg #[.int .i64 sq, .int .i64 t, .int .i64 a, bv], .pointer (some ⟨nb, 0, none⟩)] w fun e w' => e = .returned (.bool (ackB n ⟨sq, t, a, bs, bv⟩)) ∧ Keep [] w w' := by
  have hk : Keep [] w (w.alloc (.cells #[.int .i64 sq, .int .i64 t, .int .i64 a, bv] 75)) := (Keep.refl _ _).alloc _
  go_enter Try.func37, Try.ntmps37
  go_wp2
  go_ret
  exact ⟨rfl, hk⟩
theorem findIdx_at {α : Type} {p : α → Bool} {l : List α} {i : Nat} {x : α} (h : l[i]? = some x) (hs : p x = true) (hb : ∀ (j : Nat) (y : α), j < i → l[j]? = some y → p y = false) : l.findIdx? p = some i := by
  have hi : i < l.length := by
    rcases Nat.lt_or_ge i l.length with h' | h'
    · exact h'
    · rw [List.getElem?_eq_none h'] at h; cases h
  rw [List.findIdx?_eq_some_iff_getElem]
  refine ⟨hi, ?_, fun j hj => ?_⟩
  · rw [List.getElem?_eq_getElem hi] at h
    cases h
    exact hs
  · have := hb j _ hj (List.getElem?_eq_getElem (by omega))
    simp [this]
theorem findIdx_none {α : Type} {p : α → Bool} {l : List α} (hb : ∀ (j : Nat) (y : α), l[j]? = some y → p y = false) : l.findIdx? p = none := by
  rw [List.findIdx?_eq_none_iff]
  intro x hx
  obtain ⟨j, hj, rfl⟩ := List.mem_iff_getElem.1 hx
  exact hb j _ (List.getElem?_eq_getElem hj)
def idxI {α : Type} (p : α → Bool) (l : List α) : Int := match l.findIdx? p with | some k => (k : Int) | none => -1
theorem LD.shape_of {w : World} {g off i : Nat} {s : LD} (hs : ∃ a c, s.bv = .slice a s.bs.length c) (hcells : ∀ (j : Nat) (u : Value), j < 4 → s.c[j]? = some u → w.cell? ⟨g, off + i * 4 + j, none⟩ = some u) :
    ∃ sq t a ab cb bs, s = ⟨sq, t, a, bs, .slice ab bs.length cb⟩ ∧ w.cell? ⟨g, off + i * 4, none⟩ = some (.int .i64 sq) ∧ w.cell? ⟨g, off + i * 4 + 1, none⟩ = some (.int .i64 t) ∧ w.cell? ⟨g, off + i * 4 + 2, none⟩ = some (.int .i64 a) ∧ w.cell? ⟨g, off + i * 4 + 3, none⟩ = some (.slice ab bs.length cb) := by
  obtain ⟨sq, t, a, bs, bv⟩ := s
  obtain ⟨ab, cb, hbv⟩ := hs
  simp only at hbv
  subst hbv
  exact ⟨sq, t, a, ab, cb, bs, rfl, hcells 0 _ (by omega) rfl, hcells 1 _ (by omega) rfl, hcells 2 _ (by omega) rfl, hcells 3 _ (by omega) rfl⟩
set_option maxHeartbeats 4000000 in
theorem index_spec {w : World} {B : Nat} {a : Option Addr} {c nb : Nat} {n : Int} {ls : List LD} (h : OwnsAt w B 75 4 (.slice a ls.length c) ls.length (ls.flatMap LD.c)) (hsh : ∀ s ∈ ls, ∃ a c, s.bv = .slice a s.bs.length c) (hl : ls.length ≤ 1000) (hn : w.cell? ⟨nb, 0, none⟩ = some (.int .i64 n)) (hnb : nb < w.heap.size) :
    Calls Try.prog 38 #[.slice a ls.length c, .func (.func 37) #[] #[.pointer (some ⟨nb, 0, none⟩)]] w fun e w' => e = .returned (.int .i64 (idxI (ackB n) ls)) ∧ Keep [] w w' := by
  have H := Lib.hid h
  have Hsh := Lib.hid hsh
  have hl2 : (ls.length : Int) ≤ 1000 := by omega
  have Hn := Lib.hid hn
  clear h hl hsh hn
  go_enter Try.func38, Try.ntmps38
  go_wp2
  go_loopw [5, 8] (fun _ v8 wr => ∃ i : Nat, i ≤ ls.length ∧ v8 = .int .i64 i ∧ (∀ (j : Nat) (y : LD), j < i → ls[j]? = some y → ackB n y = false) ∧ Keep [] w wr) (fun _ v _ => ls.length - (intOf v).toNat)
  case atStart => exact ⟨0, by omega, rfl, by omega, Keep.refl _ _⟩
  case round =>
    obtain ⟨i, hi, rfl, hb, hk⟩ := hrel
    by_cases hlt : i < ls.length
    · have hx := List.getElem?_eq_getElem hlt
      have hshx := Hsh.out _ (List.getElem_mem hlt)
      obtain ⟨g, off, rfl, _, hg2, hcells, _, _⟩ := (H.out.keep hk (by simp)).rowAt LD.c_len hx hlt
      generalize ls[i] = x at *
      obtain ⟨sq, t, a, ab, cb, bs, rfl, e0, e1, e2, e3⟩ := LD.shape_of hshx hcells
      have hnw : wr.cell? ⟨nb, 0, none⟩ = some (.int .i64 n) := (hk.cell (p := ⟨nb, 0, none⟩) hnb (by simp)).trans Hn.out
      have hcl := Lib.hid (ack_closure sq t a (.slice ab bs.length cb) bs hnw (Nat.lt_of_lt_of_le hnb hk.size))
      have Hx := Lib.hid hx
      have Hb := Lib.hid hb
      have hi2 : (i : Int) < (ls.length : Int) := by omega
      clear hcells hx hb hshx hnw
      go_wp2_with fail
      refine hcl.out.mono ?_
      rintro e w1 ⟨rfl, hk1⟩
      have hk2 := hk.trans hk1 (by simp)
      clear hcl
      cases hs : ackB n ⟨sq, t, a, bs, .slice ab bs.length cb⟩ with
      | true =>
        have hfin := findIdx_at Hx.out hs Hb.out
        have hid : idxI (ackB n) ls = (i : Int) := by unfold idxI; rw [hfin]
        have Hfin := Lib.hid hid
        clear hfin hid
        go_wp2
        go_ret
        exact ⟨by rw [Hfin.out]; rfl, hk2⟩
      | false =>
        have hb2 : ∀ (j : Nat) (y : LD), j < i + 1 → ls[j]? = some y → ackB n y = false := fun j y hj hy => by
          by_cases hji : j = i
          · subst hji
            rw [Hx.out] at hy
            cases hy
            exact hs
          · exact Hb.out j y (by omega) hy
        clear hk hk1
        go_wp2
        go_roundw
        case rel => exact ⟨i + 1, by omega, by go_num, hb2, hk2⟩
        case measure => simp [intOf]; omega
    · have hfin : idxI (ackB n) ls = -1 := by
        have : ls.findIdx? (ackB n) = none := findIdx_none fun j y hy => by
          have hj : j < ls.length := by
            rcases Nat.lt_or_ge j ls.length with h' | h'
            · exact h'
            · rw [List.getElem?_eq_none h'] at hy; cases hy
          exact hb j y (by omega) hy
        unfold idxI
        rw [this]
      have Hfin := Lib.hid hfin
      have : i = ls.length := by omega
      subst this
      clear hfin hb
      go_wp2
      go_ret
      exact ⟨by rw [Hfin.out]; rfl, hk⟩
end Go.Proofs.Ytacifjjhadjhfaa
