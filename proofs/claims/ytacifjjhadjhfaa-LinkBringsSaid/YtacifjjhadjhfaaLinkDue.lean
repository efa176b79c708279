/- Links: wait, due. -/
import Derived.Test.YtacifjjhadjhfaaRows
import Derived.WalkKit
import Derived.WalkSpells
import Derived.WalkLawsBesides
import Derived.RegionTactic
import Derived.ChangeAlike
import Derived.BigQuiet
import Derived.Deep.QuietTactic
import Derived.StillTailTactics
import Derived.IntWalk
import Derived.Handy
import Derived.Lib.Hide
import Derived.Deep.AppendLies
import Derived.Deep.RegionWith
import Derived.Test.YtacifjjhadjhfaaBase
import Derived.Test.YtacifjjhadjhfaaTail
import Derived.Test.YtacifjjhadjhfaaArgs
import Derived.Test.YtacifjjhadjhfaaAppend
import Derived.Deep.RegionLaw
import Derived.Test.YtacifjjhadjhfaaOffs
import Derived.Test.YtacifjjhadjhfaaStructs
import Derived.Test.YtacifjjhadjhfaaSplit
import Derived.Maps.OwnSet
import Derived.Maps.Views
import Derived.Test.YtacifjjhadjhfaaLinkBytes
import Derived.Test.YtacifjjhadjhfaaLinkObj
import Derived.Test.YtacifjjhadjhfaaLinkSend
namespace Go.Proofs.Ytacifjjhadjhfaa
open Go.RowKit
/-- how long one waits that was out so often -/
def waitL (t : Int) : Int := if t ≤ 1 then 4 else if t = 2 then 8 else if t = 3 then 16 else if t = 4 then 32 else 64
def dueL (s : LD) (now : Int) : Bool := decide (s.times = 0 ∨ (s.at_ ≤ now ∧ waitL s.times ≤ now - s.at_))
set_option maxHeartbeats 4000000 in
theorem wait_spec {w : World} (sq t a : Int) (bv : Value) (hbv : bv.oneCell' = true) (ht : 0 ≤ t ∧ t ≤ 1000000000) : Calls Try.prog 35 #[.agg #[.int .i64 sq, .int .i64 t, .int .i64 a, bv]] w fun e w' => e = .returned (.int .u64 (waitL t)) ∧ Keep [] w w' := by
  have hk : Keep [] w (w.alloc (.cells #[.int .i64 sq, .int .i64 t, .int .i64 a, bv] 75)) := (Keep.refl _ _).alloc _
  have hblk : Blk (w.alloc (.cells #[.int .i64 sq, .int .i64 t, .int .i64 a, bv] 75)) w.heap.size 75 [.int .i64 sq, .int .i64 t, .int .i64 a, bv] := Blk.new' _ _ _ _ rfl
  have Hb := Lib.hid hblk
  clear hblk
  go_enter Try.func35, Try.ntmps35
  go_wp2
  go_loopw [3, 4] (fun v3 v4 wr => wr = w.alloc (.cells #[.int .i64 sq, .int .i64 t, .int .i64 a, bv] 75) ∧ ((v4 = .int .i64 1 ∧ v3 = .int .u64 4) ∨ (v4 = .int .i64 2 ∧ v3 = .int .u64 8 ∧ 1 < t) ∨ (v4 = .int .i64 3 ∧ v3 = .int .u64 16 ∧ 2 < t) ∨ (v4 = .int .i64 4 ∧ v3 = .int .u64 32 ∧ 3 < t) ∨ (v4 = .int .i64 5 ∧ v3 = .int .u64 64 ∧ 4 < t))) (fun _ v _ => 6 - (intOf v).toNat)
  case atStart => exact ⟨rfl, Or.inl ⟨rfl, rfl⟩⟩
  case round =>
    obtain ⟨rfl, hcases⟩ := hrel
    have c1 : (w.alloc (.cells #[.int .i64 sq, .int .i64 t, .int .i64 a, bv] 75)).cell? ⟨w.heap.size, 1, none⟩ = some (.int .i64 t) := Hb.out.cell 1
    rcases hcases with ⟨rfl, rfl⟩ | ⟨rfl, rfl, h1⟩ | ⟨rfl, rfl, h1⟩ | ⟨rfl, rfl, h1⟩ | ⟨rfl, rfl, h1⟩
    · by_cases h : 1 < t
      · go_wp2
        go_roundw
        case rel => exact ⟨trivial, Or.inr (Or.inl ⟨rfl, rfl, h⟩)⟩
        case measure => simp [intOf]
      · have hw : waitL t = 4 := by unfold waitL; rw [if_pos (by omega)]
        go_wp2
        go_ret
        exact ⟨rfl, hk⟩
    · by_cases h : 2 < t
      · go_wp2
        go_roundw
        case rel => exact ⟨trivial, Or.inr (Or.inr (Or.inl ⟨rfl, rfl, h⟩))⟩
        case measure => simp [intOf]
      · have hw : waitL t = 8 := by unfold waitL; rw [if_neg (by omega), if_pos (by omega)]
        go_wp2
        go_ret
        exact ⟨rfl, hk⟩
    · by_cases h : 3 < t
      · go_wp2
        go_roundw
        case rel => exact ⟨trivial, Or.inr (Or.inr (Or.inr (Or.inl ⟨rfl, rfl, h⟩)))⟩
        case measure => simp [intOf]
      · have hw : waitL t = 16 := by unfold waitL; rw [if_neg (by omega), if_neg (by omega), if_pos (by omega)]
        go_wp2
        go_ret
        exact ⟨rfl, hk⟩
    · by_cases h : 4 < t
      · go_wp2
        go_roundw
        case rel => exact ⟨trivial, Or.inr (Or.inr (Or.inr (Or.inr ⟨rfl, rfl, h⟩)))⟩
        case measure => simp [intOf]
      · have hw : waitL t = 32 := by unfold waitL; rw [if_neg (by omega), if_neg (by omega), if_neg (by omega), if_pos (by omega)]
        go_wp2
        go_ret
        exact ⟨rfl, hk⟩
    · have hw : waitL t = 64 := by unfold waitL; rw [if_neg (by omega), if_neg (by omega), if_neg (by omega), if_neg (by omega)]
      by_cases h : 5 < t
      all_goals
        go_wp2
        go_ret
        exact ⟨by simp [hw], hk⟩
theorem u64_sub {a b : Int} (h : b ≤ a) (h2 : a - b < 18446744073709551616) : IntKind.u64.wrap (IntKind.u64.wrap a - IntKind.u64.wrap b) = a - b := by
  have e : ∀ n : Int, IntKind.u64.wrap n = n % 18446744073709551616 := fun n => by
    unfold IntKind.wrap
    simp [IntKind.bits, IntKind.signed]
  rw [e, e, e]
  omega
set_option maxHeartbeats 8000000 in
theorem due_spec {w : World} (sq t a now : Int) (bv : Value) (bs : List UInt8) (hbv : bv.oneCell' = true) (ht : 0 ≤ t ∧ t ≤ 1000000000) (ha : -9223372036854775808 ≤ a ∧ a ≤ 9223372036854775807) (hn : -9223372036854775808 ≤ now ∧ now ≤ 9223372036854775807) :
    Calls Try.prog 27 #[.agg #[.int .i64 sq, .int .i64 t, .int .i64 a, bv], .int .i64 now] w fun e w' => e = .returned (.bool (dueL ⟨sq, t, a, bs, bv⟩ now)) ∧ Keep [] w w' := by
  have hk : Keep [] w (w.alloc (.cells #[.int .i64 sq, .int .i64 t, .int .i64 a, bv] 75)) := (Keep.refl _ _).alloc _
  have hblk : Blk (w.alloc (.cells #[.int .i64 sq, .int .i64 t, .int .i64 a, bv] 75)) w.heap.size 75 [.int .i64 sq, .int .i64 t, .int .i64 a, bv] := Blk.new' _ _ _ _ rfl
  have c0 : (w.alloc (.cells #[.int .i64 sq, .int .i64 t, .int .i64 a, bv] 75)).cell? ⟨w.heap.size, 0, none⟩ = some (.int .i64 sq) := hblk.cell 0
  have c1 : (w.alloc (.cells #[.int .i64 sq, .int .i64 t, .int .i64 a, bv] 75)).cell? ⟨w.heap.size, 1, none⟩ = some (.int .i64 t) := hblk.cell 1
  have c2 : (w.alloc (.cells #[.int .i64 sq, .int .i64 t, .int .i64 a, bv] 75)).cell? ⟨w.heap.size, 2, none⟩ = some (.int .i64 a) := hblk.cell 2
  have c3 : (w.alloc (.cells #[.int .i64 sq, .int .i64 t, .int .i64 a, bv] 75)).cell? ⟨w.heap.size, 3, none⟩ = some bv := hblk.cell 3
  by_cases h0 : t = 0
  · subst h0
    rw [show dueL ⟨sq, 0, a, bs, bv⟩ now = true by unfold dueL; simp]
    clear hblk
    go_enter Try.func27, Try.ntmps27
    go_wp2_with fail
    go_quiet (fail)
    go_wp2
    go_ret
    exact ⟨rfl, hk.drewN _⟩
  · have ht0 : (t == 0) = false := by simpa using h0
    by_cases h1 : now < a
    · rw [show dueL ⟨sq, t, a, bs, bv⟩ now = false by unfold dueL; simp [h0]; omega]
      have hge : decide (a ≤ now) = false := by simpa using h1
      clear hblk
      go_enter Try.func27, Try.ntmps27
      go_wp2_with fail
      go_quiet (fail)
      go_wp2
      go_ret
      exact ⟨rfl, hk.drewN _⟩
    · have hu := u64_sub (a := now) (b := a) (by omega) (by omega)
      have hwait := fun w1 => wait_spec (w := w1) sq t a bv hbv ht
      have Hwait := Lib.hid hwait
      have hge : a ≤ now := by omega
      have hd : dueL ⟨sq, t, a, bs, bv⟩ now = decide (waitL t ≤ now - a) := by unfold dueL; simp [h0, hge]
      have hge2 : decide (a ≤ now) = true := by simpa using hge
      rw [hd]
      clear hwait hd
      go_enter Try.func27, Try.ntmps27
      go_wp2_with fail
      go_region_held3 (fun w' => w'.cell? ⟨w.heap.size, 0, none⟩ = some (.int .i64 sq) ∧ w'.cell? ⟨w.heap.size, 1, none⟩ = some (.int .i64 t) ∧ w'.cell? ⟨w.heap.size, 2, none⟩ = some (.int .i64 a) ∧ w'.cell? ⟨w.heap.size, 3, none⟩ = some bv)
        (first | exact ⟨c0, c1, c2, c3⟩ | exact ⟨(hblk.drew.keep hk3 (by simp)).cell 0, (hblk.drew.keep hk3 (by simp)).cell 1, (hblk.drew.keep hk3 (by simp)).cell 2, (hblk.drew.keep hk3 (by simp)).cell 3⟩)
        (first | (go_at_call 35; refine (Hwait.out _).mono ?_; rintro e w3 ⟨rfl, hk3⟩))
      have kk := hk.trans hk3.of_drew (by simp)
      go_wp2
      go_ret
      exact ⟨rfl, kk⟩
end Go.Proofs.Ytacifjjhadjhfaa
