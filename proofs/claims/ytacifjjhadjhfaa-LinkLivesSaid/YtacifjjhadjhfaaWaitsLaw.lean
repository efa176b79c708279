/- The law LinkWaits. -/
import Derived.Test.YtacifjjhadjhfaaRows
import Derived.WalkKit
import Derived.WalkSpells
import Derived.WalkLawsBesides
import Derived.RegionTactic
import Derived.ChangeAlike
import Derived.BigQuiet
import Derived.Deep.QuietTactic
import Derived.StillTailTactics
import Derived.IntWalk
import Derived.Handy
import Derived.Lib.Hide
import Derived.Deep.AppendLies
import Derived.Deep.RegionWith
import Derived.Test.YtacifjjhadjhfaaBase
import Derived.Test.YtacifjjhadjhfaaTail
import Derived.Test.YtacifjjhadjhfaaArgs
import Derived.Test.YtacifjjhadjhfaaAppend
import Derived.Deep.RegionLaw
import Derived.Test.YtacifjjhadjhfaaOffs
import Derived.Test.YtacifjjhadjhfaaStructs
import Derived.Test.YtacifjjhadjhfaaSplit
import Derived.Maps.OwnSet
import Derived.Maps.Views
import Derived.Test.YtacifjjhadjhfaaLinkBytes
import Derived.Test.YtacifjjhadjhfaaLinkObj
import Derived.Test.YtacifjjhadjhfaaLinkSend
import Derived.Test.YtacifjjhadjhfaaLinkDue
import Derived.Test.YtacifjjhadjhfaaLinkFrame
import Derived.Test.YtacifjjhadjhfaaLinkOut
import Derived.Test.YtacifjjhadjhfaaLinkOut2
import Derived.Test.YtacifjjhadjhfaaLinkOne
import Derived.Test.YtacifjjhadjhfaaLinkLive
namespace Go.Proofs.Ytacifjjhadjhfaa
open Go.RowKit
theorem wait_next (t : Int) (h : 0 ≤ t) : (if waitL (t + 1) < 64 then 2 * waitL (t + 1) else waitL (t + 1)) = waitL (t + 2) := by
  rcases (show t = 0 ∨ t = 1 ∨ t = 2 ∨ t = 3 ∨ 4 ≤ t by omega) with rfl | rfl | rfl | rfl | h4
  · decide
  · decide
  · decide
  · decide
  · have e1 : waitL (t + 1) = 64 := by unfold waitL; rw [if_neg (by omega), if_neg (by omega), if_neg (by omega), if_neg (by omega)]
    have e2 : waitL (t + 2) = 64 := by unfold waitL; rw [if_neg (by omega), if_neg (by omega), if_neg (by omega), if_neg (by omega)]
    rw [e1, e2]
    rfl
theorem wait_pos (t : Int) : 4 ≤ waitL t ∧ waitL t ≤ 64 := by
  unfold waitL
  split
  · omega
  · split
    · omega
    · split
      · omega
      · split <;> omega
/-- where the law stands at tick t: the load was out 'n' times, the last time at 'a' -/
structure AtTick (start t next wait n a : Int) : Prop where
  n0 : 0 ≤ n
  tn : t ≤ next
  st : start ≤ t
  w_ : wait = waitL (n + 1)
  c_ : (n = 0 ∧ next = start ∧ t = start ∧ a = 0) ∨ (1 ≤ n ∧ next = a + waitL n ∧ start ≤ a ∧ a < t)
  nb : n ≤ t - start
theorem AtTick.due {start t next wait n a : Int} (h : AtTick start t next wait n a) (bs : List UInt8) (bv : Value) : dueL ⟨1, n, a, bs, bv⟩ t = decide (t = next) := by
  unfold dueL
  have hp := wait_pos n
  have h1 := h.tn
  rcases h.c_ with ⟨h2, h3, h4, h5⟩ | ⟨h2, h3, h4, h5⟩
  · simp only [decide_eq_decide]
    constructor
    · intro _; omega
    · intro _; exact Or.inl h2
  · simp only [decide_eq_decide]
    constructor
    · rintro (h6 | ⟨h6, h7⟩) <;> omega
    · intro h6; exact Or.inr ⟨by omega, by omega⟩
theorem AtTick.hit {start t next wait n a : Int} (h : AtTick start t next wait n a) (ht : t = next) : AtTick start (t + 1) (next + wait) (if wait < 64 then 2 * wait else wait) (n + 1) t := by
  have hp := wait_pos (n + 1)
  have hw := h.w_
  refine ⟨by have := h.n0; omega, by omega, by have := h.st; omega, ?_, Or.inr ⟨by have := h.n0; omega, by omega, h.st, by omega⟩, by have := h.nb; omega⟩
  rw [hw, show n + 1 + 1 = n + 2 by omega]
  exact wait_next n h.n0
theorem AtTick.miss {start t next wait n a : Int} (h : AtTick start t next wait n a) (ht : t ≠ next) : AtTick start (t + 1) next wait n a := by
  refine ⟨h.n0, by have := h.tn; omega, by have := h.st; omega, h.w_, ?_, by have := h.nb; omega⟩
  rcases h.c_ with ⟨h2, h3, h4, h5⟩ | ⟨h2, h3, h4, h5⟩
  · omega
  · exact Or.inr ⟨h2, h3, h4, by omega⟩
theorem AtTick.bounds {start t next wait n a : Int} (h : AtTick start t next wait n a) : 4 ≤ wait ∧ wait ≤ 64 ∧ next ≤ t + 64 ∧ (a = 0 ∨ (start ≤ a ∧ a < t)) := by
  have hp := wait_pos (n + 1)
  have hq := wait_pos n
  have hw := h.w_
  refine ⟨by omega, by omega, ?_, ?_⟩
  · rcases h.c_ with ⟨h2, h3, h4, h5⟩ | ⟨h2, h3, h4, h5⟩ <;> omega
  · rcases h.c_ with ⟨h2, h3, h4, h5⟩ | ⟨h2, h3, h4, h5⟩
    · exact Or.inl h5
    · exact Or.inr ⟨h4, h5⟩
set_option maxHeartbeats 8000000 in
set_option maxRecDepth 100000 in
theorem linkWaits_any (w : World) (start ticks : Int) : Calls Try.prog 3 #[.int .i64 start, .int .i64 ticks] w fun e w' => e = .returned (.bool true) ∧ Keep [] w w' := by
  have hcv := conv_new
  by_cases hin : (0 ≤ start ∧ start ≤ 1099511627776) ∧ 0 ≤ ticks ∧ ticks ≤ 400
  · obtain ⟨⟨g1, g2⟩, g3, g4⟩ := hin
    go_enter Try.func3, Try.ntmps3
    go_wp2_with fail
    refine (alive_spec _).mono ?_
    rintro e w1 ⟨rfl, k1⟩
    go_wp2_with fail
    refine (live_new w1 0 1 1 1 10 w k1).mono ?_
    rintro e w2 ⟨p, rfl, h2⟩
    have hs := Lib.hid (live_send_new 120 h2 ⟨by simp [newL], by simp [newL], by simp [newL], by simp [newL]⟩ (by simp [newL]) (by simp [newL]))
    go_wp2_with fail
    refine hs.out.mono ?_
    rintro e w3 ⟨rfl, bv, h3⟩
    have h3 : LLive w1.heap.size p w w3 ⟨10, 1, [⟨1, 0, 0, [120], bv⟩], 0, [], false, 0, 1, 1, 1⟩ := h3
    clear hs h2 hcv
    have hat0 : AtTick start start start 4 0 0 := ⟨by omega, by omega, by omega, by decide, Or.inl ⟨rfl, rfl, rfl, rfl⟩, by omega⟩
    have Hat0 := Lib.hid hat0
    clear hat0
    go_wp2_with fail
    go_loopw [7, 8, 9, 10] (fun v7 v8 v9 _ wr => ∃ (t next wait n a : Int), t ≤ start + ticks ∧ v7 = .int .i64 next ∧ v8 = .int .i64 wait ∧ v9 = .int .i64 t ∧ AtTick start t next wait n a ∧ LLive w1.heap.size p w wr ⟨10, 1, [⟨1, n, a, [120], bv⟩], 0, [], false, 0, 1, 1, 1⟩) (fun _ _ v _ _ => (start + ticks - intOf v).toNat)
    case atStart => exact ⟨start, start, 4, 0, 0, by omega, rfl, rfl, rfl, Hat0.out, h3⟩
    case round =>
      clear h3
      obtain ⟨t, next, wait, n, a, htl, rfl, rfl, rfl, hat, h4⟩ := hrel
      obtain ⟨b1, b2, b3, b4⟩ := hat.bounds
      have hst := hat.st
      have hnb := hat.nb
      have hn0 := hat.n0
      have hdue := hat.due [120] bv
      have hwA : IntKind.i64.wrap (t + 1) = t + 1 := IntWalk.i64_in _ (by omega)
      have hwB : IntKind.i64.wrap (t + wait) = t + wait := IntWalk.i64_in _ (by omega)
      have hwC : IntKind.i64.wrap (2 * wait) = 2 * wait := IntWalk.i64_in _ (by omega)
      have hwD : IntKind.i64.wrap (start + ticks) = start + ticks := IntWalk.i64_in _ (by omega)
      by_cases hlt : t < start + ticks
      · have hof : outF ⟨10, 1, [⟨1, n, a, [120], bv⟩], 0, [], false, 0, 1, 1, 1⟩ t = if t = next then [((0 : Int), (1 : Int), (1 : Int), (1 : Int), (0 : Int), ([120] : List UInt8))] else [] := by
          unfold outF outD
          simp only [List.filter_cons, List.filter_nil, hdue]
          by_cases h : t = next <;> simp [h]
        have hol : outL ⟨10, 1, [⟨1, n, a, [120], bv⟩], 0, [], false, 0, 1, 1, 1⟩ t = ⟨10, 1, [if t = next then ⟨1, n + 1, t, [120], bv⟩ else ⟨1, n, a, [120], bv⟩], 0, [], false, 0, 1, 1, 1⟩ := by
          unfold outL outUpd
          simp only [List.map_cons, List.map_nil, hdue]
          by_cases h : t = next <;> simp [h]
        have hok : OkL ⟨10, 1, [⟨1, n, a, [120], bv⟩], 0, [], false, 0, 1, 1, 1⟩ := ok_one (by omega) (by omega) ⟨hn0, by simp only; omega⟩ ⟨by simp only; omega, by simp only; omega⟩ (by simp)
        have Hat := Lib.hid hat
        by_cases heq : t = next
        · subst heq
          rw [if_pos rfl] at hof
          rw [if_pos rfl] at hol
          have ho := live_out_len (n := 1) t h4 hok (by omega) (by rw [hof]; rfl)
          rw [hol] at ho
          have Ho := Lib.hid ho
          have Hit := Lib.hid (hat.hit rfl)
          clear hat hdue hof hol hok h4 ho
          go_wp2_with fail
          refine Ho.out.mono ?_
          rintro e w5 ⟨a5, c5, rfl, h5⟩
          clear Ho
          by_cases hw : wait < 64
          · have hit := Hit.out
            rw [if_pos hw] at hit
            have Hit2 := Lib.hid hit
            clear hit Hit Hat hst hnb hn0 b4
            go_wp2
            go_roundw
            case rel => exact ⟨t + 1, t + wait, 2 * wait, n + 1, t, by omega, by go_num, by go_num, by go_num, Hit2.out, h5⟩
            case measure => simp [intOf]; omega
          · have hit := Hit.out
            rw [if_neg hw] at hit
            have Hit2 := Lib.hid hit
            clear hit Hit Hat hst hnb hn0 b4
            go_wp2
            go_roundw
            case rel => exact ⟨t + 1, t + wait, wait, n + 1, t, by omega, by go_num, rfl, by go_num, Hit2.out, h5⟩
            case measure => simp [intOf]; omega
        · rw [if_neg heq] at hof
          rw [if_neg heq] at hol
          have ho := live_out_len (n := 0) t h4 hok (by omega) (by rw [hof]; rfl)
          rw [hol] at ho
          have Ho := Lib.hid ho
          have Hit := Lib.hid (hat.miss heq)
          have heqB : (t == next) = false := by simpa using heq
          clear hat hdue hof hol hok h4 ho
          go_wp2_with fail
          refine Ho.out.mono ?_
          rintro e w5 ⟨a5, c5, rfl, h5⟩
          clear Ho Hat hst hnb hn0 b4 heq
          go_wp2
          go_roundw
          case rel => exact ⟨t + 1, next, wait, n, a, by omega, rfl, rfl, by go_num, Hit.out, h5⟩
          case measure => simp [intOf]; omega
      · have hop := Lib.hid (live_open h4)
        have kk := h4.out
        clear hat hdue h4 hst hnb hn0 b4
        go_wp2_with fail
        refine hop.out.mono ?_
        rintro e w5 ⟨rfl, rfl⟩
        go_wp2
        go_ret
        exact ⟨rfl, kk⟩
  · have hc : start < 0 ∨ (0 ≤ start ∧ 1099511627776 < start) ∨ ((0 ≤ start ∧ start ≤ 1099511627776) ∧ ticks < 0) ∨ ((0 ≤ start ∧ start ≤ 1099511627776) ∧ 0 ≤ ticks ∧ 400 < ticks) := by omega
    clear hin
    go_enter Try.func3, Try.ntmps3
    go_wp2_with fail
    refine (alive_spec _).mono ?_
    rintro e w1 ⟨rfl, hk1⟩
    rcases hc with h | ⟨h, h'⟩ | ⟨⟨h, h'⟩, h2⟩ | ⟨⟨h, h'⟩, h2, h3⟩
    all_goals (go_wp2; go_ret; exact ⟨rfl, hk1⟩)
theorem walk_linkWaits (W : World) {n t : Int} (_ : (Lit.int .i64 n).wf = true) (_ : (Lit.int .i64 t).wf = true) : Calls Try.prog 3 #[.int .i64 n, .int .i64 t] W fun e w' => e = .returned (.bool true) ∧ Below W.heap.size W w' :=
  (linkWaits_any W n t).mono fun _ _ ⟨he, hk⟩ => ⟨he, hk.to_below⟩
end Go.Proofs.Ytacifjjhadjhfaa
