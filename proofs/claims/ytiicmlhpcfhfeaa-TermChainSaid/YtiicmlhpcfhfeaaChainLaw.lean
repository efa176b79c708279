/- The law TermChain. -/
import Derived.Test.YtiicmlhpcfhfeaaRows
import Derived.WalkKit
import Derived.WalkSpells
import Derived.WalkLawsBesides
import Derived.RegionTactic
import Derived.ChangeAlike
import Derived.BigQuiet
import Derived.Deep.QuietTactic
import Derived.StillTailTactics
import Derived.IntWalk
import Derived.Handy
import Derived.Lib.Hide
import Derived.Deep.AppendLies
import Derived.Deep.RegionWith
import Derived.Test.YtiicmlhpcfhfeaaBase
import Derived.Test.YtiicmlhpcfhfeaaTail
import Derived.Test.YtiicmlhpcfhfeaaArgs
import Derived.Test.YtiicmlhpcfhfeaaAppend
import Derived.Deep.RegionLaw
import Derived.Test.YtiicmlhpcfhfeaaOffs
import Derived.Test.YtiicmlhpcfhfeaaStructs
import Derived.Test.YtiicmlhpcfhfeaaSplit
import Derived.Test.YtiicmlhpcfhfeaaTermObj
import Derived.Test.YtiicmlhpcfhfeaaTermRead
import Derived.Test.YtiicmlhpcfhfeaaTermSettle
import Derived.Test.YtiicmlhpcfhfeaaTermSettle2
import Derived.Test.YtiicmlhpcfhfeaaTermDel
import Derived.Test.YtiicmlhpcfhfeaaTermSend
import Derived.Test.YtiicmlhpcfhfeaaTermDeliver
import Derived.Test.YtiicmlhpcfhfeaaTermNew2
import Derived.Test.YtiicmlhpcfhfeaaTermAlive
namespace Go.Proofs.Ytiicmlhpcfhfeaa
open Go.RowKit
def chS (q : TM) (i : Nat) : TM := (sendN q (i : Int) [(i : Int) + 1]).1
def chI (q : TM) (i : Nat) : TM := (idleN (chS q i) (i : Int)).1
def chU (n : Nat) : Nat → TM
  | 0 => newN n
  | i + 1 => (deliverN (chI (chU n i) i) 0).1
def chD (n : Nat) : Nat → TM
  | 0 => (idleN (chU n (n - 1)) ((n : Int) - 1)).1
  | j + 1 => (deliverN (chD n j) 0).1
def checkU (n i : Nat) : Bool := okB (chU n i) && okB (chS (chU n i) i) && okB (chI (chU n i) i) && (deliverN (chI (chU n i) i) 0).2 && (upN (chU n (i + 1)) ((i : Int) + 1) == (i : Int)) && !declN (chU n (i + 1)) && okB (chU n (i + 1))
def checkD (n j : Nat) : Bool := okB (chD n j) && !declN (chD n j) && ((chD n j).way.length == 1)
def checkE (n : Nat) : Bool := okB (chU n (n - 1)) && okB (chD n (n - 1)) && declN (chD n (n - 1)) && ((chD n (n - 1)).way.length == 0)
theorem chain_u : ∀ n, n < 17 → ∀ i, i < 16 → i + 1 < n → checkU n i = true := by decide +kernel
theorem chain_d : ∀ n, n < 17 → ∀ j, j < 16 → j + 1 < n → checkD n j = true := by decide +kernel
theorem chain_e : ∀ n, n < 17 → 1 ≤ n → checkE n = true := by decide +kernel
set_option maxHeartbeats 8000000 in
theorem termChain_any (w : World) (n : Int) : Calls Try.prog 5 #[.int .i64 n] w fun e w' => e = .returned (.bool true) ∧ Keep [] w w' := by
  by_cases hin : 1 ≤ n ∧ n ≤ 16
  · obtain ⟨g1, g2⟩ := hin
    obtain ⟨N, rfl⟩ := Int.eq_ofNat_of_zero_le (show 0 ≤ n by omega)
    have hN1 : 1 ≤ N := by omega
    have hN2 : N < 17 := by omega
    have hE := chain_e N hN2 hN1
    simp only [checkE, Bool.and_eq_true, beq_iff_eq] at hE
    obtain ⟨⟨⟨hE1, hE2⟩, hE3⟩, hE4⟩ := hE
    have HE := Lib.hid (And.intro hE1 (And.intro hE2 (And.intro hE3 hE4)))
    clear hE1 hE2 hE3 hE4
    go_enter Try.func5, Try.ntmps5
    go_wp2_with fail
    refine (alive_spec _).mono ?_
    rintro e w1 ⟨rfl, k1⟩
    go_wp2_with fail
    refine (live_new w1 (N : Int) w k1).mono ?_
    rintro e w2 ⟨p, rfl, h2⟩
    go_wp2_with fail
    go_loopw [5, 6] (fun v5 _ wr => ∃ i : Nat, i + 1 ≤ N ∧ v5 = .int .i64 i ∧ TLive w1.heap.size p w wr (chU N i)) (fun v _ _ => N - (intOf v).toNat)
    case atStart => exact ⟨0, by omega, rfl, h2⟩
    case round =>
      clear h2
      obtain ⟨i, hi, rfl, h3⟩ := hrel
      by_cases hlt : i + 1 < N
      · have hU := chain_u N hN2 i (by omega) hlt
        simp only [checkU, Bool.and_eq_true, beq_iff_eq, Bool.not_eq_true'] at hU
        obtain ⟨⟨⟨⟨⟨⟨u1, u2⟩, u3⟩, u4⟩, u5⟩, u6⟩, u7⟩ := hU
        have hA := Blk.new' wr 3 #[.int .i64 ((i : Int) + 1)] [.int .i64 ((i : Int) + 1)] rfl
        have hs := Lib.hid (live_send_lit (to := [(i : Int) + 1]) (c := 1) (i : Int) (h3.keep0 ((Keep.refl [] wr).alloc (.cells #[.int .i64 ((i : Int) + 1)] 3))) (OkT.of u1) hA h3.out.size (by simp))
        have U := Lib.hid (And.intro u2 (And.intro u3 (And.intro u4 (And.intro u5 (And.intro u6 u7)))))
        have hltI : (i : Int) + 1 < (N : Int) := by omega
        clear hA h3 u1 u2 u3 u4 u5 u6 u7
        go_wp2_with fail
        refine hs.out.mono ?_
        rintro e w3 ⟨rfl, h4⟩
        have hi := Lib.hid (live_idle (i : Int) h4 (OkT.of U.out.1))
        clear h4
        go_wp2_with fail
        refine hi.out.mono ?_
        rintro e w4 ⟨rfl, h5⟩
        have hd := Lib.hid (live_deliver 0 h5 (OkT.of U.out.2.1))
        clear h5
        go_wp2_with fail
        refine hd.out.mono ?_
        rintro e w5 ⟨rfl, h6⟩
        have h7 : TLive w1.heap.size p w w5 (chU N (i + 1)) := h6
        have e1 : (deliverN (idleN (sendN (chU N i) (i : Int) [(i : Int) + 1]).1 (i : Int)).1 0).2 = true := U.out.2.2.1
        rw [e1]
        have hup := live_up ((i : Int) + 1) h7
        rw [U.out.2.2.2.1] at hup
        have hup := Lib.hid hup
        have hdc := live_decl h7 (OkT.of U.out.2.2.2.2.2)
        rw [U.out.2.2.2.2.1] at hdc
        have hdc := Lib.hid hdc
        clear h6 e1
        go_wp2_with fail
        refine hup.out.mono ?_
        rintro e w6 ⟨rfl, rfl⟩
        go_wp2_with fail
        refine hdc.out.mono ?_
        rintro e w7 ⟨rfl, rfl⟩
        go_wp2
        go_roundw
        case rel => exact ⟨i + 1, by omega, by go_num, h7⟩
        case measure => simp [intOf]; omega
      · have hiN : i = N - 1 := by omega
        have hge : (N : Int) ≤ (i : Int) + 1 := by omega
        have hi2 : (i : Int) + 1 ≤ 16 := by omega
        have hid := Lib.hid (live_idle ((N : Int) - 1) h3 (OkT.of (by rw [hiN]; exact HE.out.1)))
        rw [hiN] at hid
        clear h3
        go_wp2_with fail
        refine hid.out.mono ?_
        rintro e w3 ⟨rfl, h4⟩
        have h4 : TLive w1.heap.size p w w3 (chD N 0) := h4
        generalize wr = wo at *
        clear hid
        go_wp2_with fail
        go_loopw [7] (fun v7 wr => ∃ j : Nat, j + 1 ≤ N ∧ v7 = .int .i64 j ∧ TLive w1.heap.size p w wr (chD N j)) (fun v _ => N - (intOf v).toNat)
        case atStart => exact ⟨0, by omega, rfl, h4⟩
        case round =>
          clear h4
          obtain ⟨j, hj, rfl, h5⟩ := hrel
          by_cases hlt : j + 1 < N
          · have hD := chain_d N hN2 j (by omega) hlt
            simp only [checkD, Bool.and_eq_true, beq_iff_eq, Bool.not_eq_true'] at hD
            obtain ⟨⟨u1, u2⟩, u3⟩ := hD
            have hdc := live_decl h5 (OkT.of u1)
            rw [u2] at hdc
            have hdc := Lib.hid hdc
            have hw := live_way h5 (OkT.of u1)
            rw [u3] at hw
            have hw := Lib.hid hw
            have U1 := Lib.hid u1
            have hltI : (j : Int) + 1 < (N : Int) := by omega
            clear u1 u2 u3 h5
            go_wp2_with fail
            refine hdc.out.mono ?_
            rintro e w6 ⟨rfl, rfl⟩
            go_wp2_with fail
            refine hw.out.mono ?_
            rintro e w7 ⟨v, rfl, ho, h6⟩
            obtain ⟨a, c, rfl⟩ := ho.shape
            have hd := Lib.hid (live_deliver 0 h6 (OkT.of U1.out))
            clear ho h6
            go_wp2_with fail
            refine hd.out.mono ?_
            rintro e w8 ⟨rfl, h7⟩
            go_wp2
            go_roundw
            case rel => exact ⟨j + 1, by omega, by go_num, h7⟩
            case measure => simp [intOf]; omega
          · have hjN : j = N - 1 := by omega
            have hge : (N : Int) ≤ (j : Int) + 1 := by omega
            have hj2 : (j : Int) + 1 ≤ 16 := by omega
            subst hjN
            have hdc := live_decl h5 (OkT.of HE.out.2.1)
            rw [HE.out.2.2.1] at hdc
            have hdc := Lib.hid hdc
            have hw := live_way h5 (OkT.of HE.out.2.1)
            rw [HE.out.2.2.2] at hw
            have hw := Lib.hid hw
            clear h5
            go_wp2_with fail
            refine hdc.out.mono ?_
            rintro e w6 ⟨rfl, rfl⟩
            go_wp2_with fail
            refine hw.out.mono ?_
            rintro e w7 ⟨v, rfl, ho, h6⟩
            obtain ⟨a, c, rfl⟩ := ho.shape
            have k := h6.out
            clear ho h6
            go_wp2
            go_ret
            exact ⟨rfl, k⟩
  · have hc : n < 1 ∨ (1 ≤ n ∧ 16 < n) := by omega
    clear hin
    go_enter Try.func5, Try.ntmps5
    go_wp2_with fail
    refine (alive_spec _).mono ?_
    rintro e w1 ⟨rfl, hk1⟩
    rcases hc with h | ⟨h, h'⟩
    all_goals (go_wp2; go_ret; exact ⟨rfl, hk1⟩)
theorem walk_termChain (W : World) {n : Int} (_ : (Lit.int .i64 n).wf = true) : Calls Try.prog 5 #[.int .i64 n] W fun e w' => e = .returned (.bool true) ∧ Below W.heap.size W w' :=
  (termChain_any W n).mono fun _ _ ⟨he, hk⟩ => ⟨he, hk.to_below⟩
end Go.Proofs.Ytiicmlhpcfhfeaa
