/- The law TermStar. -/
import Derived.Test.YtiicmlhpcfhfeaaRows
import Derived.WalkKit
import Derived.WalkSpells
import Derived.WalkLawsBesides
import Derived.RegionTactic
import Derived.ChangeAlike
import Derived.BigQuiet
import Derived.Deep.QuietTactic
import Derived.StillTailTactics
import Derived.IntWalk
import Derived.Handy
import Derived.Lib.Hide
import Derived.Deep.AppendLies
import Derived.Deep.RegionWith
import Derived.Test.YtiicmlhpcfhfeaaBase
import Derived.Test.YtiicmlhpcfhfeaaTail
import Derived.Test.YtiicmlhpcfhfeaaArgs
import Derived.Test.YtiicmlhpcfhfeaaAppend
import Derived.Deep.RegionLaw
import Derived.Test.YtiicmlhpcfhfeaaOffs
import Derived.Test.YtiicmlhpcfhfeaaStructs
import Derived.Test.YtiicmlhpcfhfeaaSplit
import Derived.Test.YtiicmlhpcfhfeaaTermObj
import Derived.Test.YtiicmlhpcfhfeaaTermRead
import Derived.Test.YtiicmlhpcfhfeaaTermSettle
import Derived.Test.YtiicmlhpcfhfeaaTermSettle2
import Derived.Test.YtiicmlhpcfhfeaaTermDel
import Derived.Test.YtiicmlhpcfhfeaaTermSend
import Derived.Test.YtiicmlhpcfhfeaaTermDeliver
import Derived.Test.YtiicmlhpcfhfeaaTermNew2
import Derived.Test.YtiicmlhpcfhfeaaTermAlive
import Derived.Test.YtiicmlhpcfhfeaaTermInv2
import Derived.Test.YtiicmlhpcfhfeaaStarPlain
namespace Go.Proofs.Ytiicmlhpcfhfeaa
open Go.RowKit
theorem upto_succ (k : Nat) : upto (k + 1) = upto k ++ [(k : Int) + 1] := by unfold upto; rw [List.range_succ, List.map_append]; rfl
theorem upto_len (k : Nat) : (upto k).length = k := by unfold upto; simp
set_option maxHeartbeats 16000000 in
set_option maxRecDepth 100000 in
theorem termStar_any (w : World) (n times : Int) : Calls Try.prog 6 #[.int .i64 n, .int .i64 times] w fun e w' => e = .returned (.bool true) ∧ Keep [] w w' := by
  by_cases hin : (2 ≤ n ∧ n ≤ 16) ∧ 1 ≤ times ∧ times ≤ 6
  · obtain ⟨⟨g1, g2⟩, g3, g4⟩ := hin
    obtain ⟨N, rfl⟩ := Int.eq_ofNat_of_zero_le (show 0 ≤ n by omega)
    obtain ⟨T, rfl⟩ := Int.eq_ofNat_of_zero_le (show 0 ≤ times by omega)
    have hS := star_check N (by omega) (by omega) T (by omega) (by omega)
    simp only [checkS, Bool.and_eq_true, beq_iff_eq, Bool.not_eq_true'] at hS
    obtain ⟨⟨⟨⟨s1, s2⟩, s3⟩, s4⟩, s5⟩ := hS
    have S := Lib.hid (And.intro s1 (And.intro s2 (And.intro s3 (And.intro s4 s5))))
    clear s1 s2 s3 s4 s5
    obtain ⟨K, rfl⟩ : ∃ K, N = K + 1 := ⟨N - 1, by omega⟩
    obtain ⟨U, rfl⟩ : ∃ U, T = U + 1 := ⟨T - 1, by omega⟩
    simp only [Nat.add_sub_cancel] at S
    have eK : (((K + 1 : Nat) : Int)) - 1 = (K : Int) := by omega
    have eU : (((U + 1 : Nat) : Int)) - 1 = (U : Int) := by omega
    obtain ⟨P, hP⟩ : ∃ P : Nat, P = (U + 1) * K := ⟨_, rfl⟩
    obtain ⟨Q, hQ⟩ : ∃ Q : Nat, Q = U * K := ⟨_, rfl⟩
    have hPb : P ≤ 90 := by rw [hP]; exact Nat.le_trans (Nat.mul_le_mul (show U + 1 ≤ 6 by omega) (show K ≤ 15 by omega)) (by omega)
    have hQb : Q ≤ 90 := by rw [hQ]; exact Nat.le_trans (Nat.mul_le_mul (show U ≤ 6 by omega) (show K ≤ 15 by omega)) (by omega)
    have eP : (((U + 1 : Nat) : Int)) * (K : Int) = (P : Int) := by rw [hP]; push_cast; rfl
    have eQ : (U : Int) * (K : Int) = (Q : Int) := by rw [hQ]; push_cast; rfl
    have gs : ∀ k, k ≤ 6 → Good (sends (K + 1) k) 90 (K + 1) := fun k hk => (good_sends (by omega) (by omega) k).mono (by omega)
    have G := Lib.hid gs
    have HPQ := Lib.hid (And.intro hP hQ)
    generalize hN : ((K + 1 : Nat) : Int) = NI at *
    generalize hT : ((U + 1 : Nat) : Int) = TI at *
    clear gs hP hQ
    go_enter Try.func6, Try.ntmps6
    go_wp2_with fail
    refine (alive_spec _).mono ?_
    rintro e w1 ⟨rfl, k1⟩
    go_wp2_with fail
    refine (live_new w1 NI w k1).mono ?_
    rintro e w2 ⟨p, rfl, h2⟩
    rw [← hN] at h2
    have h2 : TLive w1.heap.size p w w2 (sends (K + 1) 0) := h2
    go_wp2_with fail
    go_loopw [7, 8] (fun v7 v8 wr => ∃ k : Nat, k ≤ K ∧ v8 = .int .i64 ((k : Int) + 1) ∧ TLive w1.heap.size p w wr (sends (K + 1) 0) ∧ OwnsAt wr w.heap.size 3 1 v7 k ((upto k).map (.int .i64))) (fun _ v _ => K + 1 - (intOf v).toNat)
    case atStart => exact ⟨0, by omega, rfl, h2, OwnsAt.nil _ _ _ _⟩
    case round =>
      clear h2
      obtain ⟨k, hk, rfl, h3, ho⟩ := hrel
      obtain ⟨av, cv, rfl⟩ := ho.shape
      by_cases hlt : k < K
      · have hA : Keep [] wr (wr.alloc (.cells #[.int .i64 ((k : Int) + 1)] 3)) := (Keep.refl _ _).alloc _
        have hoA := ho.keep hA (by simp)
        have h4 := h3.keep0 hA
        have hltI : (k : Int) + 1 < NI := by omega
        have hkb : (k : Int) ≤ 16 := by omega
        have hsz := h3.out.size
        clear ho h3 hA
        go_wp2_with (at_builtin; refine wpList_append_off rfl _ _ rfl Try.ints23 w.heap.size (.slice av k cv) k _ rfl hoA _ 1 _ rfl (src_row 1 rfl _ rfl) (by simp [Value.oneCell']) (by unfold maxLen; omega) (by omega) (by simp; omega) ?_)
        intro v' w4 hown4 hk4 hat4
        have h5 := h4.keep_own hoA hk4
        have hown5 : OwnsAt w4 w.heap.size 3 1 v' (k + 1) ((upto (k + 1)).map (.int .i64)) := by
          rw [upto_succ, List.map_append]
          exact hown4
        obtain ⟨a7, c7, rfl⟩ := hown5.shape
        clear hown4 hk4 hat4 hoA h4
        go_wp2
        go_roundw
        case rel => exact ⟨k + 1, by omega, by go_num, h5, hown5⟩
        case measure => simp [intOf]; omega
      · obtain rfl : K = k := by omega
        have hge : NI ≤ (K : Int) + 1 := by omega
        generalize wr = wo at *
        go_wp2_with fail
        go_loopw [9] (fun v9 wr => ∃ k : Nat, k ≤ U + 1 ∧ v9 = .int .i64 k ∧ TLive w1.heap.size p w wr (sends (K + 1) k) ∧ OwnsAt wr w.heap.size 3 1 (.slice av K cv) K ((upto K).map (.int .i64))) (fun v _ => U + 1 - (intOf v).toNat)
        case atStart => exact ⟨0, by omega, rfl, h3, ho⟩
        case round =>
          clear h3 ho
          obtain ⟨k, hk, rfl, h3, ho⟩ := hrel
          by_cases hlt : k < U + 1
          · have ho' : OwnsAt wr w.heap.size 3 1 (.slice av K cv) (upto K).length ((upto K).map (.int .i64)) := by rw [upto_len]; exact ho
            have hsd := star_sends (K + 1) (by omega) (by omega) k (by omega)
            simp only [Nat.add_sub_cancel, beq_iff_eq] at hsd
            have hs := live_send_own (v := .slice av K cv) 0 h3 ((G.out k (by omega)).ok (by omega)) ho' (by rw [upto_len]; omega)
            rw [hsd] at hs
            have Hs := Lib.hid hs
            have hltI : (k : Int) < TI := by omega
            clear h3 ho ho' hs hsd
            go_wp2_with fail
            refine Hs.out.mono ?_
            rintro e w3 ⟨rfl, h4, ho4⟩
            rw [upto_len] at ho4
            clear Hs
            go_wp2
            go_roundw
            case rel => exact ⟨k + 1, by omega, by go_num, h4, ho4⟩
            case measure => simp [intOf]; omega
          · obtain rfl : k = U + 1 := by omega
            have hge : TI ≤ ((U + 1 : Nat) : Int) := by omega
            have g1' : Good (star1 (K + 1) (U + 1)) 90 (K + 1) := (G.out _ (by omega)).idle 0
            have G1 := Lib.hid g1'
            have hid := Lib.hid (live_idle 0 h3 ((G.out _ (by omega)).ok (by omega)))
            generalize wr = wo2 at *
            clear h3 ho g1'
            go_wp2_with fail
            refine hid.out.mono ?_
            rintro e w3 ⟨rfl, h4⟩
            have h4 : TLive w1.heap.size p w w3 (dels 0 (star1 (K + 1) (U + 1))) := h4
            have how := live_owes 0 h4
            rw [show owesN (dels 0 (star1 (K + 1) (U + 1))) 0 = (P : Int) by rw [← eP, ← eK]; exact S.out.1] at how
            have How := Lib.hid how
            clear how hid
            go_wp2_with fail
            refine How.out.mono ?_
            rintro e w3' ⟨rfl, rfl⟩
            clear How
            go_wp2_with fail
            go_loopw [10] (fun v10 wr => ∃ j : Nat, j ≤ P ∧ v10 = .int .i64 j ∧ TLive w1.heap.size p w wr (dels j (star1 (K + 1) (U + 1)))) (fun v _ => P - (intOf v).toNat)
            case atStart => exact ⟨0, by omega, rfl, h4⟩
            case round =>
              clear h4
              obtain ⟨j, hj, rfl, h5⟩ := hrel
              by_cases hlt : j < P
              · have hd := Lib.hid (live_deliver 0 h5 ((good_dels G1.out j).ok (by omega)))
                have hltI : (j : Int) < (P : Int) := by omega
                clear h5
                go_wp2_with fail
                refine hd.out.mono ?_
                rintro e w5 ⟨rfl, h6⟩
                clear hd
                go_wp2
                go_roundw
                case rel => exact ⟨j + 1, by omega, by go_num, h6⟩
                case measure => simp [intOf]; omega
              · obtain rfl : P = j := by omega
                have hge : (P : Int) ≤ (P : Int) := by omega
                have hs2 : dels P (star1 (K + 1) (U + 1)) = star2 (K + 1) (U + 1) := by rw [HPQ.out.1]; rfl
                have G2 := Lib.hid (show Good (star2 (K + 1) (U + 1)) 90 (K + 1) by rw [← hs2]; exact good_dels G1.out P)
                rw [hs2] at h5
                have hw := live_way h5 (G2.out.ok (by omega))
                rw [show (star2 (K + 1) (U + 1)).way.length = Q by rw [HPQ.out.2]; exact S.out.2.1] at hw
                have Hw := Lib.hid hw
                generalize wr = wo3 at *
                clear hw h5 hs2
                go_wp2_with fail
                refine Hw.out.mono ?_
                rintro e w6 ⟨v, rfl, ho, h6⟩
                obtain ⟨a, c, rfl⟩ := ho.shape
                clear ho Hw
                go_wp2_with fail
                go_loopw [] (fun wr => ∃ f q, f ≤ 300 ∧ TLive w1.heap.size p w wr q ∧ Good q 90 (K + 1) ∧ drain f q = star3 (K + 1) (U + 1) ∧ phi q ≤ f) (fun wr => Classical.epsilon (Least fun f => ∃ q, f ≤ 300 ∧ TLive w1.heap.size p w wr q ∧ Good q 90 (K + 1) ∧ drain f q = star3 (K + 1) (U + 1) ∧ phi q ≤ f))
                case atStart => exact ⟨300, _, Nat.le_refl _, h6, G2.out, rfl, by have := phi_le G2.out; omega⟩
                case round =>
                  clear h6
                  have hmin := least_eps (P := fun f => ∃ q, f ≤ 300 ∧ TLive w1.heap.size p w wr q ∧ Good q 90 (K + 1) ∧ drain f q = star3 (K + 1) (U + 1) ∧ phi q ≤ f) hrel.choose_spec
                  have Hmin := Lib.hid hmin
                  obtain ⟨⟨q, hf, h7, gq, hdr, hph⟩, _⟩ := hmin
                  have hw := Lib.hid (live_way h7 (gq.ok (by omega)))
                  have Hdr := Lib.hid hdr
                  have Hph := Lib.hid hph
                  have Gq := Lib.hid gq
                  have Hf := Lib.hid hf
                  clear h7 gq hdr hph hf hrel
                  have hqb : (q.way.length : Int) ≤ 1000 := by have := Gq.out.inv.load; omega
                  go_wp2_with fail
                  refine hw.out.mono ?_
                  rintro e w7 ⟨v, rfl, ho, h8⟩
                  obtain ⟨a', c', rfl⟩ := ho.shape
                  clear ho hw
                  by_cases hz : q.way.length = 0
                  · have hqn : q.way = [] := List.eq_nil_of_length_eq_zero hz
                    have hq3 : q = star3 (K + 1) (U + 1) := by rw [← Hdr.out, drain_nil hqn]
                    have G3 := Lib.hid (show Good (star3 (K + 1) (U + 1)) 90 (K + 1) by rw [← hq3]; exact Gq.out)
                    have how := live_owes 0 h8
                    rw [show owesN q 0 = (K : Int) by rw [hq3, ← eK]; exact S.out.2.2.1] at how
                    have How := Lib.hid how
                    have hdc := live_decl h8 (Gq.out.ok (by omega))
                    rw [show declN q = false by rw [hq3]; exact S.out.2.2.2.1] at hdc
                    have Hdc := Lib.hid hdc
                    have hz0 : (q.way.length : Int) = 0 := by omega
                    rw [hq3] at h8
                    have h8 : TLive w1.heap.size p w w7 (idles 0 (star3 (K + 1) (U + 1))) := h8
                    clear how hdc hqn hz hq3
                    go_wp2_with fail
                    refine How.out.mono ?_
                    rintro e w9 ⟨rfl, rfl⟩
                    go_wp2_with fail
                    refine Hdc.out.mono ?_
                    rintro e w9 ⟨rfl, rfl⟩
                    generalize wr = wo4 at *
                    clear How Hdc Hmin Hdr Hph Gq Hf hqb hz0
                    go_wp2_with fail
                    go_loopw [11] (fun v11 wr => ∃ i : Nat, i ≤ K ∧ v11 = .int .i64 ((i : Int) + 1) ∧ TLive w1.heap.size p w wr (idles i (star3 (K + 1) (U + 1)))) (fun v _ => K + 1 - (intOf v).toNat)
                    case atStart => exact ⟨0, by omega, rfl, h8⟩
                    case round =>
                      clear h8
                      obtain ⟨i, hi, rfl, h9⟩ := hrel
                      by_cases hlt : i < K
                      · have hd := Lib.hid (live_idle ((i : Int) + 1) h9 ((good_idles G3.out i).ok (by omega)))
                        have hltI : (i : Int) + 1 < NI := by omega
                        have hib : (i : Int) ≤ 16 := by omega
                        clear h9
                        go_wp2_with fail
                        refine hd.out.mono ?_
                        rintro e w10 ⟨rfl, h10⟩
                        clear hd
                        go_wp2
                        go_roundw
                        case rel => exact ⟨i + 1, by omega, by go_num, h10⟩
                        case measure => simp [intOf]; omega
                      · obtain rfl : K = i := by omega
                        have hge : NI ≤ (K : Int) + 1 := by omega
                        have h10 : TLive w1.heap.size p w wr (star4 (K + 1) (U + 1)) := h9
                        have G4 := Lib.hid (show Good (star4 (K + 1) (U + 1)) 90 (K + 1) from good_idles G3.out K)
                        generalize wr = wo5 at *
                        clear h9
                        go_wp2_with fail
                        go_loopw [] (fun wr => ∃ f q, f ≤ 300 ∧ TLive w1.heap.size p w wr q ∧ Good q 90 (K + 1) ∧ drain f q = star5 (K + 1) (U + 1) ∧ phi q ≤ f) (fun wr => Classical.epsilon (Least fun f => ∃ q, f ≤ 300 ∧ TLive w1.heap.size p w wr q ∧ Good q 90 (K + 1) ∧ drain f q = star5 (K + 1) (U + 1) ∧ phi q ≤ f))
                        case atStart => exact ⟨300, _, Nat.le_refl _, h10, G4.out, rfl, by have := phi_le G4.out; omega⟩
                        case round =>
                          clear h10
                          have hmin := least_eps (P := fun f => ∃ q, f ≤ 300 ∧ TLive w1.heap.size p w wr q ∧ Good q 90 (K + 1) ∧ drain f q = star5 (K + 1) (U + 1) ∧ phi q ≤ f) hrel.choose_spec
                          have Hmin := Lib.hid hmin
                          obtain ⟨⟨q, hf, h7, gq, hdr, hph⟩, _⟩ := hmin
                          have hw := Lib.hid (live_way h7 (gq.ok (by omega)))
                          have Hdr := Lib.hid hdr
                          have Hph := Lib.hid hph
                          have Gq := Lib.hid gq
                          have Hf := Lib.hid hf
                          clear h7 gq hdr hph hf hrel
                          have hqb : (q.way.length : Int) ≤ 1000 := by have := Gq.out.inv.load; omega
                          go_wp2_with fail
                          refine hw.out.mono ?_
                          rintro e w7 ⟨v, rfl, ho, h8⟩
                          obtain ⟨a', c', rfl⟩ := ho.shape
                          clear ho hw
                          by_cases hz : q.way.length = 0
                          · have hqn : q.way = [] := List.eq_nil_of_length_eq_zero hz
                            have hq3 : q = star5 (K + 1) (U + 1) := by rw [← Hdr.out, drain_nil hqn]
                            have hdc := live_decl h8 (Gq.out.ok (by omega))
                            rw [show declN q = true by rw [hq3]; exact S.out.2.2.2.2] at hdc
                            have Hdc := Lib.hid hdc
                            have k := h8.out
                            have hz0 : (q.way.length : Int) = 0 := by omega
                            clear hdc h8 hqn hz hq3
                            go_wp2_with fail
                            refine Hdc.out.mono ?_
                            rintro e w9 ⟨rfl, rfl⟩
                            go_wp2
                            go_ret
                            exact ⟨rfl, k⟩
                          · have hpos : (0 : Int) < (q.way.length : Int) := by omega
                            have hdel := inv_deliver 0 Gq.out.inv Gq.out.calm
                            have hphi := hdel.2.2.2 ⟨by omega, by omega⟩
                            have hd := Lib.hid (live_deliver 0 h8 (Gq.out.ok (by omega)))
                            have Hphi := Lib.hid hphi
                            have Hz := Lib.hid hz
                            clear h8 hdel hphi hz
                            go_wp2_with fail
                            refine hd.out.mono ?_
                            rintro e w8 ⟨rfl, h9⟩
                            clear hd
                            have hnew : ∃ f, ∃ q', f + 1 = Classical.epsilon (Least fun f => ∃ q, f ≤ 300 ∧ TLive w1.heap.size p w wr q ∧ Good q 90 (K + 1) ∧ drain f q = star5 (K + 1) (U + 1) ∧ phi q ≤ f) ∧ f ≤ 300 ∧ TLive w1.heap.size p w w8 q' ∧ Good q' 90 (K + 1) ∧ drain f q' = star5 (K + 1) (U + 1) ∧ phi q' ≤ f := by
                              have h1 := Hphi.out
                              have h2 := Hph.out
                              have h3 := Hf.out
                              have h4 := Hdr.out
                              have h5 := Hz.out
                              generalize Classical.epsilon (Least fun f => ∃ q, f ≤ 300 ∧ TLive w1.heap.size p w wr q ∧ Good q 90 (K + 1) ∧ drain f q = star5 (K + 1) (U + 1) ∧ phi q ≤ f) = f0 at *
                              obtain ⟨f, rfl⟩ : ∃ f, f0 = f + 1 := ⟨f0 - 1, by omega⟩
                              refine ⟨f, _, rfl, by omega, h9, Gq.out.deliver 0, ?_, by omega⟩
                              unfold drain at h4
                              have h6 : q.way.isEmpty = false := by
                                cases hq : q.way with
                                | nil => rw [hq] at h5; exact absurd rfl h5
                                | cons _ _ => rfl
                              rw [h6] at h4
                              exact h4
                            obtain ⟨f, q', he, hf', hl', hg', hd', hp'⟩ := hnew
                            have He := Lib.hid he
                            have Hnew := Lib.hid (And.intro hf' (And.intro hl' (And.intro hg' (And.intro hd' hp'))))
                            clear he hf' hl' hg' hd' hp' h9 Hmin
                            go_wp2
                            go_roundw
                            case rel => exact ⟨f, q', Hnew.out⟩
                            case measure =>
                              have h1 : Classical.epsilon (Least fun f => ∃ q, f ≤ 300 ∧ TLive w1.heap.size p w w8 q ∧ Good q 90 (K + 1) ∧ drain f q = star5 (K + 1) (U + 1) ∧ phi q ≤ f) ≤ f := least_le ⟨q', Hnew.out⟩
                              have h2 := He.out
                              omega
                  · have hpos : (0 : Int) < (q.way.length : Int) := by omega
                    have hdel := inv_deliver 0 Gq.out.inv Gq.out.calm
                    have hphi := hdel.2.2.2 ⟨by omega, by omega⟩
                    have hd := Lib.hid (live_deliver 0 h8 (Gq.out.ok (by omega)))
                    have Hphi := Lib.hid hphi
                    have Hz := Lib.hid hz
                    clear h8 hdel hphi hz
                    go_wp2_with fail
                    refine hd.out.mono ?_
                    rintro e w8 ⟨rfl, h9⟩
                    clear hd
                    have hnew : ∃ f, ∃ q', f + 1 = Classical.epsilon (Least fun f => ∃ q, f ≤ 300 ∧ TLive w1.heap.size p w wr q ∧ Good q 90 (K + 1) ∧ drain f q = star3 (K + 1) (U + 1) ∧ phi q ≤ f) ∧ f ≤ 300 ∧ TLive w1.heap.size p w w8 q' ∧ Good q' 90 (K + 1) ∧ drain f q' = star3 (K + 1) (U + 1) ∧ phi q' ≤ f := by
                      have h1 := Hphi.out
                      have h2 := Hph.out
                      have h3 := Hf.out
                      have h4 := Hdr.out
                      have h5 := Hz.out
                      generalize Classical.epsilon (Least fun f => ∃ q, f ≤ 300 ∧ TLive w1.heap.size p w wr q ∧ Good q 90 (K + 1) ∧ drain f q = star3 (K + 1) (U + 1) ∧ phi q ≤ f) = f0 at *
                      obtain ⟨f, rfl⟩ : ∃ f, f0 = f + 1 := ⟨f0 - 1, by omega⟩
                      refine ⟨f, _, rfl, by omega, h9, Gq.out.deliver 0, ?_, by omega⟩
                      unfold drain at h4
                      have h6 : q.way.isEmpty = false := by
                        cases hq : q.way with
                        | nil => rw [hq] at h5; exact absurd rfl h5
                        | cons _ _ => rfl
                      rw [h6] at h4
                      exact h4
                    obtain ⟨f, q', he, hf', hl', hg', hd', hp'⟩ := hnew
                    have He := Lib.hid he
                    have Hnew := Lib.hid (And.intro hf' (And.intro hl' (And.intro hg' (And.intro hd' hp'))))
                    clear he hf' hl' hg' hd' hp' h9 Hmin
                    go_wp2
                    go_roundw
                    case rel => exact ⟨f, q', Hnew.out⟩
                    case measure =>
                      have h1 : Classical.epsilon (Least fun f => ∃ q, f ≤ 300 ∧ TLive w1.heap.size p w w8 q ∧ Good q 90 (K + 1) ∧ drain f q = star3 (K + 1) (U + 1) ∧ phi q ≤ f) ≤ f := least_le ⟨q', Hnew.out⟩
                      have h2 := He.out
                      omega
  · have hc : n < 2 ∨ (2 ≤ n ∧ 16 < n) ∨ ((2 ≤ n ∧ n ≤ 16) ∧ times < 1) ∨ ((2 ≤ n ∧ n ≤ 16) ∧ 1 ≤ times ∧ 6 < times) := by omega
    clear hin
    go_enter Try.func6, Try.ntmps6
    go_wp2_with fail
    refine (alive_spec _).mono ?_
    rintro e w1 ⟨rfl, hk1⟩
    rcases hc with h | ⟨h, h'⟩ | ⟨⟨h, h'⟩, h2⟩ | ⟨⟨h, h'⟩, h2, h3⟩
    all_goals (go_wp2; go_ret; exact ⟨rfl, hk1⟩)
theorem walk_termStar (W : World) {n t : Int} (_ : (Lit.int .i64 n).wf = true) (_ : (Lit.int .i64 t).wf = true) : Calls Try.prog 6 #[.int .i64 n, .int .i64 t] W fun e w' => e = .returned (.bool true) ∧ Below W.heap.size W w' :=
  (termStar_any W n t).mono fun _ _ ⟨he, hk⟩ => ⟨he, hk.to_below⟩
end Go.Proofs.Ytiicmlhpcfhfeaa
