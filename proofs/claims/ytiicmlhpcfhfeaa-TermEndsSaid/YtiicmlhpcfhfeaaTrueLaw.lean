/- The law TermTrue. -/
import Derived.Test.YtiicmlhpcfhfeaaRows
import Derived.WalkKit
import Derived.WalkSpells
import Derived.WalkLawsBesides
import Derived.RegionTactic
import Derived.ChangeAlike
import Derived.BigQuiet
import Derived.Deep.QuietTactic
import Derived.StillTailTactics
import Derived.IntWalk
import Derived.Handy
import Derived.Lib.Hide
import Derived.Deep.AppendLies
import Derived.Deep.RegionWith
import Derived.Test.YtiicmlhpcfhfeaaBase
import Derived.Test.YtiicmlhpcfhfeaaTail
import Derived.Test.YtiicmlhpcfhfeaaArgs
import Derived.Test.YtiicmlhpcfhfeaaAppend
import Derived.Deep.RegionLaw
import Derived.Test.YtiicmlhpcfhfeaaOffs
import Derived.Test.YtiicmlhpcfhfeaaStructs
import Derived.Test.YtiicmlhpcfhfeaaSplit
import Derived.Test.YtiicmlhpcfhfeaaTermObj
import Derived.Test.YtiicmlhpcfhfeaaTermRead
import Derived.Test.YtiicmlhpcfhfeaaTermSettle
import Derived.Test.YtiicmlhpcfhfeaaTermSettle2
import Derived.Test.YtiicmlhpcfhfeaaTermDel
import Derived.Test.YtiicmlhpcfhfeaaTermSend
import Derived.Test.YtiicmlhpcfhfeaaTermDeliver
import Derived.Test.YtiicmlhpcfhfeaaTermNew2
import Derived.Test.YtiicmlhpcfhfeaaTermAlive
import Derived.Test.YtiicmlhpcfhfeaaTermInv2
import Derived.Test.YtiicmlhpcfhfeaaStarPlain
import Derived.Test.YtiicmlhpcfhfeaaOpens
import Derived.Test.YtiicmlhpcfhfeaaTermActs
namespace Go.Proofs.Ytiicmlhpcfhfeaa
open Go.RowKit
theorem owes_all {q : TM} (h : ∀ (k : Nat) (x : Nd), q.nodes[k]? = some x → x.1 = 0) (n : Int) : owesN q n = 0 := by
  unfold owesN
  cases hi : isN q n with
  | false => rfl
  | true =>
    have hi' : 0 ≤ n ∧ n < q.nodes.length := by unfold isN at hi; simpa using hi
    obtain ⟨k, rfl⟩ := Int.eq_ofNat_of_zero_le hi'.1
    have hk : k < q.nodes.length := by omega
    have hx := List.getElem?_eq_getElem hk
    rw [nd_of hx, h k _ hx]
    rfl
theorem ActsOf.to_ {w wr : World} {c b off i : Nat} {l : List Actv} {x : Actv} {tv : Value} (h : ActsOf w (.slice (some ⟨b, off, none⟩) l.length c) l) (hlt : i < l.length) (hx : x = l[i]) (e2 : wr.cell? ⟨b, off + i * 3 + 2, none⟩ = some tv) (k : Keep [] w wr) : IntsOf w tv x.to := by
  obtain ⟨a', c', hva, hcells⟩ := h
  cases hva
  obtain ⟨b', off', tv', hh, hb, _, _, e2', e3⟩ := hcells i l[i] (List.getElem?_eq_getElem hlt)
  cases hh
  have h1 := (k.cell hb (by simp)).trans e2'
  rw [e2] at h1
  cases h1
  rw [hx]
  exact e3
set_option maxHeartbeats 16000000 in
set_option maxRecDepth 100000 in
theorem termTrue_any (w : World) (n : Int) (v : Value) (l : List Actv) (hv : ActsOf w v l) : Calls Try.prog 4 #[.int .i64 n, v] w fun e w' => e = .returned (.bool true) ∧ Keep [] w w' := by
  obtain ⟨a, c, rfl⟩ : ∃ a c, v = .slice a l.length c := by obtain ⟨a, c, h, _⟩ := hv; exact ⟨a, c, h⟩
  by_cases hin : (1 ≤ n ∧ n ≤ 16) ∧ l.length ≤ 300
  · obtain ⟨⟨g1, g2⟩, g3⟩ := hin
    obtain ⟨N, rfl⟩ := Int.eq_ofNat_of_zero_le (show 0 ≤ n by omega)
    have gN := good_new (n := (N : Int)) rfl (by omega) (by omega)
    have GN := Lib.hid gN
    have Hv := Lib.hid hv
    have hN16 : N ≤ 16 := by omega
    have G2 := Lib.hid g3
    clear hv gN
    go_enter Try.func4, Try.ntmps4
    go_wp2_with fail
    refine (alive_spec _).mono ?_
    rintro e w1 ⟨rfl, k1⟩
    go_wp2_with fail
    refine (live_new w1 (N : Int) w k1).mono ?_
    rintro e w2 ⟨p, rfl, h2⟩
    go_wp2_with fail
    go_loopw [7, 8, 9, 10] (fun v7 _ _ _ wr => ∃ (i : Nat) (q : TM), i ≤ l.length ∧ v7 = .int .i64 i ∧ TLive w1.heap.size p w wr q ∧ Good q (i * 50) N) (fun v _ _ _ _ => l.length - (intOf v).toNat)
    case atStart => exact ⟨0, _, by omega, rfl, h2, by simpa using GN.out⟩
    case round =>
      clear h2
      obtain ⟨i, q, hi, rfl, h3, gq⟩ := hrel
      by_cases hlt : i < l.length
      · have hacts := Hv.out.keep0 h3.out
        obtain ⟨a', c', hva, hcells⟩ := hacts
        cases hva
        obtain ⟨b, off, tv, rfl, hb, e0, e1, e2, e3⟩ := hcells i l[i] (List.getElem?_eq_getElem hlt)
        have hto0 : ∃ x, x = l[i] := ⟨_, rfl⟩
        obtain ⟨x, hx⟩ := hto0
        rw [← hx] at e0 e1 e3
        have Hto0 := Lib.hid (Hv.out.to_ hlt hx e2 h3.out)
        obtain ⟨way, node, to⟩ := x
        simp only at e0 e1 e2 e3
        obtain ⟨a2, c2, rfl⟩ := e3.shape
        have hA : Keep [] wr (wr.alloc (.cells #[.int .i64 way, .int .i64 node, .slice a2 to.length c2] 28)) := (Keep.refl _ _).alloc _
        have h4 := h3.keep0 hA
        have Gq := Lib.hid gq
        have hltI : (i : Int) < (l.length : Int) := by omega
        have hi300 : i ≤ 300 := by omega
        have hI300 : (i : Int) ≤ 300 := by omega
        have Hto := Lib.hid (Hto0.out)
        clear hcells h3 hA gq hx e3 Hto0
        by_cases hto : to.length ≤ 50
        · rcases (show way = 0 ∨ way = 1 ∨ (way ≠ 0 ∧ way ≠ 1) by omega) with hw | hw | ⟨hw, hw'⟩
          · subst hw
            have hdc0 := Lib.hid (live_decl h4 (Gq.out.ok (by have := G2.out; omega)))
            have hc := Lib.hid (live_send_in node h4 (Gq.out.ok (by have := G2.out; omega)) Hto.out (Nat.le_trans hto (by omega)))
            go_wp2_with fail
            refine hdc0.out.mono ?_
            rintro e w4' ⟨rfl, rfl⟩
            clear hdc0
            clear h4
            go_wp2_with fail
            refine hc.out.mono ?_
            rintro e w5 ⟨rfl, h5⟩
            rw [show (sendN q node to).1 = stepT q ⟨0, node, to⟩ by unfold stepT; simp [*]] at h5
            clear hc
            have g5 := Gq.out.step (a := ⟨0, node, to⟩) (b := 50) hto
            have G5 := Lib.hid g5
            have G5n := Lib.hid (show Good (stepT q ⟨0, node, to⟩) ((i + 1) * 50) N from g5.mono (by omega))
            have hdc := live_decl h5 (g5.ok (by have := G2.out; omega))
            clear g5
            cases hd0 : declN q with
            | true =>
              have hd5 : declN (stepT q ⟨0, node, to⟩) = true := decl_stays Gq.out.inv hd0 _
              rw [hd5] at hdc
              have Hdc := Lib.hid hdc
              clear hdc
              go_wp2_with fail
              refine Hdc.out.mono ?_
              rintro e w6 ⟨rfl, rfl⟩
              go_wp2_with fail
              refine Hdc.out.mono ?_
              rintro e w6 ⟨rfl, rfl⟩
              have hall := decl_all G5.out.inv hd5
              have hact : ∀ n, activeN (stepT q ⟨0, node, to⟩) n = false := idle_all fun k x hx => (hall.1 k x hx).1
              have how : ∀ n, owesN (stepT q ⟨0, node, to⟩) n = 0 := owes_all fun k x hx => (hall.1 k x hx).2
              have Hact := Lib.hid hact
              have How := Lib.hid how
              have Hway := Lib.hid hall.2
              generalize wr = wo at *
              clear hall hact how
              go_wp2_with fail
              go_loopw [10] (fun v10 wr => ∃ k : Nat, k ≤ N ∧ v10 = .int .i64 k ∧ TLive w1.heap.size p w wr (stepT q ⟨0, node, to⟩)) (fun v _ => N - (intOf v).toNat)
              case atStart => exact ⟨0, by omega, rfl, h5⟩
              case round =>
                clear h5
                obtain ⟨k, hk, rfl, h6⟩ := hrel
                by_cases hlt : k < N
                · have ha := live_active (k : Int) h6
                  rw [Hact.out] at ha
                  have ho := live_owes (k : Int) h6
                  rw [How.out] at ho
                  have Ha := Lib.hid ha
                  have Ho := Lib.hid ho
                  have hltI : (k : Int) < (N : Int) := by omega
                  clear ha ho
                  go_wp2_with fail
                  refine Ha.out.mono ?_
                  rintro e w7 ⟨rfl, rfl⟩
                  go_wp2_with fail
                  refine Ho.out.mono ?_
                  rintro e w7 ⟨rfl, rfl⟩
                  clear Ha Ho
                  go_wp2
                  go_roundw
                  case rel => exact ⟨k + 1, by omega, by go_num, h6⟩
                  case measure => simp [intOf]; omega
                · obtain rfl : N = k := by omega
                  have hw := live_way h6 (G5.out.ok (by have := G2.out; omega))
                  rw [show (stepT q ⟨0, node, to⟩).way.length = 0 by rw [Hway.out]; rfl] at hw
                  have Hw := Lib.hid hw
                  generalize wr = wo2 at *
                  clear h6 hw
                  go_wp2_with fail
                  refine Hw.out.mono ?_
                  rintro e w8 ⟨v, rfl, ho, h7⟩
                  obtain ⟨a5, c5, rfl⟩ := ho.shape
                  clear ho Hw
                  go_wp2
                  go_roundw
                  case rel => exact ⟨i + 1, _, by omega, by go_num, h7, G5n.out⟩
                  case measure => simp [intOf]; omega
            | false =>
              cases hd5 : declN (stepT q ⟨0, node, to⟩) with
              | false =>
                rw [hd5] at hdc
                have Hdc := Lib.hid hdc
                clear hdc
                go_wp2_with fail
                refine Hdc.out.mono ?_
                rintro e w6 ⟨rfl, rfl⟩
                go_wp2
                go_roundw
                case rel => exact ⟨i + 1, _, by omega, by go_num, h5, G5n.out⟩
                case measure => simp [intOf]; omega
              | true =>
                rw [hd5] at hdc
                have Hdc := Lib.hid hdc
                clear hdc
                go_wp2_with fail
                refine Hdc.out.mono ?_
                rintro e w6 ⟨rfl, rfl⟩
                have hall := decl_all G5.out.inv hd5
                have hact : ∀ n, activeN (stepT q ⟨0, node, to⟩) n = false := idle_all fun k x hx => (hall.1 k x hx).1
                have how : ∀ n, owesN (stepT q ⟨0, node, to⟩) n = 0 := owes_all fun k x hx => (hall.1 k x hx).2
                have Hact := Lib.hid hact
                have How := Lib.hid how
                have Hway := Lib.hid hall.2
                generalize wr = wo at *
                clear hall hact how
                go_wp2_with fail
                go_loopw [10] (fun v10 wr => ∃ k : Nat, k ≤ N ∧ v10 = .int .i64 k ∧ TLive w1.heap.size p w wr (stepT q ⟨0, node, to⟩)) (fun v _ => N - (intOf v).toNat)
                case atStart => exact ⟨0, by omega, rfl, h5⟩
                case round =>
                  clear h5
                  obtain ⟨k, hk, rfl, h6⟩ := hrel
                  by_cases hlt : k < N
                  · have ha := live_active (k : Int) h6
                    rw [Hact.out] at ha
                    have ho := live_owes (k : Int) h6
                    rw [How.out] at ho
                    have Ha := Lib.hid ha
                    have Ho := Lib.hid ho
                    have hltI : (k : Int) < (N : Int) := by omega
                    clear ha ho
                    go_wp2_with fail
                    refine Ha.out.mono ?_
                    rintro e w7 ⟨rfl, rfl⟩
                    go_wp2_with fail
                    refine Ho.out.mono ?_
                    rintro e w7 ⟨rfl, rfl⟩
                    clear Ha Ho
                    go_wp2
                    go_roundw
                    case rel => exact ⟨k + 1, by omega, by go_num, h6⟩
                    case measure => simp [intOf]; omega
                  · obtain rfl : N = k := by omega
                    have hw := live_way h6 (G5.out.ok (by have := G2.out; omega))
                    rw [show (stepT q ⟨0, node, to⟩).way.length = 0 by rw [Hway.out]; rfl] at hw
                    have Hw := Lib.hid hw
                    generalize wr = wo2 at *
                    clear h6 hw
                    go_wp2_with fail
                    refine Hw.out.mono ?_
                    rintro e w8 ⟨v, rfl, ho, h7⟩
                    obtain ⟨a5, c5, rfl⟩ := ho.shape
                    clear ho Hw
                    go_wp2
                    go_roundw
                    case rel => exact ⟨i + 1, _, by omega, by go_num, h7, G5n.out⟩
                    case measure => simp [intOf]; omega
          · subst hw
            have hdc0 := Lib.hid (live_decl h4 (Gq.out.ok (by have := G2.out; omega)))
            have hc := Lib.hid (live_idle node h4 (Gq.out.ok (by have := G2.out; omega)))
            go_wp2_with fail
            refine hdc0.out.mono ?_
            rintro e w4' ⟨rfl, rfl⟩
            clear hdc0
            clear h4
            go_wp2_with fail
            refine hc.out.mono ?_
            rintro e w5 ⟨rfl, h5⟩
            rw [show (idleN q node).1 = stepT q ⟨1, node, to⟩ by unfold stepT; simp [*]] at h5
            clear hc
            have g5 := Gq.out.step (a := ⟨1, node, to⟩) (b := 50) hto
            have G5 := Lib.hid g5
            have G5n := Lib.hid (show Good (stepT q ⟨1, node, to⟩) ((i + 1) * 50) N from g5.mono (by omega))
            have hdc := live_decl h5 (g5.ok (by have := G2.out; omega))
            clear g5
            cases hd0 : declN q with
            | true =>
              have hd5 : declN (stepT q ⟨1, node, to⟩) = true := decl_stays Gq.out.inv hd0 _
              rw [hd5] at hdc
              have Hdc := Lib.hid hdc
              clear hdc
              go_wp2_with fail
              refine Hdc.out.mono ?_
              rintro e w6 ⟨rfl, rfl⟩
              go_wp2_with fail
              refine Hdc.out.mono ?_
              rintro e w6 ⟨rfl, rfl⟩
              have hall := decl_all G5.out.inv hd5
              have hact : ∀ n, activeN (stepT q ⟨1, node, to⟩) n = false := idle_all fun k x hx => (hall.1 k x hx).1
              have how : ∀ n, owesN (stepT q ⟨1, node, to⟩) n = 0 := owes_all fun k x hx => (hall.1 k x hx).2
              have Hact := Lib.hid hact
              have How := Lib.hid how
              have Hway := Lib.hid hall.2
              generalize wr = wo at *
              clear hall hact how
              go_wp2_with fail
              go_loopw [10] (fun v10 wr => ∃ k : Nat, k ≤ N ∧ v10 = .int .i64 k ∧ TLive w1.heap.size p w wr (stepT q ⟨1, node, to⟩)) (fun v _ => N - (intOf v).toNat)
              case atStart => exact ⟨0, by omega, rfl, h5⟩
              case round =>
                clear h5
                obtain ⟨k, hk, rfl, h6⟩ := hrel
                by_cases hlt : k < N
                · have ha := live_active (k : Int) h6
                  rw [Hact.out] at ha
                  have ho := live_owes (k : Int) h6
                  rw [How.out] at ho
                  have Ha := Lib.hid ha
                  have Ho := Lib.hid ho
                  have hltI : (k : Int) < (N : Int) := by omega
                  clear ha ho
                  go_wp2_with fail
                  refine Ha.out.mono ?_
                  rintro e w7 ⟨rfl, rfl⟩
                  go_wp2_with fail
                  refine Ho.out.mono ?_
                  rintro e w7 ⟨rfl, rfl⟩
                  clear Ha Ho
                  go_wp2
                  go_roundw
                  case rel => exact ⟨k + 1, by omega, by go_num, h6⟩
                  case measure => simp [intOf]; omega
                · obtain rfl : N = k := by omega
                  have hw := live_way h6 (G5.out.ok (by have := G2.out; omega))
                  rw [show (stepT q ⟨1, node, to⟩).way.length = 0 by rw [Hway.out]; rfl] at hw
                  have Hw := Lib.hid hw
                  generalize wr = wo2 at *
                  clear h6 hw
                  go_wp2_with fail
                  refine Hw.out.mono ?_
                  rintro e w8 ⟨v, rfl, ho, h7⟩
                  obtain ⟨a5, c5, rfl⟩ := ho.shape
                  clear ho Hw
                  go_wp2
                  go_roundw
                  case rel => exact ⟨i + 1, _, by omega, by go_num, h7, G5n.out⟩
                  case measure => simp [intOf]; omega
            | false =>
              cases hd5 : declN (stepT q ⟨1, node, to⟩) with
              | false =>
                rw [hd5] at hdc
                have Hdc := Lib.hid hdc
                clear hdc
                go_wp2_with fail
                refine Hdc.out.mono ?_
                rintro e w6 ⟨rfl, rfl⟩
                go_wp2
                go_roundw
                case rel => exact ⟨i + 1, _, by omega, by go_num, h5, G5n.out⟩
                case measure => simp [intOf]; omega
              | true =>
                rw [hd5] at hdc
                have Hdc := Lib.hid hdc
                clear hdc
                go_wp2_with fail
                refine Hdc.out.mono ?_
                rintro e w6 ⟨rfl, rfl⟩
                have hall := decl_all G5.out.inv hd5
                have hact : ∀ n, activeN (stepT q ⟨1, node, to⟩) n = false := idle_all fun k x hx => (hall.1 k x hx).1
                have how : ∀ n, owesN (stepT q ⟨1, node, to⟩) n = 0 := owes_all fun k x hx => (hall.1 k x hx).2
                have Hact := Lib.hid hact
                have How := Lib.hid how
                have Hway := Lib.hid hall.2
                generalize wr = wo at *
                clear hall hact how
                go_wp2_with fail
                go_loopw [10] (fun v10 wr => ∃ k : Nat, k ≤ N ∧ v10 = .int .i64 k ∧ TLive w1.heap.size p w wr (stepT q ⟨1, node, to⟩)) (fun v _ => N - (intOf v).toNat)
                case atStart => exact ⟨0, by omega, rfl, h5⟩
                case round =>
                  clear h5
                  obtain ⟨k, hk, rfl, h6⟩ := hrel
                  by_cases hlt : k < N
                  · have ha := live_active (k : Int) h6
                    rw [Hact.out] at ha
                    have ho := live_owes (k : Int) h6
                    rw [How.out] at ho
                    have Ha := Lib.hid ha
                    have Ho := Lib.hid ho
                    have hltI : (k : Int) < (N : Int) := by omega
                    clear ha ho
                    go_wp2_with fail
                    refine Ha.out.mono ?_
                    rintro e w7 ⟨rfl, rfl⟩
                    go_wp2_with fail
                    refine Ho.out.mono ?_
                    rintro e w7 ⟨rfl, rfl⟩
                    clear Ha Ho
                    go_wp2
                    go_roundw
                    case rel => exact ⟨k + 1, by omega, by go_num, h6⟩
                    case measure => simp [intOf]; omega
                  · obtain rfl : N = k := by omega
                    have hw := live_way h6 (G5.out.ok (by have := G2.out; omega))
                    rw [show (stepT q ⟨1, node, to⟩).way.length = 0 by rw [Hway.out]; rfl] at hw
                    have Hw := Lib.hid hw
                    generalize wr = wo2 at *
                    clear h6 hw
                    go_wp2_with fail
                    refine Hw.out.mono ?_
                    rintro e w8 ⟨v, rfl, ho, h7⟩
                    obtain ⟨a5, c5, rfl⟩ := ho.shape
                    clear ho Hw
                    go_wp2
                    go_roundw
                    case rel => exact ⟨i + 1, _, by omega, by go_num, h7, G5n.out⟩
                    case measure => simp [intOf]; omega
          · have hdc0 := Lib.hid (live_decl h4 (Gq.out.ok (by have := G2.out; omega)))
            have hc := Lib.hid (live_deliver node h4 (Gq.out.ok (by have := G2.out; omega)))
            go_wp2_with fail
            refine hdc0.out.mono ?_
            rintro e w4' ⟨rfl, rfl⟩
            clear hdc0
            clear h4
            go_wp2_with fail
            refine hc.out.mono ?_
            rintro e w5 ⟨rfl, h5⟩
            rw [show (deliverN q node).1 = stepT q ⟨way, node, to⟩ by unfold stepT; simp [*]] at h5
            clear hc
            have g5 := Gq.out.step (a := ⟨way, node, to⟩) (b := 50) hto
            have G5 := Lib.hid g5
            have G5n := Lib.hid (show Good (stepT q ⟨way, node, to⟩) ((i + 1) * 50) N from g5.mono (by omega))
            have hdc := live_decl h5 (g5.ok (by have := G2.out; omega))
            clear g5
            cases hd0 : declN q with
            | true =>
              have hd5 : declN (stepT q ⟨way, node, to⟩) = true := decl_stays Gq.out.inv hd0 _
              rw [hd5] at hdc
              have Hdc := Lib.hid hdc
              clear hdc
              go_wp2_with fail
              refine Hdc.out.mono ?_
              rintro e w6 ⟨rfl, rfl⟩
              go_wp2_with fail
              refine Hdc.out.mono ?_
              rintro e w6 ⟨rfl, rfl⟩
              have hall := decl_all G5.out.inv hd5
              have hact : ∀ n, activeN (stepT q ⟨way, node, to⟩) n = false := idle_all fun k x hx => (hall.1 k x hx).1
              have how : ∀ n, owesN (stepT q ⟨way, node, to⟩) n = 0 := owes_all fun k x hx => (hall.1 k x hx).2
              have Hact := Lib.hid hact
              have How := Lib.hid how
              have Hway := Lib.hid hall.2
              generalize wr = wo at *
              clear hall hact how
              go_wp2_with fail
              go_loopw [10] (fun v10 wr => ∃ k : Nat, k ≤ N ∧ v10 = .int .i64 k ∧ TLive w1.heap.size p w wr (stepT q ⟨way, node, to⟩)) (fun v _ => N - (intOf v).toNat)
              case atStart => exact ⟨0, by omega, rfl, h5⟩
              case round =>
                clear h5
                obtain ⟨k, hk, rfl, h6⟩ := hrel
                by_cases hlt : k < N
                · have ha := live_active (k : Int) h6
                  rw [Hact.out] at ha
                  have ho := live_owes (k : Int) h6
                  rw [How.out] at ho
                  have Ha := Lib.hid ha
                  have Ho := Lib.hid ho
                  have hltI : (k : Int) < (N : Int) := by omega
                  clear ha ho
                  go_wp2_with fail
                  refine Ha.out.mono ?_
                  rintro e w7 ⟨rfl, rfl⟩
                  go_wp2_with fail
                  refine Ho.out.mono ?_
                  rintro e w7 ⟨rfl, rfl⟩
                  clear Ha Ho
                  go_wp2
                  go_roundw
                  case rel => exact ⟨k + 1, by omega, by go_num, h6⟩
                  case measure => simp [intOf]; omega
                · obtain rfl : N = k := by omega
                  have hw := live_way h6 (G5.out.ok (by have := G2.out; omega))
                  rw [show (stepT q ⟨way, node, to⟩).way.length = 0 by rw [Hway.out]; rfl] at hw
                  have Hw := Lib.hid hw
                  generalize wr = wo2 at *
                  clear h6 hw
                  go_wp2_with fail
                  refine Hw.out.mono ?_
                  rintro e w8 ⟨v, rfl, ho, h7⟩
                  obtain ⟨a5, c5, rfl⟩ := ho.shape
                  clear ho Hw
                  go_wp2
                  go_roundw
                  case rel => exact ⟨i + 1, _, by omega, by go_num, h7, G5n.out⟩
                  case measure => simp [intOf]; omega
            | false =>
              cases hd5 : declN (stepT q ⟨way, node, to⟩) with
              | false =>
                rw [hd5] at hdc
                have Hdc := Lib.hid hdc
                clear hdc
                go_wp2_with fail
                refine Hdc.out.mono ?_
                rintro e w6 ⟨rfl, rfl⟩
                go_wp2
                go_roundw
                case rel => exact ⟨i + 1, _, by omega, by go_num, h5, G5n.out⟩
                case measure => simp [intOf]; omega
              | true =>
                rw [hd5] at hdc
                have Hdc := Lib.hid hdc
                clear hdc
                go_wp2_with fail
                refine Hdc.out.mono ?_
                rintro e w6 ⟨rfl, rfl⟩
                have hall := decl_all G5.out.inv hd5
                have hact : ∀ n, activeN (stepT q ⟨way, node, to⟩) n = false := idle_all fun k x hx => (hall.1 k x hx).1
                have how : ∀ n, owesN (stepT q ⟨way, node, to⟩) n = 0 := owes_all fun k x hx => (hall.1 k x hx).2
                have Hact := Lib.hid hact
                have How := Lib.hid how
                have Hway := Lib.hid hall.2
                generalize wr = wo at *
                clear hall hact how
                go_wp2_with fail
                go_loopw [10] (fun v10 wr => ∃ k : Nat, k ≤ N ∧ v10 = .int .i64 k ∧ TLive w1.heap.size p w wr (stepT q ⟨way, node, to⟩)) (fun v _ => N - (intOf v).toNat)
                case atStart => exact ⟨0, by omega, rfl, h5⟩
                case round =>
                  clear h5
                  obtain ⟨k, hk, rfl, h6⟩ := hrel
                  by_cases hlt : k < N
                  · have ha := live_active (k : Int) h6
                    rw [Hact.out] at ha
                    have ho := live_owes (k : Int) h6
                    rw [How.out] at ho
                    have Ha := Lib.hid ha
                    have Ho := Lib.hid ho
                    have hltI : (k : Int) < (N : Int) := by omega
                    clear ha ho
                    go_wp2_with fail
                    refine Ha.out.mono ?_
                    rintro e w7 ⟨rfl, rfl⟩
                    go_wp2_with fail
                    refine Ho.out.mono ?_
                    rintro e w7 ⟨rfl, rfl⟩
                    clear Ha Ho
                    go_wp2
                    go_roundw
                    case rel => exact ⟨k + 1, by omega, by go_num, h6⟩
                    case measure => simp [intOf]; omega
                  · obtain rfl : N = k := by omega
                    have hw := live_way h6 (G5.out.ok (by have := G2.out; omega))
                    rw [show (stepT q ⟨way, node, to⟩).way.length = 0 by rw [Hway.out]; rfl] at hw
                    have Hw := Lib.hid hw
                    generalize wr = wo2 at *
                    clear h6 hw
                    go_wp2_with fail
                    refine Hw.out.mono ?_
                    rintro e w8 ⟨v, rfl, ho, h7⟩
                    obtain ⟨a5, c5, rfl⟩ := ho.shape
                    clear ho Hw
                    go_wp2
                    go_roundw
                    case rel => exact ⟨i + 1, _, by omega, by go_num, h7, G5n.out⟩
                    case measure => simp [intOf]; omega
        · have k := h4.out
          clear h4
          go_wp2
          go_ret
          exact ⟨rfl, k⟩
      · have : i = l.length := by omega
        subst this
        have k := h3.out
        clear h3 gq
        go_wp2
        go_ret
        exact ⟨rfl, k⟩
  · have hc : n < 1 ∨ (1 ≤ n ∧ 16 < n) ∨ ((1 ≤ n ∧ n ≤ 16) ∧ 300 < l.length) := by omega
    clear hin
    go_enter Try.func4, Try.ntmps4
    go_wp2_with fail
    refine (alive_spec _).mono ?_
    rintro e w1 ⟨rfl, hk1⟩
    rcases Nat.lt_or_ge 300 l.length with hL | hL
    · go_wp2
      go_ret
      exact ⟨rfl, hk1⟩
    · have hc2 : n < 1 ∨ (1 ≤ n ∧ 16 < n) := by omega
      clear hc
      rcases hc2 with h | ⟨h, h'⟩
      all_goals (go_wp2; go_ret; exact ⟨rfl, hk1⟩)
theorem walk_termTrue {H : Type} {enc : TypeId × Value → H} (W : World) {n : Int} {v1 : Value} {d1 : DataW H} {p1 : List MemPlace} {base : Nat} (_ : (Lit.int .i64 n).wf = true)
    (o1 : Value.okWide Try.prog W .any base 22 v1) (h1 : DataW.Trod enc Try.prog W 0 (fun _ => true) true 22 v1 d1 p1) :
    Calls Try.prog 4 #[.int .i64 n, v1] W fun e w' => e = .returned (.bool true) ∧ Below W.heap.size W w' := by
  obtain ⟨l, hl⟩ := acts_open o1 h1
  exact (termTrue_any W n v1 l hl).mono fun _ _ ⟨he, hk⟩ => ⟨he, hk.to_below⟩
end Go.Proofs.Ytiicmlhpcfhfeaa
