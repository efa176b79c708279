/- The law TermEnds. -/
import Derived.Test.YtiicmlhpcfhfeaaRows
import Derived.WalkKit
import Derived.WalkSpells
import Derived.WalkLawsBesides
import Derived.RegionTactic
import Derived.ChangeAlike
import Derived.BigQuiet
import Derived.Deep.QuietTactic
import Derived.StillTailTactics
import Derived.IntWalk
import Derived.Handy
import Derived.Lib.Hide
import Derived.Deep.AppendLies
import Derived.Deep.RegionWith
import Derived.Test.YtiicmlhpcfhfeaaBase
import Derived.Test.YtiicmlhpcfhfeaaTail
import Derived.Test.YtiicmlhpcfhfeaaArgs
import Derived.Test.YtiicmlhpcfhfeaaAppend
import Derived.Deep.RegionLaw
import Derived.Test.YtiicmlhpcfhfeaaOffs
import Derived.Test.YtiicmlhpcfhfeaaStructs
import Derived.Test.YtiicmlhpcfhfeaaSplit
import Derived.Test.YtiicmlhpcfhfeaaTermObj
import Derived.Test.YtiicmlhpcfhfeaaTermRead
import Derived.Test.YtiicmlhpcfhfeaaTermSettle
import Derived.Test.YtiicmlhpcfhfeaaTermSettle2
import Derived.Test.YtiicmlhpcfhfeaaTermDel
import Derived.Test.YtiicmlhpcfhfeaaTermSend
import Derived.Test.YtiicmlhpcfhfeaaTermDeliver
import Derived.Test.YtiicmlhpcfhfeaaTermNew2
import Derived.Test.YtiicmlhpcfhfeaaTermAlive
import Derived.Test.YtiicmlhpcfhfeaaTermInv2
import Derived.Test.YtiicmlhpcfhfeaaStarPlain
import Derived.Test.YtiicmlhpcfhfeaaOpens
import Derived.Test.YtiicmlhpcfhfeaaTermActs
import Derived.Test.YtiicmlhpcfhfeaaTrueLaw
namespace Go.Proofs.Ytiicmlhpcfhfeaa
open Go.RowKit
theorem settle_false {q : TM} {j : Nat} {x : Nd} (h : (settle q).nodes[j]? = some x) : ∃ y, q.nodes[j]? = some y ∧ x.2.1 = y.2.1 := by
  have h1 := settle_act (q := q) (k := j)
  rw [h] at h1
  cases hy : q.nodes[j]? with
  | none => rw [hy] at h1; cases h1
  | some y =>
    rw [hy] at h1
    simp only [Option.map_some, Option.some.injEq] at h1
    exact ⟨y, rfl, h1⟩
theorem idle_more {q : TM} {k : Nat} (h : ∀ (j : Nat) (x : Nd), j < k → q.nodes[j]? = some x → x.2.1 = false) (hk : k < q.nodes.length) : ∀ (j : Nat) (x : Nd), j < k + 1 → (idleN q (k : Int)).1.nodes[j]? = some x → x.2.1 = false := by
  intro j x hj hx
  unfold idleN at hx
  by_cases ha : activeN q (k : Int) = true
  · rw [if_pos ha] at hx
    obtain ⟨y, hy, hxy⟩ := settle_false hx
    rw [hxy]
    simp only [Int.toNat_natCast] at hy
    rcases getset hy with ⟨_, rfl, _⟩ | ⟨hjk, h1⟩
    · rfl
    · exact h j y (by omega) h1
  · rw [if_neg ha] at hx
    by_cases hjk : j = k
    · subst hjk
      have hi : isN q (j : Int) = true := by unfold isN; simp; omega
      unfold activeN at ha
      simp only at hx
      rw [hi, nd_of hx] at ha
      simpa using ha
    · exact h j x (by omega) hx
set_option maxHeartbeats 16000000 in
set_option maxRecDepth 100000 in
theorem termEnds_any (w : World) (n : Int) (v : Value) (l : List Actv) (hv : ActsOf w v l) (vo : Value) (os : List Int) (ho : IntsOf w vo os) : Calls Try.prog 3 #[.int .i64 n, v, vo] w fun e w' => e = .returned (.bool true) ∧ Keep [] w w' := by
  obtain ⟨a, c, rfl⟩ : ∃ a c, v = .slice a l.length c := by obtain ⟨a, c, h, _⟩ := hv; exact ⟨a, c, h⟩
  obtain ⟨ao, co, rfl⟩ := ho.shape
  by_cases hin : ((1 ≤ n ∧ n ≤ 16) ∧ l.length ≤ 100) ∧ os.length ≤ 300
  · obtain ⟨⟨⟨g1, g2⟩, g3⟩, g4⟩ := hin
    obtain ⟨N, rfl⟩ := Int.eq_ofNat_of_zero_le (show 0 ≤ n by omega)
    have gN := good_new (n := (N : Int)) rfl (by omega) (by omega)
    have GN := Lib.hid gN
    have Hv := Lib.hid hv
    have Ho := Lib.hid ho
    have hN16 : N ≤ 16 := by omega
    have G2 := Lib.hid g3
    clear hv gN ho
    go_enter Try.func3, Try.ntmps3
    go_wp2_with fail
    refine (alive_spec _).mono ?_
    rintro e w1 ⟨rfl, k1⟩
    go_wp2_with fail
    refine (live_new w1 (N : Int) w k1).mono ?_
    rintro e w2 ⟨p, rfl, h2⟩
    go_wp2_with fail
    go_loopw [9, 10] (fun v9 _ wr => ∃ (i : Nat) (q : TM), i ≤ l.length ∧ v9 = .int .i64 i ∧ TLive w1.heap.size p w wr q ∧ Good q (i * 20) N) (fun v _ _ => l.length - (intOf v).toNat)
    case atStart => exact ⟨0, _, by omega, rfl, h2, by simpa using GN.out⟩
    case round =>
      clear h2
      obtain ⟨i, q, hi, rfl, h3, gq⟩ := hrel
      by_cases hlt : i < l.length
      · have hacts := Hv.out.keep0 h3.out
        obtain ⟨a', c', hva, hcells⟩ := hacts
        cases hva
        obtain ⟨b, off, tv, rfl, hb, e0, e1, e2, e3⟩ := hcells i l[i] (List.getElem?_eq_getElem hlt)
        have hto0 : ∃ x, x = l[i] := ⟨_, rfl⟩
        obtain ⟨x, hx⟩ := hto0
        rw [← hx] at e0 e1 e3
        have Hto0 := Lib.hid (Hv.out.to_ hlt hx e2 h3.out)
        obtain ⟨way, node, to⟩ := x
        simp only at e0 e1 e2 e3
        obtain ⟨a2, c2, rfl⟩ := e3.shape
        have hA : Keep [] wr (wr.alloc (.cells #[.int .i64 way, .int .i64 node, .slice a2 to.length c2] 28)) := (Keep.refl _ _).alloc _
        have h4 := h3.keep0 hA
        have Gq := Lib.hid gq
        have hltI : (i : Int) < (l.length : Int) := by omega
        have hi300 : i ≤ 300 := by omega
        have hI300 : (i : Int) ≤ 300 := by omega
        have Hto := Lib.hid (Hto0.out)
        clear hcells h3 hA gq hx e3 Hto0
        by_cases hto : to.length ≤ 20
        · rcases (show way = 0 ∨ way = 1 ∨ (way ≠ 0 ∧ way ≠ 1) by omega) with hw | hw | ⟨hw, hw'⟩
          · subst hw
            have hc := Lib.hid (live_send_in node h4 (Gq.out.ok (by have := G2.out; omega)) Hto.out (Nat.le_trans hto (by omega)))
            clear h4
            go_wp2_with fail
            refine hc.out.mono ?_
            rintro e w5 ⟨rfl, h5⟩
            rw [show (sendN q node to).1 = stepT q ⟨0, node, to⟩ by unfold stepT; simp [*]] at h5
            clear hc
            have g5 := Gq.out.step (a := ⟨0, node, to⟩) (b := 20) hto
            have G5n := Lib.hid (show Good (stepT q ⟨0, node, to⟩) ((i + 1) * 20) N from g5.mono (by omega))
            clear g5
            go_wp2
            go_roundw
            case rel => exact ⟨i + 1, _, by omega, by go_num, h5, G5n.out⟩
            case measure => simp [intOf]; omega
          · subst hw
            have hc := Lib.hid (live_idle node h4 (Gq.out.ok (by have := G2.out; omega)))
            clear h4
            go_wp2_with fail
            refine hc.out.mono ?_
            rintro e w5 ⟨rfl, h5⟩
            rw [show (idleN q node).1 = stepT q ⟨1, node, to⟩ by unfold stepT; simp [*]] at h5
            clear hc
            have g5 := Gq.out.step (a := ⟨1, node, to⟩) (b := 20) hto
            have G5n := Lib.hid (show Good (stepT q ⟨1, node, to⟩) ((i + 1) * 20) N from g5.mono (by omega))
            clear g5
            go_wp2
            go_roundw
            case rel => exact ⟨i + 1, _, by omega, by go_num, h5, G5n.out⟩
            case measure => simp [intOf]; omega
          · have hc := Lib.hid (live_deliver node h4 (Gq.out.ok (by have := G2.out; omega)))
            clear h4
            go_wp2_with fail
            refine hc.out.mono ?_
            rintro e w5 ⟨rfl, h5⟩
            rw [show (deliverN q node).1 = stepT q ⟨way, node, to⟩ by unfold stepT; simp [*]] at h5
            clear hc
            have g5 := Gq.out.step (a := ⟨way, node, to⟩) (b := 20) hto
            have G5n := Lib.hid (show Good (stepT q ⟨way, node, to⟩) ((i + 1) * 20) N from g5.mono (by omega))
            clear g5
            go_wp2
            go_roundw
            case rel => exact ⟨i + 1, _, by omega, by go_num, h5, G5n.out⟩
            case measure => simp [intOf]; omega
        · have k := h4.out
          clear h4
          go_wp2
          go_ret
          exact ⟨rfl, k⟩
      · have hil : i = l.length := by omega
        subst hil
        have hgm : Good q 2000 N := gq.mono (by omega)
        have Gm := Lib.hid hgm
        generalize wr = wo at *
        clear gq hgm
        go_wp2_with fail
        go_loopw [11, 12, 13, 14] (fun v11 _ _ _ wr => ∃ (i : Nat) (q : TM), i ≤ 6000 ∧ v11 = .int .i64 i ∧ TLive w1.heap.size p w wr q ∧ Good q 2000 N ∧ phi q + i ≤ 6000) (fun v _ _ _ _ => 6001 - (intOf v).toNat)
        case atStart => exact ⟨0, q, by omega, rfl, h3, Gm.out, by have := phi_le Gm.out; omega⟩
        case round =>
          clear h3 Gm
          obtain ⟨i, q2, hi, rfl, h4, gq2, hphi⟩ := hrel
          have Gq2 := Lib.hid gq2
          have Hphi0 := Lib.hid hphi
          have hiI : (i : Int) < 20000 := by omega
          generalize wr = wo2 at *
          clear gq2 hphi
          go_wp2_with fail
          go_loopw [12] (fun v12 wr => ∃ (k : Nat) (q : TM), k ≤ N ∧ v12 = .int .i64 k ∧ TLive w1.heap.size p w wr q ∧ Good q 2000 N ∧ phi q + i ≤ 6000 ∧ ∀ (j : Nat) (x : Nd), j < k → q.nodes[j]? = some x → x.2.1 = false) (fun v _ => N - (intOf v).toNat)
          case atStart => exact ⟨0, q2, by omega, rfl, h4, Gq2.out, Hphi0.out, by omega⟩
          case round =>
            clear h4 Gq2 Hphi0
            obtain ⟨k, q3, hk, rfl, h5, gq3, hphi, hact⟩ := hrel
            have Gq3 := Lib.hid gq3
            have Hphi := Lib.hid hphi
            have Hact := Lib.hid hact
            clear gq3 hphi hact
            by_cases hlt : k < N
            · have hd := Lib.hid (live_idle (k : Int) h5 (Gq3.out.ok (by omega)))
              have hltI : (k : Int) < (N : Int) := by omega
              have Hp := Lib.hid (show phi (idleN q3 (k : Int)).1 + i ≤ 6000 by have := (inv_idle (k : Int) Gq3.out.inv Gq3.out.calm).2.1; have := Hphi.out; omega)
              have Ha := Lib.hid (idle_more Hact.out (show k < q3.nodes.length by rw [Gq3.out.len]; exact hlt))
              clear h5
              go_wp2_with fail
              refine hd.out.mono ?_
              rintro e w6 ⟨rfl, h6⟩
              clear hd
              go_wp2
              go_roundw
              case rel => exact ⟨k + 1, _, by omega, by go_num, h6, Gq3.out.idle _, Hp.out, Ha.out⟩
              case measure => simp [intOf]; omega
            · obtain rfl : N = k := by omega
              have hw := Lib.hid (live_way h5 (Gq3.out.ok (by omega)))
              have hwl : (q3.way.length : Int) ≤ 2000 := by have := Gq3.out.inv.load; omega
              generalize wr = wo3 at *
              clear h5
              go_wp2_with fail
              refine hw.out.mono ?_
              rintro e w7 ⟨v, rfl, ho, h7⟩
              obtain ⟨a5, c5, rfl⟩ := ho.shape
              clear ho hw
              by_cases hz : q3.way.length = 0
              · have hqn : q3.way = [] := List.eq_nil_of_length_eq_zero hz
                have hdecl := ends_decl Gq3.out.inv Gq3.out.calm (fun k x hx => Hact.out k x (by have := lt_of_get hx; rw [Gq3.out.len] at this; exact this) hx) hqn
                have hdc := live_decl h7 (Gq3.out.ok (by omega))
                rw [hdecl] at hdc
                have Hdc := Lib.hid hdc
                have kk := h7.out
                rw [hz]
                clear hdc h7 hdecl hqn
                go_wp2_with fail
                refine Hdc.out.mono ?_
                rintro e w9 ⟨rfl, rfl⟩
                go_wp2
                go_ret
                exact ⟨rfl, kk⟩
              · have hpos : (0 : Int) < (q3.way.length : Int) := by omega
                by_cases hio : i < os.length
                · obtain ⟨b, off, rfl, hb, hcell⟩ := (Ho.out.keep0 h7.out).at_ hio
                  have e0 := hcell i _ (List.getElem?_eq_getElem hio)
                  have hioI : (i : Int) < (os.length : Int) := by omega
                  have hbits := bits_and_mask os[i] 12 (by omega)
                  generalize os[i] = y at *
                  have hb2 : bits BinOp.and IntKind.i64 y 4095 = y % 4096 := hbits
                  obtain ⟨kk, hkk, hkl⟩ : ∃ kk : Nat, (bits BinOp.and IntKind.i64 y 4095).tmod ((q3.way.length : Nat) : Int) = (kk : Int) ∧ kk < q3.way.length := by
                    refine ⟨((y % 4096).toNat % q3.way.length), ?_, Nat.mod_lt _ (by omega)⟩
                    rw [hb2, Int.tmod_eq_emod_of_nonneg (by omega), Int.natCast_emod, Int.toNat_of_nonneg (by omega)]
                  clear hcell hbits hb2
                  have hdel := inv_deliver (kk : Int) Gq3.out.inv Gq3.out.calm
                  have hphi := hdel.2.2.2 ⟨by omega, by omega⟩
                  have G4 := Lib.hid (Gq3.out.deliver (kk : Int))
                  have Hph := Lib.hid (show phi (deliverN q3 (kk : Int)).1 + (i + 1) ≤ 6000 by have := Hphi.out; omega)
                  have hd := Lib.hid (live_deliver (kk : Int) h7 (Gq3.out.ok (by omega)))
                  clear h7 hdel hphi
                  go_wp2_with fail
                  refine hd.out.mono ?_
                  rintro e w8 ⟨rfl, h8⟩
                  clear hd
                  go_wp2
                  go_roundw
                  case rel => exact ⟨i + 1, _, by have := Hph.out; omega, by go_num, h8, G4.out, Hph.out⟩
                  case measure => simp [intOf]; omega
                · have hioI : (os.length : Int) ≤ (i : Int) := by omega
                  have hdel := inv_deliver 0 Gq3.out.inv Gq3.out.calm
                  have hphi := hdel.2.2.2 ⟨by omega, by omega⟩
                  have G4 := Lib.hid (Gq3.out.deliver 0)
                  have Hph := Lib.hid (show phi (deliverN q3 0).1 + (i + 1) ≤ 6000 by have := Hphi.out; omega)
                  have hd := Lib.hid (live_deliver 0 h7 (Gq3.out.ok (by omega)))
                  clear h7 hdel hphi
                  go_wp2_with fail
                  refine hd.out.mono ?_
                  rintro e w8 ⟨rfl, h8⟩
                  clear hd
                  go_wp2
                  go_roundw
                  case rel => exact ⟨i + 1, _, by have := Hph.out; omega, by go_num, h8, G4.out, Hph.out⟩
                  case measure => simp [intOf]; omega
  · have hc : n < 1 ∨ (1 ≤ n ∧ 16 < n) ∨ ((1 ≤ n ∧ n ≤ 16) ∧ (100 < l.length ∨ 300 < os.length)) := by omega
    go_enter Try.func3, Try.ntmps3
    go_wp2_with fail
    refine (alive_spec _).mono ?_
    rintro e w1 ⟨rfl, hk1⟩
    rcases Nat.lt_or_ge 100 l.length with hL | hL
    · clear hc hin
      go_wp2
      go_ret
      exact ⟨rfl, hk1⟩
    · rcases (show n < 1 ∨ (1 ≤ n ∧ 16 < n) ∨ ((1 ≤ n ∧ n ≤ 16) ∧ 300 < os.length) by omega) with h | ⟨h, h'⟩ | ⟨⟨h, h'⟩, h2⟩
      all_goals
        clear hc hin
        go_wp2
        go_ret
        exact ⟨rfl, hk1⟩
theorem walk_termEnds {H : Type} {enc : TypeId × Value → H} (W : World) {n : Int} {v1 v2 : Value} {d1 d2 : DataW H} {p1 p2 : List MemPlace} {base : Nat} (_ : (Lit.int .i64 n).wf = true)
    (o1 : Value.okWide Try.prog W .any base 22 v1) (h1 : DataW.Trod enc Try.prog W 0 (fun _ => true) true 22 v1 d1 p1)
    (o2 : Value.okWide Try.prog W .any base 23 v2) (h2 : DataW.Trod enc Try.prog W 0 (fun _ => true) true 23 v2 d2 p2) :
    Calls Try.prog 3 #[.int .i64 n, v1, v2] W fun e w' => e = .returned (.bool true) ∧ Below W.heap.size W w' := by
  obtain ⟨l, hl⟩ := acts_open o1 h1
  obtain ⟨os, ho, _⟩ := ints_open Try.underlying23 Try.underlying3 (by kernel_rfl) o2 h2
  exact (termEnds_any W n v1 l hl v2 os ho).mono fun _ _ ⟨he, hk⟩ => ⟨he, hk.to_below⟩
end Go.Proofs.Ytiicmlhpcfhfeaa
