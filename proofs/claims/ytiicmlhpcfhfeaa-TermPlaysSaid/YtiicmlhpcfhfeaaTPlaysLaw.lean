/- The law TermPlays. -/
import Derived.Test.YtiicmlhpcfhfeaaRows
import Derived.WalkKit
import Derived.WalkSpells
import Derived.WalkLawsBesides
import Derived.RegionTactic
import Derived.ChangeAlike
import Derived.BigQuiet
import Derived.Deep.QuietTactic
import Derived.StillTailTactics
import Derived.IntWalk
import Derived.Handy
import Derived.Lib.Hide
import Derived.Deep.AppendLies
import Derived.Deep.RegionWith
import Derived.Test.YtiicmlhpcfhfeaaBase
import Derived.Test.YtiicmlhpcfhfeaaTail
import Derived.Test.YtiicmlhpcfhfeaaArgs
import Derived.Test.YtiicmlhpcfhfeaaAppend
import Derived.Deep.RegionLaw
import Derived.Test.YtiicmlhpcfhfeaaOffs
import Derived.Test.YtiicmlhpcfhfeaaStructs
import Derived.Test.YtiicmlhpcfhfeaaSplit
import Derived.Test.YtiicmlhpcfhfeaaTermObj
import Derived.Test.YtiicmlhpcfhfeaaTermRead
import Derived.Test.YtiicmlhpcfhfeaaTermSettle
import Derived.Test.YtiicmlhpcfhfeaaTermSettle2
import Derived.Test.YtiicmlhpcfhfeaaTermDel
import Derived.Test.YtiicmlhpcfhfeaaTermSend
import Derived.Test.YtiicmlhpcfhfeaaTermDeliver
import Derived.Test.YtiicmlhpcfhfeaaTermNew2
import Derived.Test.YtiicmlhpcfhfeaaTermAlive
import Derived.Test.YtiicmlhpcfhfeaaTermInv2
import Derived.Test.YtiicmlhpcfhfeaaRefTerm
import Derived.Test.YtiicmlhpcfhfeaaRefSettle
import Derived.Test.YtiicmlhpcfhfeaaRefSend
import Derived.Deep.CutRange
import Derived.Deep.DeepCutAuto
import Derived.Test.YtiicmlhpcfhfeaaRefDeliver
import Derived.Laws.MakeOwn
import Derived.Test.YtiicmlhpcfhfeaaRefNew
import Derived.Test.YtiicmlhpcfhfeaaStarPlain
import Derived.Test.YtiicmlhpcfhfeaaOpens
import Derived.Test.YtiicmlhpcfhfeaaTermActs
import Derived.Test.YtiicmlhpcfhfeaaRefLive
import Derived.Deep.RegionHeld3
namespace Go.Proofs.Ytiicmlhpcfhfeaa
open Go.RowKit
theorem same_quiet {f : FuncId} {args : Array Value} {w : World} {n : Nat} {v : Value} (h : Calls Try.prog f args (w.drewN n) (Same' v (w.drewN n))) : Calls Try.prog f args (w.drewN n) fun e w'' => e = .returned v ∧ ∃ m, w'' = w.drewN m :=
  h.mono fun _ _ ⟨he, hm⟩ => ⟨he, n, hm.symm⟩
/-- the first k senders written over -/
def marked (k : Nat) (l : List Sg) : List Sg := (l.take k).map (fun s => (-1, s.2)) ++ l.drop k
theorem marked_at {k j : Nat} {l : List Sg} (h : k ≤ j) : (marked k l)[j]? = l[j]? := by
  unfold marked
  by_cases hj : j < l.length
  · rw [List.getElem?_append_right (by simp; omega), List.getElem?_drop]
    congr 1
    simp
    omega
  · rw [List.getElem?_eq_none (by simp; omega), List.getElem?_eq_none (by omega)]
theorem marked_len (k : Nat) (l : List Sg) : (marked k l).length = l.length := by unfold marked; simp; omega
theorem marked_zero {w : World} {B n : Nat} {v : Value} {l : List Sg} (h : OwnsAt w B 44 3 v n (l.flatMap sgC)) : OwnsAt w 0 44 3 v n ((marked 0 l).flatMap sgC) := by
  have := h.mono (Nat.zero_le B)
  simpa [marked] using this
theorem marked_step {k : Nat} {l : List Sg} {s : Sg} (h : l[k]? = some s) : (marked k l).set k (-1, s.2) = marked (k + 1) l := by
  have hk := lt_of_get h
  apply List.ext_getElem?
  intro j
  by_cases hj : j = k
  · subst hj
    rw [List.getElem?_set_self (by rw [marked_len]; exact hk)]
    unfold marked
    rw [List.getElem?_append_left (by simp; omega), List.getElem?_map, List.getElem?_take, if_pos (by omega), h]
    rfl
  · rw [List.getElem?_set_ne (fun e => hj e.symm)]
    by_cases hlt : j < k
    · unfold marked
      rw [List.getElem?_append_left (by simp; omega), List.getElem?_append_left (by simp; omega), List.getElem?_map, List.getElem?_map, List.getElem?_take, List.getElem?_take, if_pos hlt, if_pos (by omega)]
    · rw [marked_at (by omega), marked_at (by omega)]
theorem marked_set {w : World} {g off c k : Nat} {l : List Sg} (h : OwnsAt w 0 44 3 (.slice (some ⟨g, off, none⟩) l.length c) l.length ((marked k l).flatMap sgC)) (hk : k < l.length) :
    OwnsAt (w.setCell ⟨g, off + k * 3, none⟩ (.int .i64 (-1))) 0 44 3 (.slice (some ⟨g, off, none⟩) l.length c) l.length ((marked (k + 1) l).flatMap sgC) := by
  have hs := List.getElem?_eq_getElem hk
  have h1 := h.set_ (k * 3 + 0) (.int .i64 (-1))
  rw [flat_set_ sgC_len (marked k l) k l[k] (-1, l[k].2) 0 (.int .i64 (-1)) (by rw [marked_at (Nat.le_refl _)]; exact hs) (by omega) rfl, marked_step hs] at h1
  exact h1
theorem ActsOf.to_2 {w wr : World} {c b off i : Nat} {l : List Actv} {x : Actv} {tv : Value} (h : ActsOf w (.slice (some ⟨b, off, none⟩) l.length c) l) (hlt : i < l.length) (hx : x = l[i]) (e2 : wr.cell? ⟨b, off + i * 3 + 2, none⟩ = some tv) (k : Keep [] w wr) : IntsOf w tv x.to := by
  obtain ⟨a', c', hva, hcells⟩ := h
  cases hva
  obtain ⟨b', off', tv', hh, hb, _, _, e2', e3⟩ := hcells i l[i] (List.getElem?_eq_getElem hlt)
  cases hh
  have h1 := (k.cell hb (by simp)).trans e2'
  rw [e2] at h1
  cases h1
  rw [hx]
  exact e3
set_option maxHeartbeats 16000000 in
set_option maxRecDepth 100000 in
theorem termPlays_any (w : World) (n : Int) (v : Value) (l : List Actv) (hv : ActsOf w v l) : Calls Try.prog 7 #[.int .i64 n, v] w fun e w' => e = .returned (.bool true) ∧ Keep [] w w' := by
  obtain ⟨a, c, rfl⟩ : ∃ a c, v = .slice a l.length c := by obtain ⟨a, c, h, _⟩ := hv; exact ⟨a, c, h⟩
  by_cases hin : l.length ≤ 300
  · obtain ⟨N, hN⟩ : ∃ N, N = cutN n := ⟨_, rfl⟩
    have gN := good_any n
    rw [← hN] at gN
    have GN := Lib.hid gN
    have Hv := Lib.hid hv
    have G2 := Lib.hid hin
    clear hv gN hN
    go_enter Try.func7, Try.ntmps7
    go_wp2_with fail
    refine (alive_spec _).mono ?_
    rintro e w1 ⟨rfl, k1⟩
    go_wp2_with fail
    refine (t1_new w1 n w k1).mono ?_
    rintro e w2 ⟨p, rfl, h2⟩
    go_wp2_with fail
    refine (tr_new n h2).mono ?_
    rintro e w3 ⟨r, rfl, h3⟩
    clear h2 k1
    go_wp2_with fail
    go_loopw [8, 9, 10, 11, 12, 13] (fun v8 _ _ _ _ _ wr => ∃ (i : Nat) (q : TM), i ≤ l.length ∧ v8 = .int .i64 i ∧ TR [] p r w wr q q ∧ Good q (i * 50) N) (fun v _ _ _ _ _ _ => l.length - (intOf v).toNat)
    case atStart => exact ⟨0, _, by omega, rfl, h3, by simpa using GN.out⟩
    case round =>
      clear h3
      obtain ⟨i, q, hi, rfl, h3, gq⟩ := hrel
      by_cases hlt : i < l.length
      · have hacts := Hv.out.keep0 h3.out
        obtain ⟨a', c', hva, hcells⟩ := hacts
        cases hva
        obtain ⟨b, off, tv, rfl, hb, e0, e1, e2, e3⟩ := hcells i l[i] (List.getElem?_eq_getElem hlt)
        have hto0 : ∃ x, x = l[i] := ⟨_, rfl⟩
        obtain ⟨x, hx⟩ := hto0
        rw [← hx] at e0 e1 e3
        have Hto0 := Lib.hid (Hv.out.to_2 hlt hx e2 h3.out)
        obtain ⟨way, node, tos⟩ := x
        simp only at e0 e1 e2 e3
        obtain ⟨a2, c2, rfl⟩ := e3.shape
        have hA : Keep [] wr (wr.alloc (.cells #[.int .i64 way, .int .i64 node, .slice a2 tos.length c2] 28)) := (Keep.refl _ _).alloc _
        have h4 : TR [wr.heap.size] p r w (wr.alloc (.cells #[.int .i64 way, .int .i64 node, .slice a2 tos.length c2] 28)) q q := by
          have := h3.fresh (Y := [wr.heap.size]) hA (by simp)
          simpa using this
        have hblk : Blk (wr.alloc (.cells #[.int .i64 way, .int .i64 node, .slice a2 tos.length c2] 28)) wr.heap.size 28 [.int .i64 way, .int .i64 node, .slice a2 tos.length c2] := Blk.new' _ _ _ _ rfl
        have Gq := Lib.hid gq
        have hltI : (i : Int) < (l.length : Int) := by omega
        have hi300 : i ≤ 300 := by have := G2.out; omega
        have hI300 : (i : Int) ≤ 300 := by omega
        have Hto := Lib.hid (Hto0.out)
        clear hcells h3 hA gq hx e3 Hto0
        by_cases hto : tos.length ≤ 50
        · generalize hwA : wr.alloc (.cells #[.int .i64 way, .int .i64 node, .slice a2 tos.length c2] 28) = wA at *
          have z0 : wA.cell? ⟨wr.heap.size, 0, none⟩ = some (.int .i64 way) := hblk.cell 0
          have z1 : wA.cell? ⟨wr.heap.size, 1, none⟩ = some (.int .i64 node) := hblk.cell 1
          have z2 : wA.cell? ⟨wr.heap.size, 2, none⟩ = some (.slice a2 tos.length c2) := hblk.cell 2
          rcases (show way = 0 ∨ way = 1 ∨ (way ≠ 0 ∧ way ≠ 1) by omega) with hw | hw | ⟨hw, hw'⟩
          · subst hw
            have go1 : Hid (∀ wx, TR [wr.heap.size] p r w wx q q → Calls Try.prog 10 #[.pointer (some ⟨p, 0, none⟩), .int .i64 node, .slice a2 tos.length c2] wx (TRun2 [wr.heap.size] p r w wx (.int .i64 ((sendN q node tos).2 : Int)) (sendN q node tos).1 q)) := Lib.hid (fun wx h => tr_send node h (Gq.out.ok (by have := G2.out; omega)) Hto.out (Nat.le_trans hto (by omega)))
            have gr1 : Hid (∀ wx, TR [wr.heap.size] p r w wx (sendN q node tos).1 q → Calls Try.prog 19 #[.pointer (some ⟨r, 0, none⟩), .int .i64 node, .slice a2 tos.length c2] wx (TRun2 [wr.heap.size] p r w wx (.int .i64 ((sendN q node tos).2 : Int)) (sendN q node tos).1 (sendN q node tos).1)) := Lib.hid (fun wx h => tr_sendR node h (Gq.out.okR (by have := G2.out; omega)) Hto.out (Nat.le_trans hto (by omega)))
            obtain ⟨q1, hq1⟩ : ∃ q1, q1 = (sendN q node tos).1 := ⟨_, rfl⟩
            obtain ⟨R1, hR1⟩ : ∃ R1, R1 = ((sendN q node tos).2 : Int) := ⟨_, rfl⟩
            have g1 := Gq.out.step (a := ⟨0, node, tos⟩) (b := 50) hto
            rw [show stepT q ⟨0, node, tos⟩ = q1 by rw [hq1]; unfold stepT; simp [*]] at g1
            have G1 : Hid (Good q1 ((i + 1) * 50) N) := Lib.hid (g1.mono (by omega))
            rw [← hq1, ← hR1] at go1 gr1
            have hRR : (R1 == R1) = true := by simp
            clear hq1 hR1 g1
            go_wp2_with fail
            go_region_held3 (fun w' => w'.cell? ⟨wr.heap.size, 1, none⟩ = some (.int .i64 node) ∧ w'.cell? ⟨wr.heap.size, 2, none⟩ = some (.slice a2 tos.length c2)) (first | exact ⟨by assumption, by assumption⟩ | go_keep)
              (first
                | (go_at_call 10; refine (go1.out _ h4.drew).mono ?_; rintro e w5 ⟨rfl, h5, b5⟩; have b5 := b5 _ _ _ (by simp) (Blk.drew hblk); have y1 : w5.cell? ⟨wr.heap.size, 1, none⟩ = some (.int .i64 node) := b5.cell 1; have y2 : w5.cell? ⟨wr.heap.size, 2, none⟩ = some (.slice a2 tos.length c2) := b5.cell 2)
                | (go_at_call 19; go_must (refine (gr1.out _ h5).mono ?_; rintro e w6 ⟨rfl, h6, b6⟩; have b6 := b6 _ _ _ (by simp) b5; have t1 : w6.cell? ⟨wr.heap.size, 1, none⟩ = some (.int .i64 node) := b6.cell 1; have t2 : w6.cell? ⟨wr.heap.size, 2, none⟩ = some (.slice a2 tos.length c2) := b6.cell 2)))
            clear b5 b6 t1 t2 y1 y2 h5 go1 gr1 hblk h4 z1 z2 hRR
            have Ok1 := Lib.hid (G1.out.ok (by have := G2.out; omega))
            have OkR1 := Lib.hid (G1.out.okR (by have := G2.out; omega))
            have hw := Lib.hid (tr_way h6 Ok1.out)
            clear h6
            go_wp2_with fail
            refine hw.out.mono ?_
            rintro e w7 ⟨v7, rfl, ho, h7⟩
            clear hw
            obtain ⟨a7, c7, rfl⟩ := ho.shape
            have hd := tr_decl h7 Ok1.out
            have hdr := tr_declR h7 OkR1.out
            generalize declN q1 = D at hd hdr
            have Hd := Lib.hid hd
            have Hdr := Lib.hid hdr
            obtain ⟨ga, go, gu, vw, hr⟩ := h7.ref
            obtain ⟨ar, cr, rfl⟩ := hr.way.shape
            have z3 : w7.cell? ⟨r, 3, none⟩ = some (.slice ar q1.way.length cr) := hr.head.cell 3
            have hDD : (D != D) = false := by simp
            have Ho := Lib.hid (marked_zero ho)
            have H7 := Lib.hid h7
            clear hr hd hdr ho h7
            go_wp2_with fail
            refine Hd.out.mono ?_
            rintro e w8 ⟨rfl, rfl⟩
            go_wp2_with fail
            refine Hdr.out.mono ?_
            rintro e w8 ⟨rfl, rfl⟩
            clear Hd Hdr z3
            go_wp2_with fail
            clear hDD
            go_loopw [12] (fun v12 wr => ∃ k : Nat, k ≤ q1.way.length ∧ v12 = .int .i64 k ∧ TR (ownBlocks (.slice a7 q1.way.length c7)) p r w wr q1 q1 ∧ OwnsAt wr 0 44 3 (.slice a7 q1.way.length c7) q1.way.length ((marked k q1.way).flatMap sgC)) (fun v _ => q1.way.length - (intOf v).toNat)
            case atStart => exact ⟨0, by omega, rfl, H7.out, Ho.out⟩
            case round =>
              clear H7 Ho
              obtain ⟨k, hk, rfl, h8, ho⟩ := hrel
              have hkl : (q1.way.length : Int) ≤ 1000000 := by have := Ok1.out.w_; omega
              by_cases hlt : k < q1.way.length
              · obtain ⟨s, hs⟩ : ∃ s, q1.way[k]? = some s := ⟨_, List.getElem?_eq_getElem hlt⟩
                have hms : (marked k q1.way)[k]? = some s := by rw [marked_at (Nat.le_refl _)]; exact hs
                obtain ⟨f, t, ack⟩ := s
                obtain ⟨ga, go, gu, vw, hr⟩ := h8.ref
                obtain ⟨ar, cr, rfl⟩ := hr.way.shape
                have z3 : wr.cell? ⟨r, 3, none⟩ = some (.slice ar q1.way.length cr) := hr.head.cell 3
                obtain ⟨gr, offr, rfl, _, _, hcr, _, _⟩ := hr.way.rowAt sgC_len hs hlt
                obtain ⟨gv, offv, rfl, _, hgv, hcv, _, hfv⟩ := ho.rowAt sgC_len hms hlt
                have r0 : wr.cell? ⟨gr, offr + k * 3, none⟩ = some (.int .i64 f) := hcr 0 _ (by omega) rfl
                have r1 : wr.cell? ⟨gr, offr + k * 3 + 1, none⟩ = some (.int .i64 t) := hcr 1 _ (by omega) rfl
                have r2 : wr.cell? ⟨gr, offr + k * 3 + 2, none⟩ = some (.bool ack) := hcr 2 _ (by omega) rfl
                have v0 : wr.cell? ⟨gv, offv + k * 3, none⟩ = some (.int .i64 f) := hcv 0 _ (by omega) rfl
                have v1 : wr.cell? ⟨gv, offv + k * 3 + 1, none⟩ = some (.int .i64 t) := hcv 1 _ (by omega) rfl
                have v2 : wr.cell? ⟨gv, offv + k * 3 + 2, none⟩ = some (.bool ack) := hcv 2 _ (by omega) rfl
                have fv := hfv (offv + k * 3)
                have hltI : (k : Int) < (q1.way.length : Int) := by omega
                have H8 := Lib.hid h8
                have Ho := Lib.hid ho
                clear h8 ho hr hcr hcv hfv hs hms hk
                go_wp2_with fail
                go_quiet (fail)
                clear r0 r1 r2 v1 v2 z3
                have hkq : Keep [] wr (wr.drewN nq) := (Keep.refl _ _).drewN nq
                have V0 : (wr.drewN nq).cell? ⟨gv, offv + k * 3, none⟩ = some (.int .i64 f) := v0
                have FV : (wr.drewN nq).frozen? ⟨gv, offv + k * 3, none⟩ = false := fv
                have h8 := H8.out.drewN nq
                have ho := Ho.out.keep hkq (by simp)
                clear v0 fv hkq H8 Ho
                generalize wr.drewN nq = wq at *
                have H9 := Lib.hid (h8.write ((Keep.refl [gv] wq).setCell (p := ⟨gv, offv + k * 3, none⟩) (by simp) (.int .i64 (-1))))
                have Ho9 := Lib.hid (marked_set ho hlt)
                clear h8 ho
                go_wp2_with fail
                go_roundw
                case rel => exact ⟨k + 1, by omega, by go_num, H9.out, Ho9.out⟩
                case measure => simp [intOf]; omega
              · obtain rfl : k = q1.way.length := by omega
                have H8 := Lib.hid (h8.sub (Y := []) (by simp))
                clear ho h8
                generalize wr = wo at *
                go_wp2_with fail
                go_loopw [13] (fun v13 wr => ∃ k : Nat, k ≤ N ∧ v13 = .int .i64 k ∧ TR [] p r w wr q1 q1) (fun v _ => N - (intOf v).toNat)
                case atStart => exact ⟨0, by omega, rfl, H8.out⟩
                case round =>
                  clear H8
                  obtain ⟨k, hk, rfl, h8⟩ := hrel
                  have hN16 : (N : Int) ≤ 16 := by have := Ok1.out.l2; rw [G1.out.len] at this; omega
                  obtain ⟨ga, go, gu, vw, hr⟩ := h8.ref
                  have z0 : wr.cell? ⟨r, 0, none⟩ = some (.slice (some ⟨ga, 0, none⟩) q1.nodes.length q1.nodes.length) := hr.head.cell 0
                  rw [G1.out.len] at z0
                  by_cases hlt : k < N
                  · have hkl : k < q1.nodes.length := by rw [G1.out.len]; exact hlt
                    obtain ⟨x, hx⟩ : ∃ x, q1.nodes[k]? = some x := ⟨_, List.getElem?_eq_getElem hkl⟩
                    have z1 : wr.cell? ⟨r, 1, none⟩ = some (.slice (some ⟨go, 0, none⟩) q1.nodes.length q1.nodes.length) := hr.head.cell 1
                    have z2 : wr.cell? ⟨r, 2, none⟩ = some (.slice (some ⟨gu, 0, none⟩) q1.nodes.length q1.nodes.length) := hr.head.cell 2
                    rw [G1.out.len] at z1 z2
                    obtain ⟨e0, e1, e2⟩ := hr.at_ hx
                    have hiN : isN q1 k = true := by unfold isN; simp; omega
                    have hnd := nd_of hx
                    have ha : activeN q1 k = x.2.1 := by unfold activeN; rw [hiN, hnd]; rfl
                    have how : owesN q1 k = x.1 := by unfold owesN; rw [hiN, hnd]; rfl
                    have hup : upN q1 k = x.2.2 := by unfold upN; rw [hiN, hnd]; rfl
                    obtain ⟨xn, xa, xu⟩ := x
                    simp only at e0 e1 e2 ha how hup
                    have Ha : Hid (∀ m, Calls Try.prog 15 #[.pointer (some ⟨p, 0, none⟩), .int .i64 (k : Int)] (wr.drewN m) (Same' (.bool xa) (wr.drewN m))) := Lib.hid (fun m => by rw [← ha]; exact tr_active _ (h8.drewN m))
                    have Hw : Hid (∀ m, Calls Try.prog 16 #[.pointer (some ⟨p, 0, none⟩), .int .i64 (k : Int)] (wr.drewN m) (Same' (.int .i64 xn) (wr.drewN m))) := Lib.hid (fun m => by rw [← how]; exact tr_owes _ (h8.drewN m))
                    have Hu : Hid (∀ m, Calls Try.prog 17 #[.pointer (some ⟨p, 0, none⟩), .int .i64 (k : Int)] (wr.drewN m) (Same' (.int .i64 xu) (wr.drewN m))) := Lib.hid (fun m => by rw [← hup]; exact tr_up _ (h8.drewN m))
                    have hltI : (k : Int) < (N : Int) := by omega
                    have H8 := Lib.hid h8
                    have d1 : (xa != xa) = false := by simp
                    clear hr hx hkl hiN hnd ha how hup h8 hk
                    go_wp2_with fail
                    go_quiet (first | (go_at_call 15; exact same_quiet (Ha.out _)) | (go_at_call 16; exact same_quiet (Hw.out _)) | (go_at_call 17; exact same_quiet (Hu.out _)))
                    have h9 := H8.out.drewN nq
                    clear H8 e0 e1 e2 z0 z1 z2 Ha Hw Hu d1
                    generalize wr.drewN nq = wq at *
                    have H9 := Lib.hid h9
                    clear h9
                    go_wp2_with fail
                    go_roundw
                    case rel => exact ⟨k + 1, by omega, by go_num, H9.out⟩
                    case measure => simp [intOf]; omega
                  · obtain rfl : N = k := by omega
                    have H9 := Lib.hid h8
                    clear hr h8
                    go_wp2_with fail
                    go_roundw
                    case rel => exact ⟨i + 1, q1, by omega, by go_num, H9.out, G1.out⟩
                    case measure => simp [intOf]; omega
          · subst hw
            have go1 : Hid (∀ wx, TR [wr.heap.size] p r w wx q q → Calls Try.prog 11 #[.pointer (some ⟨p, 0, none⟩), .int .i64 node] wx (TRun2 [wr.heap.size] p r w wx (.bool (idleN q node).2) (idleN q node).1 q)) := Lib.hid (fun wx h => tr_idle node h (Gq.out.ok (by have := G2.out; omega)))
            have gr1 : Hid (∀ wx, TR [wr.heap.size] p r w wx (idleN q node).1 q → Calls Try.prog 20 #[.pointer (some ⟨r, 0, none⟩), .int .i64 node] wx (TRun2 [wr.heap.size] p r w wx (.bool (idleN q node).2) (idleN q node).1 (idleN q node).1)) := Lib.hid (fun wx h => tr_idleR node h (Gq.out.okR (by have := G2.out; omega)))
            obtain ⟨q1, hq1⟩ : ∃ q1, q1 = (idleN q node).1 := ⟨_, rfl⟩
            obtain ⟨R1, hR1⟩ : ∃ R1, R1 = (idleN q node).2 := ⟨_, rfl⟩
            have g1 := Gq.out.step (a := ⟨1, node, tos⟩) (b := 50) hto
            rw [show stepT q ⟨1, node, tos⟩ = q1 by rw [hq1]; unfold stepT; simp [*]] at g1
            have G1 : Hid (Good q1 ((i + 1) * 50) N) := Lib.hid (g1.mono (by omega))
            rw [← hq1, ← hR1] at go1 gr1
            have hRR : (R1 == R1) = true := by simp
            clear hq1 hR1 g1
            go_wp2_with fail
            go_region_held3 (fun w' => w'.cell? ⟨wr.heap.size, 1, none⟩ = some (.int .i64 node) ∧ w'.cell? ⟨wr.heap.size, 2, none⟩ = some (.slice a2 tos.length c2)) (first | exact ⟨by assumption, by assumption⟩ | go_keep)
              (first
                | (go_at_call 11; refine (go1.out _ h4.drew).mono ?_; rintro e w5 ⟨rfl, h5, b5⟩; have b5 := b5 _ _ _ (by simp) (Blk.drew hblk); have y1 : w5.cell? ⟨wr.heap.size, 1, none⟩ = some (.int .i64 node) := b5.cell 1; have y2 : w5.cell? ⟨wr.heap.size, 2, none⟩ = some (.slice a2 tos.length c2) := b5.cell 2)
                | (go_at_call 20; go_must (refine (gr1.out _ h5).mono ?_; rintro e w6 ⟨rfl, h6, b6⟩; have b6 := b6 _ _ _ (by simp) b5; have t1 : w6.cell? ⟨wr.heap.size, 1, none⟩ = some (.int .i64 node) := b6.cell 1; have t2 : w6.cell? ⟨wr.heap.size, 2, none⟩ = some (.slice a2 tos.length c2) := b6.cell 2)))
            clear b5 b6 t1 t2 y1 y2 h5 go1 gr1 hblk h4 z1 z2 hRR
            have Ok1 := Lib.hid (G1.out.ok (by have := G2.out; omega))
            have OkR1 := Lib.hid (G1.out.okR (by have := G2.out; omega))
            have hw := Lib.hid (tr_way h6 Ok1.out)
            clear h6
            go_wp2_with fail
            refine hw.out.mono ?_
            rintro e w7 ⟨v7, rfl, ho, h7⟩
            clear hw
            obtain ⟨a7, c7, rfl⟩ := ho.shape
            have hd := tr_decl h7 Ok1.out
            have hdr := tr_declR h7 OkR1.out
            generalize declN q1 = D at hd hdr
            have Hd := Lib.hid hd
            have Hdr := Lib.hid hdr
            obtain ⟨ga, go, gu, vw, hr⟩ := h7.ref
            obtain ⟨ar, cr, rfl⟩ := hr.way.shape
            have z3 : w7.cell? ⟨r, 3, none⟩ = some (.slice ar q1.way.length cr) := hr.head.cell 3
            have hDD : (D != D) = false := by simp
            have Ho := Lib.hid (marked_zero ho)
            have H7 := Lib.hid h7
            clear hr hd hdr ho h7
            go_wp2_with fail
            refine Hd.out.mono ?_
            rintro e w8 ⟨rfl, rfl⟩
            go_wp2_with fail
            refine Hdr.out.mono ?_
            rintro e w8 ⟨rfl, rfl⟩
            clear Hd Hdr z3
            go_wp2_with fail
            clear hDD
            go_loopw [12] (fun v12 wr => ∃ k : Nat, k ≤ q1.way.length ∧ v12 = .int .i64 k ∧ TR (ownBlocks (.slice a7 q1.way.length c7)) p r w wr q1 q1 ∧ OwnsAt wr 0 44 3 (.slice a7 q1.way.length c7) q1.way.length ((marked k q1.way).flatMap sgC)) (fun v _ => q1.way.length - (intOf v).toNat)
            case atStart => exact ⟨0, by omega, rfl, H7.out, Ho.out⟩
            case round =>
              clear H7 Ho
              obtain ⟨k, hk, rfl, h8, ho⟩ := hrel
              have hkl : (q1.way.length : Int) ≤ 1000000 := by have := Ok1.out.w_; omega
              by_cases hlt : k < q1.way.length
              · obtain ⟨s, hs⟩ : ∃ s, q1.way[k]? = some s := ⟨_, List.getElem?_eq_getElem hlt⟩
                have hms : (marked k q1.way)[k]? = some s := by rw [marked_at (Nat.le_refl _)]; exact hs
                obtain ⟨f, t, ack⟩ := s
                obtain ⟨ga, go, gu, vw, hr⟩ := h8.ref
                obtain ⟨ar, cr, rfl⟩ := hr.way.shape
                have z3 : wr.cell? ⟨r, 3, none⟩ = some (.slice ar q1.way.length cr) := hr.head.cell 3
                obtain ⟨gr, offr, rfl, _, _, hcr, _, _⟩ := hr.way.rowAt sgC_len hs hlt
                obtain ⟨gv, offv, rfl, _, hgv, hcv, _, hfv⟩ := ho.rowAt sgC_len hms hlt
                have r0 : wr.cell? ⟨gr, offr + k * 3, none⟩ = some (.int .i64 f) := hcr 0 _ (by omega) rfl
                have r1 : wr.cell? ⟨gr, offr + k * 3 + 1, none⟩ = some (.int .i64 t) := hcr 1 _ (by omega) rfl
                have r2 : wr.cell? ⟨gr, offr + k * 3 + 2, none⟩ = some (.bool ack) := hcr 2 _ (by omega) rfl
                have v0 : wr.cell? ⟨gv, offv + k * 3, none⟩ = some (.int .i64 f) := hcv 0 _ (by omega) rfl
                have v1 : wr.cell? ⟨gv, offv + k * 3 + 1, none⟩ = some (.int .i64 t) := hcv 1 _ (by omega) rfl
                have v2 : wr.cell? ⟨gv, offv + k * 3 + 2, none⟩ = some (.bool ack) := hcv 2 _ (by omega) rfl
                have fv := hfv (offv + k * 3)
                have hltI : (k : Int) < (q1.way.length : Int) := by omega
                have H8 := Lib.hid h8
                have Ho := Lib.hid ho
                clear h8 ho hr hcr hcv hfv hs hms hk
                go_wp2_with fail
                go_quiet (fail)
                clear r0 r1 r2 v1 v2 z3
                have hkq : Keep [] wr (wr.drewN nq) := (Keep.refl _ _).drewN nq
                have V0 : (wr.drewN nq).cell? ⟨gv, offv + k * 3, none⟩ = some (.int .i64 f) := v0
                have FV : (wr.drewN nq).frozen? ⟨gv, offv + k * 3, none⟩ = false := fv
                have h8 := H8.out.drewN nq
                have ho := Ho.out.keep hkq (by simp)
                clear v0 fv hkq H8 Ho
                generalize wr.drewN nq = wq at *
                have H9 := Lib.hid (h8.write ((Keep.refl [gv] wq).setCell (p := ⟨gv, offv + k * 3, none⟩) (by simp) (.int .i64 (-1))))
                have Ho9 := Lib.hid (marked_set ho hlt)
                clear h8 ho
                go_wp2_with fail
                go_roundw
                case rel => exact ⟨k + 1, by omega, by go_num, H9.out, Ho9.out⟩
                case measure => simp [intOf]; omega
              · obtain rfl : k = q1.way.length := by omega
                have H8 := Lib.hid (h8.sub (Y := []) (by simp))
                clear ho h8
                generalize wr = wo at *
                go_wp2_with fail
                go_loopw [13] (fun v13 wr => ∃ k : Nat, k ≤ N ∧ v13 = .int .i64 k ∧ TR [] p r w wr q1 q1) (fun v _ => N - (intOf v).toNat)
                case atStart => exact ⟨0, by omega, rfl, H8.out⟩
                case round =>
                  clear H8
                  obtain ⟨k, hk, rfl, h8⟩ := hrel
                  have hN16 : (N : Int) ≤ 16 := by have := Ok1.out.l2; rw [G1.out.len] at this; omega
                  obtain ⟨ga, go, gu, vw, hr⟩ := h8.ref
                  have z0 : wr.cell? ⟨r, 0, none⟩ = some (.slice (some ⟨ga, 0, none⟩) q1.nodes.length q1.nodes.length) := hr.head.cell 0
                  rw [G1.out.len] at z0
                  by_cases hlt : k < N
                  · have hkl : k < q1.nodes.length := by rw [G1.out.len]; exact hlt
                    obtain ⟨x, hx⟩ : ∃ x, q1.nodes[k]? = some x := ⟨_, List.getElem?_eq_getElem hkl⟩
                    have z1 : wr.cell? ⟨r, 1, none⟩ = some (.slice (some ⟨go, 0, none⟩) q1.nodes.length q1.nodes.length) := hr.head.cell 1
                    have z2 : wr.cell? ⟨r, 2, none⟩ = some (.slice (some ⟨gu, 0, none⟩) q1.nodes.length q1.nodes.length) := hr.head.cell 2
                    rw [G1.out.len] at z1 z2
                    obtain ⟨e0, e1, e2⟩ := hr.at_ hx
                    have hiN : isN q1 k = true := by unfold isN; simp; omega
                    have hnd := nd_of hx
                    have ha : activeN q1 k = x.2.1 := by unfold activeN; rw [hiN, hnd]; rfl
                    have how : owesN q1 k = x.1 := by unfold owesN; rw [hiN, hnd]; rfl
                    have hup : upN q1 k = x.2.2 := by unfold upN; rw [hiN, hnd]; rfl
                    obtain ⟨xn, xa, xu⟩ := x
                    simp only at e0 e1 e2 ha how hup
                    have Ha : Hid (∀ m, Calls Try.prog 15 #[.pointer (some ⟨p, 0, none⟩), .int .i64 (k : Int)] (wr.drewN m) (Same' (.bool xa) (wr.drewN m))) := Lib.hid (fun m => by rw [← ha]; exact tr_active _ (h8.drewN m))
                    have Hw : Hid (∀ m, Calls Try.prog 16 #[.pointer (some ⟨p, 0, none⟩), .int .i64 (k : Int)] (wr.drewN m) (Same' (.int .i64 xn) (wr.drewN m))) := Lib.hid (fun m => by rw [← how]; exact tr_owes _ (h8.drewN m))
                    have Hu : Hid (∀ m, Calls Try.prog 17 #[.pointer (some ⟨p, 0, none⟩), .int .i64 (k : Int)] (wr.drewN m) (Same' (.int .i64 xu) (wr.drewN m))) := Lib.hid (fun m => by rw [← hup]; exact tr_up _ (h8.drewN m))
                    have hltI : (k : Int) < (N : Int) := by omega
                    have H8 := Lib.hid h8
                    have d1 : (xa != xa) = false := by simp
                    clear hr hx hkl hiN hnd ha how hup h8 hk
                    go_wp2_with fail
                    go_quiet (first | (go_at_call 15; exact same_quiet (Ha.out _)) | (go_at_call 16; exact same_quiet (Hw.out _)) | (go_at_call 17; exact same_quiet (Hu.out _)))
                    have h9 := H8.out.drewN nq
                    clear H8 e0 e1 e2 z0 z1 z2 Ha Hw Hu d1
                    generalize wr.drewN nq = wq at *
                    have H9 := Lib.hid h9
                    clear h9
                    go_wp2_with fail
                    go_roundw
                    case rel => exact ⟨k + 1, by omega, by go_num, H9.out⟩
                    case measure => simp [intOf]; omega
                  · obtain rfl : N = k := by omega
                    have H9 := Lib.hid h8
                    clear hr h8
                    go_wp2_with fail
                    go_roundw
                    case rel => exact ⟨i + 1, q1, by omega, by go_num, H9.out, G1.out⟩
                    case measure => simp [intOf]; omega
          · have go1 : Hid (∀ wx, TR [wr.heap.size] p r w wx q q → Calls Try.prog 12 #[.pointer (some ⟨p, 0, none⟩), .int .i64 node] wx (TRun2 [wr.heap.size] p r w wx (.bool (deliverN q node).2) (deliverN q node).1 q)) := Lib.hid (fun wx h => tr_deliver node h (Gq.out.ok (by have := G2.out; omega)))
            have gr1 : Hid (∀ wx, TR [wr.heap.size] p r w wx (deliverN q node).1 q → Calls Try.prog 21 #[.pointer (some ⟨r, 0, none⟩), .int .i64 node] wx (TRun2 [wr.heap.size] p r w wx (.bool (deliverN q node).2) (deliverN q node).1 (deliverN q node).1)) := Lib.hid (fun wx h => tr_deliverR node h (Gq.out.okR (by have := G2.out; omega)))
            obtain ⟨q1, hq1⟩ : ∃ q1, q1 = (deliverN q node).1 := ⟨_, rfl⟩
            obtain ⟨R1, hR1⟩ : ∃ R1, R1 = (deliverN q node).2 := ⟨_, rfl⟩
            have g1 := Gq.out.step (a := ⟨way, node, tos⟩) (b := 50) hto
            rw [show stepT q ⟨way, node, tos⟩ = q1 by rw [hq1]; unfold stepT; simp [*]] at g1
            have G1 : Hid (Good q1 ((i + 1) * 50) N) := Lib.hid (g1.mono (by omega))
            rw [← hq1, ← hR1] at go1 gr1
            have hRR : (R1 == R1) = true := by simp
            clear hq1 hR1 g1
            go_wp2_with fail
            go_region_held3 (fun w' => w'.cell? ⟨wr.heap.size, 1, none⟩ = some (.int .i64 node) ∧ w'.cell? ⟨wr.heap.size, 2, none⟩ = some (.slice a2 tos.length c2)) (first | exact ⟨by assumption, by assumption⟩ | go_keep)
              (first
                | (go_at_call 12; refine (go1.out _ h4.drew).mono ?_; rintro e w5 ⟨rfl, h5, b5⟩; have b5 := b5 _ _ _ (by simp) (Blk.drew hblk); have y1 : w5.cell? ⟨wr.heap.size, 1, none⟩ = some (.int .i64 node) := b5.cell 1; have y2 : w5.cell? ⟨wr.heap.size, 2, none⟩ = some (.slice a2 tos.length c2) := b5.cell 2)
                | (go_at_call 21; go_must (refine (gr1.out _ h5).mono ?_; rintro e w6 ⟨rfl, h6, b6⟩; have b6 := b6 _ _ _ (by simp) b5; have t1 : w6.cell? ⟨wr.heap.size, 1, none⟩ = some (.int .i64 node) := b6.cell 1; have t2 : w6.cell? ⟨wr.heap.size, 2, none⟩ = some (.slice a2 tos.length c2) := b6.cell 2)))
            clear b5 b6 t1 t2 y1 y2 h5 go1 gr1 hblk h4 z1 z2 hRR
            have Ok1 := Lib.hid (G1.out.ok (by have := G2.out; omega))
            have OkR1 := Lib.hid (G1.out.okR (by have := G2.out; omega))
            have hw := Lib.hid (tr_way h6 Ok1.out)
            clear h6
            go_wp2_with fail
            refine hw.out.mono ?_
            rintro e w7 ⟨v7, rfl, ho, h7⟩
            clear hw
            obtain ⟨a7, c7, rfl⟩ := ho.shape
            have hd := tr_decl h7 Ok1.out
            have hdr := tr_declR h7 OkR1.out
            generalize declN q1 = D at hd hdr
            have Hd := Lib.hid hd
            have Hdr := Lib.hid hdr
            obtain ⟨ga, go, gu, vw, hr⟩ := h7.ref
            obtain ⟨ar, cr, rfl⟩ := hr.way.shape
            have z3 : w7.cell? ⟨r, 3, none⟩ = some (.slice ar q1.way.length cr) := hr.head.cell 3
            have hDD : (D != D) = false := by simp
            have Ho := Lib.hid (marked_zero ho)
            have H7 := Lib.hid h7
            clear hr hd hdr ho h7
            go_wp2_with fail
            refine Hd.out.mono ?_
            rintro e w8 ⟨rfl, rfl⟩
            go_wp2_with fail
            refine Hdr.out.mono ?_
            rintro e w8 ⟨rfl, rfl⟩
            clear Hd Hdr z3
            go_wp2_with fail
            clear hDD
            go_loopw [12] (fun v12 wr => ∃ k : Nat, k ≤ q1.way.length ∧ v12 = .int .i64 k ∧ TR (ownBlocks (.slice a7 q1.way.length c7)) p r w wr q1 q1 ∧ OwnsAt wr 0 44 3 (.slice a7 q1.way.length c7) q1.way.length ((marked k q1.way).flatMap sgC)) (fun v _ => q1.way.length - (intOf v).toNat)
            case atStart => exact ⟨0, by omega, rfl, H7.out, Ho.out⟩
            case round =>
              clear H7 Ho
              obtain ⟨k, hk, rfl, h8, ho⟩ := hrel
              have hkl : (q1.way.length : Int) ≤ 1000000 := by have := Ok1.out.w_; omega
              by_cases hlt : k < q1.way.length
              · obtain ⟨s, hs⟩ : ∃ s, q1.way[k]? = some s := ⟨_, List.getElem?_eq_getElem hlt⟩
                have hms : (marked k q1.way)[k]? = some s := by rw [marked_at (Nat.le_refl _)]; exact hs
                obtain ⟨f, t, ack⟩ := s
                obtain ⟨ga, go, gu, vw, hr⟩ := h8.ref
                obtain ⟨ar, cr, rfl⟩ := hr.way.shape
                have z3 : wr.cell? ⟨r, 3, none⟩ = some (.slice ar q1.way.length cr) := hr.head.cell 3
                obtain ⟨gr, offr, rfl, _, _, hcr, _, _⟩ := hr.way.rowAt sgC_len hs hlt
                obtain ⟨gv, offv, rfl, _, hgv, hcv, _, hfv⟩ := ho.rowAt sgC_len hms hlt
                have r0 : wr.cell? ⟨gr, offr + k * 3, none⟩ = some (.int .i64 f) := hcr 0 _ (by omega) rfl
                have r1 : wr.cell? ⟨gr, offr + k * 3 + 1, none⟩ = some (.int .i64 t) := hcr 1 _ (by omega) rfl
                have r2 : wr.cell? ⟨gr, offr + k * 3 + 2, none⟩ = some (.bool ack) := hcr 2 _ (by omega) rfl
                have v0 : wr.cell? ⟨gv, offv + k * 3, none⟩ = some (.int .i64 f) := hcv 0 _ (by omega) rfl
                have v1 : wr.cell? ⟨gv, offv + k * 3 + 1, none⟩ = some (.int .i64 t) := hcv 1 _ (by omega) rfl
                have v2 : wr.cell? ⟨gv, offv + k * 3 + 2, none⟩ = some (.bool ack) := hcv 2 _ (by omega) rfl
                have fv := hfv (offv + k * 3)
                have hltI : (k : Int) < (q1.way.length : Int) := by omega
                have H8 := Lib.hid h8
                have Ho := Lib.hid ho
                clear h8 ho hr hcr hcv hfv hs hms hk
                go_wp2_with fail
                go_quiet (fail)
                clear r0 r1 r2 v1 v2 z3
                have hkq : Keep [] wr (wr.drewN nq) := (Keep.refl _ _).drewN nq
                have V0 : (wr.drewN nq).cell? ⟨gv, offv + k * 3, none⟩ = some (.int .i64 f) := v0
                have FV : (wr.drewN nq).frozen? ⟨gv, offv + k * 3, none⟩ = false := fv
                have h8 := H8.out.drewN nq
                have ho := Ho.out.keep hkq (by simp)
                clear v0 fv hkq H8 Ho
                generalize wr.drewN nq = wq at *
                have H9 := Lib.hid (h8.write ((Keep.refl [gv] wq).setCell (p := ⟨gv, offv + k * 3, none⟩) (by simp) (.int .i64 (-1))))
                have Ho9 := Lib.hid (marked_set ho hlt)
                clear h8 ho
                go_wp2_with fail
                go_roundw
                case rel => exact ⟨k + 1, by omega, by go_num, H9.out, Ho9.out⟩
                case measure => simp [intOf]; omega
              · obtain rfl : k = q1.way.length := by omega
                have H8 := Lib.hid (h8.sub (Y := []) (by simp))
                clear ho h8
                generalize wr = wo at *
                go_wp2_with fail
                go_loopw [13] (fun v13 wr => ∃ k : Nat, k ≤ N ∧ v13 = .int .i64 k ∧ TR [] p r w wr q1 q1) (fun v _ => N - (intOf v).toNat)
                case atStart => exact ⟨0, by omega, rfl, H8.out⟩
                case round =>
                  clear H8
                  obtain ⟨k, hk, rfl, h8⟩ := hrel
                  have hN16 : (N : Int) ≤ 16 := by have := Ok1.out.l2; rw [G1.out.len] at this; omega
                  obtain ⟨ga, go, gu, vw, hr⟩ := h8.ref
                  have z0 : wr.cell? ⟨r, 0, none⟩ = some (.slice (some ⟨ga, 0, none⟩) q1.nodes.length q1.nodes.length) := hr.head.cell 0
                  rw [G1.out.len] at z0
                  by_cases hlt : k < N
                  · have hkl : k < q1.nodes.length := by rw [G1.out.len]; exact hlt
                    obtain ⟨x, hx⟩ : ∃ x, q1.nodes[k]? = some x := ⟨_, List.getElem?_eq_getElem hkl⟩
                    have z1 : wr.cell? ⟨r, 1, none⟩ = some (.slice (some ⟨go, 0, none⟩) q1.nodes.length q1.nodes.length) := hr.head.cell 1
                    have z2 : wr.cell? ⟨r, 2, none⟩ = some (.slice (some ⟨gu, 0, none⟩) q1.nodes.length q1.nodes.length) := hr.head.cell 2
                    rw [G1.out.len] at z1 z2
                    obtain ⟨e0, e1, e2⟩ := hr.at_ hx
                    have hiN : isN q1 k = true := by unfold isN; simp; omega
                    have hnd := nd_of hx
                    have ha : activeN q1 k = x.2.1 := by unfold activeN; rw [hiN, hnd]; rfl
                    have how : owesN q1 k = x.1 := by unfold owesN; rw [hiN, hnd]; rfl
                    have hup : upN q1 k = x.2.2 := by unfold upN; rw [hiN, hnd]; rfl
                    obtain ⟨xn, xa, xu⟩ := x
                    simp only at e0 e1 e2 ha how hup
                    have Ha : Hid (∀ m, Calls Try.prog 15 #[.pointer (some ⟨p, 0, none⟩), .int .i64 (k : Int)] (wr.drewN m) (Same' (.bool xa) (wr.drewN m))) := Lib.hid (fun m => by rw [← ha]; exact tr_active _ (h8.drewN m))
                    have Hw : Hid (∀ m, Calls Try.prog 16 #[.pointer (some ⟨p, 0, none⟩), .int .i64 (k : Int)] (wr.drewN m) (Same' (.int .i64 xn) (wr.drewN m))) := Lib.hid (fun m => by rw [← how]; exact tr_owes _ (h8.drewN m))
                    have Hu : Hid (∀ m, Calls Try.prog 17 #[.pointer (some ⟨p, 0, none⟩), .int .i64 (k : Int)] (wr.drewN m) (Same' (.int .i64 xu) (wr.drewN m))) := Lib.hid (fun m => by rw [← hup]; exact tr_up _ (h8.drewN m))
                    have hltI : (k : Int) < (N : Int) := by omega
                    have H8 := Lib.hid h8
                    have d1 : (xa != xa) = false := by simp
                    clear hr hx hkl hiN hnd ha how hup h8 hk
                    go_wp2_with fail
                    go_quiet (first | (go_at_call 15; exact same_quiet (Ha.out _)) | (go_at_call 16; exact same_quiet (Hw.out _)) | (go_at_call 17; exact same_quiet (Hu.out _)))
                    have h9 := H8.out.drewN nq
                    clear H8 e0 e1 e2 z0 z1 z2 Ha Hw Hu d1
                    generalize wr.drewN nq = wq at *
                    have H9 := Lib.hid h9
                    clear h9
                    go_wp2_with fail
                    go_roundw
                    case rel => exact ⟨k + 1, by omega, by go_num, H9.out⟩
                    case measure => simp [intOf]; omega
                  · obtain rfl : N = k := by omega
                    have H9 := Lib.hid h8
                    clear hr h8
                    go_wp2_with fail
                    go_roundw
                    case rel => exact ⟨i + 1, q1, by omega, by go_num, H9.out, G1.out⟩
                    case measure => simp [intOf]; omega
        · have hk := Lib.hid h4.out
          have hto' : (50 : Int) < (tos.length : Int) := by omega
          clear hblk h4
          go_wp2
          go_ret
          exact ⟨rfl, hk.out⟩
      · obtain rfl : i = l.length := by omega
        have hk := Lib.hid h3.out
        clear h3 gq
        go_wp2
        go_ret
        exact ⟨rfl, hk.out⟩
  · have h300 : (300 : Int) < (l.length : Int) := by omega
    clear hv
    go_enter Try.func7, Try.ntmps7
    go_wp2_with fail
    refine (alive_spec _).mono ?_
    rintro e w1 ⟨rfl, k1⟩
    go_wp2
    go_ret
    exact ⟨rfl, k1⟩
theorem walk_termPlays {H : Type} {enc : TypeId × Value → H} (W : World) {n : Int} {v1 : Value} {d1 : DataW H} {p1 : List MemPlace} {base : Nat} (_ : (Lit.int .i64 n).wf = true)
    (o1 : Value.okWide Try.prog W .any base 22 v1) (h1 : DataW.Trod enc Try.prog W 0 (fun _ => true) true 22 v1 d1 p1) :
    Calls Try.prog 7 #[.int .i64 n, v1] W fun e w' => e = .returned (.bool true) ∧ Below W.heap.size W w' := by
  obtain ⟨l, hl⟩ := acts_open o1 h1
  exact (termPlays_any W n v1 l hl).mono fun _ _ ⟨he, hk⟩ => ⟨he, hk.to_below⟩
end Go.Proofs.Ytiicmlhpcfhfeaa
