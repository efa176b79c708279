/- LinkLives: the walk. -/
import Derived.Test.YtacifjjhadjhfaaLinkArgs
import Derived.Test.YtacifjjhadjhfaaWaitsLaw
namespace Go.Proofs.Ytacifjjhadjhfaa
open Go.RowKit
def SentNil (os : List LD) (k : Int) : Prop := ∀ (j : Nat) (s : LD), os[j]? = some s → s.seq = k + j + 1 ∧ s.times = 0 ∧ s.at_ = 0 ∧ s.bs = []
theorem SentNil.add {os : List LD} {k : Int} (h : SentNil os k) (bv : Value) : SentNil (os ++ [⟨k + os.length + 1, 0, 0, [], bv⟩]) k := by
  intro j s hs
  rcases Nat.lt_trichotomy j os.length with hj | hj | hj
  · rw [List.getElem?_append_left hj] at hs
    exact h j s hs
  · subst hj
    rw [List.getElem?_append_right (by omega)] at hs
    simp at hs
    subst hs
    exact ⟨rfl, rfl, rfl, rfl⟩
  · rw [List.getElem?_eq_none (by simp; omega)] at hs
    cases hs
theorem SentNil.keepLen {ack : Int} : ∀ (os : List LD) (k : Int), SentNil os k → ((keepL ack os).length : Int) = if ack ≤ k then (os.length : Int) else if k + os.length ≤ ack then 0 else k + os.length - ack
  | [], k, _ => by
    have : (keepL ack ([] : List LD)).length = 0 := rfl
    rw [this]
    simp
    omega
  | s :: os, k, h => by
    have h1 := (h 0 s rfl).1
    have ih := SentNil.keepLen (ack := ack) os (k + 1) (fun j s' hs => by
      have := h (j + 1) s' hs
      refine ⟨?_, this.2⟩
      rw [this.1]
      omega)
    unfold keepL at ih ⊢
    by_cases hb : ackB ack s = true
    · rw [List.filter_cons_of_neg (by simp [hb])]
      have hb' : s.seq ≤ ack := by simpa [ackB] using hb
      rw [ih]
      simp only [List.length_cons]
      split <;> split <;> (try split) <;> omega
    · rw [List.filter_cons_of_pos (by simpa using hb)]
      have hb' : ack < s.seq := by simpa [ackB] using hb
      simp only [List.length_cons, Int.natCast_add, ih]
      split <;> split <;> (try split) <;> omega
theorem SentNil.ok {os : List LD} {seq upto : Int} {kept : List LD} {owed : Bool} {self peer life theirs last : Int} (h : SentNil os 0) (hl : os.length ≤ 100) (h1 : 0 ≤ seq) (h2 : last ≤ 9223372036854775807) : OkL ⟨last, seq, os, upto, kept, owed, self, peer, life, theirs⟩ :=
  ⟨h1, h2, hl, fun s hs => by
    obtain ⟨j, hj, rfl⟩ := List.mem_iff_getElem.1 hs
    obtain ⟨_, h3, h4, h5⟩ := h j _ (List.getElem?_eq_getElem hj)
    rw [h3, h4, h5]
    simp⟩
theorem lives_len (q : LK) (hk : q.kept = []) (hu : q.upto = 0) (sq ack : Int) (bs : List UInt8) (bv : Value) : (sq = 1 → (inR (ackd q ack) sq bs bv).2.2.length = 1) ∧ (sq ≠ 1 → (inR (ackd q ack) sq bs bv).2.2.length = 0) := by
  have hk' : (ackd q ack).kept = [] := hk
  have hu' : (ackd q ack).upto = 0 := hu
  constructor
  · intro h
    subst h
    simp [inR, gotTake, hk', hu', runK]
  · intro h
    unfold inR
    split
    · have h1 : (sq == 1) = false := by simpa using h
      simp [hk', hu', runK, List.find?, h1]
    · rfl
set_option maxHeartbeats 8000000 in
set_option maxRecDepth 100000 in
theorem linkLives_any (w : World) (fr to life sq ack sent : Int) (bs : List UInt8) (v : Value) (hb : BytesOf w v bs) (hsq : sq ≤ 9223372036854775807) : Calls Try.prog 6 #[.agg #[.int .i64 fr, .int .i64 to, .int .i64 life, .int .i64 sq, .int .i64 ack, v], .int .i64 sent] w fun e w' => e = .returned (.bool true) ∧ Keep [] w w' := by
  obtain ⟨ab, cb, rfl⟩ := hb.shape
  have hA : Keep [] w (w.alloc (.cells #[.int .i64 fr, .int .i64 to, .int .i64 life, .int .i64 sq, .int .i64 ack, .slice ab bs.length cb] 46)) := (Keep.refl _ _).alloc _
  have bA : Blk (w.alloc (.cells #[.int .i64 fr, .int .i64 to, .int .i64 life, .int .i64 sq, .int .i64 ack, .slice ab bs.length cb] 46)) w.heap.size 46 [.int .i64 fr, .int .i64 to, .int .i64 life, .int .i64 sq, .int .i64 ack, .slice ab bs.length cb] := Blk.new' _ _ _ _ rfl
  have hbA := hb.keep0 hA
  have HA := Lib.hid hA
  clear hb hA
  by_cases hin : (0 ≤ sent ∧ sent ≤ 8) ∧ bs.length ≤ 5000
  · obtain ⟨⟨g1, g2⟩, g3⟩ := hin
    have Hg3 := Lib.hid g3
    go_enter Try.func6, Try.ntmps6
    go_wp2_with fail
    refine (alive_spec _).mono ?_
    rintro e w1 ⟨rfl, k1⟩
    have d5 : w1.cell? ⟨w.heap.size, 5, none⟩ = some (.slice ab bs.length cb) := (bA.keep k1 (by simp)).cell 5
    go_wp2_with fail
    refine (live_new w1 3 5 2 7 100 (w.alloc (.cells #[.int .i64 fr, .int .i64 to, .int .i64 life, .int .i64 sq, .int .i64 ack, .slice ab bs.length cb] 46)) k1).mono ?_
    rintro e w2 ⟨p, rfl, h2⟩
    clear d5 k1
    go_wp2_with fail
    go_loopw [7] (fun v7 wr => ∃ (i : Nat) (os : List LD), v7 = .int .i64 i ∧ (i : Int) ≤ sent ∧ os.length = i ∧ SentNil os 0 ∧ LLive w1.heap.size p (w.alloc (.cells #[.int .i64 fr, .int .i64 to, .int .i64 life, .int .i64 sq, .int .i64 ack, .slice ab bs.length cb] 46)) wr ⟨100, i, os, 0, [], false, 3, 5, 2, 7⟩) (fun v _ => (sent - intOf v).toNat)
    case atStart => exact ⟨0, [], rfl, g1, rfl, (fun j s h => by cases h), h2⟩
    case round =>
      clear h2 g3
      obtain ⟨i, os, rfl, hil, hlen, hsn, h4⟩ := hrel
      have hwA : IntKind.i64.wrap ((i : Int) + 1) = (i : Int) + 1 := IntWalk.i64_in _ (by omega)
      by_cases hlt : (i : Int) < sent
      · have hs := Lib.hid (live_send h4 (hsn.ok (by omega) (by omega) (by omega)) (fun _ _ w' _ _ => BytesOf.nil w') (by simp) (show (i : Int) < 100 by omega) (show os.length < 8 by omega))
        have Hsn := Lib.hid hsn
        have Hlen := Lib.hid hlen
        clear h4 hsn hlen
        go_wp2_with fail
        refine hs.out.mono ?_
        rintro e w5 ⟨rfl, bv, h5⟩
        clear hs
        go_wp2
        go_roundw
        case rel =>
          refine ⟨i + 1, os ++ [⟨(i : Int) + 1, 0, 0, [], bv⟩], by go_num, by omega, by simp [Hlen.out], ?_, ?_⟩
          have := Hsn.out.add bv
          rw [Hlen.out] at this
          · simpa using this
          · rw [Int.natCast_add]; exact h5
        case measure => simp [intOf]; omega
      · obtain rfl : sent = (i : Int) := by omega
        obtain ⟨sent, hsent⟩ : ∃ s : Int, s = (i : Int) := ⟨_, rfl⟩
        rw [← hsent] at h4 hlt hwA g1 g2 hil ⊢
        have hlen' : (os.length : Int) = sent := by omega
        have Hlen := Lib.hid hlen'
        have Hsn := Lib.hid hsn
        have Hg1 := Lib.hid g1
        have Hg2 := Lib.hid g2
        have hinn := Lib.hid (live_in (fr := fr) (to := to) (life := life) (sq := sq) (ack := ack) (v := .slice ab bs.length cb) (bs := bs) h4 (fun _ _ w' hk _ => hbA.keep0 hk) (by simp) hsq (by simp) (by simp only; omega))
        have Hinn := hinn
        have e0 : wr.cell? ⟨w.heap.size, 0, none⟩ = some (.int .i64 fr) := (bA.keep h4.out (by simp)).cell 0
        have e1 : wr.cell? ⟨w.heap.size, 1, none⟩ = some (.int .i64 to) := (bA.keep h4.out (by simp)).cell 1
        have e2 : wr.cell? ⟨w.heap.size, 2, none⟩ = some (.int .i64 life) := (bA.keep h4.out (by simp)).cell 2
        have e3 : wr.cell? ⟨w.heap.size, 3, none⟩ = some (.int .i64 sq) := (bA.keep h4.out (by simp)).cell 3
        have e4 : wr.cell? ⟨w.heap.size, 4, none⟩ = some (.int .i64 ack) := (bA.keep h4.out (by simp)).cell 4
        have e5 : wr.cell? ⟨w.heap.size, 5, none⟩ = some (.slice ab bs.length cb) := (bA.keep h4.out (by simp)).cell 5
        clear h4 hsn hlen hlen' hsent hil hinn
        have g2' := g2
        have g1' := g1
        have g3 := Hg3.out
        by_cases h1 : fr = 5
        · by_cases h2 : to = 3
          · by_cases h3 : life = 7
            · by_cases h4 : ack ≤ sent
              · by_cases h5 : 0 ≤ sq
                · by_cases h6 : bs.length ≤ 4096
                  · have b1 : (fr == 5) = true := by simp [h1]
                    have b2 : (to == 3) = true := by simp [h2]
                    have b3 : (life == 7) = true := by simp [h3]
                    have b4 : decide (ack ≤ sent) = true := by simp; omega
                    have b5 : decide (0 ≤ sq) = true := by simp; omega
                    have b6 : decide ((bs.length : Int) ≤ 4096) = true := by simp; omega
                    have Hyes := Lib.hid (show inOk ⟨100, sent, os, 0, [], false, 3, 5, 2, 7⟩ fr to life sq ack bs = true by simp [inOk]; omega)
                    have hkl := SentNil.keepLen (ack := ack) os 0 Hsn.out
                    rw [Hlen.out] at hkl
                    have Hkl := Lib.hid hkl
                    have ha := h4
                    have hs0 := h5
                    clear hkl h1 h2 h3 h4 h5 h6
                    go_wp2_with fail
                    refine Hinn.out.mono ?_
                    clear e0 e1 e2 e3 e4 e5
                    intro e w5 hp
                    rw [if_pos Hyes.out] at hp
                    obtain ⟨bv, vr, rfl, ho, h5⟩ := hp
                    obtain ⟨ar, cr, rfl⟩ := ho.rows.shape
                    have Hlo := Lib.hid (lives_len ⟨100, sent, os, 0, [], false, 3, 5, 2, 7⟩ rfl rfl sq ack bs bv)
                    clear ho
                    have c0 : w5.cell? ⟨w.heap.size, 0, none⟩ = some (.int .i64 fr) := (bA.keep h5.out (by simp)).cell 0
                    have c1 : w5.cell? ⟨w.heap.size, 1, none⟩ = some (.int .i64 to) := (bA.keep h5.out (by simp)).cell 1
                    have c2 : w5.cell? ⟨w.heap.size, 2, none⟩ = some (.int .i64 life) := (bA.keep h5.out (by simp)).cell 2
                    have c3 : w5.cell? ⟨w.heap.size, 3, none⟩ = some (.int .i64 sq) := (bA.keep h5.out (by simp)).cell 3
                    have c4 : w5.cell? ⟨w.heap.size, 4, none⟩ = some (.int .i64 ack) := (bA.keep h5.out (by simp)).cell 4
                    have c5 : w5.cell? ⟨w.heap.size, 5, none⟩ = some (.slice ab bs.length cb) := (bA.keep h5.out (by simp)).cell 5
                    have hop := Lib.hid (live_open h5)
                    have kk := HA.out.trans h5.out (by simp)
                    obtain ⟨nr, hnr⟩ : ∃ n, n = (inR (ackd ⟨100, sent, os, 0, [], false, 3, 5, 2, 7⟩ ack) sq bs bv).2.2.length := ⟨_, rfl⟩
                    obtain ⟨no, hno⟩ : ∃ n, n = (keepL ack os).length := ⟨_, rfl⟩
                    have hop2 : Calls Try.prog 13 #[.pointer (some ⟨p, 0, none⟩)] w5 (Same' (.int .i64 no) w5) := by rw [hno]; exact hop.out
                    have Hop2 := Lib.hid hop2
                    rw [← hnr] at Hlo
                    rw [← hnr]
                    rw [← hno] at Hkl
                    clear h5 Hinn hop hop2 hnr hno
                    have hw1 : IntKind.i64.wrap (sent - ack) = sent - ack ∨ ack ≤ 0 := by
                      by_cases h : ack ≤ 0
                      · exact Or.inr h
                      · exact Or.inl (IntWalk.i64_in _ (by omega))
                    by_cases ha0 : 0 < ack
                    · have hw1 := hw1.resolve_right (by omega)
                      have b7 : decide (0 < ack) = true := by simpa using ha0
                      have hnoe : (no : Int) = sent - ack := by
                        have := Hkl.out
                        rw [if_neg (by omega)] at this
                        split at this <;> omega
                      clear Hkl ha0 ha
                      by_cases hs1 : sq = 1
                      · have hn1 : nr = 1 := Hlo.out.1 hs1
                        subst hn1
                        have b8 : (sq == 1) = true := by simpa using hs1
                        clear Hlo hs1 hs0
                        go_wp2_with fail
                        refine Hop2.out.mono ?_
                        rintro e w6 ⟨rfl, rfl⟩
                        go_wp2
                        go_ret
                        exact ⟨by simp [hnoe], kk⟩
                      · have hn1 : nr = 0 := Hlo.out.2 hs1
                        subst hn1
                        have b8 : (sq == 1) = false := by simpa using hs1
                        clear Hlo hs1 hs0
                        go_wp2_with fail
                        refine Hop2.out.mono ?_
                        rintro e w6 ⟨rfl, rfl⟩
                        go_wp2
                        go_ret
                        exact ⟨by simp [hnoe], kk⟩
                    · have b7 : decide (0 < ack) = false := by simpa using ha0
                      have hnoe : (no : Int) = sent := by
                        have := Hkl.out
                        rw [if_pos (by omega)] at this
                        omega
                      clear Hkl ha0 ha hw1
                      by_cases hs1 : sq = 1
                      · have hn1 : nr = 1 := Hlo.out.1 hs1
                        subst hn1
                        have b8 : (sq == 1) = true := by simpa using hs1
                        clear Hlo hs1 hs0
                        go_wp2_with fail
                        refine Hop2.out.mono ?_
                        rintro e w6 ⟨rfl, rfl⟩
                        go_wp2
                        go_ret
                        exact ⟨by simp [hnoe], kk⟩
                      · have hn1 : nr = 0 := Hlo.out.2 hs1
                        subst hn1
                        have b8 : (sq == 1) = false := by simpa using hs1
                        clear Hlo hs1 hs0
                        go_wp2_with fail
                        refine Hop2.out.mono ?_
                        rintro e w6 ⟨rfl, rfl⟩
                        go_wp2
                        go_ret
                        exact ⟨by simp [hnoe], kk⟩
                  · have b1 : (fr == 5) = true := by simp [h1]
                    have b2 : (to == 3) = true := by simp [h2]
                    have b3 : (life == 7) = true := by simp [h3]
                    have b4 : decide (ack ≤ sent) = true := by simp; omega
                    have b5 : decide (0 ≤ sq) = true := by simp; omega
                    have b6 : decide ((bs.length : Int) ≤ 4096) = false := by simp; omega
                    have Hno := Lib.hid (show ¬ inOk ⟨100, sent, os, 0, [], false, 3, 5, 2, 7⟩ fr to life sq ack bs = true by simp [inOk]; omega)
                    clear h1 h2 h3 h4 h5 h6
                    go_wp2_with fail
                    refine Hinn.out.mono ?_
                    clear e0 e1 e2 e3 e4 e5
                    intro e w5 hp
                    rw [if_neg Hno.out] at hp
                    obtain ⟨rfl, h5⟩ := hp
                    have c0 : w5.cell? ⟨w.heap.size, 0, none⟩ = some (.int .i64 fr) := (bA.keep h5.out (by simp)).cell 0
                    have c1 : w5.cell? ⟨w.heap.size, 1, none⟩ = some (.int .i64 to) := (bA.keep h5.out (by simp)).cell 1
                    have c2 : w5.cell? ⟨w.heap.size, 2, none⟩ = some (.int .i64 life) := (bA.keep h5.out (by simp)).cell 2
                    have c3 : w5.cell? ⟨w.heap.size, 3, none⟩ = some (.int .i64 sq) := (bA.keep h5.out (by simp)).cell 3
                    have c4 : w5.cell? ⟨w.heap.size, 4, none⟩ = some (.int .i64 ack) := (bA.keep h5.out (by simp)).cell 4
                    have c5 : w5.cell? ⟨w.heap.size, 5, none⟩ = some (.slice ab bs.length cb) := (bA.keep h5.out (by simp)).cell 5
                    have hop := Lib.hid (live_open h5)
                    have kk := HA.out.trans h5.out (by simp)
                    clear h5 Hinn
                    go_wp2_with fail
                    refine hop.out.mono ?_
                    rintro e w6 ⟨rfl, rfl⟩
                    have hlen := Hlen.out
                    go_wp2
                    go_ret
                    exact ⟨by simp [hlen], kk⟩
                · have b1 : (fr == 5) = true := by simp [h1]
                  have b2 : (to == 3) = true := by simp [h2]
                  have b3 : (life == 7) = true := by simp [h3]
                  have b4 : decide (ack ≤ sent) = true := by simp; omega
                  have b5 : decide (0 ≤ sq) = false := by simp; omega
                  have Hno := Lib.hid (show ¬ inOk ⟨100, sent, os, 0, [], false, 3, 5, 2, 7⟩ fr to life sq ack bs = true by simp [inOk]; omega)
                  clear h1 h2 h3 h4 h5
                  go_wp2_with fail
                  refine Hinn.out.mono ?_
                  clear e0 e1 e2 e3 e4 e5
                  intro e w5 hp
                  rw [if_neg Hno.out] at hp
                  obtain ⟨rfl, h5⟩ := hp
                  have c0 : w5.cell? ⟨w.heap.size, 0, none⟩ = some (.int .i64 fr) := (bA.keep h5.out (by simp)).cell 0
                  have c1 : w5.cell? ⟨w.heap.size, 1, none⟩ = some (.int .i64 to) := (bA.keep h5.out (by simp)).cell 1
                  have c2 : w5.cell? ⟨w.heap.size, 2, none⟩ = some (.int .i64 life) := (bA.keep h5.out (by simp)).cell 2
                  have c3 : w5.cell? ⟨w.heap.size, 3, none⟩ = some (.int .i64 sq) := (bA.keep h5.out (by simp)).cell 3
                  have c4 : w5.cell? ⟨w.heap.size, 4, none⟩ = some (.int .i64 ack) := (bA.keep h5.out (by simp)).cell 4
                  have c5 : w5.cell? ⟨w.heap.size, 5, none⟩ = some (.slice ab bs.length cb) := (bA.keep h5.out (by simp)).cell 5
                  have hop := Lib.hid (live_open h5)
                  have kk := HA.out.trans h5.out (by simp)
                  clear h5 Hinn
                  go_wp2_with fail
                  refine hop.out.mono ?_
                  rintro e w6 ⟨rfl, rfl⟩
                  have hlen := Hlen.out
                  go_wp2
                  go_ret
                  exact ⟨by simp [hlen], kk⟩
              · have b1 : (fr == 5) = true := by simp [h1]
                have b2 : (to == 3) = true := by simp [h2]
                have b3 : (life == 7) = true := by simp [h3]
                have b4 : decide (ack ≤ sent) = false := by simp; omega
                have Hno := Lib.hid (show ¬ inOk ⟨100, sent, os, 0, [], false, 3, 5, 2, 7⟩ fr to life sq ack bs = true by simp [inOk]; omega)
                clear h1 h2 h3 h4
                go_wp2_with fail
                refine Hinn.out.mono ?_
                clear e0 e1 e2 e3 e4 e5
                intro e w5 hp
                rw [if_neg Hno.out] at hp
                obtain ⟨rfl, h5⟩ := hp
                have c0 : w5.cell? ⟨w.heap.size, 0, none⟩ = some (.int .i64 fr) := (bA.keep h5.out (by simp)).cell 0
                have c1 : w5.cell? ⟨w.heap.size, 1, none⟩ = some (.int .i64 to) := (bA.keep h5.out (by simp)).cell 1
                have c2 : w5.cell? ⟨w.heap.size, 2, none⟩ = some (.int .i64 life) := (bA.keep h5.out (by simp)).cell 2
                have c3 : w5.cell? ⟨w.heap.size, 3, none⟩ = some (.int .i64 sq) := (bA.keep h5.out (by simp)).cell 3
                have c4 : w5.cell? ⟨w.heap.size, 4, none⟩ = some (.int .i64 ack) := (bA.keep h5.out (by simp)).cell 4
                have c5 : w5.cell? ⟨w.heap.size, 5, none⟩ = some (.slice ab bs.length cb) := (bA.keep h5.out (by simp)).cell 5
                have hop := Lib.hid (live_open h5)
                have kk := HA.out.trans h5.out (by simp)
                clear h5 Hinn
                go_wp2_with fail
                refine hop.out.mono ?_
                rintro e w6 ⟨rfl, rfl⟩
                have hlen := Hlen.out
                go_wp2
                go_ret
                exact ⟨by simp [hlen], kk⟩
            · have b1 : (fr == 5) = true := by simp [h1]
              have b2 : (to == 3) = true := by simp [h2]
              have b3 : (life == 7) = false := by simp [h3]
              have Hno := Lib.hid (show ¬ inOk ⟨100, sent, os, 0, [], false, 3, 5, 2, 7⟩ fr to life sq ack bs = true by simp [inOk]; omega)
              clear h1 h2 h3
              go_wp2_with fail
              refine Hinn.out.mono ?_
              clear e0 e1 e2 e3 e4 e5
              intro e w5 hp
              rw [if_neg Hno.out] at hp
              obtain ⟨rfl, h5⟩ := hp
              have c0 : w5.cell? ⟨w.heap.size, 0, none⟩ = some (.int .i64 fr) := (bA.keep h5.out (by simp)).cell 0
              have c1 : w5.cell? ⟨w.heap.size, 1, none⟩ = some (.int .i64 to) := (bA.keep h5.out (by simp)).cell 1
              have c2 : w5.cell? ⟨w.heap.size, 2, none⟩ = some (.int .i64 life) := (bA.keep h5.out (by simp)).cell 2
              have c3 : w5.cell? ⟨w.heap.size, 3, none⟩ = some (.int .i64 sq) := (bA.keep h5.out (by simp)).cell 3
              have c4 : w5.cell? ⟨w.heap.size, 4, none⟩ = some (.int .i64 ack) := (bA.keep h5.out (by simp)).cell 4
              have c5 : w5.cell? ⟨w.heap.size, 5, none⟩ = some (.slice ab bs.length cb) := (bA.keep h5.out (by simp)).cell 5
              have hop := Lib.hid (live_open h5)
              have kk := HA.out.trans h5.out (by simp)
              clear h5 Hinn
              go_wp2_with fail
              refine hop.out.mono ?_
              rintro e w6 ⟨rfl, rfl⟩
              have hlen := Hlen.out
              go_wp2
              go_ret
              exact ⟨by simp [hlen], kk⟩
          · have b1 : (fr == 5) = true := by simp [h1]
            have b2 : (to == 3) = false := by simp [h2]
            have Hno := Lib.hid (show ¬ inOk ⟨100, sent, os, 0, [], false, 3, 5, 2, 7⟩ fr to life sq ack bs = true by simp [inOk]; omega)
            clear h1 h2
            go_wp2_with fail
            refine Hinn.out.mono ?_
            clear e0 e1 e2 e3 e4 e5
            intro e w5 hp
            rw [if_neg Hno.out] at hp
            obtain ⟨rfl, h5⟩ := hp
            have c0 : w5.cell? ⟨w.heap.size, 0, none⟩ = some (.int .i64 fr) := (bA.keep h5.out (by simp)).cell 0
            have c1 : w5.cell? ⟨w.heap.size, 1, none⟩ = some (.int .i64 to) := (bA.keep h5.out (by simp)).cell 1
            have c2 : w5.cell? ⟨w.heap.size, 2, none⟩ = some (.int .i64 life) := (bA.keep h5.out (by simp)).cell 2
            have c3 : w5.cell? ⟨w.heap.size, 3, none⟩ = some (.int .i64 sq) := (bA.keep h5.out (by simp)).cell 3
            have c4 : w5.cell? ⟨w.heap.size, 4, none⟩ = some (.int .i64 ack) := (bA.keep h5.out (by simp)).cell 4
            have c5 : w5.cell? ⟨w.heap.size, 5, none⟩ = some (.slice ab bs.length cb) := (bA.keep h5.out (by simp)).cell 5
            have hop := Lib.hid (live_open h5)
            have kk := HA.out.trans h5.out (by simp)
            clear h5 Hinn
            go_wp2_with fail
            refine hop.out.mono ?_
            rintro e w6 ⟨rfl, rfl⟩
            have hlen := Hlen.out
            go_wp2
            go_ret
            exact ⟨by simp [hlen], kk⟩
        · have b1 : (fr == 5) = false := by simp [h1]
          have Hno := Lib.hid (show ¬ inOk ⟨100, sent, os, 0, [], false, 3, 5, 2, 7⟩ fr to life sq ack bs = true by simp [inOk]; omega)
          clear h1
          go_wp2_with fail
          refine Hinn.out.mono ?_
          clear e0 e1 e2 e3 e4 e5
          intro e w5 hp
          rw [if_neg Hno.out] at hp
          obtain ⟨rfl, h5⟩ := hp
          have c0 : w5.cell? ⟨w.heap.size, 0, none⟩ = some (.int .i64 fr) := (bA.keep h5.out (by simp)).cell 0
          have c1 : w5.cell? ⟨w.heap.size, 1, none⟩ = some (.int .i64 to) := (bA.keep h5.out (by simp)).cell 1
          have c2 : w5.cell? ⟨w.heap.size, 2, none⟩ = some (.int .i64 life) := (bA.keep h5.out (by simp)).cell 2
          have c3 : w5.cell? ⟨w.heap.size, 3, none⟩ = some (.int .i64 sq) := (bA.keep h5.out (by simp)).cell 3
          have c4 : w5.cell? ⟨w.heap.size, 4, none⟩ = some (.int .i64 ack) := (bA.keep h5.out (by simp)).cell 4
          have c5 : w5.cell? ⟨w.heap.size, 5, none⟩ = some (.slice ab bs.length cb) := (bA.keep h5.out (by simp)).cell 5
          have hop := Lib.hid (live_open h5)
          have kk := HA.out.trans h5.out (by simp)
          clear h5 Hinn
          go_wp2_with fail
          refine hop.out.mono ?_
          rintro e w6 ⟨rfl, rfl⟩
          have hlen := Hlen.out
          go_wp2
          go_ret
          exact ⟨by simp [hlen], kk⟩
  · have hc : sent < 0 ∨ (0 ≤ sent ∧ 8 < sent) ∨ ((0 ≤ sent ∧ sent ≤ 8) ∧ 5000 < bs.length) := by omega
    clear hin
    go_enter Try.func6, Try.ntmps6
    go_wp2_with fail
    refine (alive_spec _).mono ?_
    rintro e w1 ⟨rfl, k1⟩
    have d5 : w1.cell? ⟨w.heap.size, 5, none⟩ = some (.slice ab bs.length cb) := (bA.keep k1 (by simp)).cell 5
    have kk := HA.out.trans k1 (by simp)
    rcases hc with h | ⟨h, h'⟩ | ⟨⟨h, h'⟩, h2⟩
    · have b1 : decide (sent < 0) = true := by simpa using h
      go_wp2
      go_ret
      exact ⟨rfl, kk⟩
    · have b1 : decide (sent < 0) = false := by simpa using h
      have b2 : decide (8 < sent) = true := by simpa using h'
      go_wp2
      go_ret
      exact ⟨rfl, kk⟩
    · have b1 : decide (sent < 0) = false := by simpa using h
      have b2 : decide (8 < sent) = false := by simpa using h'
      have b3 : decide ((5000 : Int) < (bs.length : Int)) = true := by simp; omega
      clear h h' h2
      go_wp2
      go_ret
      exact ⟨rfl, kk⟩
theorem walk_linkLives {H : Type} {enc : TypeId × Value → H} (W : World) {v : Value} {sent : Int} {d1 : DataW H} {p1 : List MemPlace} {base : Nat}
    (o1 : Value.okWide Try.prog W .any base 46 v) (h1 : DataW.Trod enc Try.prog W 0 (fun _ => true) true 46 v d1 p1) (_ : (Lit.int .i64 sent).wf = true) :
    Calls Try.prog 6 #[v, .int .i64 sent] W fun e w' => e = .returned (.bool true) ∧ Below W.heap.size W w' := by
  obtain ⟨f, rfl, hf⟩ := frame_open o1 h1
  exact (linkLives_any W _ _ _ _ _ sent f.bs f.v hf.bytes hf.sq).mono fun _ _ ⟨he, hk⟩ => ⟨he, hk.to_below⟩
end Go.Proofs.Ytacifjjhadjhfaa
