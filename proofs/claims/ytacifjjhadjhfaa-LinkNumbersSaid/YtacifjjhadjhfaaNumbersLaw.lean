/- LinkNumbers: the walk. -/
import Derived.Test.YtacifjjhadjhfaaLinkX2
namespace Go.Proofs.Ytacifjjhadjhfaa
open Go.RowKit
/-- loads just sent, of one byte each -/
def SentB (os : List LD) (u : Int) : Prop := ∀ (j : Nat) (s : LD), os[j]? = some s → s.seq = u + j + 1 ∧ s.times = 0 ∧ s.at_ = 0 ∧ s.bs.length = 1
theorem SentB.add {os : List LD} {u k : Int} (h : SentB os u) (hk : k = u + os.length + 1) (x : UInt8) (bv : Value) : SentB (os ++ [⟨k, 0, 0, [x], bv⟩]) u := by
  intro j s hs
  rcases Nat.lt_trichotomy j os.length with hj | hj | hj
  · rw [List.getElem?_append_left hj] at hs
    exact h j s hs
  · subst hj
    rw [List.getElem?_append_right (by omega)] at hs
    simp at hs
    subst hs
    exact ⟨hk, rfl, rfl, rfl⟩
  · rw [List.getElem?_eq_none (by simp; omega)] at hs
    cases hs
theorem SentB.ok {os : List LD} {u seq upto : Int} {kept : List LD} {owed : Bool} {self peer life theirs last : Int} (h : SentB os u) (hl : os.length ≤ 100) (h1 : 0 ≤ seq) (h2 : last ≤ 9223372036854775807) : OkL ⟨last, seq, os, upto, kept, owed, self, peer, life, theirs⟩ :=
  ⟨h1, h2, hl, fun s hs => by
    obtain ⟨j, hj, rfl⟩ := List.mem_iff_getElem.1 hs
    obtain ⟨_, h3, h4, h5⟩ := h j _ (List.getElem?_eq_getElem hj)
    rw [h3, h4, h5]
    simp⟩
theorem SentB.out {os : List LD} {u : Int} (h : SentB os u) (last seq : Int) (now : Int) : outF ⟨last, seq, os, 0, [], false, 0, 1, 1, 1⟩ now = os.map fun s => ((0 : Int), (1 : Int), (1 : Int), s.seq, (0 : Int), s.bs) := by
  have hd : ∀ s ∈ os, dueL s now = true := fun s hs => by
    obtain ⟨j, hj, rfl⟩ := List.mem_iff_getElem.1 hs
    obtain ⟨_, h3, _⟩ := h j _ (List.getElem?_eq_getElem hj)
    unfold dueL
    rw [h3]
    simp
  unfold outF outD
  simp only [Bool.and_false, Bool.false_eq_true, if_false]
  rw [List.filter_eq_self.2 hd]
/-- all that is acknowledged is gone -/
theorem keep_none {ack : Int} {os : List LD} (h : ∀ s ∈ os, s.seq ≤ ack) : keepL ack os = [] := by
  unfold keepL
  rw [List.filter_eq_nil_iff]
  intro s hs
  have := h s hs
  simp [ackB, this]
theorem frame_at {fs : List FR} {l : List FD} {k : Nat} {d : FD} (h : fs.map frd = l) (hk : l[k]? = some d) : ∃ f, fs[k]? = some f ∧ frd f = d := by
  rw [← h, List.getElem?_map] at hk
  cases hf : fs[k]? with
  | none => rw [hf] at hk; cases hk
  | some f => rw [hf] at hk; exact ⟨f, rfl, by simpa using hk⟩
theorem in_next {q : LK} {k : Int} {bs : List UInt8} {bv : Value} (hk : q.kept = []) (hu : 0 ≤ q.upto) (h : k = q.upto + 1) : (inR (ackd q 0) k bs bv).1 = k ∧ (inR (ackd q 0) k bs bv).2.1 = [] := by
  have e1 : (ackd q 0).kept = [] := hk
  have e2 : (ackd q 0).upto = q.upto := rfl
  subst h
  have ht : gotTake (ackd q 0) (q.upto + 1) = true := by
    unfold gotTake
    rw [e1, e2]
    simp
    omega
  unfold inR
  rw [if_pos ⟨by omega, ht⟩, e1, e2]
  simp [runK]
set_option maxHeartbeats 8000000 in
set_option maxRecDepth 100000 in
theorem linkNumbers_any (w : World) (last n : Int) : Calls Try.prog 8 #[.int .i64 last, .int .i64 n] w fun e w' => e = .returned (.bool true) ∧ Keep [] w w' := by
  by_cases hin : (0 ≤ last ∧ last ≤ 50) ∧ 0 ≤ n ∧ n ≤ 100
  · obtain ⟨⟨g1, g2⟩, g3, g4⟩ := hin
    go_enter Try.func8, Try.ntmps8
    go_wp2_with fail
    refine (alive_spec _).mono ?_
    rintro e w1 ⟨rfl, k1⟩
    go_wp2_with fail
    refine (lx_new (X := []) w1 0 1 1 1 last w k1 (by simp)).mono ?_
    rintro e w2 ⟨pa, rfl, h2, k2⟩
    go_wp2_with fail
    refine (new_spec w2 1 0 1 1 10).mono ?_
    rintro e w3 ⟨pb, Fb, rfl, h3, k3⟩
    have h4 : LX2 [] w1.heap.size pa ⟨last, 0, [], 0, [], false, 0, 1, 1, 1⟩ w2.heap.size pb ⟨10, 0, [], 0, [], false, 1, 0, 1, 1⟩ w w3 := by
      refine ⟨Fb, ?_, h3, fun x hx => ⟨by have := (h3.lt x hx).1; have := h2.out.size; omega, by simp⟩, k3.size⟩
      exact (h2.more (Y := Fb) k3 (fun x hx => h3.lt x hx))
    clear h2 h3 k2 k3 k1
    go_wp2_with fail
    go_loopw [8, 9, 10, 11, 12, 13, 14, 15, 51, 55] (fun v8 v9 _ _ _ _ _ _ _ _ wr => ∃ (i S c : Nat) (os : List LD), (i : Int) ≤ n ∧ v9 = .int .i64 i ∧ v8 = .int .i64 S ∧ (S : Int) ≤ last ∧ os.length = c ∧ c ≤ 7 ∧ c ≤ S ∧ SentB os ((S : Int) - c) ∧ LX2 [] w1.heap.size pa ⟨last, S, os, 0, [], false, 0, 1, 1, 1⟩ w2.heap.size pb ⟨10, 0, [], (S : Int) - c, [], false, 1, 0, 1, 1⟩ w wr) (fun _ v _ _ _ _ _ _ _ _ _ => (n - intOf v).toNat)
    case atStart => exact ⟨0, 0, 0, [], by omega, rfl, rfl, by omega, rfl, by omega, by omega, (fun j s h => by cases h), by simpa using h4⟩
    case round =>
      clear h4
      obtain ⟨i, S, c, os, hin, rfl, rfl, hSl, hlen, hc7, hcS, hsb, h5⟩ := hrel
      by_cases hlt : (i : Int) < n
      · have hwU : IntKind.u8.wrap (i : Int) = (i : Int) := IntWalk.u8_in _ (by omega)
        obtain ⟨x, hx⟩ : ∃ x : UInt8, x = UInt8.ofNat (i : Int).toNat := ⟨_, rfl⟩
        have hux : Value.int .u8 (i : Int) = u8 x := by rw [hx]; exact u8_of (by omega)
        have hwi : IntKind.i64.wrap ((i : Int) + 1) = (i : Int) + 1 := IntWalk.i64_in _ (by omega)
        have hwS : IntKind.i64.wrap ((S : Int) + 1) = (S : Int) + 1 := IntWalk.i64_in _ (by omega)
        have hwM : IntKind.i64.wrap (1000 * (i : Int)) = 1000 * (i : Int) := IntWalk.i64_in _ (by omega)
        have h6 := h5.more (Y := [wr.heap.size]) ((Keep.refl [] wr).alloc (.cells #[u8 x] 5)) (fun z hz => by
          obtain rfl : z = wr.heap.size := by simpa using hz
          exact ⟨Nat.le_refl _, by simp⟩)
        have hb6 : Blk (wr.alloc (.cells #[u8 x] 5)) wr.heap.size 5 [u8 x] := Blk.new _ _ _
        have hsnd := l2_send (bs := [x]) (v := .slice (some ⟨wr.heap.size, 0, none⟩) 1 1) h6 (fun w' hk => bytes1 (hk.blk hb6 (by simp))) (by simp) (by simp) (by simp only; omega)
        rw [← hux] at hsnd
        have Hsnd := Lib.hid hsnd
        have Hsb := Lib.hid hsb
        have Hlen := Lib.hid hlen
        clear h5 h6 hb6 hsnd hux hx hsb hlen
        go_wp2_with fail
        refine Hsnd.out.mono ?_
        rintro e w6 ⟨hp, kx6⟩
        clear Hsnd kx6
        unfold SentP at hp
        rw [if_neg (by simp)] at hp
        by_cases hSL : last ≤ (S : Int)
        · rw [if_pos hSL] at hp
          obtain ⟨rfl, h7⟩ := hp
          have h7 := h7.sub (Y := []) (by simp)
          have bS : decide (last ≤ (S : Int)) = true := by simpa using hSL
          have b8 : ((os.length : Int) == 8) = false := by have := Hlen.out; simp; omega
          clear hSL
          go_wp2_with fail
          refine (num_spec _ 32 (by omega)).mono ?_
          rintro e w7 ⟨rfl, rfl⟩
          go_wp2_with fail
          refine (num_spec _ 32 (by omega)).mono ?_
          rintro e w7 ⟨rfl, rfl⟩
          have hop := Lib.hid (l2_open h7)
          go_wp2_with fail
          refine hop.out.mono ?_
          rintro e w7 ⟨rfl, rfl⟩
          clear hop
          go_wp2
          go_roundw
          case rel => exact ⟨i + 1, S, c, os, by omega, by go_num, rfl, hSl, Hlen.out, hc7, hcS, Hsb.out, h7⟩
          case measure => simp [intOf]; omega
        · rw [if_neg hSL, if_neg (by simp only; have := Hlen.out; omega)] at hp
          obtain ⟨rfl, bv, h7⟩ := hp
          have h7 := h7.sub (Y := []) (by simp)
          have hsb2 := Hsb.out.add (k := (S : Int) + 1) (by have := Hlen.out; omega) x bv
          obtain ⟨os2, hos2⟩ : ∃ l, l = os ++ [(⟨(S : Int) + 1, 0, 0, [x], bv⟩ : LD)] := ⟨_, rfl⟩
          have h7 : LX2 [] w1.heap.size pa ⟨last, (S : Int) + 1, os2, 0, [], false, 0, 1, 1, 1⟩ w2.heap.size pb ⟨10, 0, [], (S : Int) - c, [], false, 1, 0, 1, 1⟩ w w6 := by rw [hos2]; exact h7
          have hl2 : os2.length = c + 1 := by rw [hos2]; simp [Hlen.out]
          rw [← hos2] at hsb2
          have bS : decide (last ≤ (S : Int)) = false := by simpa using hSL
          have hSl2 : (S : Int) + 1 ≤ last := by omega
          clear hSL hos2
          by_cases hc : c = 7
          · have bo : decide (8 ≤ (os2.length : Int)) = true := by simp; omega
            have b8 : ((os2.length : Int) == 8) = true := by simp; omega
            have Hl2 := Lib.hid hl2
            clear hl2
            have hop := Lib.hid (l2_open h7)
            go_wp2_with fail
            refine hop.out.mono ?_
            rintro e w7 ⟨rfl, rfl⟩
            clear hop
            go_wp2_with fail
            refine (num_spec _ 0 (by omega)).mono ?_
            rintro e w7 ⟨rfl, rfl⟩
            go_wp2_with fail
            refine (num_spec _ 0 (by omega)).mono ?_
            rintro e w7 ⟨rfl, rfl⟩
            go_wp2_with fail
            refine (num_spec _ 0 (by omega)).mono ?_
            rintro e w7 ⟨rfl, rfl⟩
            have hop := Lib.hid (l2_open h7)
            go_wp2_with fail
            refine hop.out.mono ?_
            rintro e w7 ⟨rfl, rfl⟩
            clear hop
            have hos : os2.length = 8 := by have := Hl2.out; omega
            have Hos := Lib.hid hos
            have ho := Lib.hid (l2_out (1000 * (i : Int)) h7 (hsb2.ok (by omega) (by omega) (by omega)) (by omega))
            have hof := Lib.hid (hsb2.out last ((S : Int) + 1) (1000 * (i : Int)))
            have Hsb2 := Lib.hid hsb2
            clear hsb2 h7 hos
            go_wp2_with fail
            refine ho.out.mono ?_
            rintro e w8 ⟨v8, fs, rfl, hfd, hfs, h8, kx8⟩
            rw [hof.out] at hfd
            have hfl : fs.length = 8 := by have := congrArg List.length hfd; simp only [List.length_map] at this; have := Hos.out; omega
            obtain ⟨os3, hos3⟩ : ∃ l : List LD, l = os2.map (outUpd (1000 * (i : Int))) := ⟨_, rfl⟩
            have h8 : LX2 (frAll v8 fs ++ []) w1.heap.size pa ⟨last, (S : Int) + 1, os3, 0, [], false, 0, 1, 1, 1⟩ w2.heap.size pb ⟨10, 0, [], (S : Int) - 7, [], false, 1, 0, 1, 1⟩ w w8 := by
              rw [hos3]
              have : (S : Int) - c = (S : Int) - 7 := by omega
              rw [this] at h8
              exact h8
            have Hos3 := Lib.hid hos3
            have Hfd := Lib.hid hfd
            obtain ⟨a8, c8, rfl⟩ := hfs.rows.shape
            rw [hfl] at h8 hfs
            clear ho hof hfd kx8 hos3 b8 bo
            rw [hfl]
            go_wp2_with fail
            obtain ⟨B8, hB8⟩ : ∃ B8, B8 = w6.heap.size := ⟨_, rfl⟩
            rw [List.append_nil] at h8
            go_loopw [13] (fun v13 wr2 => ∃ (k : Nat) (o : Bool), k ≤ 8 ∧ v13 = .int .i64 k ∧ (k = 8 → o = true) ∧ FramesIn wr2 w6.heap.size (.slice a8 8 c8) fs ∧ LX2 (frAll (.slice a8 8 c8) fs) w1.heap.size pa ⟨last, (S : Int) + 1, os3, 0, [], false, 0, 1, 1, 1⟩ w2.heap.size pb ⟨10, 0, [], (S : Int) - 7 + k, [], o, 1, 0, 1, 1⟩ w wr2) (fun v _ => (8 - intOf v).toNat)
            case atStart => exact ⟨0, false, by omega, rfl, (fun h => by omega), hfs, by simpa using h8⟩
            case round =>
              clear h8 hfs
              obtain ⟨k, o, hk8, rfl, hko, hfr, h9⟩ := hrel
              have hwk : IntKind.i64.wrap ((k : Int) + 1) = (k : Int) + 1 := IntWalk.i64_in _ (by omega)
              by_cases hkl : k < 8
              · have hkI : (k : Int) < 8 := by omega
                obtain ⟨s, hs⟩ : ∃ s, os2[k]? = some s := ⟨_, List.getElem?_eq_getElem (by have := Hos.out; omega)⟩
                obtain ⟨t1, _, _, t4⟩ := Hsb2.out k s hs
                obtain ⟨f, hfk, hfd⟩ := frame_at (k := k) Hfd.out (by rw [List.getElem?_map, hs]; rfl)
                have f1 : f.fr = 0 := congrArg (fun t => t.1) hfd
                have f2 : f.to = 1 := congrArg (fun t => t.2.1) hfd
                have f3 : f.life = 1 := congrArg (fun t => t.2.2.1) hfd
                have f4 : f.seq = s.seq := congrArg (fun t => t.2.2.2.1) hfd
                have f5 : f.ack = 0 := congrArg (fun t => t.2.2.2.2.1) hfd
                have f6 : f.bs = s.bs := congrArg (fun t => t.2.2.2.2.2) hfd
                have hrows := hfr.rows
                rw [hfl] at hrows
                obtain ⟨g, off, rfl, _, hgl, hcell, hcap, _⟩ := hrows.rowAt FR.c_len hfk (by omega)
                have hby := bytes_of_off (hfr.bytes f (List.mem_of_getElem? hfk))
                obtain ⟨sv, hsv⟩ : ∃ sv : Int, sv = f.seq := ⟨_, rfl⟩
                have hsv2 : sv = (S : Int) - 7 + k + 1 := by omega
                have c0 := hcell 0 (.int .i64 0) (by omega) (by rw [← f1]; rfl)
                have c1 := hcell 1 (.int .i64 1) (by omega) (by rw [← f2]; rfl)
                have c2 := hcell 2 (.int .i64 1) (by omega) (by rw [← f3]; rfl)
                have c3 := hcell 3 (.int .i64 sv) (by omega) (by rw [hsv]; rfl)
                have c4 := hcell 4 (.int .i64 0) (by omega) (by rw [← f5]; rfl)
                have c5 := hcell 5 f.bv (by omega) rfl
                rw [Nat.add_zero] at c0
                have hbl : f.bs.length = 1 := by rw [f6]; exact t4
                have hinn := l2_in (fr := 0) (to := 1) (life := 1) (sq := sv) (ack := 0) (bs := f.bs) (v := f.bv) h9.swap (fun w' hk => hk.bytes hby (fun x hx => by simp only [frAll, List.mem_append]; exact Or.inr (mem_frBlocks.2 ⟨f, List.mem_of_getElem? hfk, mem_own.1 hx⟩))) (by simp only; omega) (by omega) (by simp) (by simp) (by simp [inOk, hbl]; omega)
                have hnx : ∀ bv, _ := fun bv => in_next (q := ⟨10, 0, [], (S : Int) - 7 + k, [], o, 1, 0, 1, 1⟩) (k := sv) (bs := f.bs) (bv := bv) rfl (by simp only; omega) (by simp only; omega)
                have Hnx := Lib.hid hnx
                have Hinn := Lib.hid hinn
                have Hsv := Lib.hid hsv2
                have Hfr := Lib.hid hfr
                clear hcell hby hfr hinn hnx hsv hsv2 hfd hfk f1 f2 f3 f4 f5 f6 t1 t4 hs hrows h9 hbl
                generalize f.bv = bvf at *
                go_wp2_with fail
                refine Hinn.out.mono ?_
                rintro e w10 ⟨bv, vr, rfl, _, h10, kx10⟩
                have hn := Hnx.out bv
                rw [hn.1, hn.2] at h10
                have hfr10 := kx10.frames Hfr.out (fun x hx => by simp [frAll, hx]) (fun x hx => by simp [frAll, hx])
                have h10 := h10.swap
                have h10 : LX2 (frAll (.slice (some ⟨g, off, none⟩) 8 c8) fs) w1.heap.size pa ⟨last, (S : Int) + 1, os3, 0, [], false, 0, 1, 1, 1⟩ w2.heap.size pb ⟨10, 0, [], sv, [], o || decide (sv ≠ 0), 1, 0, 1, 1⟩ w w10 := h10
                clear Hinn Hnx hn c0 c1 c2 c3 c4 c5
                go_wp2
                go_roundw
                case rel =>
                  have hs2 := Hsv.out
                  rw [show sv = (S : Int) - 7 + ((k + 1 : Nat) : Int) by omega] at h10
                  refine ⟨k + 1, _, by omega, by go_num, fun h => ?_, hfr10, h10⟩
                  simp
                  omega
                case measure => simp [intOf]; omega
              · obtain rfl : k = 8 := by omega
                obtain rfl := hko rfl
                have h9 := (h9.sub (Y := []) (by simp)).swap
                have hS8 : (S : Int) - 7 + ((8 : Nat) : Int) = (S : Int) + 1 := by omega
                rw [hS8] at h9
                have ho := Lib.hid (l2_out (1000 * (i : Int)) h9 ⟨by simp, by simp, by simp, by simp⟩ (by omega))
                clear h9 hfr hS8 hko
                go_wp2_with fail
                refine ho.out.mono ?_
                rintro e w11 ⟨v11, fs11, rfl, hfd, hfs, h11, kx11⟩
                have hfd2 : fs11.map frd = [((1 : Int), (0 : Int), (1 : Int), (0 : Int), (S : Int) + 1, ([] : List UInt8))] := hfd
                obtain ⟨f, rfl, hff⟩ := one_frame hfd2
                obtain ⟨g, off2, cap2, rfl, _, _, _, hg2, hcell2⟩ := hfs.rows.form (by simp)
                have f1 : f.fr = 1 := congrArg (fun t => t.1) hff
                have f2 : f.to = 0 := congrArg (fun t => t.2.1) hff
                have f3 : f.life = 1 := congrArg (fun t => t.2.2.1) hff
                have f4 : f.seq = 0 := congrArg (fun t => t.2.2.2.1) hff
                have f5 : f.ack = (S : Int) + 1 := congrArg (fun t => t.2.2.2.2.1) hff
                have f6 : f.bs = [] := congrArg (fun t => t.2.2.2.2.2) hff
                have c0 : w11.cell? ⟨g, off2, none⟩ = some (.int .i64 1) := by have := hcell2 0 (.int .i64 f.fr) rfl; rw [f1] at this; exact this
                have c1 : w11.cell? ⟨g, off2 + 1, none⟩ = some (.int .i64 0) := by have := hcell2 1 (.int .i64 f.to) rfl; rw [f2] at this; exact this
                have c2 : w11.cell? ⟨g, off2 + 2, none⟩ = some (.int .i64 1) := by have := hcell2 2 (.int .i64 f.life) rfl; rw [f3] at this; exact this
                have c3 : w11.cell? ⟨g, off2 + 3, none⟩ = some (.int .i64 0) := by have := hcell2 3 (.int .i64 f.seq) rfl; rw [f4] at this; exact this
                have c4 : w11.cell? ⟨g, off2 + 4, none⟩ = some (.int .i64 ((S : Int) + 1)) := by have := hcell2 4 (.int .i64 f.ack) rfl; rw [f5] at this; exact this
                have c5 : w11.cell? ⟨g, off2 + 5, none⟩ = some f.bv := hcell2 5 _ rfl
                have hby := bytes_of_off (hfs.bytes f (by simp))
                rw [f6] at hby
                have h12 := h11.swap
                have h12 : LX2 (frAll (.slice (some ⟨g, off2, none⟩) 1 cap2) [f] ++ []) w1.heap.size pa ⟨last, (S : Int) + 1, os3, 0, [], false, 0, 1, 1, 1⟩ w2.heap.size pb ⟨10, 0, [], (S : Int) + 1, [], false, 1, 0, 1, 1⟩ w w11 := h12
                have hseq3 : ∀ s ∈ os3, s.seq ≤ (S : Int) + 1 := fun s hs => by
                  rw [Hos3.out, List.mem_map] at hs
                  obtain ⟨t, ht, rfl⟩ := hs
                  obtain ⟨j, hj, rfl⟩ := List.mem_iff_getElem.1 ht
                  have := (Hsb2.out j _ (List.getElem?_eq_getElem hj)).1
                  rw [(upd_bv _ _).2.2]
                  have := Hos.out
                  omega
                have hl3 : os3.length = 8 := by rw [Hos3.out]; simpa using Hos.out
                have hinn := l2_in (fr := 1) (to := 0) (life := 1) (sq := 0) (ack := (S : Int) + 1) (bs := []) (v := f.bv) h12 (fun w' hk => hk.bytes hby (fun x hx => by simp only [frAll, List.mem_append]; exact Or.inl (Or.inr (mem_frBlocks.2 ⟨f, by simp, mem_own.1 hx⟩)))) (by simp) (by omega) (by simp) (by simp only; omega) (by simp [inOk])
                have Hinn := Lib.hid hinn
                have Hseq3 := Lib.hid hseq3
                clear hcell2 hby hinn hff f1 f2 f3 f4 f5 f6 h11 h12 hfd hfd2 hfs hseq3 hl3 ho kx11
                generalize f.bv = bvf at *
                go_wp2_with fail
                go_loopw [15] (fun v15 wr3 => (v15 = .int .i64 0 ∧ w11 = wr3) ∨ (v15 = .int .i64 1 ∧ LX2 [] w1.heap.size pa ⟨last, (S : Int) + 1, [], 0, [], false, 0, 1, 1, 1⟩ w2.heap.size pb ⟨10, 0, [], (S : Int) + 1, [], false, 1, 0, 1, 1⟩ w wr3)) (fun v _ => (1 - intOf v).toNat)
                case atStart => exact Or.inl ⟨rfl, rfl⟩
                case round =>
                  rcases hrel with ⟨rfl, rfl⟩ | ⟨rfl, h13⟩
                  · go_wp2_with fail
                    refine Hinn.out.mono ?_
                    rintro e w13 ⟨bv2, vr2, rfl, _, h13, _⟩
                    have h13 := h13.sub (Y := []) (by simp)
                    have h13 : LX2 [] w1.heap.size pa ⟨last, (S : Int) + 1, keepL ((S : Int) + 1) os3, 0, [], false, 0, 1, 1, 1⟩ w2.heap.size pb ⟨10, 0, [], (S : Int) + 1, [], false, 1, 0, 1, 1⟩ w w13 := h13
                    rw [keep_none Hseq3.out] at h13
                    clear Hinn c0 c1 c2 c3 c4 c5
                    go_wp2
                    go_roundw
                    case rel => exact Or.inr ⟨by go_num, h13⟩
                    case measure => simp [intOf]
                  · have hop := Lib.hid (l2_open h13)
                    clear Hinn c0 c1 c2 c3 c4 c5
                    go_wp2_with fail
                    refine hop.out.mono ?_
                    rintro e w14 ⟨rfl, rfl⟩
                    clear hop
                    go_wp2
                    go_roundw
                    case rel =>
                      refine ⟨i + 1, S + 1, 0, [], by omega, by go_num, by go_num, by omega, rfl, by omega, by omega, (fun j s h => by cases h), ?_⟩
                      rw [show (((S + 1 : Nat) : Int) - ((0 : Nat) : Int)) = (S : Int) + 1 by omega, Int.natCast_add]
                      exact h13
                    case measure => simp [intOf]; omega
          · have bo : decide (8 ≤ (os2.length : Int)) = false := by simp; omega
            have b8 : ((os2.length : Int) == 8) = false := by simp; omega
            have Hl2 := Lib.hid hl2
            clear hl2
            have hop := Lib.hid (l2_open h7)
            go_wp2_with fail
            refine hop.out.mono ?_
            rintro e w7 ⟨rfl, rfl⟩
            clear hop
            go_wp2_with fail
            refine (num_spec _ 0 (by omega)).mono ?_
            rintro e w7 ⟨rfl, rfl⟩
            go_wp2_with fail
            refine (num_spec _ 0 (by omega)).mono ?_
            rintro e w7 ⟨rfl, rfl⟩
            have hop := Lib.hid (l2_open h7)
            go_wp2_with fail
            refine hop.out.mono ?_
            rintro e w7 ⟨rfl, rfl⟩
            clear hop
            go_wp2
            go_roundw
            case rel =>
              refine ⟨i + 1, S + 1, c + 1, os2, by omega, by go_num, by go_num, by omega, Hl2.out, by omega, by omega, ?_, ?_⟩
              · rw [show (((S + 1 : Nat) : Int) - ((c + 1 : Nat) : Int)) = (S : Int) - c by omega]; exact hsb2
              · rw [show (((S + 1 : Nat) : Int) - ((c + 1 : Nat) : Int)) = (S : Int) - c by omega, Int.natCast_add]; exact h7
            case measure => simp [intOf]; omega
      · have kk := h5.out
        have hsq := Lib.hid (l2_seq h5)
        clear h5 hsb hlen
        go_wp2_with fail
        refine hsq.out.mono ?_
        rintro e w6 ⟨rfl, rfl⟩
        go_wp2
        go_ret
        exact ⟨by simp, kk⟩
  · have hc : last < 0 ∨ (0 ≤ last ∧ 50 < last) ∨ ((0 ≤ last ∧ last ≤ 50) ∧ n < 0) ∨ ((0 ≤ last ∧ last ≤ 50) ∧ 0 ≤ n ∧ 100 < n) := by omega
    clear hin
    go_enter Try.func8, Try.ntmps8
    go_wp2_with fail
    refine (alive_spec _).mono ?_
    rintro e w1 ⟨rfl, k1⟩
    rcases hc with h | ⟨h, h'⟩ | ⟨⟨h, h'⟩, h2⟩ | ⟨⟨h, h'⟩, h2, h3⟩
    all_goals (go_wp2; go_ret; exact ⟨rfl, k1⟩)
theorem walk_linkNumbers (W : World) {n t : Int} (_ : (Lit.int .i64 n).wf = true) (_ : (Lit.int .i64 t).wf = true) : Calls Try.prog 8 #[.int .i64 n, .int .i64 t] W fun e w' => e = .returned (.bool true) ∧ Below W.heap.size W w' :=
  (linkNumbers_any W n t).mono fun _ _ ⟨he, hk⟩ => ⟨he, hk.to_below⟩
end Go.Proofs.Ytacifjjhadjhfaa
