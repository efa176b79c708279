/- LinkOrder: the walk. -/
import Derived.Test.YtacifjjhadjhfaaOrderPlain
namespace Go.Proofs.Ytacifjjhadjhfaa
open Go.RowKit
def seenC (f : Int → Bool) : List Value := (List.range 10).map fun (j : Nat) => .bool (f j)
theorem seenC_at (f : Int → Bool) {k : Nat} (h : k < 10) : (seenC f)[k]? = some (.bool (f k)) := by
  unfold seenC
  rw [List.getElem?_map, List.getElem?_range h]
  rfl
theorem seenC_set (f : Int → Bool) (k : Nat) : (seenC f).set k (.bool true) = seenC (fun j => f j || j == (k : Int)) := by
  apply List.ext_getElem?
  intro i
  unfold seenC
  rw [List.getElem?_set]
  by_cases hi : i < 10
  · rw [List.getElem?_map, List.getElem?_map, List.getElem?_range hi]
    by_cases hk : k = i
    · subst hk
      simp [hi]
    · have : ((i : Int) == (k : Int)) = false := by simp; omega
      simp [hk, this]
  · rw [List.getElem?_eq_none (by simp; omega), List.getElem?_eq_none (by simp; omega)]
    split
    · rw [if_neg (by simp; omega)]
    · rfl
theorem Try.info4 : (Try.prog.info? 4).map (fun i => (i.zero, i.size, i.bytes)) = some (some (.bool false), 1, 1) := by kernel_rfl
theorem run_make_bools (w : World) :
    (Instr.makeSlice 41 (.int .i64 10) (.int .i64 10)).run Try.prog w = .ok (.slice (some ⟨w.heap.size, 0, none⟩) 10 10) (w.alloc (.cells (seenC fun _ => false).toArray 4)) := by
  obtain ⟨i0, hi, hz0, hz1, hz2⟩ := info_parts Try.info4
  have := run_make (P := Try.prog) w 41 4 i0 _ Try.underlying41 hi hz0 .i64 .i64 10 10 (by omega) (Int.le_refl _) (by rw [hz2]; omega) (by omega)
  rw [this, hz1]
  have e : madeCells (Value.bool false).cells ((10 : Int).toNat * 1) = (seenC fun _ => false).toArray := by
    apply Array.toList_inj.1
    rw [show (Value.bool false).cells = #[.bool false] from rfl, toList_madeCells_one]
    rfl
  rw [e]
  rfl
theorem one_frame {fs : List FR} {d : FD} (h : fs.map frd = [d]) : ∃ f, fs = [f] ∧ frd f = d := by
  match fs, h with
  | [], h => simp at h
  | [f], h => exact ⟨f, rfl, by simpa using h⟩
  | _ :: _ :: _, h => simp at h
theorem u8_of {k : Int} (h : 0 ≤ k ∧ k ≤ 255) : Value.int .u8 k = u8 (UInt8.ofNat k.toNat) := by
  unfold u8
  rw [UInt8.toNat_ofNat_of_lt' (by have : UInt8.size = 256 := rfl; omega)]
  congr 1
  omega
set_option maxHeartbeats 8000000 in
set_option maxRecDepth 100000 in
theorem linkOrder_any (w : World) (n : Int) (v : Value) (ys : List Int) (hv : IntsOf w v ys) : Calls Try.prog 4 #[.int .i64 n, v] w fun e w' => e = .returned (.bool true) ∧ Keep [] w w' := by
  obtain ⟨av, cv, rfl⟩ := hv.shape
  by_cases hin : (1 ≤ n ∧ n ≤ 8) ∧ ys.length ≤ 60
  · obtain ⟨⟨g1, g2⟩, g3⟩ := hin
    have hmk := run_make_bools
    go_enter Try.func4, Try.ntmps4
    go_wp2_with fail
    refine (alive_spec _).mono ?_
    rintro e w1 ⟨rfl, k1⟩
    have Hv := Lib.hid hv
    clear hv
    go_wp2_with fail
    refine (lx_new (X := []) w1 1 0 1 1 100 w k1 (by simp)).mono ?_
    rintro e w2 ⟨p, rfl, h2, k2⟩
    have h3 := h2.more (Y := [w2.heap.size]) ((Keep.refl [] w2).alloc (.cells (seenC fun _ => false).toArray 4)) (fun x hx => by
      obtain rfl : x = w2.heap.size := by simpa using hx
      exact ⟨Nat.le_refl _, by simp⟩)
    have hb3 : Blk (w2.alloc (.cells (seenC fun _ => false).toArray 4)) w2.heap.size 4 (seenC fun _ => false) := Blk.new _ _ _
    have hib : w.heap.size ≤ w2.heap.size := h2.out.size
    obtain ⟨ib, hibe⟩ : ∃ n, n = w2.heap.size := ⟨_, rfl⟩
    rw [List.append_nil] at h3
    have Hib := Lib.hid hib
    clear h2 k2 hib
    go_wp2_with fail
    go_loopw [8, 9, 10, 11, 12, 13, 14] (fun v8 v9 _ _ _ _ _ wr => ∃ (i u : Nat) (ks : List LD), (i : Int) ≤ ys.length ∧ v9 = .int .i64 i ∧ v8 = .int .i64 ((u : Int) + 1) ∧ OrdL ⟨100, 0, [], (u : Int), ks, false, 1, 0, 1, 1⟩ n ∧ ks.length ≤ i ∧ LX [w2.heap.size] w1.heap.size p w wr ⟨100, 0, [], (u : Int), ks, false, 1, 0, 1, 1⟩ ∧ Blk wr w2.heap.size 4 (seenC (seenB (u : Int) ks))) (fun _ v _ _ _ _ _ _ => ((ys.length : Int) - intOf v).toNat)
    case atStart =>
      refine ⟨0, 0, [], by omega, rfl, rfl, ⟨by simp, by simp only; omega, rfl, by simp, by simp⟩, by simp, h3, ?_⟩
      have : (fun _ => false) = seenB ((0 : Nat) : Int) [] := by
        funext k
        rw [Eq.comm, Bool.eq_false_iff]
        intro h
        rcases seen_iff.1 h with h1 | ⟨s, hs, _⟩
        · omega
        · cases hs
      rw [← this]
      exact hb3
    case round =>
      clear h3 hb3
      obtain ⟨i, u, ks, hil, rfl, rfl, hord, hks, h4, hb4⟩ := hrel
      by_cases hlt : i < ys.length
      · have hltI : (i : Int) < (ys.length : Int) := by omega
        obtain ⟨b, off, rfl, hb, hcell⟩ := (Hv.out.keep0 h4.out).at_ hlt
        have e0 := hcell i _ (List.getElem?_eq_getElem hlt)
        have hbits := bits_and_mask ys[i] 4 (by omega)
        generalize ys[i] = y at *
        have hb2 : bits BinOp.and IntKind.i64 y 15 = y % 16 := hbits
        obtain ⟨kk, hkk, hkl⟩ : ∃ kk : Nat, (bits BinOp.and IntKind.i64 y 15).tmod n = (kk : Int) ∧ (kk : Int) < n := by
          refine ⟨((y % 16) % n).toNat, ?_, ?_⟩
          · rw [hb2, Int.tmod_eq_emod_of_nonneg (by omega), Int.toNat_of_nonneg (Int.emod_nonneg _ (by omega))]
          · rw [Int.toNat_of_nonneg (Int.emod_nonneg _ (by omega))]
            exact Int.emod_lt_of_pos _ (by omega)
        clear hcell hbits hb2
        have hn0 : (n == 0) = false := by simp; omega
        obtain ⟨K, hK⟩ : ∃ K : Nat, K = kk + 1 := ⟨_, rfl⟩
        have hwA : IntKind.i64.wrap (1 + (kk : Int)) = (K : Int) := by rw [IntWalk.i64_in _ (by omega)]; omega
        have hwT : IntKind.i64.wrap (kk : Int) = (kk : Int) := IntWalk.i64_in _ (by omega)
        have hK1 : 1 ≤ (K : Int) ∧ (K : Int) ≤ n := by omega
        clear hK hkl
        have hwU : IntKind.u8.wrap (K : Int) = (K : Int) := IntWalk.u8_in _ (by omega)
        obtain ⟨x, hx⟩ : ∃ x : UInt8, x = UInt8.ofNat (K : Int).toNat := ⟨_, rfl⟩
        have hux : Value.int .u8 (K : Int) = u8 x := by rw [hx]; exact u8_of (by omega)
        have h5 := h4.more (Y := [wr.heap.size]) ((Keep.refl [] wr).alloc (.cells #[u8 x] 5)) (fun z hz => by
          obtain rfl : z = wr.heap.size := by simpa using hz
          exact ⟨Nat.le_refl _, by simp⟩)
        have hb5 : Blk (wr.alloc (.cells #[u8 x] 5)) wr.heap.size 5 [u8 x] := Blk.new _ _ _
        have hb6 : Blk (wr.alloc (.cells #[u8 x] 5)) w2.heap.size 4 (seenC (seenB (u : Int) ks)) := hb4.alloc _
        have hinn := lx_in (fr := 0) (to := 1) (life := 1) (sq := (K : Int)) (ack := 0) (bs := [x]) (v := .slice (some ⟨wr.heap.size, 0, none⟩) 1 1) h5 (fun w' hk => bytes1 (hk.blk hb5 (by simp))) (by simp only; have := hord.un; simp only at this; omega) (by omega) (by simp only; omega) (by simp)
        rw [hux.symm] at hinn
        have Hok := Lib.hid (show inOk ⟨100, 0, [], (u : Int), ks, false, 1, 0, 1, 1⟩ 0 1 1 (K : Int) 0 [x] = true by simp [inOk])
        have Hinn := Lib.hid hinn
        have Hb6 := Lib.hid hb6
        have Hord := Lib.hid hord
        clear h4 hb4 hn0 h5 hb5 hinn hb6 hord
        rw [← hux] at Hb6
        have Hux := Lib.hid hux
        clear hux
        have hn0 : (n == 0) = false := by simp; omega
        go_wp2_with fail
        refine Hinn.out.mono ?_
        rintro e w6 ⟨hp, kx6⟩
        unfold InX at hp
        rw [if_pos Hok.out] at hp
        obtain ⟨bv, vr, rfl, ho, h6⟩ := hp
        have hb7 := kx6.blk Hb6.out (by simp)
        have hst := Hord.out.step (k := (K : Int)) (by omega) hK1 bv
        rw [← hx] at hst
        obtain ⟨r, hr⟩ : ∃ r, r = inR (ackd ⟨100, 0, [], (u : Int), ks, false, 1, 0, 1, 1⟩ 0) (K : Int) [x] bv := ⟨_, rfl⟩
        rw [← hr] at hst h6 ho
        obtain ⟨s1, s2, s3, s4, s5⟩ := hst
        have s3 := s3 false
        obtain ⟨u2, ks2, os⟩ := r
        simp only at s1 s2 s3 s4 s5 h6 ho
        have k7 : Keep [w2.heap.size] w6 (w6.setCell ⟨w2.heap.size, K, none⟩ (.bool true)) := (Keep.refl _ _).setCell (by simp) _
        have h7 := (h6.sub (Y := [w2.heap.size]) (by simp)).keepX k7 (fun z hz => ⟨hz, by rw [show z = w2.heap.size by simpa using hz]; exact Hib.out⟩)
        have hb8 := hb7.set_ K (.bool true)
        rw [seenC_set] at hb8
        have ho7 := ho.keep k7 (fun z hz hm => ho.rows.ne_blk hb7 (by decide) (mem_own.1 ((show z = w2.heap.size by simpa using hm) ▸ hz))) (fun s hs z hz hm => OwnsAt.ne_blk (ho.bytes s hs) hb7 (by decide) (mem_own.1 ((show z = w2.heap.size by simpa using hm) ▸ hz)))
        have hc7 := (hb7.cell K).trans (seenC_at _ (by omega))
        have hf7 := hb7.frozen K
        clear Hinn ho h6 hb7 k7 e0 hb hwU hn0 hwT hwA
        obtain ⟨ar, cr, rfl⟩ := ho7.rows.shape
        obtain ⟨o, ho, h7⟩ : ∃ o, o = true ∧ LX [w2.heap.size] w1.heap.size p w (w6.setCell ⟨w2.heap.size, K, none⟩ (.bool true)) ⟨100, 0, [], u2, ks2, o, 1, 0, 1, 1⟩ := ⟨_, by simp; omega, h7⟩
        subst ho
        have s3 : OrdL ⟨100, 0, [], u2, ks2, false, 1, 0, 1, 1⟩ n := s3
        go_wp2_with fail
        generalize w6.setCell ⟨w2.heap.size, K, none⟩ (.bool true) = w7 at h7 hb8 ho7 ⊢
        have hu2 := s3.un
        simp only at hu2
        have hnx := s3.next
        simp only at hnx
        obtain ⟨N2, hN2⟩ : ∃ N2 : Nat, (N2 : Int) = u2 + 1 := ⟨u + os.length + 1, by omega⟩
        have hin2 : w7.cell? ⟨w2.heap.size, N2, none⟩ = some (.bool false) := by
          rw [(hb8.cell N2).trans (seenC_at _ (by omega)), ← s4, hN2, hnx]
        have Hs2 := Lib.hid s2
        have Hs3 := Lib.hid s3
        have Hs4 := Lib.hid s4
        have Hho := Lib.hid ho7
        have Hb8 := Lib.hid hb8
        clear s2 s3 s4 ho7 hb8 hc7 hf7 hmk
        go_loopw [8, 13] (fun v8 v13 wr => ∃ j N : Nat, j ≤ os.length ∧ (N : Int) = (u : Int) + 1 + j ∧ v13 = .int .i64 j ∧ v8 = .int .i64 (N : Int) ∧ w7 = wr) (fun _ v _ => ((os.length : Int) - intOf v).toNat)
        case atStart => exact ⟨0, u + 1, by omega, by simp, rfl, by go_num, rfl⟩
        case round =>
          obtain ⟨j, N, hj, hN, rfl, rfl, rfl⟩ := hrel
          by_cases hjl : j < os.length
          · have hjI : (j : Int) < (os.length : Int) := by omega
            obtain ⟨h1, h2⟩ := Hs2.out j _ (List.getElem?_eq_getElem hjl)
            obtain ⟨g, off2, cap2, hv2, _, _, _, hg2, hcell2⟩ := Hho.out.rows.form (by omega)
            injection hv2 with ea eb ec
            subst ea ec
            have c1 : w7.cell? ⟨g, off2 + j, none⟩ = some os[j].bv := hcell2 j _ (by rw [List.getElem?_map, List.getElem?_eq_getElem hjl]; rfl)
            have hby := bytes_of_off (Hho.out.bytes _ (List.getElem_mem hjl))
            rw [h1] at hby
            obtain ⟨a3, c3, hv3, hh3⟩ := hby
            obtain ⟨b3, off3, rfl, hb3, hcell3⟩ := hh3 (by simp)
            have c2 : w7.cell? ⟨b3, off3, none⟩ = some (.int .u8 (N : Int)) := by
              have := hcell3 0 _ rfl
              rw [← u8_of (by omega), Nat.add_zero] at this
              rw [hN]
              exact this
            rw [hv3] at c1
            have c4 : w7.cell? ⟨w2.heap.size, N, none⟩ = some (.bool true) := by
              rw [(Hb8.out.cell N).trans (seenC_at _ (by omega)), hN, h2]
            have hN10 : (N : Int) < 10 := by omega
            have hwN : IntKind.i64.wrap (N : Int) = (N : Int) := IntWalk.i64_in _ (by omega)
            have hwN1 : IntKind.i64.wrap ((N : Int) + 1) = (N : Int) + 1 := IntWalk.i64_in _ (by omega)
            have hwj : IntKind.i64.wrap ((j : Int) + 1) = (j : Int) + 1 := IntWalk.i64_in _ (by omega)
            have HN := Lib.hid hN
            have HN2 := Lib.hid hN2
            clear hcell2 hcell3 hh3 h1 h2 hin2 hN hv3 hN2 hnx hu2
            go_wp2
            go_roundw
            case rel => exact ⟨j + 1, N + 1, by omega, by have := HN.out; omega, by go_num, by go_num, by first | rfl | trivial⟩
            case measure => simp [intOf]; omega
          · obtain rfl : j = os.length := by omega
            obtain rfl : N = N2 := by omega
            have hout := Lib.hid (lx_out (i : Int) h7 ⟨by simp, by simp, by simp, by simp⟩ (by omega))
            have hN10 : (N : Int) < 10 := by omega
            have hwi : IntKind.i64.wrap ((i : Int) + 1) = (i : Int) + 1 := IntWalk.i64_in _ (by omega)
            have hwu : IntKind.i64.wrap ((N : Int) - 1) = u2 := by rw [IntWalk.i64_in _ (by omega)]; omega
            have HN := Lib.hid hN
            have HN2 := Lib.hid hN2
            clear h7 hnx hu2 hN hN2
            go_wp2_with fail
            refine hout.out.mono ?_
            rintro e w8 ⟨v8, fs, rfl, hfd, hfs, hl8, kx8⟩
            have hfd2 : fs.map frd = [((1 : Int), (0 : Int), (1 : Int), (0 : Int), u2, ([] : List UInt8))] := hfd
            obtain ⟨f, rfl, hff⟩ := one_frame hfd2
            obtain ⟨g, off2, cap2, rfl, _, _, _, hg2, hcell2⟩ := hfs.rows.form (by simp)
            have c3 : w8.cell? ⟨g, off2 + 3, none⟩ = some (.int .i64 0) := by
              have h3 : f.seq = 0 := congrArg (fun t => t.2.2.2.1) hff
              have := hcell2 3 (.int .i64 f.seq) rfl
              rw [h3] at this
              exact this
            have c4 : w8.cell? ⟨g, off2 + 4, none⟩ = some (.int .i64 u2) := by
              have h3 : f.ack = u2 := congrArg (fun t => t.2.2.2.2.1) hff
              have := hcell2 4 (.int .i64 f.ack) rfl
              rw [h3] at this
              exact this
            have h8 := hl8 [] (by simp)
            have h8 : LX [w2.heap.size] w1.heap.size p w w8 ⟨100, 0, [], u2, ks2, false, 1, 0, 1, 1⟩ := h8
            have hb9 := kx8.blk Hb8.out (by simp)
            have hout := Lib.hid (lx_out (i : Int) h8 ⟨by simp, by simp, by simp, by simp⟩ (by omega))
            clear hcell2 hfs hfd hfd2 hff hl8 kx8 h8 hin2
            go_wp2_with fail
            refine hout.out.mono ?_
            rintro e w9 ⟨v9, fs9, rfl, hfd, hfs, hl9, kx9⟩
            have hfd2 : fs9.map frd = [] := hfd
            obtain rfl : fs9 = [] := by simpa using hfd2
            obtain ⟨a9, c9, rfl⟩ := hfs.rows.shape
            have h9 : LX [w2.heap.size] w1.heap.size p w w9 ⟨100, 0, [], u2, ks2, false, 1, 0, 1, 1⟩ := hl9 [] (by simp)
            have hb9 := kx9.blk hb9 (by simp)
            have Hb9 := Lib.hid hb9
            clear hfd hfd2 hfs hl9 kx9 hb9 c3 c4
            go_wp2
            go_roundw
            case rel =>
              have hb9 := Hb9.out
              rw [show (fun j => seenB (u : Int) ks j || j == (K : Int)) = seenB u2 ks2 from funext fun j => (Hs4.out j).symm] at hb9
              obtain ⟨U, hU⟩ : ∃ U : Nat, (U : Int) = u2 := ⟨u + os.length, by omega⟩
              rw [← hU] at h9 hb9
              have s3 := Hs3.out
              rw [← hU] at s3
              exact ⟨i + 1, U, ks2, by omega, by go_num, by have := HN2.out; go_num, s3, by omega, h9, hb9⟩
            case measure => simp [intOf]; omega
      · have kk := h4.out
        clear h4 hb4 hord
        go_wp2
        go_ret
        exact ⟨rfl, kk⟩
  · have hc : n < 1 ∨ (1 ≤ n ∧ 8 < n) ∨ ((1 ≤ n ∧ n ≤ 8) ∧ 60 < ys.length) := by omega
    clear hin hv
    go_enter Try.func4, Try.ntmps4
    go_wp2_with fail
    refine (alive_spec _).mono ?_
    rintro e w1 ⟨rfl, k1⟩
    rcases hc with h | ⟨h, h'⟩ | ⟨⟨h, h'⟩, h2⟩
    · have b1 : decide (n < 1) = true := by simpa using h
      go_wp2
      go_ret
      exact ⟨rfl, k1⟩
    · have b1 : decide (n < 1) = false := by simpa using h
      have b2 : decide (8 < n) = true := by simpa using h'
      go_wp2
      go_ret
      exact ⟨rfl, k1⟩
    · have b1 : decide (n < 1) = false := by simpa using h
      have b2 : decide (8 < n) = false := by simpa using h'
      have b3 : decide ((60 : Int) < (ys.length : Int)) = true := by simp; omega
      clear h h' h2
      go_wp2
      go_ret
      exact ⟨rfl, k1⟩
theorem walk_linkOrder {H : Type} {enc : TypeId × Value → H} (W : World) {v : Value} {n : Int} {d1 : DataW H} {p1 : List MemPlace} {base : Nat}
    (_ : (Lit.int .i64 n).wf = true) (o1 : Value.okWide Try.prog W .any base 40 v) (h1 : DataW.Trod enc Try.prog W 0 (fun _ => true) true 40 v d1 p1) :
    Calls Try.prog 4 #[.int .i64 n, v] W fun e w' => e = .returned (.bool true) ∧ Below W.heap.size W w' := by
  obtain ⟨ys, hys, _⟩ := ints_open Try.underlying40 Try.underlying3 (by kernel_rfl) o1 h1
  exact (linkOrder_any W n v ys hys).mono fun _ _ ⟨he, hk⟩ => ⟨he, hk.to_below⟩
end Go.Proofs.Ytacifjjhadjhfaa
