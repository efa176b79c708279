/- The contracts of rings that grow. -/
import Derived.Test.YtkeaekckblpfjaaRows
import Derived.Test.YtkeaekckblpfjaaBase
import Derived.WalkKit
import Derived.WalkSpells
import Derived.WalkLawsBesides
import Derived.RegionTactic
import Derived.ChangeAlike
import Derived.BigQuiet
import Derived.Deep.QuietTactic
import Derived.StillTailTactics
import Derived.IntWalk
import Derived.Handy
import Derived.Lib.Hide
import Derived.Test.YtkeaekckblpfjaaTail
import Derived.Test.YtkeaekckblpfjaaRing
namespace Go.Proofs.Ytkeaekckblpfjaa
open Go.RowKit

/-! ### Grown -/
/-- what is in the greater ring when k numbers have been taken over -/
def ringMoves (g src : List Int) (frm : Int) : Nat → List Int
  | 0 => g
  | k + 1 => ringPut (ringMoves g src frm k) (frm + k) (ringGet src (frm + k))
@[simp] theorem ringMoves_length (g src : List Int) (frm : Int) : ∀ k, (ringMoves g src frm k).length = g.length
  | 0 => rfl
  | k + 1 => by simp [ringMoves, ringMoves_length g src frm k]
def ringTwice (n : Nat) : Nat := if n < 65536 then 2 * n else n
def ringCount (n : Nat) (frm to : Int) : Nat := min (to - frm).toNat n
def ringGrown (l : List Int) (frm to : Int) : List Int :=
  ringMoves (List.replicate (ringTwice l.length) 0) l frm (ringCount l.length frm to)
theorem ringIdx_wrap (i : Int) {n : Nat} (h : IsP2 n) : ringIdx (wrap64 i) n = ringIdx i n := by
  obtain ⟨k, hk, rfl⟩ := h
  have hd : ((2 ^ k : Nat) : Int) ∣ 18446744073709551616 := by
    have : ((2 ^ 64 : Nat) : Int) = 18446744073709551616 := by decide
    rw [← this]
    exact Int.natCast_dvd_natCast.2 (Nat.pow_dvd_pow 2 (by omega))
  have hd2 : ((2 ^ k : Nat) : Int) ∣ 9223372036854775808 := by
    have : ((2 ^ 63 : Nat) : Int) = 9223372036854775808 := by decide
    rw [← this]
    exact Int.natCast_dvd_natCast.2 (Nat.pow_dvd_pow 2 (by omega))
  unfold ringIdx wrap64
  congr 1
  obtain ⟨c, hc⟩ := hd2
  rw [Int.sub_emod, Int.emod_emod_of_dvd _ hd, ← Int.sub_emod]
  congr 1
  omega
theorem ringPut_wrap (l : List Int) (i x : Int) (h : IsP2 l.length) : ringPut l (wrap64 i) x = ringPut l i x := by simp only [ringPut, ringIdx_wrap i h]
theorem ringGet_wrap (l : List Int) (i : Int) (h : IsP2 l.length) : ringGet l (wrap64 i) = ringGet l i := by simp only [ringGet, ringIdx_wrap i h]
theorem ringSize_twice {n : Nat} (h : IsP2 n) : ringSize (min (2 * (n : Int)) 65536) = ringTwice n := by
  obtain ⟨k, hk, rfl⟩ := h
  have : ∀ k, k ≤ 16 → ringSize (min (2 * ((2 ^ k : Nat) : Int)) 65536) = ringTwice (2 ^ k) := by decide
  exact this k hk
theorem IsP2.double {n : Nat} (h : IsP2 n) : n = 65536 ∨ 2 * n ≤ 65536 := by
  obtain ⟨k, hk, rfl⟩ := h
  have : ∀ k, k ≤ 16 → (2 ^ k = 65536 ∨ 2 * 2 ^ k ≤ 65536) := by decide
  exact this k hk
set_option maxHeartbeats 400000 in
theorem grown_spec {w : World} {p b : Nat} {l : List Int} (frm to : Int) (h : RingAt 62 w p b l) (hf : -9223372036854775808 ≤ frm ∧ frm ≤ 9223372036854775807) (ht : -9223372036854775808 ≤ to ∧ to ≤ 9223372036854775807) :
    Calls Try.prog 20 #[.pointer (some ⟨p, 0, none⟩), .int .i64 frm, .int .i64 to] w (NewRing 62 (ringGrown l frm to) w) := by
  have hp := h.cell
  have hbl := h.body.lt
  have hpl := h.head.lt
  have htw := ringSize_twice h.p2
  have hcase : (65536 < 2 * (l.length : Int) ∨ 2 * (l.length : Int) ≤ 65536) ∧ (l.length : Int) ≤ 65537 := by
    have := h.p2.double
    omega
  obtain ⟨hcase, hle'⟩ := hcase
  have Hl := Lib.hid h
  generalize hn : l.length = n at *
  have Hn := Lib.hid hn
  clear h hn
  obtain ⟨hf1, hf2⟩ := hf
  obtain ⟨ht1, ht2⟩ := ht
  have hmin : ∀ x, (x = 65536 ∧ 65536 < 2 * (n : Int)) ∨ (x = 2 * (n : Int) ∧ 2 * (n : Int) ≤ 65536) → ringSize x = ringTwice n := fun x hx => by
    rw [← htw]
    congr 1
    omega
  have Hmin := Lib.hid hmin
  clear hmin htw
  rcases hcase with hcase | hcase
  all_goals
    go_enter Try.func20, Try.ntmps20
    go_wp2_with fail
    refine (new_spec _ _ _ [] (IntsOf.nil _) (by simp)).mono ?_
    rintro e w1 ⟨p', b', rfl, hp1, hb1, hr1, hk1⟩
    have hr2 : RingAt 62 w1 p' b' (ringMoves (List.replicate (ringTwice n) 0) l frm 0) := by
      rw [← Hmin.out _ (by first | exact Or.inl ⟨rfl, hcase⟩ | exact Or.inr ⟨rfl, hcase⟩)]
      exact hr1
    have hl1 : RingAt 62 w1 p b l := Hl.out.keep hk1 (by simp) (by simp)
    have hp' := hl1.cell
    rw [Hn.out] at hp'
    clear hr1 Hmin hp Hl
    have fin : ∀ (m : Nat) (wr : World), m = ringCount n frm to → RingAt 62 wr p' b' (ringMoves (List.replicate (ringTwice n) 0) l frm m) → RingAt 62 wr p' b' (ringGrown l frm to) := by
      intro m wr hm hr
      unfold ringGrown
      rw [Hn.out, ← hm]
      exact hr
    have Fin := Lib.hid fin
    clear fin
    by_cases hlt : frm < to
    · obtain ⟨D, hD⟩ : ∃ D : Nat, (D : Int) = to - frm := ⟨(to - frm).toNat, by omega⟩
      have hd : IntKind.u64.wrap (IntKind.u64.wrap to - IntKind.u64.wrap frm) = (D : Int) := by
        simp only [IntKind.wrap_u64]
        omega
      have hfD : frm + (D : Int) = to := by omega
      clear hD
      obtain ⟨m, hm, hmD, hmn⟩ : ∃ m : Nat, m = min D n ∧ m ≤ D ∧ m ≤ n := ⟨_, rfl, by omega, by omega⟩
      have Hm := Lib.hid (show m = ringCount n frm to by unfold ringCount; omega)
      have HfD := Lib.hid hfD
      have hD1 : frm + (D : Int) ≤ 9223372036854775807 := by omega
      clear hfD
      by_cases hc : n < D
      · obtain rfl : m = n := by omega
        have hc1 : (m : Int) < (D : Int) := by omega
        clear hm
        go_wp2_with fail
        go_loopw [35] (fun v wr => ∃ k : Nat, k ≤ m ∧ v = .int .i64 k ∧ RingAt 62 wr p' b' (ringMoves (List.replicate (ringTwice m) 0) l frm k) ∧ RingAt 62 wr p b l ∧ Keep [] w wr) (fun v _ => m - (intOf v).toNat)
        case atStart => exact ⟨0, by omega, rfl, hr2, hl1, hk1⟩
        case round =>
          obtain ⟨k, hk, rfl, hr, hl2, hkeep⟩ := hrel
          clear hr2 hl1 hp' hd
          by_cases hkm : k < m
          · go_wp2_with fail
            refine (get_spec _ hl2).mono ?_
            rintro e w2 ⟨rfl, q, rfl⟩
            go_wp2_with fail
            refine (put_spec _ _ (hr.drewN q)).mono ?_
            rintro e w3 ⟨rfl, hr3, hk3⟩
            have hl3 : RingAt 62 w3 p b l := (hl2.drewN q).keep hk3 (by have hpb : p ≠ b' := (by omega); simpa using hpb) (by have hbb : b ≠ b' := (by omega); simpa using hbb)
            have hk4 : Keep [] w w3 := (hkeep.drewN q).trans hk3 (by simp; omega)
            clear hk3 hkeep hl2 hr
            go_wp2
            go_roundw
            case rel => exact ⟨k + 1, by omega, by go_num, hr3, hl3, hk4⟩
            case measure => simp [intOf]; omega
          · obtain rfl : k = m := by omega
            go_wp2
            go_ret
            exact ⟨p', b', rfl, hp1, hb1, Fin.out _ _ Hm.out hr, hkeep⟩
      · obtain rfl : m = D := by omega
        have hc1 : (m : Int) ≤ (n : Int) := by omega
        clear hm
        go_wp2_with fail
        go_loopw [35] (fun v wr => ∃ k : Nat, k ≤ m ∧ v = .int .i64 k ∧ RingAt 62 wr p' b' (ringMoves (List.replicate (ringTwice n) 0) l frm k) ∧ RingAt 62 wr p b l ∧ Keep [] w wr) (fun v _ => m - (intOf v).toNat)
        case atStart => exact ⟨0, by omega, rfl, hr2, hl1, hk1⟩
        case round =>
          obtain ⟨k, hk, rfl, hr, hl2, hkeep⟩ := hrel
          clear hr2 hl1 hp' hd
          by_cases hkm : k < m
          · go_wp2_with fail
            refine (get_spec _ hl2).mono ?_
            rintro e w2 ⟨rfl, q, rfl⟩
            go_wp2_with fail
            refine (put_spec _ _ (hr.drewN q)).mono ?_
            rintro e w3 ⟨rfl, hr3, hk3⟩
            have hl3 : RingAt 62 w3 p b l := (hl2.drewN q).keep hk3 (by have hpb : p ≠ b' := (by omega); simpa using hpb) (by have hbb : b ≠ b' := (by omega); simpa using hbb)
            have hk4 : Keep [] w w3 := (hkeep.drewN q).trans hk3 (by simp; omega)
            clear hk3 hkeep hl2 hr
            go_wp2
            go_roundw
            case rel => exact ⟨k + 1, by omega, by go_num, hr3, hl3, hk4⟩
            case measure => simp [intOf]; omega
          · obtain rfl : k = m := by omega
            go_wp2
            go_ret
            exact ⟨p', b', rfl, hp1, hb1, Fin.out _ _ Hm.out hr, hkeep⟩
    · have h0 : 0 = ringCount n frm to := by unfold ringCount; omega
      have H0 := Lib.hid h0
      clear h0
      go_wp2_with fail
      refine wp_loop_rounds 1 ?_
      rw [rounds_succ]
      go_wp2
      go_ret
      exact ⟨p', b', rfl, hp1, hb1, Fin.out _ _ H0.out hr2, hk1⟩
theorem ringAt_new (T : TypeId) (w : World) (N M : Nat) (h : M = N) (hp2 : IsP2 M) :
    RingAt T ((w.alloc (Obj.cells (zeroCells N) 3)).alloc (Obj.cells #[Value.slice (some { block := w.heap.size, off := 0 }) N N] T)) (w.heap.size + 1) w.heap.size (List.replicate M 0) := by
  subst h
  refine ⟨?_, (Blk.new w 3 _).alloc _, by simpa using hp2⟩
  have := Blk.new (w.alloc (Obj.cells (zeroCells M) 3)) T [Value.slice (some { block := w.heap.size, off := 0 }) M M]
  simpa using this
set_option maxHeartbeats 400000 in
theorem rgrown_spec {w : World} {p b : Nat} {l : List Int} (frm to : Int) (h : RingAt 36 w p b l) (hf : -9223372036854775808 ≤ frm ∧ frm ≤ 9223372036854775807) (ht : -9223372036854775808 ≤ to ∧ to ≤ 9223372036854775807) :
    Calls Try.prog 21 #[.pointer (some ⟨p, 0, none⟩), .int .i64 frm, .int .i64 to] w (NewRing 36 (ringGrown l frm to) w) := by
  have hp := h.cell
  have hbl := h.body.lt
  have hpl := h.head.lt
  have hd := h.p2.double
  have hcase : (65536 < 2 * (l.length : Int) ∧ ringTwice l.length = 65536) ∨ (2 * (l.length : Int) ≤ 65536 ∧ ringTwice l.length = 2 * l.length) := by
    unfold ringTwice
    rcases hd with hd | hd
    · exact Or.inl ⟨by omega, by rw [if_neg (by omega)]; exact hd⟩
    · exact Or.inr ⟨by omega, by rw [if_pos (by have := h.p2.pos; omega)]⟩
  have hle' : (l.length : Int) ≤ 65537 := by omega
  have hp2 : IsP2 (ringTwice l.length) := ringSize_twice h.p2 ▸ ringSize_p2 _
  have Hl := Lib.hid h
  generalize hn : l.length = n at *
  have Hn := Lib.hid hn
  clear h hn hd
  obtain ⟨hf1, hf2⟩ := hf
  obtain ⟨ht1, ht2⟩ := ht
  obtain ⟨m, hm⟩ : ∃ m, m = ringCount n frm to := ⟨_, rfl⟩
  have hm1 : m ≤ n ∧ (frm + m ≤ to ∨ m = 0) ∧ (m = n ∨ to ≤ frm + m) := by unfold ringCount at hm; omega
  have Hm := Lib.hid hm
  clear hm
  rcases hcase with ⟨hcase, htw⟩ | ⟨hcase, htw⟩
  all_goals
    have hmk := run_make_ints (ringTwice n) hp2.le
    rw [htw] at hmk
    simp only [Int.natCast_mul, Int.cast_ofNat_Int] at hmk
    have Htw := Lib.hid htw
    clear htw
    go_enter Try.func21, Try.ntmps21
    have r0 := ringAt_new 36 w _ _ Htw.out hp2
    go_wp2
    go_loopw [1, 9] (fun f v wr => ∃ k : Nat, k ≤ m ∧ f = .int .i64 (frm + k) ∧ v = .int .i64 k ∧ RingAt 36 wr (w.heap.size + 1) w.heap.size (ringMoves (List.replicate (ringTwice n) 0) l frm k) ∧ RingAt 36 wr p b l ∧ Keep [] w wr) (fun _ v _ => m - (intOf v).toNat)
    case atStart => exact ⟨0, by omega, by simp, rfl, r0, (Hl.out.alloc _).alloc _, ((Keep.refl _ _).alloc _).alloc _⟩
    case round =>
      obtain ⟨k, hk, rfl, rfl, hr, hl2, hkeep⟩ := hrel
      clear r0 hmk hp
      have hp' := hl2.cell
      rw [Hn.out] at hp'
      by_cases hkm : k < m
      · have h1 : (k : Int) < n := by omega
        have h2 : frm + (k : Int) < to := by omega
        clear hm1
        go_wp2_with fail
        refine (rget_spec _ hl2).mono ?_
        rintro e w2 ⟨rfl, q, rfl⟩
        go_wp2_with fail
        refine (rput_spec _ _ (hr.drewN q)).mono ?_
        rintro e w3 ⟨rfl, hr3, hk3⟩
        have hl3 : RingAt 36 w3 p b l := (hl2.drewN q).keep hk3 (by have hpb : p ≠ w.heap.size := (by omega); simpa using hpb) (by have hbb : b ≠ w.heap.size := (by omega); simpa using hbb)
        have hk4 : Keep [] w w3 := (hkeep.drewN q).trans hk3 (by simp)
        clear hk3 hkeep hl2 hr hp'
        go_wp2
        go_roundw
        case rel => exact ⟨k + 1, by omega, by go_num, by go_num, hr3, hl3, hk4⟩
        case measure => simp [intOf]; omega
      · obtain rfl : k = m := by omega
        have hfin : RingAt 36 wr (w.heap.size + 1) w.heap.size (ringGrown l frm to) := by
          unfold ringGrown
          rw [Hn.out, ← Hm.out]
          exact hr
        by_cases h1 : (k : Int) < n
        · have h2 : ¬ frm + (k : Int) < to := by omega
          clear hm1
          go_wp2
          go_ret
          exact ⟨w.heap.size + 1, w.heap.size, rfl, by omega, by omega, hfin, hkeep⟩
        · clear hm1
          go_wp2
          go_ret
          exact ⟨w.heap.size + 1, w.heap.size, rfl, by omega, by omega, hfin, hkeep⟩
end Go.Proofs.Ytkeaekckblpfjaa
