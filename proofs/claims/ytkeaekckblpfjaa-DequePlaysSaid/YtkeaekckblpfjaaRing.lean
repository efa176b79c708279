/- The contracts of rings (the program's and the reference's): New, Size, Get, Put, Grown. -/
import Derived.Test.YtkeaekckblpfjaaRows
import Derived.Test.YtkeaekckblpfjaaBase
import Derived.WalkKit
import Derived.WalkSpells
import Derived.WalkLawsBesides
import Derived.RegionTactic
import Derived.ChangeAlike
import Derived.BigQuiet
import Derived.Deep.QuietTactic
import Derived.StillTailTactics
import Derived.IntWalk
import Derived.Handy
import Derived.Lib.Hide
import Derived.Test.YtkeaekckblpfjaaTail
namespace Go.Proofs.Ytkeaekckblpfjaa
open Go.RowKit

/-! ### What rings are, in plain words -/
def IsP2 (n : Nat) : Prop := ∃ k, k ≤ 16 ∧ n = 2 ^ k
theorem IsP2.pos {n : Nat} (h : IsP2 n) : 0 < n := by obtain ⟨k, _, rfl⟩ := h; exact Nat.two_pow_pos k
theorem IsP2.le {n : Nat} (h : IsP2 n) : n ≤ 65536 := by
  obtain ⟨k, hk, rfl⟩ := h
  exact Nat.le_trans (Nat.pow_le_pow_right (by decide) hk) (by decide)
def ringIdx (i : Int) (n : Nat) : Nat := (i % (n : Int)).toNat
theorem ringIdx_lt {n : Nat} (i : Int) (h : IsP2 n) : ringIdx i n < n := by
  have := h.pos
  unfold ringIdx
  have h1 := Int.emod_nonneg i (b := (n : Int)) (by omega)
  have h2 := Int.emod_lt_of_pos i (b := (n : Int)) (by omega)
  omega
theorem ringIdx_bits {n : Nat} (i : Int) (h : IsP2 n) : bits .and .i64 i ((n : Int) - 1) = (ringIdx i n : Int) := by
  obtain ⟨k, hk, rfl⟩ := h
  rw [bits_and_mask i k (by omega)]
  unfold ringIdx
  rw [Int.toNat_of_nonneg (Int.emod_nonneg _ (by have := Nat.two_pow_pos k; omega))]
def ringPut (l : List Int) (i x : Int) : List Int := l.set (ringIdx i l.length) x
def ringGet (l : List Int) (i : Int) : Int := l.getD (ringIdx i l.length) 0
@[simp] theorem ringPut_length (l : List Int) (i x : Int) : (ringPut l i x).length = l.length := by simp [ringPut]

/-- A ring in memory: block p holds the slice over block b, which holds the numbers. -/
structure RingAt (T : TypeId) (w : World) (p b : Nat) (l : List Int) : Prop where
  head : Blk w p T [.slice (some ⟨b, 0, none⟩) l.length l.length]
  body : Blk w b 3 (l.map (.int .i64))
  p2 : IsP2 l.length
section
variable {T : TypeId} {w w' : World} {p b : Nat} {l : List Int}
theorem RingAt.drewN (h : RingAt T w p b l) (n : Nat) : RingAt T (w.drewN n) p b l := ⟨h.head, h.body, h.p2⟩
theorem RingAt.drew (h : RingAt T w p b l) : RingAt T w.drew p b l := ⟨h.head, h.body, h.p2⟩
theorem RingAt.keep {S : List Nat} (h : RingAt T w p b l) (hk : Keep S w w') (hp : p ∉ S) (hb : b ∉ S) : RingAt T w' p b l := ⟨h.head.keep hk hp, h.body.keep hk hb, h.p2⟩
theorem RingAt.alloc (h : RingAt T w p b l) (o : Obj) : RingAt T (w.alloc o) p b l := ⟨h.head.alloc o, h.body.alloc o, h.p2⟩
theorem RingAt.cell (h : RingAt T w p b l) : w.cell? ⟨p, 0, none⟩ = some (.slice (some ⟨b, 0, none⟩) l.length l.length) := by rw [h.head.cell]; rfl
theorem RingAt.at_ (h : RingAt T w p b l) (i : Int) : w.cell? ⟨b, ringIdx i l.length, none⟩ = some (.int .i64 (ringGet l i)) := by
  have := ringIdx_lt i h.p2
  rw [h.body.cell]
  simp [ringGet, List.getElem?_eq_getElem this]
end

/-! ### Size -/
set_option maxHeartbeats 400000 in
theorem size_spec {w : World} {p b : Nat} {l : List Int} (h : RingAt 62 w p b l) :
    Calls Try.prog 15 #[.pointer (some ⟨p, 0, none⟩)] w fun e w' => e = .returned (.int .i64 l.length) ∧ ∃ n, w' = w.drewN n := by
  have hp := h.cell
  clear h
  go_enter Try.func15, Try.ntmps15
  go_wp2
  go_ret
  exact ⟨rfl, 0, rfl⟩

/-! ### Get -/
set_option maxHeartbeats 400000 in
theorem get_core (w : World) (p b n : Nat) (i x : Int) (j : Nat)
    (hp : w.cell? ⟨p, 0, none⟩ = some (.slice (some ⟨b, 0, none⟩) n n)) (hn0 : 0 < n) (hn : n ≤ 65536) (hj : j < n)
    (hbits : bits .and .i64 i ((n : Int) - 1) = (j : Int)) (hc : w.cell? ⟨b, j, none⟩ = some (.int .i64 x)) :
    Calls Try.prog 17 #[.pointer (some ⟨p, 0, none⟩), .int .i64 i] w fun e w' => e = .returned (.int .i64 x) ∧ ∃ n, w' = w.drewN n := by
  have hw1 : IntKind.i64.wrap ((n : Int) - 1) = (n : Int) - 1 := IntWalk.i64_in _ (by omega)
  go_enter Try.func17, Try.ntmps17
  go_wp2
  go_quiet (fail)
  go_wp2
  go_ret
  exact ⟨rfl, _, rfl⟩
theorem get_spec {w : World} {p b : Nat} {l : List Int} (i : Int) (h : RingAt 62 w p b l) :
    Calls Try.prog 17 #[.pointer (some ⟨p, 0, none⟩), .int .i64 i] w fun e w' => e = .returned (.int .i64 (ringGet l i)) ∧ ∃ n, w' = w.drewN n :=
  get_core w p b l.length i _ _ h.cell h.p2.pos h.p2.le (ringIdx_lt i h.p2) (ringIdx_bits i h.p2) (h.at_ i)
set_option maxHeartbeats 400000 in
theorem at_core (w : World) (p b n : Nat) (i : Int) (j : Nat)
    (hp : w.cell? ⟨p, 0, none⟩ = some (.slice (some ⟨b, 0, none⟩) n n)) (hn0 : 0 < n) (hn : n ≤ 65536)
    (hbits : bits .and .i64 i ((n : Int) - 1) = (j : Int)) :
    Calls Try.prog 37 #[.pointer (some ⟨p, 0, none⟩), .int .i64 i] w fun e w' => e = .returned (.int .i64 (j : Int)) ∧ ∃ n, w' = w.drewN n := by
  have hw1 : IntKind.i64.wrap ((n : Int) - 1) = (n : Int) - 1 := IntWalk.i64_in _ (by omega)
  go_enter Try.func37, Try.ntmps37
  go_wp2
  go_ret
  exact ⟨rfl, 0, rfl⟩
set_option maxHeartbeats 400000 in
theorem rget_core (w : World) (p b n : Nat) (i x : Int) (j : Nat)
    (hp : w.cell? ⟨p, 0, none⟩ = some (.slice (some ⟨b, 0, none⟩) n n)) (hn0 : 0 < n) (hn : n ≤ 65536) (hj : j < n)
    (hbits : bits .and .i64 i ((n : Int) - 1) = (j : Int)) (hc : w.cell? ⟨b, j, none⟩ = some (.int .i64 x)) :
    Calls Try.prog 22 #[.pointer (some ⟨p, 0, none⟩), .int .i64 i] w fun e w' => e = .returned (.int .i64 x) ∧ ∃ n, w' = w.drewN n := by
  go_enter Try.func22, Try.ntmps22
  go_wp2
  go_quiet ((go_at_call 37; exact Calls.quiet_of (at_core _ p b n i j hp hn0 hn hbits)))
  go_wp2
  go_ret
  exact ⟨rfl, _, rfl⟩
theorem rget_spec {w : World} {p b : Nat} {l : List Int} (i : Int) (h : RingAt 36 w p b l) :
    Calls Try.prog 22 #[.pointer (some ⟨p, 0, none⟩), .int .i64 i] w fun e w' => e = .returned (.int .i64 (ringGet l i)) ∧ ∃ n, w' = w.drewN n :=
  rget_core w p b l.length i _ _ h.cell h.p2.pos h.p2.le (ringIdx_lt i h.p2) (ringIdx_bits i h.p2) (h.at_ i)

/-! ### Put -/
set_option maxHeartbeats 400000 in
theorem put_core (w : World) (p b n : Nat) (i x y : Int) (j : Nat)
    (hp : w.cell? ⟨p, 0, none⟩ = some (.slice (some ⟨b, 0, none⟩) n n)) (hn0 : 0 < n) (hn : n ≤ 65536) (hj : j < n)
    (hbits : bits .and .i64 i ((n : Int) - 1) = (j : Int)) (hc : w.cell? ⟨b, j, none⟩ = some (.int .i64 y)) (hf : w.frozen? ⟨b, j, none⟩ = false) :
    Calls Try.prog 16 #[.pointer (some ⟨p, 0, none⟩), .int .i64 i, .int .i64 x] w fun e w' => e = .returned (.tuple #[]) ∧ ∃ n, w' = (w.setCell ⟨b, j, none⟩ (.int .i64 x)).drewN n := by
  have hw1 : IntKind.i64.wrap ((n : Int) - 1) = (n : Int) - 1 := IntWalk.i64_in _ (by omega)
  go_enter Try.func16, Try.ntmps16
  go_wp2
  go_still_tail 14, (by kernel_rfl)
  go_wp2
  go_end0
  exact ⟨rfl, _, rfl⟩
theorem put_step {T : TypeId} {w w' : World} {p b : Nat} {l : List Int} {i x : Int} (h : RingAt T w p b l) (hpb : p ≠ b) (hw : ∃ n, w' = (w.setCell ⟨b, ringIdx i l.length, none⟩ (.int .i64 x)).drewN n) :
    RingAt T w' p b (ringPut l i x) ∧ Keep [b] w w' := by
  obtain ⟨n, rfl⟩ := hw
  refine ⟨⟨?_, ?_, by simpa using h.p2⟩, ((Keep.refl _ _).setCell (Or.inl (by simp)) _).drewN n⟩
  · simpa using (h.head.far (p := ⟨b, ringIdx i l.length, none⟩) hpb (.int .i64 x)).drewN n
  · have := (h.body.set_ (ringIdx i l.length) (.int .i64 x)).drewN n
    simpa [ringPut, List.map_set] using this
theorem RingAt.ne {T : TypeId} {w : World} {p b : Nat} {l : List Int} (h : RingAt T w p b l) (hT : T ≠ 3) : p ≠ b := h.head.ne_ h.body hT
theorem put_spec {w : World} {p b : Nat} {l : List Int} (i x : Int) (h : RingAt 62 w p b l) :
    Calls Try.prog 16 #[.pointer (some ⟨p, 0, none⟩), .int .i64 i, .int .i64 x] w fun e w' => e = .returned (.tuple #[]) ∧ RingAt 62 w' p b (ringPut l i x) ∧ Keep [b] w w' :=
  (put_core w p b l.length i x _ _ h.cell h.p2.pos h.p2.le (ringIdx_lt i h.p2) (ringIdx_bits i h.p2) (h.at_ i) (h.body.frozen _)).mono
    fun _ _ ⟨he, hw⟩ => ⟨he, put_step h (h.ne (by decide)) hw⟩
set_option maxHeartbeats 400000 in
theorem rput_core (w : World) (p b n : Nat) (i x y : Int) (j : Nat)
    (hp : w.cell? ⟨p, 0, none⟩ = some (.slice (some ⟨b, 0, none⟩) n n)) (hn0 : 0 < n) (hn : n ≤ 65536) (hj : j < n)
    (hbits : bits .and .i64 i ((n : Int) - 1) = (j : Int)) (hc : w.cell? ⟨b, j, none⟩ = some (.int .i64 y)) (hf : w.frozen? ⟨b, j, none⟩ = false) :
    Calls Try.prog 19 #[.pointer (some ⟨p, 0, none⟩), .int .i64 i, .int .i64 x] w fun e w' => e = .returned (.tuple #[]) ∧ ∃ n, w' = (w.setCell ⟨b, j, none⟩ (.int .i64 x)).drewN n := by
  go_enter Try.func19, Try.ntmps19
  go_wp2
  refine wp_region_quiet_tail 9 (by kernel_rfl) (by kernel_rfl) ?_
  simp only [List.take_succ_cons, List.take_zero, List.drop_succ_cons, List.drop_zero]
  repeat (go_big_quiet_step ((go_at_call 37; exact Calls.quiet_of (at_core _ p b n i j hp hn0 hn hbits))))
  refine quiet_tail_end ?_
  rintro _ ⟨nq, rfl⟩
  go_wp2
  go_end0
  exact ⟨rfl, nq, rfl⟩
theorem rput_spec {w : World} {p b : Nat} {l : List Int} (i x : Int) (h : RingAt 36 w p b l) :
    Calls Try.prog 19 #[.pointer (some ⟨p, 0, none⟩), .int .i64 i, .int .i64 x] w fun e w' => e = .returned (.tuple #[]) ∧ RingAt 36 w' p b (ringPut l i x) ∧ Keep [b] w w' :=
  (rput_core w p b l.length i x _ _ h.cell h.p2.pos h.p2.le (ringIdx_lt i h.p2) (ringIdx_bits i h.p2) (h.at_ i) (h.body.frozen _)).mono
    fun _ _ ⟨he, hw⟩ => ⟨he, put_step h (h.ne (by decide)) hw⟩

/-! ### New -/
/-- 'it answers a new ring that holds l; what was there is as it was' -/
def NewRing (T : TypeId) (l : List Int) (w : World) (e : Ending) (w' : World) : Prop :=
  ∃ p b, e = .returned (.pointer (some ⟨p, 0, none⟩)) ∧ w.heap.size ≤ p ∧ w.heap.size ≤ b ∧ RingAt T w' p b l ∧ Keep [] w w'
def ringGrow (size : Int) : Nat → Nat → Nat
  | 0, n => n
  | f + 1, n => if (n : Int) < size ∧ n < 65536 then ringGrow size f (2 * n) else n
/-- how many places a ring of that size has -/
def ringSize (size : Int) : Nat := ringGrow size 16 1
theorem ringGrow_p2 (size : Int) : ∀ f j, j + f ≤ 16 → IsP2 (ringGrow size f (2 ^ j))
  | 0, j, h => ⟨j, by omega, rfl⟩
  | f + 1, j, h => by
    unfold ringGrow
    split
    · rw [show 2 * 2 ^ j = 2 ^ (j + 1) from by rw [Nat.pow_succ]; omega]
      exact ringGrow_p2 size f (j + 1) (by omega)
    · exact ⟨j, by omega, rfl⟩
theorem ringSize_p2 (size : Int) : IsP2 (ringSize size) := ringGrow_p2 size 16 0 (by omega)
/-- what a ring holds when the numbers ys were put at 0, 1, .. k - 1 -/
def ringPuts (l : List Int) (ys : List Int) : Nat → List Int
  | 0 => l
  | k + 1 => ringPut (ringPuts l ys k) k (ys.getD k 0)
@[simp] theorem ringPuts_length (l ys : List Int) : ∀ k, (ringPuts l ys k).length = l.length
  | 0 => rfl
  | k + 1 => by simp [ringPuts, ringPuts_length l ys k]
def ringNew (size : Int) (ys : List Int) : List Int := ringPuts (List.replicate (ringSize size) 0) ys ys.length
/-- the state of the doubling loop: n is a power, and what is still to come ends at the ring's size -/
def Doubling (size : Int) (n : Nat) (f : Nat) : Prop := ringGrow size f n = ringSize size ∧ ∃ j, n = 2 ^ j ∧ j + f = 16
theorem Doubling.start (size : Int) : Doubling size 1 16 := ⟨rfl, 0, rfl, rfl⟩
theorem Doubling.step {size : Int} {n f : Nat} (h : Doubling size n f) (h1 : (n : Int) < size) (h2 : n < 65536) : ∃ g, f = g + 1 ∧ Doubling size (2 * n) g := by
  obtain ⟨hg, j, rfl, hf⟩ := h
  match f, hf with
  | 0, hf => exfalso; have : j = 16 := by omega
             subst this; exact absurd h2 (by decide)
  | g + 1, hf =>
    refine ⟨g, rfl, ?_, j + 1, by rw [Nat.pow_succ]; omega, by omega⟩
    rw [← hg]
    conv => rhs; unfold ringGrow
    rw [if_pos ⟨h1, h2⟩]
theorem Doubling.done {size : Int} {n f : Nat} (h : Doubling size n f) (h1 : ¬ ((n : Int) < size ∧ n < 65536)) : n = ringSize size := by
  obtain ⟨hg, j, rfl, hf⟩ := h
  rw [← hg]
  cases f with
  | zero => rfl
  | succ g => unfold ringGrow; rw [if_neg h1]
theorem Doubling.le {size : Int} {n f : Nat} (h : Doubling size n f) : n ≤ 65536 := by
  obtain ⟨hg, j, rfl, hf⟩ := h
  exact Nat.le_trans (Nat.pow_le_pow_right (by decide) (show j ≤ 16 by omega)) (by decide)
/-- n zeros, as cells (behind a name that the walk does not open) -/
def zeroCells (n : Nat) : Array Value := ((List.replicate n (0 : Int)).map (Value.int .i64)).toArray
theorem Try.info3 : (Try.prog.info? 3).map (fun i => (i.zero, i.size, i.bytes)) = some (some (.int .i64 0), 1, 8) := by kernel_rfl
theorem run_make_ints (n : Nat) (hn : n ≤ 65536) (w : World) :
    (Instr.makeSlice 29 (.int .i64 n) (.int .i64 n)).run Try.prog w = .ok (.slice (some ⟨w.heap.size, 0, none⟩) n n) (w.alloc (.cells (zeroCells n) 3)) := by
  obtain ⟨i0, hi, hz0, hz1, hz2⟩ := info_parts Try.info3
  have := run_make (P := Try.prog) w 29 3 i0 _ Try.underlying29 hi hz0 .i64 .i64 n n (by omega) (Int.le_refl _) (by rw [hz2]; omega) (by omega)
  rw [this, hz1]
  have e : madeCells (Value.int IntKind.i64 0).cells ((n : Int).toNat * 1) = zeroCells n := by
    apply Array.toList_inj.1
    rw [show (Value.int IntKind.i64 0).cells = #[.int .i64 0] from rfl, toList_madeCells_one]
    simp [zeroCells]
  rw [e]
  simp
set_option maxHeartbeats 400000 in
theorem new_spec (w : World) (size : Int) (v : Value) (ys : List Int) (hv : IntsOf w v ys) (hlen : ys.length ≤ 100000) :
    Calls Try.prog 14 #[.int .i64 size, v] w (NewRing 62 (ringNew size ys) w) := by
  obtain ⟨a, c, rfl, hcells⟩ := hv
  go_enter Try.func14, Try.ntmps14
  go_wp2
  go_loop [5] (fun v => ∃ n f : Nat, v = .int .i64 n ∧ Doubling size n f) (fun v => 65536 - (intOf v).toNat)
  case atStart => exact ⟨1, 16, rfl, .start size⟩
  case round =>
    obtain ⟨n, f, rfl, hd⟩ := hrel
    have hle := hd.le
    have hpos : 0 < n := by obtain ⟨_, j, rfl, _⟩ := hd; exact Nat.two_pow_pos j
    by_cases hc : (n : Int) < size ∧ n < 65536
    · obtain ⟨h1, h2⟩ := hc
      obtain ⟨g, rfl, hd'⟩ := hd.step h1 h2
      have h3 : (n : Int) < 65536 := by omega
      clear h2
      go_wp2
      go_round
      case rel => exact ⟨2 * n, g, by go_num, hd'⟩
      case measure => simp [intOf]; omega
    · have hn := hd.done hc
      have hmk := run_make_ints n hle
      have hp2 : IsP2 n := hn ▸ ringSize_p2 size
      have h2 : n < 65536 → ¬ (n : Int) < size := fun h h' => hc ⟨h', h⟩
      have hlen' : (ys.length : Int) ≤ 100000 := by omega
      have h3 : (n : Int) < size → decide ((n : Int) < 65536) = false := fun h1 => by
        have : ¬ n < 65536 := fun h => h2 h h1
        simp; omega
      have Hn := Lib.hid hn
      have Hlen := Lib.hid hlen
      clear hn hd h2 hc hle hlen
      by_cases h1 : (n : Int) < size
      all_goals
        first | (have h4 := h3 h1; clear h3) | clear h3
        go_wp2
        have r0 : RingAt 62 ((w.alloc (Obj.cells (zeroCells n) 3)).alloc (Obj.cells #[Value.slice (some { block := w.heap.size, off := 0 }) n n] 62)) (w.heap.size + 1) w.heap.size (ringPuts (List.replicate n 0) ys 0) := by
          refine ⟨?_, ?_, by simpa [ringPuts] using hp2⟩
          · have := Blk.new (w.alloc (Obj.cells (zeroCells n) 3)) 62 [Value.slice (some { block := w.heap.size, off := 0 }) n n]
            simpa [ringPuts] using this
          · exact (Blk.new w 3 _).alloc _
        go_loopw [24] (fun v wr => ∃ k : Nat, k ≤ ys.length ∧ v = .int .i64 k ∧ RingAt 62 wr (w.heap.size + 1) w.heap.size (ringPuts (List.replicate n 0) ys k) ∧ Keep [] w wr) (fun v _ => ys.length - (intOf v).toNat)
        case atStart => exact ⟨0, by omega, rfl, r0, ((Keep.refl _ _).alloc _).alloc _⟩
        case round =>
          obtain ⟨k, hk, rfl, hr, hkeep⟩ := hrel
          clear r0
          by_cases hlt : k < ys.length
          · obtain ⟨b, off, rfl, hb, hc⟩ := hcells (by intro h; subst h; simp at hlt)
            have hcell : wr.cell? ⟨b, off + k, none⟩ = some (.int .i64 ys[k]) := (hkeep.cell hb (by simp)).trans (hc k _ (List.getElem?_eq_getElem hlt))
            clear hc
            go_wp2_with fail
            refine (put_spec _ _ hr).mono ?_
            rintro e w1 ⟨rfl, hr1, hk1⟩
            have e1 : ringPuts (List.replicate n 0) ys (k + 1) = ringPut (ringPuts (List.replicate n 0) ys k) k ys[k] := by
              simp [ringPuts, List.getElem?_eq_getElem hlt]
            have hk' : Keep [] w w1 := hkeep.trans hk1 (by simp)
            have hr' : RingAt 62 w1 (w.heap.size + 1) w.heap.size (ringPuts (List.replicate n 0) ys (k + 1)) := by rw [e1]; exact hr1
            clear e1 hr1 hk1 hcell hr hkeep
            go_wp2
            go_roundw
            case rel => exact ⟨k + 1, by omega, by go_num, hr', hk'⟩
            case measure => simp [intOf]; omega
          · obtain rfl : k = ys.length := by omega
            go_wp2
            go_ret
            refine ⟨w.heap.size + 1, w.heap.size, rfl, by omega, by omega, ?_, hkeep⟩
            have := Hn.out
            subst this
            exact hr
set_option maxHeartbeats 400000 in
theorem rnew_spec (w : World) (size : Int) (v : Value) (ys : List Int) (hv : IntsOf w v ys) (hlen : ys.length ≤ 100000) :
    Calls Try.prog 18 #[.int .i64 size, v] w (NewRing 36 (ringNew size ys) w) := by
  obtain ⟨a, c, rfl, hcells⟩ := hv
  go_enter Try.func18, Try.ntmps18
  go_wp2
  go_loop [5] (fun v => ∃ n f : Nat, v = .int .i64 n ∧ Doubling size n f) (fun v => 65536 - (intOf v).toNat)
  case atStart => exact ⟨1, 16, rfl, .start size⟩
  case round =>
    obtain ⟨n, f, rfl, hd⟩ := hrel
    have hle := hd.le
    have hpos : 0 < n := by obtain ⟨_, j, rfl, _⟩ := hd; exact Nat.two_pow_pos j
    by_cases hc : (n : Int) < size ∧ n < 65536
    · obtain ⟨h1, h2⟩ := hc
      obtain ⟨g, rfl, hd'⟩ := hd.step h1 h2
      have h3 : (n : Int) < 65536 := by omega
      clear h2
      go_wp2
      go_round
      case rel => exact ⟨2 * n, g, by go_num, hd'⟩
      case measure => simp [intOf]; omega
    · have hn := hd.done hc
      have hmk := run_make_ints n hle
      have hp2 : IsP2 n := hn ▸ ringSize_p2 size
      have h2 : n < 65536 → ¬ (n : Int) < size := fun h h' => hc ⟨h', h⟩
      have hlen' : (ys.length : Int) ≤ 100000 := by omega
      have h3 : (n : Int) < size → decide ((n : Int) < 65536) = false := fun h1 => by
        have : ¬ n < 65536 := fun h => h2 h h1
        simp; omega
      have Hn := Lib.hid hn
      have Hlen := Lib.hid hlen
      clear hn hd h2 hc hle hlen
      by_cases h1 : (n : Int) < size
      all_goals
        first | (have h4 := h3 h1; clear h3) | clear h3
        go_wp2
        have r0 : RingAt 36 ((w.alloc (Obj.cells (zeroCells n) 3)).alloc (Obj.cells #[Value.slice (some { block := w.heap.size, off := 0 }) n n] 36)) (w.heap.size + 1) w.heap.size (ringPuts (List.replicate n 0) ys 0) := by
          refine ⟨?_, ?_, by simpa [ringPuts] using hp2⟩
          · have := Blk.new (w.alloc (Obj.cells (zeroCells n) 3)) 36 [Value.slice (some { block := w.heap.size, off := 0 }) n n]
            simpa [ringPuts] using this
          · exact (Blk.new w 3 _).alloc _
        go_loopw [7] (fun v wr => ∃ k : Nat, k ≤ ys.length ∧ v = .int .i64 k ∧ RingAt 36 wr (w.heap.size + 1) w.heap.size (ringPuts (List.replicate n 0) ys k) ∧ Keep [] w wr) (fun v _ => ys.length - (intOf v).toNat)
        case atStart => exact ⟨0, by omega, rfl, r0, ((Keep.refl _ _).alloc _).alloc _⟩
        case round =>
          obtain ⟨k, hk, rfl, hr, hkeep⟩ := hrel
          clear r0
          by_cases hlt : k < ys.length
          · obtain ⟨b, off, rfl, hb, hc⟩ := hcells (by intro h; subst h; simp at hlt)
            have hcell : wr.cell? ⟨b, off + k, none⟩ = some (.int .i64 ys[k]) := (hkeep.cell hb (by simp)).trans (hc k _ (List.getElem?_eq_getElem hlt))
            clear hc
            go_wp2_with fail
            refine (rput_spec _ _ hr).mono ?_
            rintro e w1 ⟨rfl, hr1, hk1⟩
            have e1 : ringPuts (List.replicate n 0) ys (k + 1) = ringPut (ringPuts (List.replicate n 0) ys k) k ys[k] := by
              simp [ringPuts, List.getElem?_eq_getElem hlt]
            have hk' : Keep [] w w1 := hkeep.trans hk1 (by simp)
            have hr' : RingAt 36 w1 (w.heap.size + 1) w.heap.size (ringPuts (List.replicate n 0) ys (k + 1)) := by rw [e1]; exact hr1
            clear e1 hr1 hk1 hcell hr hkeep
            go_wp2
            go_roundw
            case rel => exact ⟨k + 1, by omega, by go_num, hr', hk'⟩
            case measure => simp [intOf]; omega
          · obtain rfl : k = ys.length := by omega
            go_wp2
            go_ret
            refine ⟨w.heap.size + 1, w.heap.size, rfl, by omega, by omega, ?_, hkeep⟩
            have := Hn.out
            subst this
            exact hr

end Go.Proofs.Ytkeaekckblpfjaa
