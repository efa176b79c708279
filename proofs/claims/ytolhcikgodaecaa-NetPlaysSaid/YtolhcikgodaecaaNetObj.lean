/- Parcels and nets in memory; Clone, own, New, is. -/
import Derived.Test.YtolhcikgodaecaaRows
import Derived.WalkKit
import Derived.WalkSpells
import Derived.WalkLawsBesides
import Derived.RegionTactic
import Derived.ChangeAlike
import Derived.BigQuiet
import Derived.Deep.QuietTactic
import Derived.StillTailTactics
import Derived.IntWalk
import Derived.Handy
import Derived.Lib.Hide
import Derived.Deep.AppendLies
import Derived.Deep.RegionWith
import Derived.Test.YtolhcikgodaecaaBase
import Derived.Test.YtolhcikgodaecaaTail
import Derived.Test.YtolhcikgodaecaaArgs
import Derived.Test.YtolhcikgodaecaaAppend
import Derived.Test.YtolhcikgodaecaaOffs
import Derived.Test.YtolhcikgodaecaaStructs
namespace Go.Proofs.Ytolhcikgodaecaa
open Go.RowKit

theorem Try.info5 : (Try.prog.info? 5).map (fun i => (i.zero, i.size, i.bytes)) = some (some (.int .u8 0), 1, 1) := by kernel_rfl
theorem Try.info29 : (Try.prog.info? 29).map (fun i => (i.zero, i.size, i.bytes)) = some (some (.agg #[.int .i64 0, .int .i64 0, .slice none 0 0]), 3, 40) := by kernel_rfl
theorem Try.info54 : (Try.prog.info? 54).map (fun i => (i.zero, i.size, i.bytes)) = some (some (.agg #[.int .i64 0, .int .i64 0, .slice none 0 0, .bool false]), 4, 48) := by kernel_rfl
theorem Try.bytes27 : SliceTy Try.prog 27 5 (.int .u8 0) 1 1 := ⟨Try.underlying27, Try.info5, rfl, by decide⟩
theorem Try.pcs32 : SliceTy Try.prog 32 29 (.agg #[.int .i64 0, .int .i64 0, .slice none 0 0]) 3 40 := ⟨Try.underlying32, Try.info29, rfl, by decide⟩
theorem Try.way49 : SliceTy Try.prog 49 54 (.agg #[.int .i64 0, .int .i64 0, .slice none 0 0, .bool false]) 4 48 := ⟨Try.underlying49, Try.info54, rfl, by decide⟩

/-! ### Bytes -/
def u8 (x : UInt8) : Value := .int .u8 x.toNat
/-- the slice value v reads, in w, as the bytes bs -/
def BytesOf (w : World) (v : Value) (bs : List UInt8) : Prop :=
  ∃ a c, v = .slice a bs.length c ∧ (bs ≠ [] → ∃ b off, a = some ⟨b, off, none⟩ ∧ b < w.heap.size ∧ ∀ (k : Nat) (x : UInt8), bs[k]? = some x → w.cell? ⟨b, off + k, none⟩ = some (u8 x))
theorem BytesOf.nil (w : World) : BytesOf w (.slice none 0 0) [] := ⟨none, 0, rfl, fun h => absurd rfl h⟩
theorem BytesOf.keep {w w' : World} {v : Value} {bs : List UInt8} {S : List Nat} (h : BytesOf w v bs) (hk : Keep S w w') (hn : ∀ x ∈ ownBlocks v, x ∉ S) : BytesOf w' v bs := by
  obtain ⟨a, c, rfl, h⟩ := h
  refine ⟨a, c, rfl, fun hy => ?_⟩
  obtain ⟨b, off, rfl, hb, hc⟩ := h hy
  exact ⟨b, off, rfl, Nat.lt_of_lt_of_le hb hk.size, fun k x hx => (hk.cell hb (hn b (by simp [ownBlocks, Value.ownBlock]))).trans (hc k x hx)⟩
theorem BytesOf.keep0 {w w' : World} {v : Value} {bs : List UInt8} (h : BytesOf w v bs) (hk : Keep [] w w') : BytesOf w' v bs := h.keep hk (by simp)
theorem BytesOf.shape {w : World} {v : Value} {bs : List UInt8} (h : BytesOf w v bs) : ∃ a c, v = .slice a bs.length c := by obtain ⟨a, c, hv, _⟩ := h; exact ⟨a, c, hv⟩
theorem SrcOf.of_bytes {w : World} {v : Value} {bs : List UInt8} (h : BytesOf w v bs) : SrcOf w v 1 bs.length (bs.map u8) := by
  obtain ⟨a, c, rfl, h⟩ := h
  refine ⟨a, c, rfl, by simp, fun hne => ?_⟩
  obtain ⟨b, off, rfl, _, hc⟩ := h (by simpa using hne)
  refine ⟨_, rfl, fun j u hu => ?_⟩
  rw [add_none]
  rw [List.getElem?_map] at hu
  cases hx : bs[j]? with
  | none => rw [hx] at hu; cases hu
  | some x => rw [hx] at hu; cases hu; exact hc j x hx
theorem bytes_of_off {w : World} {B : Nat} {e : TypeId} {v : Value} {bs : List UInt8} (h : OwnsAt w B e 1 v bs.length (bs.map u8)) : BytesOf w v bs := by
  obtain ⟨a, c, hv⟩ := h.shape
  refine ⟨a, c, hv, fun hne => ?_⟩
  obtain ⟨g, off, cap, hv', h1, h2, h3, h4, h5⟩ := h.form (List.length_pos_iff.2 hne)
  rw [hv] at hv'
  injection hv' with e1 e2 e3
  exact ⟨g, off, e1, h4, fun k x hk => h5 k _ (by rw [List.getElem?_map, hk]; rfl)⟩
/-- bytes of the call's own -/
def OwnB (w : World) (B : Nat) (v : Value) (bs : List UInt8) : Prop := OwnsAt w B 5 1 v bs.length (bs.map u8)
/-- what gives bytes of its own that read bs -/
def BytesPost (bs : List UInt8) (w : World) (e : Ending) (w' : World) : Prop := ∃ v, e = .returned v ∧ OwnB w' w.heap.size v bs ∧ Keep [] w w'
theorem mem_own {v : Value} {x : Nat} : x ∈ ownBlocks v ↔ v.ownBlock = some x := by simp [ownBlocks]
set_option maxHeartbeats 1000000 in
theorem clone_spec {w : World} {v : Value} {bs : List UInt8} (h : BytesOf w v bs) (hl : bs.length ≤ 1000000000) : Calls Try.prog 31 #[v] w (BytesPost bs w) := by
  have H := Lib.hid h
  obtain ⟨a, c, rfl⟩ := h.shape
  have hnil := fun w => Lib.run_eql_slice_nil (P := Try.prog) w 27 5 a bs.length c 0 0 Try.underlying27
  cases a with
  | none =>
    have hb : bs = [] := by
      refine Classical.byContradiction fun hne => ?_
      obtain ⟨a', c', hv, hh⟩ := h
      obtain ⟨b, off, hb, _⟩ := hh hne
      injection hv with e1
      rw [← e1] at hb
      cases hb
    subst hb
    have hnil : ∀ w, (binOp .eql 27 (.slice none 0 c) (.slice none 0 0)).run Try.prog w = .ok (.bool true) w := fun w => Lib.run_eql_slice_nil (P := Try.prog) w 27 5 none 0 c 0 0 Try.underlying27
    clear h
    go_enter Try.func31, Try.ntmps31
    go_wp2
    go_ret
    exact ⟨_, rfl, OwnsAt.nil _ _ _ _, Keep.refl _ _⟩
  | some ad =>
    clear h
    have hown : OwnsAt (w.alloc (.cells #[] 5)) w.heap.size 5 1 (.slice (some ⟨w.heap.size, 0, none⟩) 0 0) 0 [] := ⟨rfl, Or.inr ⟨w.heap.size, 0, 0, #[], rfl, Nat.le_refl _, heap_alloc_new w _, Nat.le_refl _, Nat.zero_le _, Nat.le_refl _, rfl⟩⟩
    have hk : Keep [] w (w.alloc (.cells #[] 5)) := (Keep.refl _ _).alloc _
    have hsrc := SrcOf.of_bytes (H.out.keep0 hk)
    go_enter Try.func31, Try.ntmps31
    go_wp2_with (at_builtin; refine wpList_append_off rfl _ _ rfl Try.bytes27 w.heap.size _ 0 _ rfl hown _ _ _ rfl hsrc (by simp [u8, Value.oneCell']) (by unfold maxLen; omega) (by omega) (by simp) ?_)
    intro v' w2 hown2 hk2 hblk
    have hown3 : OwnB w2 w.heap.size v' bs := by unfold OwnB; simpa using hown2
    have hk3 : Keep [] w w2 := hk.trans hk2 (by simp [ownBlocks, Value.ownBlock])
    obtain ⟨a', c', rfl⟩ := OwnsAt.shape hown3
    clear hown hsrc hk hk2 hblk hown2
    go_wp2
    go_ret
    exact ⟨_, rfl, hown3, hk3⟩
theorem OwnsAt.mono {w : World} {B B' : Nat} {e : TypeId} {size n : Nat} {v : Value} {xs : List Value} (h : OwnsAt w B e size v n xs) (hb : B' ≤ B) : OwnsAt w B' e size v n xs :=
  ⟨h.1, h.2.imp id fun ⟨g, off, cap, cur, h1, h2, h3⟩ => ⟨g, off, cap, cur, h1, Nat.le_trans hb h2, h3⟩⟩
/-! ### own -/


def OwnParcel (f t : Int) (bs : List UInt8) (w : World) (e : Ending) (w' : World) : Prop := ∃ bv, e = .returned (.agg #[.int .i64 f, .int .i64 t, bv]) ∧ OwnB w' w.heap.size bv bs ∧ Keep [] w w'
set_option maxHeartbeats 1000000 in
theorem own_spec {w : World} {f t : Int} {bv : Value} {bs : List UInt8} (h : BytesOf w bv bs) (hl : bs.length ≤ 1000000000) : Calls Try.prog 23 #[.agg #[.int .i64 f, .int .i64 t, bv]] w (OwnParcel f t bs w) := by
  obtain ⟨a, c, rfl⟩ := h.shape

  have H := Lib.hid h
  clear h
  have hk0 : Keep [] w ((w.alloc (.cells #[.int .i64 f, .int .i64 t, .slice a bs.length c] 29)).alloc (.cells #[.int .i64 0, .int .i64 0, .slice none 0 0] 29)) := ((Keep.refl _ _).alloc _).alloc _
  have b1 : Blk ((w.alloc (.cells #[.int .i64 f, .int .i64 t, .slice a bs.length c] 29)).alloc (.cells #[.int .i64 0, .int .i64 0, .slice none 0 0] 29)) w.heap.size 29 [.int .i64 f, .int .i64 t, .slice a bs.length c] := (Blk.new' w _ _ _ rfl).alloc _
  have b2 : Blk ((w.alloc (.cells #[.int .i64 f, .int .i64 t, .slice a bs.length c] 29)).alloc (.cells #[.int .i64 0, .int .i64 0, .slice none 0 0] 29)) (w.heap.size + 1) 29 [.int .i64 0, .int .i64 0, .slice none 0 0] := by
    have := Blk.new' (w.alloc (.cells #[.int .i64 f, .int .i64 t, .slice a bs.length c] 29)) 29 #[.int .i64 0, .int .i64 0, .slice none 0 0] _ rfl
    simpa using this
  go_enter Try.func23, Try.ntmps23
  go_wp2_with fail
  refine (clone_spec (H.out.keep0 hk0) hl).mono ?_
  rintro e w2 ⟨bv, rfl, ho, hk2⟩
  have b3 := b1.keep hk2 (by simp)
  have b4 := b2.keep hk2 (by simp)
  have c0 : w2.cell? ⟨w.heap.size, 0, none⟩ = some (.int .i64 f) := b3.cell 0
  have c1 : w2.cell? ⟨w.heap.size, 1, none⟩ = some (.int .i64 t) := b3.cell 1
  have c2 : w2.cell? ⟨w.heap.size, 2, none⟩ = some (.slice a bs.length c) := b3.cell 2
  have d0 : w2.cell? ⟨w.heap.size + 1, 0, none⟩ = some (.int .i64 0) := b4.cell 0
  have d1 : w2.cell? ⟨w.heap.size + 1, 1, none⟩ = some (.int .i64 0) := b4.cell 1
  have d2 : w2.cell? ⟨w.heap.size + 1, 2, none⟩ = some (.slice none 0 0) := b4.cell 2
  have f0 := b3.frozen 2
  have f1 := b4.frozen 0
  have f2 := b4.frozen 1
  have f3 := b4.frozen 2
  obtain ⟨a', c', rfl⟩ := OwnsAt.shape ho
  have hs2 : w2.heap.size = w2.heap.size := rfl
  have hfin : ∀ w3, w3 = (((w2.setCell ⟨w.heap.size, 2, none⟩ (.slice a' bs.length c')).setCell ⟨w.heap.size + 1, 0, none⟩ (.int .i64 f)).setCell ⟨w.heap.size + 1, 1, none⟩ (.int .i64 t)).setCell ⟨w.heap.size + 1, 2, none⟩ (.slice a' bs.length c') →
      OwnParcel f t bs w (.returned (.agg #[.int .i64 f, .int .i64 t, .slice a' bs.length c'])) w3 := by
    rintro w3 rfl
    have hk4 : Keep [w.heap.size, w.heap.size + 1] w2 ((((w2.setCell ⟨w.heap.size, 2, none⟩ (.slice a' bs.length c')).setCell ⟨w.heap.size + 1, 0, none⟩ (.int .i64 f)).setCell ⟨w.heap.size + 1, 1, none⟩ (.int .i64 t)).setCell ⟨w.heap.size + 1, 2, none⟩ (.slice a' bs.length c')) :=
      ((((Keep.refl _ _).setCell (by simp) _).setCell (by simp) _).setCell (by simp) _).setCell (by simp) _
    refine ⟨_, rfl, ?_, (hk0.trans hk2 (by simp)).trans hk4 (by simp)⟩
    refine OwnsAt.mono (OwnsAt.keep ho hk4 (fun g hg => ?_)) (by simp; omega)
    have := (OwnsAt.lt ho g hg).1
    simp at this
    simp
    omega
  have Hfin := Lib.hid hfin
  clear hfin hs2 ho hk2 hk0 b1 b2 b3 b4
  go_wp2
  exact bodyPost_ret (v := .agg #[.int .i64 f, .int .i64 t, .slice a' bs.length c']) (by simp [results, Try.results23, go_sem, d0, d1, d2]) rfl (Hfin.out _ rfl)
end Go.Proofs.Ytolhcikgodaecaa
