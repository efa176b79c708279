/- Bytes, clones; slices of one's own. -/
import Derived.Test.YtacifjjhadjhfaaRows
import Derived.WalkKit
import Derived.WalkSpells
import Derived.WalkLawsBesides
import Derived.RegionTactic
import Derived.ChangeAlike
import Derived.BigQuiet
import Derived.Deep.QuietTactic
import Derived.StillTailTactics
import Derived.IntWalk
import Derived.Handy
import Derived.Lib.Hide
import Derived.Deep.AppendLies
import Derived.Deep.RegionWith
import Derived.Test.YtacifjjhadjhfaaBase
import Derived.Test.YtacifjjhadjhfaaTail
import Derived.Test.YtacifjjhadjhfaaArgs
import Derived.Test.YtacifjjhadjhfaaAppend
import Derived.Deep.RegionLaw
import Derived.Test.YtacifjjhadjhfaaOffs
import Derived.Test.YtacifjjhadjhfaaStructs
import Derived.Test.YtacifjjhadjhfaaSplit
namespace Go.Proofs.Ytacifjjhadjhfaa
open Go.RowKit
theorem Try.info5 : (Try.prog.info? 5).map (fun i => (i.zero, i.size, i.bytes)) = some (some (.int .u8 0), 1, 1) := by kernel_rfl
theorem Try.bytes35 : SliceTy Try.prog 35 5 (.int .u8 0) 1 1 := ⟨Try.underlying35, Try.info5, rfl, by decide⟩
theorem mem_own {v : Value} {x : Nat} : x ∈ ownBlocks v ↔ v.ownBlock = some x := by simp [ownBlocks]
theorem OwnsAt.blk {w : World} {B : Nat} {e : TypeId} {size n : Nat} {v : Value} {xs : List Value} (h : OwnsAt w B e size v n xs) {g : Nat} (hg : v.ownBlock = some g) : ∃ cur : Array Value, w.heap[g]? = some (.cells cur e (0, 0)) := by
  rcases h.2 with ⟨rfl, _⟩ | ⟨g', off, cap, cur, rfl, hb, hg', _⟩
  · cases hg
  · cases hg
    exact ⟨cur, hg'⟩
theorem OwnsAt.ne_own {w : World} {B B' : Nat} {e e' : TypeId} {size n size' n' : Nat} {v v' : Value} {xs xs' : List Value} (h : OwnsAt w B e size v n xs) (h' : OwnsAt w B' e' size' v' n' xs') (hne : e ≠ e') : ∀ g, v.ownBlock = some g → v'.ownBlock ≠ some g := by
  intro g hg hg'
  obtain ⟨c, hc⟩ := h.blk hg
  obtain ⟨c', hc'⟩ := h'.blk hg'
  rw [hc] at hc'
  injection hc' with hc'
  injection hc' with _ ht
  exact hne ht
theorem OwnsAt.ne_blk {w : World} {B p : Nat} {t e : TypeId} {size n : Nat} {v : Value} {xs cs : List Value} (h : OwnsAt w B e size v n xs) (h' : Blk w p t cs) (hne : e ≠ t) : v.ownBlock ≠ some p := by
  intro hg
  obtain ⟨c, hc⟩ := h.blk hg
  unfold Blk at h'
  rw [hc] at h'
  injection h' with h'
  injection h' with _ ht
  exact hne ht
/-! ### Bytes -/
def u8 (x : UInt8) : Value := .int .u8 x.toNat
/-- the slice value v reads, in w, as the bytes bs -/
def BytesOf (w : World) (v : Value) (bs : List UInt8) : Prop :=
  ∃ a c, v = .slice a bs.length c ∧ (bs ≠ [] → ∃ b off, a = some ⟨b, off, none⟩ ∧ b < w.heap.size ∧ ∀ (k : Nat) (x : UInt8), bs[k]? = some x → w.cell? ⟨b, off + k, none⟩ = some (u8 x))
theorem BytesOf.nil (w : World) : BytesOf w (.slice none 0 0) [] := ⟨none, 0, rfl, fun h => absurd rfl h⟩
theorem BytesOf.keep {w w' : World} {v : Value} {bs : List UInt8} {S : List Nat} (h : BytesOf w v bs) (hk : Keep S w w') (hn : ∀ x ∈ ownBlocks v, x ∉ S) : BytesOf w' v bs := by
  obtain ⟨a, c, rfl, h⟩ := h
  refine ⟨a, c, rfl, fun hy => ?_⟩
  obtain ⟨b, off, rfl, hb, hc⟩ := h hy
  exact ⟨b, off, rfl, Nat.lt_of_lt_of_le hb hk.size, fun k x hx => (hk.cell hb (hn b (by simp [ownBlocks, Value.ownBlock]))).trans (hc k x hx)⟩
theorem BytesOf.keep0 {w w' : World} {v : Value} {bs : List UInt8} (h : BytesOf w v bs) (hk : Keep [] w w') : BytesOf w' v bs := h.keep hk (by simp)
theorem BytesOf.shape {w : World} {v : Value} {bs : List UInt8} (h : BytesOf w v bs) : ∃ a c, v = .slice a bs.length c := by obtain ⟨a, c, hv, _⟩ := h; exact ⟨a, c, hv⟩
theorem SrcOf.of_bytes {w : World} {v : Value} {bs : List UInt8} (h : BytesOf w v bs) : SrcOf w v 1 bs.length (bs.map u8) := by
  obtain ⟨a, c, rfl, h⟩ := h
  refine ⟨a, c, rfl, by simp, fun hne => ?_⟩
  obtain ⟨b, off, rfl, _, hc⟩ := h (by simpa using hne)
  refine ⟨_, rfl, fun j u hu => ?_⟩
  rw [add_none]
  rw [List.getElem?_map] at hu
  cases hx : bs[j]? with
  | none => rw [hx] at hu; cases hu
  | some x => rw [hx] at hu; cases hu; exact hc j x hx
theorem bytes_of_off {w : World} {B : Nat} {e : TypeId} {v : Value} {bs : List UInt8} (h : OwnsAt w B e 1 v bs.length (bs.map u8)) : BytesOf w v bs := by
  obtain ⟨a, c, hv⟩ := h.shape
  refine ⟨a, c, hv, fun hne => ?_⟩
  obtain ⟨g, off, cap, hv', h1, h2, h3, h4, h5⟩ := h.form (List.length_pos_iff.2 hne)
  rw [hv] at hv'
  injection hv' with e1 e2 e3
  exact ⟨g, off, e1, h4, fun k x hk => h5 k _ (by rw [List.getElem?_map, hk]; rfl)⟩
/-- bytes of the call's own -/
def OwnB (w : World) (B : Nat) (v : Value) (bs : List UInt8) : Prop := OwnsAt w B 5 1 v bs.length (bs.map u8)
/-- what gives bytes of its own that read bs -/
def BytesPost (bs : List UInt8) (w : World) (e : Ending) (w' : World) : Prop := ∃ v, e = .returned v ∧ OwnB w' w.heap.size v bs ∧ Keep [] w w'
set_option maxHeartbeats 1000000 in
theorem clone_spec {w : World} {v : Value} {bs : List UInt8} (h : BytesOf w v bs) (hl : bs.length ≤ 1000000000) : Calls Try.prog 26 #[v] w (BytesPost bs w) := by
  have H := Lib.hid h
  obtain ⟨a, c, rfl⟩ := h.shape
  have hnil := fun w => Lib.run_eql_slice_nil (P := Try.prog) w 35 5 a bs.length c 0 0 Try.underlying35
  cases a with
  | none =>
    have hb : bs = [] := by
      refine Classical.byContradiction fun hne => ?_
      obtain ⟨a', c', hv, hh⟩ := h
      obtain ⟨b, off, hb, _⟩ := hh hne
      injection hv with e1
      rw [← e1] at hb
      cases hb
    subst hb
    have hnil : ∀ w, (binOp .eql 35 (.slice none 0 c) (.slice none 0 0)).run Try.prog w = .ok (.bool true) w := fun w => Lib.run_eql_slice_nil (P := Try.prog) w 35 5 none 0 c 0 0 Try.underlying35
    clear h
    go_enter Try.func26, Try.ntmps26
    go_wp2
    go_ret
    exact ⟨_, rfl, OwnsAt.nil _ _ _ _, Keep.refl _ _⟩
  | some ad =>
    clear h
    have hown : OwnsAt (w.alloc (.cells #[] 5)) w.heap.size 5 1 (.slice (some ⟨w.heap.size, 0, none⟩) 0 0) 0 [] := ⟨rfl, Or.inr ⟨w.heap.size, 0, 0, #[], rfl, Nat.le_refl _, heap_alloc_new w _, Nat.le_refl _, Nat.zero_le _, Nat.le_refl _, rfl⟩⟩
    have hk : Keep [] w (w.alloc (.cells #[] 5)) := (Keep.refl _ _).alloc _
    have hsrc := SrcOf.of_bytes (H.out.keep0 hk)
    go_enter Try.func26, Try.ntmps26
    go_wp2_with (at_builtin; refine wpList_append_off rfl _ _ rfl Try.bytes35 w.heap.size _ 0 _ rfl hown _ _ _ rfl hsrc (by simp [u8, Value.oneCell']) (by unfold maxLen; omega) (by omega) (by simp) ?_)
    intro v' w2 hown2 hk2 hblk
    have hown3 : OwnB w2 w.heap.size v' bs := by unfold OwnB; simpa using hown2
    have hk3 : Keep [] w w2 := hk.trans hk2 (by simp [ownBlocks, Value.ownBlock])
    obtain ⟨a', c', rfl⟩ := OwnsAt.shape hown3
    clear hown hsrc hk hk2 hblk hown2
    go_wp2
    go_ret
    exact ⟨_, rfl, hown3, hk3⟩
theorem OwnsAt.mono {w : World} {B B' : Nat} {e : TypeId} {size n : Nat} {v : Value} {xs : List Value} (h : OwnsAt w B e size v n xs) (hb : B' ≤ B) : OwnsAt w B' e size v n xs :=
  ⟨h.1, h.2.imp id fun ⟨g, off, cap, cur, h1, h2, h3⟩ => ⟨g, off, cap, cur, h1, Nat.le_trans hb h2, h3⟩⟩
theorem OwnsAt.rowAt {α : Type} {w : World} {B : Nat} {e : TypeId} {sz : Nat} {av : Option Addr} {n cv : Nat} {l : List α} {c : α → List Value} (h : OwnsAt w B e sz (.slice av n cv) n (l.flatMap c)) (hc : ∀ a, (c a).length = sz) {i : Nat} {a : α} (hi : l[i]? = some a) (hn : i < n) :
    ∃ g off, av = some ⟨g, off, none⟩ ∧ B ≤ g ∧ g < w.heap.size ∧ (∀ (j : Nat) (u : Value), j < sz → (c a)[j]? = some u → w.cell? ⟨g, off + i * sz + j, none⟩ = some u) ∧ n ≤ cv ∧ ∀ j, w.frozen? ⟨g, j, none⟩ = false := by
  obtain ⟨g, off, cap, hv, h1, h2, h3, h4, h5⟩ := h.form (by omega)
  injection hv with e1 e2 e3
  subst e1 e3
  refine ⟨g, off, rfl, h3, h4, fun j u hj hu => ?_, h1, h.free⟩
  rw [Nat.add_assoc]
  exact h5 _ u ((flat_at hc l i a j hi hj).trans hu)
theorem src_row {w : World} {t : TypeId} {cs : List Value} (sz : Nat) (h : cs.length = sz) (c : Array Value) (hc : c = cs.toArray) : SrcOf (w.alloc (.cells c t)) (.slice (some ⟨w.heap.size, 0, none⟩) 1 1) sz 1 cs := by
  subst hc
  refine ⟨_, _, rfl, by omega, fun _ => ⟨_, rfl, fun j u hu => ?_⟩⟩
  rw [add_none, Nat.zero_add]
  exact ((Blk.new w t cs).cell j).trans hu
theorem reach_trans {F F1 F2 : List Nat} {w w1 w2 : World} (h1 : Keep F w w1) (f1 : ∀ x ∈ F1, x ∈ F ∨ w.heap.size ≤ x) (h2 : Keep F1 w1 w2) (f2 : ∀ x ∈ F2, x ∈ F1 ∨ w1.heap.size ≤ x) :
    Keep F w w2 ∧ ∀ x ∈ F2, x ∈ F ∨ w.heap.size ≤ x := by
  refine ⟨h1.trans h2 f1, fun x hx => ?_⟩
  rcases f2 x hx with h | h
  · exact f1 x h
  · have := h1.size
    exact Or.inr (by omega)
end Go.Proofs.Ytacifjjhadjhfaa
