/- Nets in memory; New, is, Send. -/
import Derived.Test.YtolhcikgodaecaaRows
import Derived.WalkKit
import Derived.WalkSpells
import Derived.WalkLawsBesides
import Derived.RegionTactic
import Derived.ChangeAlike
import Derived.BigQuiet
import Derived.Deep.QuietTactic
import Derived.StillTailTactics
import Derived.IntWalk
import Derived.Handy
import Derived.Lib.Hide
import Derived.Deep.AppendLies
import Derived.Deep.RegionWith
import Derived.Test.YtolhcikgodaecaaBase
import Derived.Test.YtolhcikgodaecaaTail
import Derived.Test.YtolhcikgodaecaaArgs
import Derived.Test.YtolhcikgodaecaaAppend
import Derived.Test.YtolhcikgodaecaaOffs
import Derived.Test.YtolhcikgodaecaaStructs
import Derived.Test.YtolhcikgodaecaaNetObj
namespace Go.Proofs.Ytolhcikgodaecaa
open Go.RowKit

/-! ### What a net is in memory -/
structure PS where
  f : Int
  t : Int
  bs : List UInt8
  fl : Bool
  bv : Value
def PS.c4 (s : PS) : List Value := [.int .i64 s.f, .int .i64 s.t, s.bv, .bool s.fl]
def PS.c3 (s : PS) : List Value := [.int .i64 s.f, .int .i64 s.t, s.bv]
theorem PS.c4_len (s : PS) : s.c4.length = 4 := rfl
theorem PS.c3_len (s : PS) : s.c3.length = 3 := rfl
/-- the blocks of the bytes -/
def byteBlocks (ss : List PS) : List Nat := ss.flatMap fun s => ownBlocks s.bv
structure NetIn (w : World) (B p : Nat) (vw : Value) (ss : List PS) : Prop where
  head : Blk w p 51 [vw]
  rows : OwnsAt w B 54 4 vw ss.length (ss.flatMap PS.c4)
  bytes : ∀ s ∈ ss, OwnB w B s.bv s.bs
  nodup : (byteBlocks ss).Nodup
  base : B ≤ p
def netFoot (p : Nat) (vw : Value) (ss : List PS) : List Nat := p :: (ownBlocks vw ++ byteBlocks ss)
/-- a net, its blocks F -/
def NetAt (w : World) (B p : Nat) (F : List Nat) (ss : List PS) : Prop := ∃ vw, NetIn w B p vw ss ∧ F = netFoot p vw ss
theorem mem_byteBlocks {ss : List PS} {x : Nat} : x ∈ byteBlocks ss ↔ ∃ s ∈ ss, s.bv.ownBlock = some x := by
  unfold byteBlocks
  rw [List.mem_flatMap]
  constructor
  · rintro ⟨s, hs, hx⟩; exact ⟨s, hs, mem_own.1 hx⟩
  · rintro ⟨s, hs, hx⟩; exact ⟨s, hs, mem_own.2 hx⟩
theorem OwnsAt.blk {w : World} {B : Nat} {e : TypeId} {size n : Nat} {v : Value} {xs : List Value} (h : OwnsAt w B e size v n xs) {g : Nat} (hg : v.ownBlock = some g) : ∃ cur : Array Value, w.heap[g]? = some (.cells cur e (0, 0)) := by
  rcases h.2 with ⟨rfl, _⟩ | ⟨g', off, cap, cur, rfl, hb, hg', _⟩
  · cases hg
  · cases hg
    exact ⟨cur, hg'⟩
theorem OwnsAt.ne_own {w : World} {B B' : Nat} {e e' : TypeId} {size n size' n' : Nat} {v v' : Value} {xs xs' : List Value} (h : OwnsAt w B e size v n xs) (h' : OwnsAt w B' e' size' v' n' xs') (hne : e ≠ e') : ∀ g, v.ownBlock = some g → v'.ownBlock ≠ some g := by
  intro g hg hg'
  obtain ⟨c, hc⟩ := h.blk hg
  obtain ⟨c', hc'⟩ := h'.blk hg'
  rw [hc] at hc'
  injection hc' with hc'
  injection hc' with _ ht
  exact hne ht
theorem OwnsAt.ne_blk {w : World} {B p : Nat} {t e : TypeId} {size n : Nat} {v : Value} {xs cs : List Value} (h : OwnsAt w B e size v n xs) (h' : Blk w p t cs) (hne : e ≠ t) : v.ownBlock ≠ some p := by
  intro hg
  obtain ⟨c, hc⟩ := h.blk hg
  unfold Blk at h'
  rw [hc] at h'
  injection h' with h'
  injection h' with _ ht
  exact hne ht
theorem NetIn.keep {w w' : World} {B p : Nat} {vw : Value} {ss : List PS} {S : List Nat} (h : NetIn w B p vw ss) (hk : Keep S w w') (hn : ∀ x ∈ netFoot p vw ss, x ∉ S) : NetIn w' B p vw ss :=
  ⟨h.head.keep hk (hn p (by simp [netFoot])), h.rows.keep hk (fun g hg => hn g (by simp [netFoot, mem_own, hg])),
   fun s hs => (h.bytes s hs).keep hk (fun g hg => hn g (by simp only [netFoot, List.mem_cons, List.mem_append]; exact Or.inr (Or.inr (mem_byteBlocks.2 ⟨s, hs, hg⟩)))), h.nodup, h.base⟩
theorem NetAt.keep {w w' : World} {B p : Nat} {F : List Nat} {ss : List PS} {S : List Nat} (h : NetAt w B p F ss) (hk : Keep S w w') (hn : ∀ x ∈ F, x ∉ S) : NetAt w' B p F ss := by
  obtain ⟨vw, h, rfl⟩ := h
  exact ⟨vw, h.keep hk hn, rfl⟩
theorem NetAt.lt {w : World} {B p : Nat} {F : List Nat} {ss : List PS} (h : NetAt w B p F ss) : ∀ x ∈ F, B ≤ x ∧ x < w.heap.size := by
  obtain ⟨vw, h, rfl⟩ := h
  intro x hx
  simp only [netFoot, List.mem_cons, List.mem_append] at hx
  rcases hx with rfl | hx | hx
  · exact ⟨h.base, h.head.lt⟩
  · exact h.rows.lt x (mem_own.1 hx)
  · obtain ⟨s, hs, hb⟩ := mem_byteBlocks.1 hx
    exact OwnsAt.lt (h.bytes s hs) x hb
/-- what a call of a method leaves: the answer, the net turned into ss', its blocks, nothing else turned -/
def NetPost (B p : Nat) (F : List Nat) (w : World) (v : Value) (ss' : List PS) (e : Ending) (w' : World) : Prop :=
  e = .returned v ∧ ∃ F', NetAt w' B p F' ss' ∧ Keep F w w' ∧ ∀ x ∈ F', x ∈ F ∨ w.heap.size ≤ x

/-! ### New, is -/
def NewNet (w : World) (e : Ending) (w' : World) : Prop := ∃ p F, e = .returned (.pointer (some ⟨p, 0, none⟩)) ∧ NetAt w' w.heap.size p F [] ∧ Keep [] w w'
set_option maxHeartbeats 1000000 in
theorem netNew_spec (w : World) : Calls Try.prog 8 #[] w (NewNet w) := by
  go_enter Try.func8, Try.ntmps8
  go_wp2
  go_ret
  exact ⟨w.heap.size, _, rfl, ⟨.slice none 0 0, ⟨Blk.new' _ _ _ _ rfl, OwnsAt.nil _ _ _ _, by simp, by simp [byteBlocks], Nat.le_refl _⟩, rfl⟩, (Keep.refl _ _).alloc _⟩
def isK (k : Int) (n : Nat) : Bool := decide (0 ≤ k ∧ k < n)
set_option maxHeartbeats 1000000 in
theorem isK_spec {w : World} {B p : Nat} {vw : Value} {ss : List PS} (k : Int) (h : NetIn w B p vw ss) : Calls Try.prog 24 #[.pointer (some ⟨p, 0, none⟩), .int .i64 k] w fun e w' => e = .returned (.bool (isK k ss.length)) ∧ w = w' := by
  obtain ⟨a, c, rfl⟩ := h.rows.shape
  have c0 : w.cell? ⟨p, 0, none⟩ = some (.slice a ss.length c) := h.head.cell 0
  by_cases h0 : k < 0
  · rw [show isK k ss.length = false by unfold isK; simp; omega]
    go_enter Try.func24, Try.ntmps24
    go_wp2
    go_ret
    exact ⟨rfl, rfl⟩
  · by_cases h1 : k < (ss.length : Int)
    · rw [show isK k ss.length = true by unfold isK; simp; omega]
      go_enter Try.func24, Try.ntmps24
      go_wp2
      go_ret
      exact ⟨rfl, rfl⟩
    · rw [show isK k ss.length = false by unfold isK; simp; omega]
      go_enter Try.func24, Try.ntmps24
      go_wp2
      go_ret
      exact ⟨rfl, rfl⟩
/-! ### Parcels handed in -/
/-- the slice value v reads as the parcels ps (each with a bytes' slice of its own) -/
def ParcelsOf (w : World) (v : Value) (ps : List PS) : Prop :=
  ∃ a c, v = .slice a ps.length c ∧ (∀ (i : Nat) (s : PS), ps[i]? = some s → ∃ b off, a = some ⟨b, off, none⟩ ∧ b < w.heap.size ∧ w.cell? ⟨b, off + i * 3, none⟩ = some (.int .i64 s.f) ∧
    w.cell? ⟨b, off + i * 3 + 1, none⟩ = some (.int .i64 s.t) ∧ w.cell? ⟨b, off + i * 3 + 2, none⟩ = some s.bv ∧ BytesOf w s.bv s.bs)
/-- its blocks: the slice's and the bytes' -/
def parcelBlocks (v : Value) (ps : List PS) : List Nat := ownBlocks v ++ byteBlocks ps
theorem ParcelsOf.keep {w w' : World} {v : Value} {ps : List PS} {S : List Nat} (h : ParcelsOf w v ps) (hk : Keep S w w') (hn : ∀ x ∈ parcelBlocks v ps, x ∉ S) : ParcelsOf w' v ps := by
  obtain ⟨a, c, rfl, h⟩ := h
  refine ⟨a, c, rfl, fun i s hs => ?_⟩
  obtain ⟨b, off, rfl, hb, h0, h1, h2, h3⟩ := h i s hs
  have hnb : b ∉ S := hn b (by simp [parcelBlocks, ownBlocks, Value.ownBlock])
  exact ⟨b, off, rfl, Nat.lt_of_lt_of_le hb hk.size, (hk.cell hb hnb).trans h0, (hk.cell hb hnb).trans h1, (hk.cell hb hnb).trans h2,
    h3.keep hk (fun x hx => hn x (by simp only [parcelBlocks, List.mem_append]; exact Or.inr (mem_byteBlocks.2 ⟨s, List.mem_of_getElem? hs, mem_own.1 hx⟩)))⟩
/-! ### One more -/
/-- a net with one more parcel, its bytes new -/
theorem NetIn.push {w w1 w2 : World} {B p : Nat} {vw vw' : Value} {ss : List PS} {s : PS} (h : NetIn w B p vw ss) (hB : B ≤ w.heap.size) (k1 : Keep [] w w1) (hb : OwnB w1 w.heap.size s.bv s.bs)
    (k2 : Keep (ownBlocks vw) w1 w2) (hr : OwnsAt w2 B 54 4 vw' (ss.length + 1) ((ss ++ [s]).flatMap PS.c4)) (hat : vw'.ownBlock = vw.ownBlock ∨ ∃ g, vw'.ownBlock = some g ∧ w1.heap.size ≤ g) :
    NetIn (w2.setCell ⟨p, 0, none⟩ vw') B p vw' (ss ++ [s]) ∧ Keep (netFoot p vw ss) w (w2.setCell ⟨p, 0, none⟩ vw') ∧ ∀ x ∈ netFoot p vw' (ss ++ [s]), x ∈ netFoot p vw ss ∨ w.heap.size ≤ x := by
  have hp : vw.ownBlock ≠ some p := h.rows.ne_blk h.head (by decide)
  have hpw : p ∉ ownBlocks vw := fun hx => hp (mem_own.1 hx)
  have hd2 : Blk w2 p 51 [vw] := (h.head.keep k1 (by simp)).keep k2 hpw
  have k3 : Keep [p] w2 (w2.setCell ⟨p, 0, none⟩ vw') := (Keep.refl _ _).setCell (by simp) _
  have hp' : vw'.ownBlock ≠ some p := hr.ne_blk hd2 (by decide)
  have hs1 := k1.size
  have hbB : OwnB w1 B s.bv s.bs := OwnsAt.mono hb hB
  -- the old bytes in the end
  have old : ∀ t ∈ ss, OwnB (w2.setCell ⟨p, 0, none⟩ vw') B t.bv t.bs := fun t ht => by
    have h1 := (h.bytes t ht).keep k1 (by simp)
    have h2 := OwnsAt.keep h1 k2 (fun g hg hx => (h.bytes t ht).ne_own h.rows (by decide) g hg (mem_own.1 hx))
    exact OwnsAt.keep h2 k3 (fun g hg hx => by
      have : g = p := by simpa using hx
      subst this
      exact (h.bytes t ht).ne_blk h.head (by decide) hg)
  have new1 : OwnB w2 B s.bv s.bs := OwnsAt.keep hbB k2 (fun g hg hx => by
    have h1 := (OwnsAt.lt hb g hg).1
    have h2 := (h.rows.lt g (mem_own.1 hx)).2
    omega)
  have new : OwnB (w2.setCell ⟨p, 0, none⟩ vw') B s.bv s.bs := OwnsAt.keep new1 k3 (fun g hg hx => by
    have : g = p := by simpa using hx
    subst this
    exact OwnsAt.ne_blk new1 hd2 (by decide) hg)
  refine ⟨⟨hd2.set_ 0 _, by rw [List.length_append]; exact hr.keep k3 (fun g hg hx => by
      have : g = p := by simpa using hx
      subst this
      exact hp' hg), fun t ht => ?_, ?_, h.base⟩, ?_, ?_⟩
  · rcases List.mem_append.1 ht with ht | ht
    · exact old t ht
    · obtain rfl : t = s := by simpa using ht
      exact new
  · unfold byteBlocks
    rw [List.flatMap_append]
    refine List.nodup_append.2 ⟨h.nodup, ?_, ?_⟩
    · simp only [List.flatMap_cons, List.flatMap_nil, List.append_nil, ownBlocks]
      cases s.bv.ownBlock <;> simp
    · intro x hx y hy
      obtain ⟨t, ht, hxt⟩ := mem_byteBlocks.1 hx
      have h1 := (OwnsAt.lt (h.bytes t ht) x hxt).2
      have h2 := (OwnsAt.lt hb y (by simpa [ownBlocks] using hy)).1
      omega
  · have a1 : Keep (netFoot p vw ss) w w2 := (k1.mono (T := netFoot p vw ss) (by simp)).trans k2 (fun x hx => Or.inl (by simp only [netFoot, List.mem_cons, List.mem_append]; exact Or.inr (Or.inl hx)))
    exact a1.trans k3 (fun x hx => Or.inl (by simp at hx; subst hx; simp [netFoot]))
  · intro x hx
    simp only [netFoot, List.mem_cons, List.mem_append] at hx
    rcases hx with rfl | hx | hx
    · exact Or.inl (by simp [netFoot])
    · rcases hat with hat | ⟨g, hg, hlt⟩
      · exact Or.inl (by simp only [netFoot, List.mem_cons, List.mem_append]; exact Or.inr (Or.inl (by rw [mem_own, ← hat]; exact mem_own.1 hx)))
      · rw [mem_own, hg] at hx
        cases hx
        exact Or.inr (by omega)
    · obtain ⟨t, ht, hb'⟩ := mem_byteBlocks.1 hx
      rcases List.mem_append.1 ht with ht | ht
      · exact Or.inl (by simp only [netFoot, List.mem_cons, List.mem_append]; exact Or.inr (Or.inr (mem_byteBlocks.2 ⟨t, ht, hb'⟩)))
      · obtain rfl : t = s := by simpa using ht
        exact Or.inr (OwnsAt.lt hb x hb').1
end Go.Proofs.Ytolhcikgodaecaa
