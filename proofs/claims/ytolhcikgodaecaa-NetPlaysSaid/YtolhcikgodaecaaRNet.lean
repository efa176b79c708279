/- The reference net in memory. -/
import Derived.Test.YtolhcikgodaecaaRows
import Derived.WalkKit
import Derived.WalkSpells
import Derived.WalkLawsBesides
import Derived.RegionTactic
import Derived.ChangeAlike
import Derived.BigQuiet
import Derived.Deep.QuietTactic
import Derived.StillTailTactics
import Derived.IntWalk
import Derived.Handy
import Derived.Lib.Hide
import Derived.Deep.AppendLies
import Derived.Deep.RegionWith
import Derived.Deep.RegionLaw
import Derived.Test.YtolhcikgodaecaaBase
import Derived.Test.YtolhcikgodaecaaTail
import Derived.Test.YtolhcikgodaecaaArgs
import Derived.Test.YtolhcikgodaecaaAppend
import Derived.Test.YtolhcikgodaecaaOffs
import Derived.Test.YtolhcikgodaecaaStructs
import Derived.Test.YtolhcikgodaecaaNetObj
import Derived.Test.YtolhcikgodaecaaNetObj2
import Derived.Test.YtolhcikgodaecaaNetSend
import Derived.Test.YtolhcikgodaecaaNetWay
import Derived.Test.YtolhcikgodaecaaNetDel
import Derived.Test.YtolhcikgodaecaaNetSmall
import Derived.Test.YtolhcikgodaecaaSplit
import Derived.Test.YtolhcikgodaecaaNetSmall
import Derived.Test.YtolhcikgodaecaaNetFlip
import Derived.Test.YtolhcikgodaecaaNetDup
import Derived.Deep.CutRange
import Derived.Deep.DeepCutAuto
import Derived.BigRegion
namespace Go.Proofs.Ytolhcikgodaecaa
open Go.RowKit
structure RNIn (w : World) (B p : Nat) (vw : Value) (ss : List PS) : Prop where
  head : Blk w p 42 [vw]
  rows : OwnsAt w B 29 3 vw ss.length (ss.flatMap PS.c3)
  bytes : ∀ s ∈ ss, OwnB w B s.bv s.bs
  nodup : (byteBlocks ss).Nodup
  base : B ≤ p
/-- a net, its blocks F -/
def RNAt (w : World) (B p : Nat) (F : List Nat) (ss : List PS) : Prop := ∃ vw, RNIn w B p vw ss ∧ F = netFoot p vw ss
theorem RNIn.keep {w w' : World} {B p : Nat} {vw : Value} {ss : List PS} {S : List Nat} (h : RNIn w B p vw ss) (hk : Keep S w w') (hn : ∀ x ∈ netFoot p vw ss, x ∉ S) : RNIn w' B p vw ss :=
  ⟨h.head.keep hk (hn p (by simp [netFoot])), h.rows.keep hk (fun g hg => hn g (by simp [netFoot, mem_own, hg])),
   fun s hs => (h.bytes s hs).keep hk (fun g hg => hn g (by simp only [netFoot, List.mem_cons, List.mem_append]; exact Or.inr (Or.inr (mem_byteBlocks.2 ⟨s, hs, hg⟩)))), h.nodup, h.base⟩
theorem RNAt.keep {w w' : World} {B p : Nat} {F : List Nat} {ss : List PS} {S : List Nat} (h : RNAt w B p F ss) (hk : Keep S w w') (hn : ∀ x ∈ F, x ∉ S) : RNAt w' B p F ss := by
  obtain ⟨vw, h, rfl⟩ := h
  exact ⟨vw, h.keep hk hn, rfl⟩
theorem RNAt.lt {w : World} {B p : Nat} {F : List Nat} {ss : List PS} (h : RNAt w B p F ss) : ∀ x ∈ F, B ≤ x ∧ x < w.heap.size := by
  obtain ⟨vw, h, rfl⟩ := h
  intro x hx
  simp only [netFoot, List.mem_cons, List.mem_append] at hx
  rcases hx with rfl | hx | hx
  · exact ⟨h.base, h.head.lt⟩
  · exact h.rows.lt x (mem_own.1 hx)
  · obtain ⟨s, hs, hb⟩ := mem_byteBlocks.1 hx
    exact OwnsAt.lt (h.bytes s hs) x hb
/-- what a call of a method leaves: the answer, the net turned into ss', its blocks, nothing else turned -/
def RNPost (B p : Nat) (F : List Nat) (w : World) (v : Value) (ss' : List PS) (e : Ending) (w' : World) : Prop :=
  e = .returned v ∧ ∃ F', RNAt w' B p F' ss' ∧ Keep F w w' ∧ ∀ x ∈ F', x ∈ F ∨ w.heap.size ≤ x

/-! ### New, is -/
/-- a net with one more parcel, its bytes new -/
theorem RNIn.push {w w1 w2 : World} {B p : Nat} {vw vw' : Value} {ss : List PS} {s : PS} (h : RNIn w B p vw ss) (hB : B ≤ w.heap.size) (k1 : Keep [] w w1) (hb : OwnB w1 w.heap.size s.bv s.bs)
    (k2 : Keep (ownBlocks vw) w1 w2) (hr : OwnsAt w2 B 29 3 vw' (ss.length + 1) ((ss ++ [s]).flatMap PS.c3)) (hat : vw'.ownBlock = vw.ownBlock ∨ ∃ g, vw'.ownBlock = some g ∧ w1.heap.size ≤ g) :
    RNIn (w2.setCell ⟨p, 0, none⟩ vw') B p vw' (ss ++ [s]) ∧ Keep (netFoot p vw ss) w (w2.setCell ⟨p, 0, none⟩ vw') ∧ ∀ x ∈ netFoot p vw' (ss ++ [s]), x ∈ netFoot p vw ss ∨ w.heap.size ≤ x := by
  have hp : vw.ownBlock ≠ some p := h.rows.ne_blk h.head (by decide)
  have hpw : p ∉ ownBlocks vw := fun hx => hp (mem_own.1 hx)
  have hd2 : Blk w2 p 42 [vw] := (h.head.keep k1 (by simp)).keep k2 hpw
  have k3 : Keep [p] w2 (w2.setCell ⟨p, 0, none⟩ vw') := (Keep.refl _ _).setCell (by simp) _
  have hp' : vw'.ownBlock ≠ some p := hr.ne_blk hd2 (by decide)
  have hs1 := k1.size
  have hbB : OwnB w1 B s.bv s.bs := OwnsAt.mono hb hB
  -- the old bytes in the end
  have old : ∀ t ∈ ss, OwnB (w2.setCell ⟨p, 0, none⟩ vw') B t.bv t.bs := fun t ht => by
    have h1 := (h.bytes t ht).keep k1 (by simp)
    have h2 := OwnsAt.keep h1 k2 (fun g hg hx => (h.bytes t ht).ne_own h.rows (by decide) g hg (mem_own.1 hx))
    exact OwnsAt.keep h2 k3 (fun g hg hx => by
      have : g = p := by simpa using hx
      subst this
      exact (h.bytes t ht).ne_blk h.head (by decide) hg)
  have new1 : OwnB w2 B s.bv s.bs := OwnsAt.keep hbB k2 (fun g hg hx => by
    have h1 := (OwnsAt.lt hb g hg).1
    have h2 := (h.rows.lt g (mem_own.1 hx)).2
    omega)
  have new : OwnB (w2.setCell ⟨p, 0, none⟩ vw') B s.bv s.bs := OwnsAt.keep new1 k3 (fun g hg hx => by
    have : g = p := by simpa using hx
    subst this
    exact OwnsAt.ne_blk new1 hd2 (by decide) hg)
  refine ⟨⟨hd2.set_ 0 _, by rw [List.length_append]; exact hr.keep k3 (fun g hg hx => by
      have : g = p := by simpa using hx
      subst this
      exact hp' hg), fun t ht => ?_, ?_, h.base⟩, ?_, ?_⟩
  · rcases List.mem_append.1 ht with ht | ht
    · exact old t ht
    · obtain rfl : t = s := by simpa using ht
      exact new
  · unfold byteBlocks
    rw [List.flatMap_append]
    refine List.nodup_append.2 ⟨h.nodup, ?_, ?_⟩
    · simp only [List.flatMap_cons, List.flatMap_nil, List.append_nil, ownBlocks]
      cases s.bv.ownBlock <;> simp
    · intro x hx y hy
      obtain ⟨t, ht, hxt⟩ := mem_byteBlocks.1 hx
      have h1 := (OwnsAt.lt (h.bytes t ht) x hxt).2
      have h2 := (OwnsAt.lt hb y (by simpa [ownBlocks] using hy)).1
      omega
  · have a1 : Keep (netFoot p vw ss) w w2 := (k1.mono (T := netFoot p vw ss) (by simp)).trans k2 (fun x hx => Or.inl (by simp only [netFoot, List.mem_cons, List.mem_append]; exact Or.inr (Or.inl hx)))
    exact a1.trans k3 (fun x hx => Or.inl (by simp at hx; subst hx; simp [netFoot]))
  · intro x hx
    simp only [netFoot, List.mem_cons, List.mem_append] at hx
    rcases hx with rfl | hx | hx
    · exact Or.inl (by simp [netFoot])
    · rcases hat with hat | ⟨g, hg, hlt⟩
      · exact Or.inl (by simp only [netFoot, List.mem_cons, List.mem_append]; exact Or.inr (Or.inl (by rw [mem_own, ← hat]; exact mem_own.1 hx)))
      · rw [mem_own, hg] at hx
        cases hx
        exact Or.inr (by omega)
    · obtain ⟨t, ht, hb'⟩ := mem_byteBlocks.1 hx
      rcases List.mem_append.1 ht with ht | ht
      · exact Or.inl (by simp only [netFoot, List.mem_cons, List.mem_append]; exact Or.inr (Or.inr (mem_byteBlocks.2 ⟨t, ht, hb'⟩)))
      · obtain rfl : t = s := by simpa using ht
        exact Or.inr (OwnsAt.lt hb x hb').1
set_option maxHeartbeats 1000000 in
theorem parcelR_spec {w : World} {f t : Int} {bv : Value} {bs : List UInt8} (h : BytesOf w bv bs) (hl : bs.length ≤ 1000000000) : Calls Try.prog 26 #[.agg #[.int .i64 f, .int .i64 t, bv]] w (OwnParcel f t bs w) := by
  obtain ⟨a, c, rfl⟩ := h.shape
  have H := Lib.hid h
  clear h
  have hk0 : Keep [] w ((w.alloc (.cells #[.int .i64 f, .int .i64 t, .slice a bs.length c] 29)).alloc (.cells #[.int .i64 0, .int .i64 0, .slice none 0 0] 29)) := ((Keep.refl _ _).alloc _).alloc _
  have b1 : Blk ((w.alloc (.cells #[.int .i64 f, .int .i64 t, .slice a bs.length c] 29)).alloc (.cells #[.int .i64 0, .int .i64 0, .slice none 0 0] 29)) w.heap.size 29 [.int .i64 f, .int .i64 t, .slice a bs.length c] := (Blk.new' w _ _ _ rfl).alloc _
  have b2 : Blk ((w.alloc (.cells #[.int .i64 f, .int .i64 t, .slice a bs.length c] 29)).alloc (.cells #[.int .i64 0, .int .i64 0, .slice none 0 0] 29)) (w.heap.size + 1) 29 [.int .i64 0, .int .i64 0, .slice none 0 0] := by
    have := Blk.new' (w.alloc (.cells #[.int .i64 f, .int .i64 t, .slice a bs.length c] 29)) 29 #[.int .i64 0, .int .i64 0, .slice none 0 0] _ rfl
    simpa using this
  have hsz : ((w.alloc (.cells #[.int .i64 f, .int .i64 t, .slice a bs.length c] 29)).alloc (.cells #[.int .i64 0, .int .i64 0, .slice none 0 0] 29)).heap.size = w.heap.size + 2 := by simp
  have Hsz := Lib.hid hsz
  have hsrc := SrcOf.of_bytes (H.out.keep0 hk0)
  have e2 : ((w.alloc (.cells #[.int .i64 f, .int .i64 t, .slice a bs.length c] 29)).alloc (.cells #[.int .i64 0, .int .i64 0, .slice none 0 0] 29)).cell? ⟨w.heap.size, 2, none⟩ = some (.slice a bs.length c) := b1.cell 2
  generalize hwA : (w.alloc (.cells #[.int .i64 f, .int .i64 t, .slice a bs.length c] 29)).alloc (.cells #[.int .i64 0, .int .i64 0, .slice none 0 0] 29) = wA at *
  clear hsz
  go_enter Try.func26, Try.ntmps26
  go_wp2_with (at_builtin; refine wpList_append_off rfl _ _ rfl Try.bytes27 wA.heap.size (.slice none 0 0) 0 [] rfl (OwnsAt.nil _ _ _ _) _ bs.length _ rfl hsrc (by simp [u8, Value.oneCell']) (by unfold maxLen; omega) (by omega) (by omega) ?_)
  intro v3 w2 ho2 hk2 _
  have hk2 : Keep [] wA w2 := hk2
  have ho : OwnB w2 wA.heap.size v3 bs := by unfold OwnB; simpa using ho2
  have b3 := b1.keep hk2 (by simp)
  have b4 := b2.keep hk2 (by simp)
  have c0 : w2.cell? ⟨w.heap.size, 0, none⟩ = some (.int .i64 f) := b3.cell 0
  have c1 : w2.cell? ⟨w.heap.size, 1, none⟩ = some (.int .i64 t) := b3.cell 1
  have c2 : w2.cell? ⟨w.heap.size, 2, none⟩ = some (.slice a bs.length c) := b3.cell 2
  have d0 : w2.cell? ⟨w.heap.size + 1, 0, none⟩ = some (.int .i64 0) := b4.cell 0
  have d1 : w2.cell? ⟨w.heap.size + 1, 1, none⟩ = some (.int .i64 0) := b4.cell 1
  have d2 : w2.cell? ⟨w.heap.size + 1, 2, none⟩ = some (.slice none 0 0) := b4.cell 2
  have f0 := b3.frozen 2
  have f1 := b4.frozen 0
  have f2 := b4.frozen 1
  have f3 := b4.frozen 2
  obtain ⟨a', c', rfl⟩ := OwnsAt.shape ho
  have hfin : ∀ w3, w3 = (((w2.setCell ⟨w.heap.size, 2, none⟩ (.slice a' bs.length c')).setCell ⟨w.heap.size + 1, 0, none⟩ (.int .i64 f)).setCell ⟨w.heap.size + 1, 1, none⟩ (.int .i64 t)).setCell ⟨w.heap.size + 1, 2, none⟩ (.slice a' bs.length c') →
      OwnParcel f t bs w (.returned (.agg #[.int .i64 f, .int .i64 t, .slice a' bs.length c'])) w3 := by
    rintro w3 rfl
    have hk4 : Keep [w.heap.size, w.heap.size + 1] w2 ((((w2.setCell ⟨w.heap.size, 2, none⟩ (.slice a' bs.length c')).setCell ⟨w.heap.size + 1, 0, none⟩ (.int .i64 f)).setCell ⟨w.heap.size + 1, 1, none⟩ (.int .i64 t)).setCell ⟨w.heap.size + 1, 2, none⟩ (.slice a' bs.length c')) :=
      ((((Keep.refl _ _).setCell (by simp) _).setCell (by simp) _).setCell (by simp) _).setCell (by simp) _
    refine ⟨_, rfl, ?_, (hk0.trans hk2 (by simp)).trans hk4 (by simp)⟩
    refine OwnsAt.mono (OwnsAt.keep ho hk4 (fun g hg => ?_)) (by have := Hsz.out; omega)
    have := (OwnsAt.lt ho g hg).1
    have := Hsz.out
    simp
    omega
  have Hfin := Lib.hid hfin
  clear hfin ho ho2 hk2 hk0 b1 b2 b3 b4 hwA e2 hsrc
  go_wp2
  exact bodyPost_ret (v := .agg #[.int .i64 f, .int .i64 t, .slice a' bs.length c']) (by simp [results, Try.results26, go_sem, d0, d1, d2]) rfl (Hfin.out _ rfl)
end Go.Proofs.Ytolhcikgodaecaa
