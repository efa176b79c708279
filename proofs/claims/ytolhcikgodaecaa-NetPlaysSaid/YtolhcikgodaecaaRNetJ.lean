/- A net, another one and the reference net beside each other. -/
import Derived.Test.YtolhcikgodaecaaRows
import Derived.WalkKit
import Derived.WalkSpells
import Derived.WalkLawsBesides
import Derived.RegionTactic
import Derived.ChangeAlike
import Derived.BigQuiet
import Derived.Deep.QuietTactic
import Derived.StillTailTactics
import Derived.IntWalk
import Derived.Handy
import Derived.Lib.Hide
import Derived.Deep.AppendLies
import Derived.Deep.RegionWith
import Derived.Deep.RegionLaw
import Derived.Test.YtolhcikgodaecaaBase
import Derived.Test.YtolhcikgodaecaaTail
import Derived.Test.YtolhcikgodaecaaArgs
import Derived.Test.YtolhcikgodaecaaAppend
import Derived.Test.YtolhcikgodaecaaOffs
import Derived.Test.YtolhcikgodaecaaStructs
import Derived.Test.YtolhcikgodaecaaNetObj
import Derived.Test.YtolhcikgodaecaaNetObj2
import Derived.Test.YtolhcikgodaecaaNetSend
import Derived.Test.YtolhcikgodaecaaNetWay
import Derived.Test.YtolhcikgodaecaaNetDel
import Derived.Test.YtolhcikgodaecaaNetSmall
import Derived.Test.YtolhcikgodaecaaSplit
import Derived.Test.YtolhcikgodaecaaNetSmall
import Derived.Test.YtolhcikgodaecaaNetFlip
import Derived.Test.YtolhcikgodaecaaNetDup
import Derived.Deep.CutRange
import Derived.Deep.DeepCutAuto
import Derived.BigRegion
import Derived.Test.YtolhcikgodaecaaRNet
import Derived.Test.YtolhcikgodaecaaRNet2
import Derived.Test.YtolhcikgodaecaaRNet3
import Derived.Test.YtolhcikgodaecaaRNet4
import Derived.Test.YtolhcikgodaecaaRNet5
import Derived.Test.YtolhcikgodaecaaNetGone
import Derived.Test.YtolhcikgodaecaaBytes
import Derived.Test.YtolhcikgodaecaaOpens
import Derived.Test.YtolhcikgodaecaaRNet6
namespace Go.Proofs.Ytolhcikgodaecaa
open Go.RowKit

/-! ### plain -/
abbrev D3 := Int × Int × List UInt8
structure SmlD (d : List D3) : Prop where
  l : d.length ≤ 10000
  b : ∀ s ∈ d, s.2.2.length ≤ 200
def sendD (d : List D3) (ps : List PS) : List D3 := d ++ (ps.take (room d.length ps.length)).map dat3
def delD (d : List D3) (k : Int) : List D3 := if isK k d.length = true then d.eraseIdx k.toNat else d
def delR (d : List D3) (k : Int) : D3 := if isK k d.length = true then d.getD k.toNat (0, 0, []) else (0, 0, [])
def dupB (d : List D3) (k : Int) : Bool := decide (isK k d.length = true ∧ d.length < 10000)
def dupD (d : List D3) (k : Int) : List D3 := if isK k d.length = true ∧ d.length < 10000 then d ++ [d.getD k.toNat (0, 0, [])] else d
def flpB (d : List D3) (k bit : Int) : Bool := decide (isK k d.length = true ∧ 0 ≤ bit ∧ bit / 8 < ((d.getD k.toNat (0, 0, [])).2.2.length : Nat))
def flpD (d : List D3) (k bit : Int) : List D3 := if flpB d k bit = true then d.set k.toNat ((d.getD k.toNat (0, 0, [])).1, (d.getD k.toNat (0, 0, [])).2.1, flipB (d.getD k.toNat (0, 0, [])).2.2 bit.toNat) else d
def gonD (d : List D3) (ns : List Int) : List D3 := d.filter fun s => !((ns.any fun n => n == s.1) || (ns.any fun n => n == s.2.1))
theorem SmlD.send {d : List D3} (h : SmlD d) {ps : List PS} (hb : ∀ s ∈ ps, s.bs.length ≤ 200) : SmlD (sendD d ps) := by
  refine ⟨?_, fun s hs => ?_⟩
  · unfold sendD room
    have := h.l
    simp
    omega
  · unfold sendD at hs
    rcases List.mem_append.1 hs with hs | hs
    · exact h.b s hs
    · obtain ⟨t, ht, rfl⟩ := List.mem_map.1 hs
      exact hb t (List.mem_of_mem_take ht)
theorem SmlD.del {d : List D3} (h : SmlD d) (k : Int) : SmlD (delD d k) := by
  unfold delD
  split
  · refine ⟨?_, fun s hs => h.b s (List.mem_of_mem_eraseIdx hs)⟩
    have h1 := List.length_eraseIdx_le d k.toNat
    have := h.l
    omega
  · exact h
theorem isK_get {d : List D3} {k : Int} (h : isK k d.length = true) : d.getD k.toNat (0, 0, []) ∈ d ∧ d[k.toNat]? = some (d.getD k.toNat (0, 0, [])) := by
  unfold isK at h
  have h2 : 0 ≤ k ∧ k < d.length := by simpa using h
  have h3 : k.toNat < d.length := by omega
  have h4 : d.getD k.toNat (0, 0, []) = d[k.toNat] := by simp [List.getD, List.getElem?_eq_getElem h3]
  rw [h4]
  exact ⟨List.getElem_mem h3, List.getElem?_eq_getElem h3⟩
theorem SmlD.dup {d : List D3} (h : SmlD d) (k : Int) : SmlD (dupD d k) := by
  unfold dupD
  split
  · rename_i hc
    refine ⟨by simp; omega, fun s hs => ?_⟩
    rcases List.mem_append.1 hs with hs | hs
    · exact h.b s hs
    · obtain rfl : s = d.getD k.toNat (0, 0, []) := by simpa using hs
      exact h.b _ (isK_get hc.1).1
  · exact h
theorem flip_len (bs : List UInt8) (n : Nat) : (flipB bs n).length = bs.length := by simp [flipB]
theorem SmlD.flip {d : List D3} (h : SmlD d) (k bit : Int) : SmlD (flpD d k bit) := by
  unfold flpD
  split
  · rename_i hc
    unfold flpB at hc
    have hc2 := of_decide_eq_true hc
    refine ⟨by rw [List.length_set]; exact h.l, fun s hs => ?_⟩
    rcases List.mem_or_eq_of_mem_set hs with hs | rfl
    · exact h.b s hs
    · simp only [flip_len]
      exact h.b _ (isK_get hc2.1).1
  · exact h
theorem SmlD.gone {d : List D3} (h : SmlD d) (ns : List Int) : SmlD (gonD d ns) :=
  ⟨Nat.le_trans (List.length_filter_le _ _) h.l, fun s hs => h.b s (List.mem_filter.1 hs).1⟩
/-! ### the three nets -/
def KX (X : List Nat) (w0 w w' : World) : Prop := ∃ S, Keep S w w' ∧ ∀ x ∈ S, w0.heap.size ≤ x ∧ x ∉ X
theorem KX.of0 {X : List Nat} {w0 w w' : World} (k : Keep [] w w') : KX X w0 w w' := ⟨[], k, by simp⟩
theorem KX.sub {X Y : List Nat} {w0 w w' : World} (h : KX X w0 w w') (hs : ∀ x ∈ Y, x ∈ X) : KX Y w0 w w' := by
  obtain ⟨S, k, hk⟩ := h
  exact ⟨S, k, fun x hx => ⟨(hk x hx).1, fun hy => (hk x hx).2 (hs x hy)⟩⟩
theorem KX.out {X : List Nat} {w0 w w' : World} (h : KX X w0 w w') (k : Keep [] w0 w) : Keep [] w0 w' := by
  obtain ⟨S, k', hk⟩ := h
  exact k.trans k' (fun x hx => Or.inr (hk x hx).1)
theorem KX.blk {X : List Nat} {w0 w w' : World} {g : Nat} {t : TypeId} {cs : List Value} (h : KX X w0 w w') (hb : Blk w g t cs) (hg : g ∈ X) : Blk w' g t cs := by
  obtain ⟨S, k, hk⟩ := h
  exact hb.keep k (fun hs => (hk g hs).2 hg)
theorem KX.bytes {X : List Nat} {w0 w w' : World} {v : Value} {bs : List UInt8} (h : KX X w0 w w') (hb : BytesOf w v bs) (hg : ∀ x ∈ ownBlocks v, x ∈ X) : BytesOf w' v bs := by
  obtain ⟨S, k, hk⟩ := h
  exact hb.keep k (fun x hx hs => (hk x hs).2 (hg x hx))
theorem KX.pin {X : List Nat} {w0 w w' : World} {B : Nat} {v : Value} {ws : List PS} (h : KX X w0 w w') (hb : ParcelsIn w B v ws) (hg : ∀ x ∈ parcelBlocks v ws, x ∈ X) : ParcelsIn w' B v ws := by
  obtain ⟨S, k, hk⟩ := h
  exact hb.keep k (fun x hx hs => (hk x hs).2 (hg x hx))
structure NJ3 (X : List Nat) (p o r : Nat) (w0 w : World) (F1 F2 F3 : List Nat) (ss os rs : List PS) : Prop where
  n : NetAt w w0.heap.size p F1 ss
  o : NetAt w w0.heap.size o F2 os
  r : RNAt w w0.heap.size r F3 rs
  out : Keep [] w0 w
  a12 : ∀ x ∈ F1, x ∉ F2
  a13 : ∀ x ∈ F1, x ∉ F3
  a23 : ∀ x ∈ F2, x ∉ F3
  ax : ∀ x ∈ X, x ∉ F1 ∧ x ∉ F2 ∧ x ∉ F3 ∧ w0.heap.size ≤ x ∧ x < w.heap.size
section
variable {X F1 F2 F3 : List Nat} {p o r : Nat} {w0 w w' : World} {ss os rs : List PS}
theorem NJ3.keep0 (h : NJ3 X p o r w0 w F1 F2 F3 ss os rs) (k : Keep [] w w') : NJ3 X p o r w0 w' F1 F2 F3 ss os rs :=
  ⟨h.n.keep k (by simp), h.o.keep k (by simp), h.r.keep k (by simp), h.out.trans k (by simp), h.a12, h.a13, h.a23, fun x hx => ⟨(h.ax x hx).1, (h.ax x hx).2.1, (h.ax x hx).2.2.1, (h.ax x hx).2.2.2.1, Nat.lt_of_lt_of_le (h.ax x hx).2.2.2.2 k.size⟩⟩
theorem NJ3.stepN {F' : List Nat} {ss' : List PS} (h : NJ3 X p o r w0 w F1 F2 F3 ss os rs) (g : NetAt w' w0.heap.size p F' ss') (k : Keep F1 w w') (f : ∀ x ∈ F', x ∈ F1 ∨ w.heap.size ≤ x) :
    NJ3 X p o r w0 w' F' F2 F3 ss' os rs ∧ KX X w0 w w' := by
  refine ⟨⟨g, h.o.keep k (fun x hx hF => h.a12 x hF hx), h.r.keep k (fun x hx hF => h.a13 x hF hx), h.out.trans k (fun x hx => Or.inr (h.n.lt x hx).1), fun x hx h2 => ?_, fun x hx h3 => ?_, h.a23, fun x hx => ⟨fun hF => ?_, (h.ax x hx).2.1, (h.ax x hx).2.2.1, (h.ax x hx).2.2.2.1, Nat.lt_of_lt_of_le (h.ax x hx).2.2.2.2 k.size⟩⟩, F1, k, fun x hx => ⟨(h.n.lt x hx).1, fun hX => (h.ax x hX).1 hx⟩⟩
  · rcases f x hx with hf | hf
    · exact h.a12 x hf h2
    · have := (h.o.lt x h2).2
      omega
  · rcases f x hx with hf | hf
    · exact h.a13 x hf h3
    · have := (h.r.lt x h3).2
      omega
  · rcases f x hF with hf | hf
    · exact (h.ax x hx).1 hf
    · have := (h.ax x hx).2.2.2.2
      omega
theorem NJ3.stepO {F' : List Nat} {os' : List PS} (h : NJ3 X p o r w0 w F1 F2 F3 ss os rs) (g : NetAt w' w0.heap.size o F' os') (k : Keep F2 w w') (f : ∀ x ∈ F', x ∈ F2 ∨ w.heap.size ≤ x) :
    NJ3 X p o r w0 w' F1 F' F3 ss os' rs ∧ KX X w0 w w' := by
  refine ⟨⟨h.n.keep k (fun x hx hF => h.a12 x hx hF), g, h.r.keep k (fun x hx hF => h.a23 x hF hx), h.out.trans k (fun x hx => Or.inr (h.o.lt x hx).1), fun x hx h2 => ?_, h.a13, fun x hx h3 => ?_, fun x hx => ⟨(h.ax x hx).1, fun hF => ?_, (h.ax x hx).2.2.1, (h.ax x hx).2.2.2.1, Nat.lt_of_lt_of_le (h.ax x hx).2.2.2.2 k.size⟩⟩, F2, k, fun x hx => ⟨(h.o.lt x hx).1, fun hX => (h.ax x hX).2.1 hx⟩⟩
  · rcases f x h2 with hf | hf
    · exact h.a12 x hx hf
    · have := (h.n.lt x hx).2
      omega
  · rcases f x hx with hf | hf
    · exact h.a23 x hf h3
    · have := (h.r.lt x h3).2
      omega
  · rcases f x hF with hf | hf
    · exact (h.ax x hx).2.1 hf
    · have := (h.ax x hx).2.2.2.2
      omega
theorem NJ3.stepR {F' : List Nat} {rs' : List PS} (h : NJ3 X p o r w0 w F1 F2 F3 ss os rs) (g : RNAt w' w0.heap.size r F' rs') (k : Keep F3 w w') (f : ∀ x ∈ F', x ∈ F3 ∨ w.heap.size ≤ x) :
    NJ3 X p o r w0 w' F1 F2 F' ss os rs' ∧ KX X w0 w w' := by
  refine ⟨⟨h.n.keep k (fun x hx hF => h.a13 x hx hF), h.o.keep k (fun x hx hF => h.a23 x hx hF), g, h.out.trans k (fun x hx => Or.inr (h.r.lt x hx).1), h.a12, fun x hx h3 => ?_, fun x hx h3 => ?_, fun x hx => ⟨(h.ax x hx).1, (h.ax x hx).2.1, fun hF => ?_, (h.ax x hx).2.2.2.1, Nat.lt_of_lt_of_le (h.ax x hx).2.2.2.2 k.size⟩⟩, F3, k, fun x hx => ⟨(h.r.lt x hx).1, fun hX => (h.ax x hX).2.2.1 hx⟩⟩
  · rcases f x h3 with hf | hf
    · exact h.a13 x hx hf
    · have := (h.n.lt x hx).2
      omega
  · rcases f x h3 with hf | hf
    · exact h.a23 x hx hf
    · have := (h.o.lt x hx).2
      omega
  · rcases f x hF with hf | hf
    · exact (h.ax x hx).2.2.1 hf
    · have := (h.ax x hx).2.2.2.2
      omega
theorem NJ3.more {Y : List Nat} (h : NJ3 X p o r w0 w F1 F2 F3 ss os rs) (hy : ∀ x ∈ Y, x ∉ F1 ∧ x ∉ F2 ∧ x ∉ F3 ∧ w0.heap.size ≤ x ∧ x < w.heap.size) : NJ3 (Y ++ X) p o r w0 w F1 F2 F3 ss os rs :=
  ⟨h.n, h.o, h.r, h.out, h.a12, h.a13, h.a23, fun x hx => by rcases List.mem_append.1 hx with hx | hx; exact hy x hx; exact h.ax x hx⟩
theorem NJ3.fresh {Y : List Nat} (h : NJ3 X p o r w0 w F1 F2 F3 ss os rs) (k : Keep [] w w') (hy : ∀ x ∈ Y, w.heap.size ≤ x ∧ x < w'.heap.size) : NJ3 (Y ++ X) p o r w0 w' F1 F2 F3 ss os rs :=
  (h.keep0 k).more fun x hx => by
    have hx1 := hy x hx
    refine ⟨fun hF => ?_, fun hF => ?_, fun hF => ?_, by have := h.out.size; omega, hx1.2⟩
    · have := (h.n.lt x hF).2
      omega
    · have := (h.o.lt x hF).2
      omega
    · have := (h.r.lt x hF).2
      omega
theorem NJ3.write {S : List Nat} (h : NJ3 X p o r w0 w F1 F2 F3 ss os rs) (k : Keep S w w') (hS : ∀ x ∈ S, x ∈ X) : NJ3 X p o r w0 w' F1 F2 F3 ss os rs :=
  ⟨h.n.keep k (fun x hx hX => (h.ax x (hS x hX)).1 hx), h.o.keep k (fun x hx hX => (h.ax x (hS x hX)).2.1 hx), h.r.keep k (fun x hx hX => (h.ax x (hS x hX)).2.2.1 hx), h.out.trans k (fun x hx => Or.inr (h.ax x (hS x hx)).2.2.2.1), h.a12, h.a13, h.a23,
    fun x hx => ⟨(h.ax x hx).1, (h.ax x hx).2.1, (h.ax x hx).2.2.1, (h.ax x hx).2.2.2.1, Nat.lt_of_lt_of_le (h.ax x hx).2.2.2.2 k.size⟩⟩
theorem NJ3.sub {Y : List Nat} (h : NJ3 X p o r w0 w F1 F2 F3 ss os rs) (hy : ∀ x ∈ Y, x ∈ X) : NJ3 Y p o r w0 w F1 F2 F3 ss os rs :=
  ⟨h.n, h.o, h.r, h.out, h.a12, h.a13, h.a23, fun x hx => h.ax x (hy x hx)⟩
end
/-- what is on the way in the net: d; in the reference: d' -/
def NJ (X : List Nat) (p o r : Nat) (w0 w : World) (d d' : List D3) : Prop :=
  ∃ F1 F2 F3 ss os rs, NJ3 X p o r w0 w F1 F2 F3 ss os rs ∧ ss.map dat3 = d ∧ rs.map dat3 = d' ∧ SmlD d ∧ SmlD d' ∧ SmlD (os.map dat3)
section
variable {X : List Nat} {p o r : Nat} {w0 w w' : World} {d d' : List D3}
theorem NJ.keep0 (h : NJ X p o r w0 w d d') (k : Keep [] w w') : NJ X p o r w0 w' d d' := by
  obtain ⟨F1, F2, F3, ss, os, rs, h, hh⟩ := h
  exact ⟨F1, F2, F3, ss, os, rs, h.keep0 k, hh⟩
theorem NJ.drewN (h : NJ X p o r w0 w d d') (n : Nat) : NJ X p o r w0 (w.drewN n) d d' := h.keep0 ((Keep.refl [] _).drewN n)
theorem NJ.drew (h : NJ X p o r w0 w d d') : NJ X p o r w0 w.drew d d' := h.keep0 (Keep.refl [] _).drew
theorem NJ.out (h : NJ X p o r w0 w d d') : Keep [] w0 w := by obtain ⟨F1, F2, F3, ss, os, rs, h, hh⟩ := h; exact h.out
theorem NJ.sub {Y : List Nat} (h : NJ X p o r w0 w d d') (hy : ∀ x ∈ Y, x ∈ X) : NJ Y p o r w0 w d d' := by
  obtain ⟨F1, F2, F3, ss, os, rs, h, hh⟩ := h
  exact ⟨F1, F2, F3, ss, os, rs, h.sub hy, hh⟩
theorem NJ.fresh {Y : List Nat} (h : NJ X p o r w0 w d d') (k : Keep [] w w') (hy : ∀ x ∈ Y, w.heap.size ≤ x ∧ x < w'.heap.size) : NJ (Y ++ X) p o r w0 w' d d' := by
  obtain ⟨F1, F2, F3, ss, os, rs, h, hh⟩ := h
  exact ⟨F1, F2, F3, ss, os, rs, h.fresh k hy, hh⟩
theorem NJ.write {S : List Nat} (h : NJ X p o r w0 w d d') (k : Keep S w w') (hS : ∀ x ∈ S, x ∈ X) : NJ X p o r w0 w' d d' := by
  obtain ⟨F1, F2, F3, ss, os, rs, h, hh⟩ := h
  exact ⟨F1, F2, F3, ss, os, rs, h.write k hS, hh⟩
theorem NJ.small (h : NJ X p o r w0 w d d') : d.length ≤ 10000 ∧ d'.length ≤ 10000 := by
  obtain ⟨F1, F2, F3, ss, os, rs, h, e1, e2, s1, s2, s3⟩ := h
  exact ⟨s1.l, s2.l⟩
theorem sml_len {ss : List PS} (h : SmlD (ss.map dat3)) : ss.length ≤ 10000 := by have := h.l; simpa using this
theorem sml_bytes {ss : List PS} (h : SmlD (ss.map dat3)) : ∀ s ∈ ss, s.bs.length ≤ 1000000 := fun s hs => by
  have h1 := h.b (dat3 s) (List.mem_map.2 ⟨s, hs, rfl⟩)
  have h2 : s.bs.length ≤ 200 := h1
  omega
theorem NetAt.mono {B B' : Nat} {F : List Nat} {ss : List PS} (h : NetAt w B p F ss) (hb : B' ≤ B) : NetAt w B' p F ss := by
  obtain ⟨vw, h, rfl⟩ := h
  exact ⟨vw, ⟨h.head, h.rows.mono hb, fun s hs => OwnsAt.mono (h.bytes s hs) hb, h.nodup, Nat.le_trans hb h.base⟩, rfl⟩
theorem nj_start {w1 w2 w3 : World} {F1 F2 : List Nat} (k1 : Keep [] w0 w1) (hp : NetAt w2 w1.heap.size p F1 []) (k2 : Keep [] w1 w2) (ho : NetAt w3 w2.heap.size o F2 []) (k3 : Keep [] w2 w3) :
    NJ [] p o w3.heap.size w0 (w3.alloc (.cells #[.slice none 0 0] 42)) [] [] := by
  have k4 : Keep [] w3 (w3.alloc (.cells #[.slice none 0 0] 42)) := (Keep.refl _ _).alloc _
  have s1 := k1.size
  have s2 := k2.size
  have s3 := k3.size
  have hp4 := ((hp.keep k3 (by simp)).keep k4 (by simp)).mono (B' := w0.heap.size) (by omega)
  have ho4 := (ho.keep k4 (by simp)).mono (B' := w0.heap.size) (by omega)
  refine ⟨F1, F2, _, [], [], [], ⟨hp4, ho4, ⟨.slice none 0 0, ⟨Blk.new' _ _ _ _ rfl, OwnsAt.nil _ _ _ _, by simp, by simp [byteBlocks], by omega⟩, rfl⟩, ((k1.trans k2 (by simp)).trans k3 (by simp)).trans k4 (by simp), fun x hx h2 => ?_, fun x hx h3 => ?_, fun x hx h3 => ?_, by simp⟩, rfl, rfl, ⟨by simp, by simp⟩, ⟨by simp, by simp⟩, ⟨by simp, by simp⟩⟩
  · have h1 := (hp.lt x hx).2
    have h4 := (ho.lt x h2).1
    omega
  · obtain rfl : x = w3.heap.size := by simpa [netFoot, ownBlocks, Value.ownBlock, byteBlocks] using h3
    have h1 := (hp.lt _ hx).2
    omega
  · obtain rfl : x = w3.heap.size := by simpa [netFoot, ownBlocks, Value.ownBlock, byteBlocks] using h3
    have h1 := (ho.lt _ hx).2
    omega
theorem dat_take {ss' ps : List PS} {k : Nat} (h : ss'.map dat = (ps.take k).map (fun s => (s.f, s.t, s.bs, false))) : ss'.map dat3 = (ps.take k).map dat3 := by
  have h1 := congrArg (List.map fun (x : Int × Int × List UInt8 × Bool) => (x.1, x.2.1, x.2.2.1)) h
  show List.map (fun x : PS => (x.f, x.t, x.bs)) ss' = List.map (fun x : PS => (x.f, x.t, x.bs)) (ps.take k)
  simpa [List.map_map, Function.comp_def, dat] using h1
/-! ### Send -/
theorem nj_send_o {v : Value} {ps : List PS} (h : NJ X p o r w0 w d d') (hv : ParcelsOf w0 v ps) (hpl : ps.length ≤ 20) (hb : ∀ s ∈ ps, s.bs.length ≤ 200) :
    Calls Try.prog 9 #[.pointer (some ⟨o, 0, none⟩), v] w fun e w' => ∃ c, e = .returned (.int .i64 c) ∧ NJ X p o r w0 w' d d' ∧ KX X w0 w w' := by
  obtain ⟨F1, F2, F3, ss, os, rs, h, e1, e2, s1, s2, s3⟩ := h
  refine (send_gen h.o h.out.size (fun w' hk => hv.keep0 (h.out.trans hk (fun x hx => Or.inr (h.o.lt x hx).1))) (sml_len s3) (by omega) (fun s hs => by have := hb s hs; omega)).mono ?_
  rintro e w' ⟨k, os', rfl, hd, rfl, F', hn, hk, hf⟩
  have hst := h.stepO hn hk hf
  have hs4 := s3.send hb
  have : (os ++ os').map dat3 = sendD (os.map dat3) ps := by
    unfold sendD
    rw [List.map_append, dat_take hd, List.length_map]
  exact ⟨_, rfl, ⟨F1, F', F3, ss, os ++ os', rs, hst.1, e1, e2, s1, s2, by rw [this]; exact hs4⟩, hst.2⟩
theorem nj_send {v : Value} {ps : List PS} (h : NJ X p o r w0 w d d') (hv : ParcelsOf w v ps) (hx : ∀ x ∈ parcelBlocks v ps, x ∈ X) (hpl : ps.length ≤ 20) (hb : ∀ s ∈ ps, s.bs.length ≤ 200) :
    Calls Try.prog 9 #[.pointer (some ⟨p, 0, none⟩), v] w fun e w' => e = .returned (.int .i64 (room d.length ps.length : Nat)) ∧ NJ X p o r w0 w' (sendD d ps) d' ∧ KX X w0 w w' := by
  obtain ⟨F1, F2, F3, ss, os, rs, h, rfl, e2, s1, s2, s3⟩ := h
  refine (send_gen h.n h.out.size (fun w' hk => hv.keep hk (fun x hxv hF => (h.ax x (hx x hxv)).1 hF)) (sml_len s1) (by omega) (fun s hs => by have := hb s hs; omega)).mono ?_
  rintro e w' ⟨k, ss', rfl, hd, rfl, F', hn, hk, hf⟩
  have hst := h.stepN hn hk hf
  have hs4 := s1.send hb
  have : (ss ++ ss').map dat3 = sendD (ss.map dat3) ps := by
    unfold sendD
    rw [List.map_append, dat_take hd, List.length_map]
  exact ⟨by rw [List.length_map], ⟨F', F2, F3, ss ++ ss', os, rs, hst.1, this, e2, hs4, s2, s3⟩, hst.2⟩
theorem nj_sendR {v : Value} {ps : List PS} (h : NJ X p o r w0 w d d') (hv : ParcelsOf w0 v ps) (hpl : ps.length ≤ 20) (hb : ∀ s ∈ ps, s.bs.length ≤ 200) :
    Calls Try.prog 15 #[.pointer (some ⟨r, 0, none⟩), v] w fun e w' => e = .returned (.int .i64 (room d'.length ps.length : Nat)) ∧ NJ X p o r w0 w' d (sendD d' ps) ∧ KX X w0 w w' := by
  obtain ⟨F1, F2, F3, ss, os, rs, h, e1, rfl, s1, s2, s3⟩ := h
  refine (sendR_spec h.r h.out.size (fun w' hk => hv.keep0 (h.out.trans hk (fun x hx => Or.inr (h.r.lt x hx).1))) (fun hne x hx => ?_) (sml_len s2) (by omega) (fun s hs => by have := hb s hs; omega)).mono ?_
  · obtain ⟨a, c, rfl, hc⟩ := hv
    cases ps with
    | nil => exact absurd rfl hne
    | cons s ps =>
      obtain ⟨b, off, rfl, hbl, _⟩ := hc 0 s rfl
      obtain rfl : b = x := by simpa [Value.ownBlock] using hx
      exact ⟨fun hF => by have := (h.r.lt _ hF).1; omega, Nat.lt_of_lt_of_le hbl h.out.size⟩
  rintro e w' ⟨k, rs', rfl, hd, rfl, F', hn, hk, hf⟩
  have hst := h.stepR hn hk hf
  have hs4 := s2.send hb
  have : (rs ++ rs').map dat3 = sendD (rs.map dat3) ps := by
    unfold sendD
    rw [List.map_append, dat_take hd, List.length_map]
  exact ⟨by rw [List.length_map], ⟨F1, F2, F', ss, os, rs ++ rs', hst.1, e1, this, s1, hs4, s3⟩, hst.2⟩
/-! ### Deliver -/
def DelJ (X : List Nat) (k : Int) (d : List D3) (J : List Nat → World → List D3 → Prop) (w0 w : World) (e : Ending) (w' : World) : Prop :=
  ∃ bv, e = .returned (.tuple #[.agg #[.int .i64 (delR d k).1, .int .i64 (delR d k).2.1, bv], .bool (isK k d.length)]) ∧ BytesOf w' bv (delR d k).2.2 ∧ J (ownBlocks bv ++ X) w' (delD d k) ∧ KX X w0 w w'
theorem erase_map {ss : List PS} {n : Nat} : (ss.eraseIdx n).map dat3 = (ss.map dat3).eraseIdx n := by
  induction ss generalizing n with
  | nil => simp
  | cons a l ih => cases n with
    | zero => simp
    | succ n => simp [ih]
theorem del_at {ss : List PS} {k : Int} {s : PS} (hk : isK k ss.length = true) (hs : ss[k.toNat]? = some s) : delR (ss.map dat3) k = dat3 s ∧ delD (ss.map dat3) k = (ss.eraseIdx k.toNat).map dat3 := by
  unfold delR delD
  rw [List.length_map, if_pos hk, if_pos hk]
  exact ⟨by simp [List.getD, List.getElem?_map, hs], erase_map.symm⟩
theorem nj_del (k : Int) (h : NJ X p o r w0 w d d') :
    Calls Try.prog 10 #[.pointer (some ⟨p, 0, none⟩), .int .i64 k] w (DelJ X k d (fun X w' d2 => NJ X p o r w0 w' d2 d') w0 w) := by
  obtain ⟨F1, F2, F3, ss, os, rs, h, rfl, e2, s1, s2, s3⟩ := h
  refine (deliver_spec k h.n (by have := sml_len s1; omega)).mono fun e w' hp => ?_
  unfold DeliverPost at hp
  split at hp
  · rename_i hc
    obtain ⟨s, F', hs, rfl, hn, hk, hf, hob, hdis⟩ := hp
    obtain ⟨d1, d2⟩ := del_at hc hs
    have hst := h.stepN hn hk (fun x hx => Or.inl (hf x hx))
    refine ⟨s.bv, by rw [d1, List.length_map, hc]; rfl, by rw [d1]; exact bytes_of_off hob, ⟨F', F2, F3, ss.eraseIdx k.toNat, os, rs, hst.1.more (fun x hx => ?_), d2.symm, e2, s1.del k, s2, s3⟩, hst.2⟩
    have hh := hdis x hx
    have hl := OwnsAt.lt hob x (mem_own.1 hx)
    exact ⟨hh.1, h.a12 x hh.2, h.a13 x hh.2, hl.1, hl.2⟩
  · rename_i hc
    obtain ⟨rfl, hk⟩ := hp
    have hc2 : isK k (ss.map dat3).length = false := by rw [List.length_map]; simpa using hc
    have d1 : delR (ss.map dat3) k = (0, 0, []) := by unfold delR; rw [if_neg (by rw [hc2]; decide)]
    have d2 : delD (ss.map dat3) k = ss.map dat3 := by unfold delD; rw [if_neg (by rw [hc2]; decide)]
    refine ⟨.slice none 0 0, by rw [d1, hc2], by rw [d1]; exact BytesOf.nil _, ?_, KX.of0 hk⟩
    rw [d2]
    exact ⟨F1, F2, F3, ss, os, rs, (h.keep0 hk).more (by simp [ownBlocks, Value.ownBlock]), rfl, e2, s1, s2, s3⟩
theorem nj_delR (k : Int) (h : NJ X p o r w0 w d d') :
    Calls Try.prog 16 #[.pointer (some ⟨r, 0, none⟩), .int .i64 k] w (DelJ X k d' (fun X w' d2 => NJ X p o r w0 w' d d2) w0 w) := by
  obtain ⟨F1, F2, F3, ss, os, rs, h, e1, rfl, s1, s2, s3⟩ := h
  refine (deliverR_spec k h.r h.out.size (by have := sml_len s2; omega)).mono fun e w' hp => ?_
  unfold RDelPost at hp
  split at hp
  · rename_i hc
    obtain ⟨s, F', hs, rfl, hn, hk, hf, hob, hdis⟩ := hp
    obtain ⟨d1, d2⟩ := del_at hc hs
    have hst := h.stepR hn hk hf
    refine ⟨s.bv, by rw [d1, List.length_map, hc]; rfl, by rw [d1]; exact bytes_of_off hob, ⟨F1, F2, F', ss, os, rs.eraseIdx k.toNat, hst.1.more (fun x hx => ?_), e1, d2.symm, s1, s2.del k, s3⟩, hst.2⟩
    have hh := hdis x hx
    have hl := OwnsAt.lt hob x (mem_own.1 hx)
    exact ⟨fun h1 => h.a13 x h1 hh.2, fun h1 => h.a23 x h1 hh.2, hh.1, hl.1, hl.2⟩
  · rename_i hc
    obtain ⟨rfl, hk⟩ := hp
    have hc2 : isK k (rs.map dat3).length = false := by rw [List.length_map]; simpa using hc
    have d1 : delR (rs.map dat3) k = (0, 0, []) := by unfold delR; rw [if_neg (by rw [hc2]; decide)]
    have d2 : delD (rs.map dat3) k = rs.map dat3 := by unfold delD; rw [if_neg (by rw [hc2]; decide)]
    refine ⟨.slice none 0 0, by rw [d1, hc2], by rw [d1]; exact BytesOf.nil _, ?_, KX.of0 hk⟩
    rw [d2]
    exact ⟨F1, F2, F3, ss, os, rs, (h.keep0 hk).more (by simp [ownBlocks, Value.ownBlock]), e1, rfl, s1, s2, s3⟩
/-! ### Drop, Dup, Flip, Gone -/
theorem nj_drop (k : Int) (h : NJ X p o r w0 w d d') :
    Calls Try.prog 18 #[.pointer (some ⟨p, 0, none⟩), .int .i64 k] w fun e w' => e = .returned (.bool (isK k d.length)) ∧ NJ X p o r w0 w' (delD d k) d' ∧ KX X w0 w w' := by
  obtain ⟨F1, F2, F3, ss, os, rs, h, rfl, e2, s1, s2, s3⟩ := h
  refine (drop_spec k h.n (by have := sml_len s1; omega)).mono fun e w' hp => ?_
  unfold DropPost at hp
  have hll : (ss.map dat3).length = ss.length := List.length_map _
  split at hp
  · rename_i hc
    obtain ⟨rfl, F', hn, hk, hf⟩ := hp
    have hst := h.stepN hn hk hf
    have d2 : (ss.eraseIdx k.toNat).map dat3 = delD (ss.map dat3) k := by
      unfold delD
      rw [hll, if_pos hc, erase_map]
    exact ⟨by rw [hll, hc], ⟨F', F2, F3, ss.eraseIdx k.toNat, os, rs, hst.1, d2, e2, s1.del k, s2, s3⟩, hst.2⟩
  · rename_i hc
    obtain ⟨rfl, hk⟩ := hp
    have hc2 : isK k (ss.map dat3).length = false := by rw [hll]; simpa using hc
    have d2 : delD (ss.map dat3) k = ss.map dat3 := by unfold delD; rw [if_neg (by rw [hc2]; decide)]
    rw [d2]
    exact ⟨by rw [hc2], ⟨F1, F2, F3, ss, os, rs, h.keep0 hk, rfl, e2, s1, s2, s3⟩, KX.of0 hk⟩
theorem getD_map {ss : List PS} {n : Nat} {s : PS} (hs : ss[n]? = some s) : (ss.map dat3).getD n (0, 0, []) = dat3 s := by simp [List.getD, List.getElem?_map, hs]
theorem nj_dup (k : Int) (h : NJ X p o r w0 w d d') :
    Calls Try.prog 12 #[.pointer (some ⟨p, 0, none⟩), .int .i64 k] w fun e w' => e = .returned (.bool (dupB d k)) ∧ NJ X p o r w0 w' (dupD d k) d' ∧ KX X w0 w w' := by
  obtain ⟨F1, F2, F3, ss, os, rs, h, rfl, e2, s1, s2, s3⟩ := h
  refine (dup_spec k h.n h.out.size (sml_len s1) (sml_bytes s1)).mono fun e w' hp => ?_
  unfold DupPost at hp
  have hll : (ss.map dat3).length = ss.length := List.length_map _
  have hsd := s1.dup k
  unfold dupB dupD at *
  rw [hll] at *
  split at hp
  · rename_i hc
    rw [if_pos hc] at *
    obtain ⟨s, s', hs, hd, rfl, F', hn, hk, hf⟩ := hp
    have hst := h.stepN hn hk hf
    have d2 : (ss ++ [s']).map dat3 = ss.map dat3 ++ [(ss.map dat3).getD k.toNat (0, 0, [])] := by
      have hd3 : dat3 s' = dat3 s := by
        have h1 := congrArg (fun (x : Int × Int × List UInt8 × Bool) => (x.1, x.2.1, x.2.2.1)) hd
        exact h1
      rw [getD_map hs, List.map_append, List.map_cons, List.map_nil, hd3]
    exact ⟨by rw [decide_eq_true hc], ⟨F', F2, F3, ss ++ [s'], os, rs, hst.1, d2, e2, hsd, s2, s3⟩, hst.2⟩
  · rename_i hc
    rw [if_neg hc] at *
    obtain ⟨rfl, hww⟩ := hp
    rw [hww]
    exact ⟨by rw [decide_eq_false hc], ⟨F1, F2, F3, ss, os, rs, h, rfl, e2, s1, s2, s3⟩, KX.of0 (Keep.refl _ _)⟩
theorem nj_dupR (k : Int) (h : NJ X p o r w0 w d d') :
    Calls Try.prog 19 #[.pointer (some ⟨r, 0, none⟩), .int .i64 k] w fun e w' => e = .returned (.bool (dupB d' k)) ∧ NJ X p o r w0 w' d (dupD d' k) ∧ KX X w0 w w' := by
  obtain ⟨F1, F2, F3, ss, os, rs, h, e1, rfl, s1, s2, s3⟩ := h
  refine (dupR_spec k h.r h.out.size (sml_len s2) (sml_bytes s2)).mono fun e w' hp => ?_
  unfold RDupPost at hp
  have hll : (rs.map dat3).length = rs.length := List.length_map _
  have hsd := s2.dup k
  unfold dupB dupD at *
  rw [hll] at *
  split at hp
  · rename_i hc
    rw [if_pos hc] at *
    obtain ⟨s, s', hs, hd, rfl, F', hn, hk, hf⟩ := hp
    have hst := h.stepR hn hk hf
    have d2 : (rs ++ [s']).map dat3 = rs.map dat3 ++ [(rs.map dat3).getD k.toNat (0, 0, [])] := by
      rw [getD_map hs, List.map_append, List.map_cons, List.map_nil, hd]
    exact ⟨by rw [decide_eq_true hc], ⟨F1, F2, F', ss, os, rs ++ [s'], hst.1, e1, d2, s1, hsd, s3⟩, hst.2⟩
  · rename_i hc
    rw [if_neg hc] at *
    obtain ⟨rfl, hww⟩ := hp
    rw [hww]
    exact ⟨by rw [decide_eq_false hc], ⟨F1, F2, F3, ss, os, rs, h, e1, rfl, s1, s2, s3⟩, KX.of0 (Keep.refl _ _)⟩
theorem flp_iff {ss : List PS} {k bit : Int} : (isK k ss.length = true ∧ 0 ≤ bit ∧ bit / 8 < (((ss[k.toNat]?).map (fun s => s.bs.length)).getD 0 : Nat)) ↔ flpB (ss.map dat3) k bit = true := by
  unfold flpB
  have h1 : (((ss[k.toNat]?).map (fun s => s.bs.length)).getD 0 : Nat) = ((ss.map dat3).getD k.toNat (0, 0, [])).2.2.length := by
    simp only [List.getD, List.getElem?_map]
    cases ss[k.toNat]? <;> rfl
  rw [h1, List.length_map, decide_eq_true_iff]
theorem flp_map {ss : List PS} {k bit : Int} {s s' : PS} (hb : flpB (ss.map dat3) k bit = true) (hs : ss[k.toNat]? = some s) (hs' : dat3 s' = (s.f, s.t, flipB s.bs bit.toNat)) : (ss.set k.toNat s').map dat3 = flpD (ss.map dat3) k bit := by
  unfold flpD
  rw [if_pos hb, List.map_set, hs', getD_map hs]
  rfl
theorem nj_flip (k bit : Int) (h : NJ X p o r w0 w d d') (hbit : bit ≤ 9223372036854775807) :
    Calls Try.prog 13 #[.pointer (some ⟨p, 0, none⟩), .int .i64 k, .int .i64 bit] w fun e w' => e = .returned (.bool (flpB d k bit)) ∧ NJ X p o r w0 w' (flpD d k bit) d' ∧ KX X w0 w w' := by
  obtain ⟨F1, F2, F3, ss, os, rs, h, rfl, e2, s1, s2, s3⟩ := h
  refine (flip_spec k bit h.n (sml_len s1) (sml_bytes s1) hbit).mono fun e w' hp => ?_
  unfold FlipPost at hp
  split at hp
  · rename_i hc
    have hB := flp_iff.1 hc
    obtain ⟨s, hs, rfl, F', hn, hk, hf⟩ := hp
    have hst := h.stepN hn hk hf
    exact ⟨by rw [hB], ⟨F', F2, F3, _, os, rs, hst.1, flp_map hB hs rfl, e2, s1.flip k bit, s2, s3⟩, hst.2⟩
  · rename_i hc
    have hB : ¬ flpB (ss.map dat3) k bit = true := fun h => hc (flp_iff.2 h)
    obtain ⟨rfl, hww⟩ := hp
    rw [hww]
    have d2 : flpD (ss.map dat3) k bit = ss.map dat3 := by unfold flpD; rw [if_neg hB]
    rw [d2]
    exact ⟨by rw [Bool.eq_false_iff.2 hB], ⟨F1, F2, F3, ss, os, rs, h, rfl, e2, s1, s2, s3⟩, KX.of0 (Keep.refl _ _)⟩
theorem nj_flipR (k bit : Int) (h : NJ X p o r w0 w d d') (hbit : bit ≤ 9223372036854775807) :
    Calls Try.prog 20 #[.pointer (some ⟨r, 0, none⟩), .int .i64 k, .int .i64 bit] w fun e w' => e = .returned (.bool (flpB d' k bit)) ∧ NJ X p o r w0 w' d (flpD d' k bit) ∧ KX X w0 w w' := by
  obtain ⟨F1, F2, F3, ss, os, rs, h, e1, rfl, s1, s2, s3⟩ := h
  refine (flipR_spec k bit h.r (sml_len s2) (sml_bytes s2) hbit).mono fun e w' hp => ?_
  unfold RFlipPost at hp
  split at hp
  · rename_i hc
    have hB := flp_iff.1 hc
    obtain ⟨s, hs, rfl, F', hn, hk, hf⟩ := hp
    have hst := h.stepR hn hk hf
    exact ⟨by rw [hB], ⟨F1, F2, F', ss, os, _, hst.1, e1, flp_map hB hs rfl, s1, s2.flip k bit, s3⟩, hst.2⟩
  · rename_i hc
    have hB : ¬ flpB (rs.map dat3) k bit = true := fun h => hc (flp_iff.2 h)
    obtain ⟨rfl, hww⟩ := hp
    rw [hww]
    have d2 : flpD (rs.map dat3) k bit = rs.map dat3 := by unfold flpD; rw [if_neg hB]
    rw [d2]
    exact ⟨by rw [Bool.eq_false_iff.2 hB], ⟨F1, F2, F3, ss, os, rs, h, e1, rfl, s1, s2, s3⟩, KX.of0 (Keep.refl _ _)⟩
theorem keep_map (ns : List Int) (ss : List PS) : (keepP ns ss).map dat3 = gonD (ss.map dat3) ns := by
  unfold keepP gonD
  rw [List.filter_map]
  rfl
theorem nj_gone {v : Value} {ns : List Int} (h : NJ X p o r w0 w d d') (hv : IntsOf w0 v ns) (hn : ns.length ≤ 50) :
    Calls Try.prog 21 #[.pointer (some ⟨p, 0, none⟩), v] w fun e w' => e = .returned (.int .i64 ((d.length : Int) - (gonD d ns).length)) ∧ NJ X p o r w0 w' (gonD d ns) d' ∧ KX X w0 w w' := by
  obtain ⟨F1, F2, F3, ss, os, rs, h, rfl, e2, s1, s2, s3⟩ := h
  refine (gone_spec h.n (fun w' hk => hv.keep0 (h.out.trans hk (fun x hx => Or.inr (h.n.lt x hx).1))) (by omega) (sml_len s1)).mono ?_
  rintro e w' ⟨rfl, F', hn, hk, hf⟩
  have hst := h.stepN hn hk hf
  have hl : (gonD (ss.map dat3) ns).length = (keepP ns ss).length := by rw [← keep_map, List.length_map]
  exact ⟨by rw [hl, List.length_map], ⟨F', F2, F3, _, os, rs, hst.1, keep_map ns ss, e2, s1.gone ns, s2, s3⟩, hst.2⟩
theorem nj_goneR {v : Value} {ns : List Int} (h : NJ X p o r w0 w d d') (hv : IntsOf w0 v ns) (hn : ns.length ≤ 50) :
    Calls Try.prog 22 #[.pointer (some ⟨r, 0, none⟩), v] w fun e w' => e = .returned (.int .i64 ((d'.length : Int) - (gonD d' ns).length)) ∧ NJ X p o r w0 w' d (gonD d' ns) ∧ KX X w0 w w' := by
  obtain ⟨F1, F2, F3, ss, os, rs, h, e1, rfl, s1, s2, s3⟩ := h
  refine (goneR_spec h.r h.out.size (hv.keep0 h.out) (by omega) (sml_len s2)).mono ?_
  rintro e w' ⟨rfl, F', hn, hk, hf⟩
  have hst := h.stepR hn hk hf
  have hl : (gonD (rs.map dat3) ns).length = (keepP ns rs).length := by rw [← keep_map, List.length_map]
  exact ⟨by rw [hl, List.length_map], ⟨F1, F2, F', ss, os, _, hst.1, e1, keep_map ns rs, s1, s2.gone ns, s3⟩, hst.2⟩
/-! ### Way, the reference's list -/
theorem nj_way (h : NJ X p o r w0 w d d') :
    Calls Try.prog 11 #[.pointer (some ⟨p, 0, none⟩)] w fun e w' => ∃ v ws, e = .returned v ∧ ws.map dat3 = d ∧ ParcelsIn w' w.heap.size v ws ∧ NJ (parcelBlocks v ws ++ X) p o r w0 w' d d' ∧ Keep [] w w' := by
  have h0 := h
  obtain ⟨F1, F2, F3, ss, os, rs, h, rfl, e2, s1, s2, s3⟩ := h
  refine (way_at h.n (by have := sml_len s1; omega) (sml_bytes s1)).mono ?_
  rintro e w' ⟨v, ws, rfl, hd, hp, hk⟩
  exact ⟨v, ws, rfl, hd, hp, h0.fresh hk (fun x hx => hp.lt x hx), hk⟩
theorem NJ.refL (h : NJ X p o r w0 w d d') : ∃ v rs, w.cell? ⟨r, 0, none⟩ = some v ∧ ParcelsOf w v rs ∧ rs.map dat3 = d' := by
  obtain ⟨F1, F2, F3, ss, os, rs, h, e1, rfl, s1, s2, s3⟩ := h
  obtain ⟨vw, hr, _⟩ := h.r
  exact ⟨vw, rs, hr.head.cell 0, ParcelsIn.of ⟨hr.rows, hr.bytes, hr.nodup⟩, rfl⟩
end
end Go.Proofs.Ytolhcikgodaecaa
