/- The law DequePlays. -/
import Derived.Test.YtkeaekckblpfjaaRows
import Derived.WalkKit
import Derived.WalkSpells
import Derived.WalkLawsBesides
import Derived.RegionTactic
import Derived.ChangeAlike
import Derived.BigQuiet
import Derived.Deep.QuietTactic
import Derived.StillTailTactics
import Derived.IntWalk
import Derived.Handy
import Derived.Lib.Hide
import Derived.Deep.AppendLies
import Derived.Deep.RegionWith
import Derived.Test.YtkeaekckblpfjaaBase
import Derived.Test.YtkeaekckblpfjaaTail
import Derived.Test.YtkeaekckblpfjaaRing
import Derived.Test.YtkeaekckblpfjaaGrown
import Derived.Test.YtkeaekckblpfjaaArgs
import Derived.Test.YtkeaekckblpfjaaAppend
import Derived.Test.YtkeaekckblpfjaaRingMore
import Derived.Test.YtkeaekckblpfjaaDeque
import Derived.Test.YtkeaekckblpfjaaDequePop
import Derived.Test.YtkeaekckblpfjaaDequeObj
import Derived.Test.YtkeaekckblpfjaaDequeStep
import Derived.Test.YtkeaekckblpfjaaDequeStep2
import Derived.Test.YtkeaekckblpfjaaDequeItems
import Derived.Test.YtkeaekckblpfjaaDequeThrough
import Derived.Test.YtkeaekckblpfjaaCallsLaw
import Derived.Test.YtkeaekckblpfjaaDequeRow
import Derived.Test.YtkeaekckblpfjaaSame
import Derived.Test.YtkeaekckblpfjaaRefDeque
import Derived.Test.YtkeaekckblpfjaaRefDeque2
import Derived.Test.YtkeaekckblpfjaaRefDeque3
import Derived.Test.YtkeaekckblpfjaaRefDeque4
import Derived.Test.YtkeaekckblpfjaaRefStep
namespace Go.Proofs.Ytkeaekckblpfjaa
open Go.RowKit

/-- three deques beside one another: the program's, another one of the program's, the reference's; and the block G, which is none of theirs -/
structure ThreeIn (W : World) (pd po rd G : Nat) (cs : List Value) (w : World) (q qo qr : DQ) (F Fo : List Nat) (pr br : Nat) : Prop where
  d : DequeAt w pd F q
  o : DequeAt w po Fo qo
  r : RDequeIn w rd pr br qr
  g : Blk w G 53 cs
  sd : ∀ x ∈ F, x ∉ Fo ∧ x ≠ rd ∧ x ≠ pr ∧ x ≠ br ∧ x ≠ G ∧ W.heap.size ≤ x
  so : ∀ x ∈ Fo, x ≠ rd ∧ x ≠ pr ∧ x ≠ br ∧ x ≠ G ∧ W.heap.size ≤ x
  sr : (rd ≠ G ∧ pr ≠ G ∧ br ≠ G) ∧ W.heap.size ≤ rd ∧ W.heap.size ≤ pr ∧ W.heap.size ≤ br
  k : Keep [] W w
def Three (W : World) (pd po rd G : Nat) (cs : List Value) (w : World) (q qo qr : DQ) : Prop := ∃ F Fo pr br, ThreeIn W pd po rd G cs w q qo qr F Fo pr br
section
variable {W : World} {pd po rd G pr br : Nat} {F Fo : List Nat} {cs : List Value} {w w' : World} {q qo qr q' : DQ} {v : Value} {e : Ending}
theorem Three.keep (h : Three W pd po rd G cs w q qo qr) (hk : Keep [] w w') : Three W pd po rd G cs w' q qo qr := by
  obtain ⟨F, Fo, pr, br, h⟩ := h
  exact ⟨F, Fo, pr, br, h.d.keep hk (by simp), h.o.keep hk (by simp), h.r.keep hk (by simp) (by simp) (by simp), h.g.keep hk (by simp), h.sd, h.so, h.sr, h.k.trans hk (by simp)⟩
theorem Three.drewN (h : Three W pd po rd G cs w q qo qr) (n : Nat) : Three W pd po rd G cs (w.drewN n) q qo qr := h.keep ((Keep.refl _ _).drewN n)
theorem Three.drew (h : Three W pd po rd G cs w q qo qr) : Three W pd po rd G cs w.drew q qo qr := h.keep (Keep.refl _ _).drew
theorem Three.blk (h : Three W pd po rd G cs w q qo qr) : Blk w G 53 cs := by
  obtain ⟨F, Fo, pr, br, h⟩ := h
  exact h.g
theorem Three.kept (h : Three W pd po rd G cs w q qo qr) : Keep [] W w := by
  obtain ⟨F, Fo, pr, br, h⟩ := h
  exact h.k
/-- another block G -/
theorem Three.other {G' : Nat} {cs' : List Value} (h : Three W pd po rd G cs w q qo qr) (hb : Blk w' G' 53 cs') (hk : Keep [] w w') (hG : w.heap.size ≤ G') : Three W pd po rd G' cs' w' q qo qr := by
  obtain ⟨F, Fo, pr, br, h⟩ := h
  have l1 := h.d.lt
  have l2 := h.o.lt
  have l3 := h.r.head.lt
  have l4 := h.r.ring.head.lt
  have l5 := h.r.ring.body.lt
  have sr := h.sr
  exact ⟨F, Fo, pr, br, h.d.keep hk (by simp), h.o.keep hk (by simp), h.r.keep hk (by simp) (by simp) (by simp), hb,
    fun x hx => by have a := h.sd x hx; have b := l1 x hx; exact ⟨a.1, a.2.1, a.2.2.1, a.2.2.2.1, by omega, a.2.2.2.2.2⟩,
    fun x hx => by have a := h.so x hx; have b := l2 x hx; exact ⟨a.1, a.2.1, a.2.2.1, by omega, a.2.2.2.2⟩, ⟨⟨by omega, by omega, by omega⟩, sr.2⟩, h.k.trans hk (by simp)⟩
theorem ThreeIn.ofD (h : ThreeIn W pd po rd G cs w q qo qr F Fo pr br) (hC : DqPost pd F w v q' e w') : e = .returned v ∧ Three W pd po rd G cs w' q' qo qr := by
  obtain ⟨he, F', g1, g2, g3⟩ := hC
  have l2 := h.o.lt
  have l3 := h.r.head.lt
  have l4 := h.r.ring.head.lt
  have l5 := h.r.ring.body.lt
  have l6 := h.g.lt
  have hk := h.k.size
  refine ⟨he, F', Fo, pr, br, g1, h.o.keep g2 (fun x hx hf => (h.sd x hf).1 hx), h.r.keep g2 (fun hf => (h.sd rd hf).2.1 rfl) (fun hf => (h.sd pr hf).2.2.1 rfl) (fun hf => (h.sd br hf).2.2.2.1 rfl),
    h.g.keep g2 (fun hf => (h.sd G hf).2.2.2.2.1 rfl), fun x hx => ?_, h.so, h.sr, h.k.trans g2 (fun x hx => Or.inr (h.sd x hx).2.2.2.2.2)⟩
  rcases g3 x hx with hf | hf
  · exact h.sd x hf
  · exact ⟨fun hfo => by have := l2 x hfo; omega, by omega, by omega, by omega, by omega, by omega⟩
theorem ThreeIn.ofO (h : ThreeIn W pd po rd G cs w q qo qr F Fo pr br) (hC : DqPost po Fo w v q' e w') : e = .returned v ∧ Three W pd po rd G cs w' q q' qr := by
  obtain ⟨he, F', g1, g2, g3⟩ := hC
  have l2 := h.d.lt
  have l3 := h.r.head.lt
  have l4 := h.r.ring.head.lt
  have l5 := h.r.ring.body.lt
  have l6 := h.g.lt
  have hk := h.k.size
  refine ⟨he, F, F', pr, br, h.d.keep g2 (fun x hx hf => (h.sd x hx).1 hf), g1, h.r.keep g2 (fun hf => (h.so rd hf).1 rfl) (fun hf => (h.so pr hf).2.1 rfl) (fun hf => (h.so br hf).2.2.1 rfl),
    h.g.keep g2 (fun hf => (h.so G hf).2.2.2.1 rfl), fun x hx => ?_, fun x hx => ?_, h.sr, h.k.trans g2 (fun x hx => Or.inr (h.so x hx).2.2.2.2)⟩
  · refine ⟨fun hfo => ?_, (h.sd x hx).2⟩
    rcases g3 x hfo with hf | hf
    · exact (h.sd x hx).1 hf
    · have := l2 x hx; omega
  · rcases g3 x hx with hf | hf
    · exact h.so x hf
    · exact ⟨by omega, by omega, by omega, by omega, by omega⟩
theorem ThreeIn.ofR (h : ThreeIn W pd po rd G cs w q qo qr F Fo pr br) (hC : RPost rd pr br w v q' e w') : e = .returned v ∧ Three W pd po rd G cs w' q qo q' := by
  obtain ⟨he, pr', br', g1, g2, g3, g4⟩ := hC
  have l2 := h.d.lt
  have l3 := h.o.lt
  have l6 := h.g.lt
  have hk := h.k.size
  have sr := h.sr
  have nd : ∀ x ∈ F, x ∉ [rd, br] := fun x hx hm => by
    have a := h.sd x hx
    simp only [List.mem_cons, List.not_mem_nil, or_false] at hm
    rcases hm with rfl | rfl
    · exact a.2.1 rfl
    · exact a.2.2.2.1 rfl
  have no : ∀ x ∈ Fo, x ∉ [rd, br] := fun x hx hm => by
    have a := h.so x hx
    simp only [List.mem_cons, List.not_mem_nil, or_false] at hm
    rcases hm with rfl | rfl
    · exact a.1 rfl
    · exact a.2.2.1 rfl
  refine ⟨he, F, Fo, pr', br', h.d.keep g2 nd, h.o.keep g2 no, g1, h.g.keep g2 (fun hm => ?_), fun x hx => ?_, fun x hx => ?_, ?_, h.k.trans g2 (fun x hx => Or.inr ?_)⟩
  · simp only [List.mem_cons, List.not_mem_nil, or_false] at hm
    omega
  · have a := h.sd x hx
    have b := l2 x hx
    exact ⟨a.1, a.2.1, by rcases g3 with rfl | g3; exact a.2.2.1; omega, by rcases g4 with rfl | g4; exact a.2.2.2.1; omega, a.2.2.2.2⟩
  · have a := h.so x hx
    have b := l3 x hx
    exact ⟨a.1, by rcases g3 with rfl | g3; exact a.2.1; omega, by rcases g4 with rfl | g4; exact a.2.2.1; omega, a.2.2.2⟩
  · exact ⟨⟨sr.1.1, by omega, by omega⟩, sr.2.1, by omega, by omega⟩
  · simp only [List.mem_cons, List.not_mem_nil, or_false] at hx
    omega
theorem j_begin_d {e : Int} {who kind item : Int} (hq : dqBegin q who kind item = (q', e)) (h : Three W pd po rd G cs w q qo qr) :
    Calls Try.prog 25 #[.pointer (some ⟨pd, 0, none⟩), .int .i64 who, .int .i64 kind, .int .i64 item] w fun r w' => r = .returned (.int .i64 e) ∧ Three W pd po rd G cs w' q' qo qr := by
  obtain ⟨F, Fo, pr, br, h⟩ := h
  exact (begin_eq _ _ _ hq h.d).mono fun _ _ hp => h.ofD hp
theorem j_begin_o {e : Int} {who kind item : Int} (hq : dqBegin qo who kind item = (q', e)) (h : Three W pd po rd G cs w q qo qr) :
    Calls Try.prog 25 #[.pointer (some ⟨po, 0, none⟩), .int .i64 who, .int .i64 kind, .int .i64 item] w fun r w' => r = .returned (.int .i64 e) ∧ Three W pd po rd G cs w' q q' qr := by
  obtain ⟨F, Fo, pr, br, h⟩ := h
  exact (begin_eq _ _ _ hq h.o).mono fun _ _ hp => h.ofO hp
theorem j_begin_r {e : Int} {who kind item : Int} (hq : dqBegin qr who kind item = (q', e)) (h : Three W pd po rd G cs w q qo qr) :
    Calls Try.prog 30 #[.pointer (some ⟨rd, 0, none⟩), .int .i64 who, .int .i64 kind, .int .i64 item] w fun r w' => r = .returned (.int .i64 e) ∧ Three W pd po rd G cs w' q qo q' := by
  obtain ⟨F, Fo, pr, br, h⟩ := h
  have := rbegin_spec who kind item h.r
  rw [hq] at this
  exact this.mono fun _ _ hp => h.ofR hp
theorem j_step_d {a v : Int} {who : Int} (hq : dqStep q who = (q', a, v)) (hs : SmallAll q) (h : Three W pd po rd G cs w q qo qr) :
    Calls Try.prog 28 #[.pointer (some ⟨pd, 0, none⟩), .int .i64 who] w fun r w' => r = .returned (.tuple #[.int .i64 a, .int .i64 v]) ∧ Three W pd po rd G cs w' q' qo qr := by
  obtain ⟨F, Fo, pr, br, h⟩ := h
  exact (step_eq _ hq h.d hs).mono fun _ _ hp => h.ofD hp
theorem j_step_o {a v : Int} {who : Int} (hq : dqStep qo who = (q', a, v)) (hs : SmallAll qo) (h : Three W pd po rd G cs w q qo qr) :
    Calls Try.prog 28 #[.pointer (some ⟨po, 0, none⟩), .int .i64 who] w fun r w' => r = .returned (.tuple #[.int .i64 a, .int .i64 v]) ∧ Three W pd po rd G cs w' q q' qr := by
  obtain ⟨F, Fo, pr, br, h⟩ := h
  exact (step_eq _ hq h.o hs).mono fun _ _ hp => h.ofO hp
theorem j_step_r {a v : Int} {who : Int} (hq : dqStep qr who = (q', a, v)) (hs : SmallAll qr) (hw : WonOk qr) (h : Three W pd po rd G cs w q qo qr) :
    Calls Try.prog 31 #[.pointer (some ⟨rd, 0, none⟩), .int .i64 who] w fun r w' => r = .returned (.tuple #[.int .i64 a, .int .i64 v]) ∧ Three W pd po rd G cs w' q qo q' := by
  obtain ⟨F, Fo, pr, br, h⟩ := h
  have := rstep_spec who h.r hs hw
  rw [hq] at this
  exact this.mono fun _ _ hp => h.ofR hp
theorem j_busy_d {b : Bool} {who : Int} (hb : busyB q who = b) (h : Three W pd po rd G cs w q qo qr) : Calls Try.prog 27 #[.pointer (some ⟨pd, 0, none⟩), .int .i64 who] w fun r w' => r = .returned (.bool b) ∧ ∃ n, w' = w.drewN n := by
  obtain ⟨F, Fo, pr, br, h⟩ := h
  exact busy_eq who hb h.d
theorem j_busy_r {b : Bool} {who : Int} (hb : busyB qr who = b) (h : Three W pd po rd G cs w q qo qr) : Calls Try.prog 32 #[.pointer (some ⟨rd, 0, none⟩), .int .i64 who] w fun r w' => r = .returned (.bool b) ∧ ∃ n, w' = w.drewN n := by
  obtain ⟨F, Fo, pr, br, h⟩ := h
  exact hb ▸ rbusy_spec who h.r
theorem j_items_d {l : List Int} (hl : itemsOf q = l) (hs : SmallTB q) (h : Three W pd po rd G cs w q qo qr) : Calls Try.prog 34 #[.pointer (some ⟨pd, 0, none⟩)] w (OwnPost l w) := by
  obtain ⟨F, Fo, pr, br, h⟩ := h
  exact hl ▸ items_spec h.d hs
theorem j_items_r {l : List Int} (hl : itemsOf qr = l) (hs : SmallTB qr) (h : Three W pd po rd G cs w q qo qr) : Calls Try.prog 35 #[.pointer (some ⟨rd, 0, none⟩)] w (OwnPost l w) := by
  obtain ⟨F, Fo, pr, br, h⟩ := h
  exact hl ▸ ritems_spec h.r hs
end
end Go.Proofs.Ytkeaekckblpfjaa
