/- Links: what they are in memory. -/
import Derived.Test.YtacifjjhadjhfaaRows
import Derived.WalkKit
import Derived.WalkSpells
import Derived.WalkLawsBesides
import Derived.RegionTactic
import Derived.ChangeAlike
import Derived.BigQuiet
import Derived.Deep.QuietTactic
import Derived.StillTailTactics
import Derived.IntWalk
import Derived.Handy
import Derived.Lib.Hide
import Derived.Deep.AppendLies
import Derived.Deep.RegionWith
import Derived.Test.YtacifjjhadjhfaaBase
import Derived.Test.YtacifjjhadjhfaaTail
import Derived.Test.YtacifjjhadjhfaaArgs
import Derived.Test.YtacifjjhadjhfaaAppend
import Derived.Deep.RegionLaw
import Derived.Test.YtacifjjhadjhfaaOffs
import Derived.Test.YtacifjjhadjhfaaStructs
import Derived.Test.YtacifjjhadjhfaaSplit
import Derived.Maps.OwnSet
import Derived.Maps.Views
import Derived.Test.YtacifjjhadjhfaaLinkBytes
namespace Go.Proofs.Ytacifjjhadjhfaa
open Go.RowKit

theorem Try.info75 : (Try.prog.info? 75).map (fun i => (i.zero, i.size, i.bytes)) = some (some (.agg #[.int .i64 0, .int .i64 0, .int .i64 0, .slice none 0 0]), 4, 48) := by kernel_rfl
theorem Try.info46 : (Try.prog.info? 46).map (fun i => (i.zero, i.size, i.bytes)) = some (some (.agg #[.int .i64 0, .int .i64 0, .int .i64 0, .int .i64 0, .int .i64 0, .slice none 0 0]), 6, 64) := by kernel_rfl
theorem Try.info35 : (Try.prog.info? 35).map (fun i => (i.zero, i.size, i.bytes)) = some (some (.slice none 0 0), 1, 24) := by kernel_rfl
theorem Try.lds27 : SliceTy Try.prog 27 75 (.agg #[.int .i64 0, .int .i64 0, .int .i64 0, .slice none 0 0]) 4 48 := ⟨Try.underlying27, Try.info75, rfl, by decide⟩
theorem Try.frs36 : SliceTy Try.prog 36 46 (.agg #[.int .i64 0, .int .i64 0, .int .i64 0, .int .i64 0, .int .i64 0, .slice none 0 0]) 6 64 := ⟨Try.underlying36, Try.info46, rfl, by decide⟩
theorem Try.bss42 : SliceTy Try.prog 42 35 (.slice none 0 0) 1 24 := ⟨Try.underlying42, Try.info35, rfl, by decide⟩

/-- a load: its number, how often it was out, when; its bytes and where they lie -/
structure LD where
  seq : Int
  times : Int
  at_ : Int
  bs : List UInt8
  bv : Value
def LD.c (s : LD) : List Value := [.int .i64 s.seq, .int .i64 s.times, .int .i64 s.at_, s.bv]
theorem LD.c_len (s : LD) : s.c.length = 4 := rfl
/-- the blocks of the bytes -/
def byteBlocks (ss : List LD) : List Nat := ss.flatMap fun s => ownBlocks s.bv
theorem mem_byteBlocks {ss : List LD} {x : Nat} : x ∈ byteBlocks ss ↔ ∃ s ∈ ss, s.bv.ownBlock = some x := by
  unfold byteBlocks
  rw [List.mem_flatMap]
  constructor
  · rintro ⟨s, hs, hx⟩; exact ⟨s, hs, mem_own.1 hx⟩
  · rintro ⟨s, hs, hx⟩; exact ⟨s, hs, mem_own.2 hx⟩
theorem byteBlocks_append (a b : List LD) : byteBlocks (a ++ b) = byteBlocks a ++ byteBlocks b := by unfold byteBlocks; rw [List.flatMap_append]
/-- how an element of the map is read: as it is -/
def Rv (v : Value) : Option (DataW Value × List MemPlace) := some (.held v, [])
structure LK where
  last : Int
  seq : Int
  open_ : List LD
  upto : Int
  kept : List LD
  owed : Bool
  self : Int
  peer : Int
  life : Int
  theirs : Int
def keyL (k : Int) : Lit := .int .i64 k
/-- the map of those that came in ahead of others -/
structure KeptIn (w : World) (mb : Nat) (ks : List LD) : Prop where
  map : ∃ D : DataW Value, w.ownsMap Try.prog 3 Rv mb ks.length D ∧ Maps.Tidy D ∧ (∀ s ∈ ks, ∀ z, D.atKey (keyL s.seq) z = .held s.bv) ∧ ∀ k : Int, Maps.has D (keyL k) = ks.any (fun s => s.seq == k)
  nodup : (ks.map LD.seq).Nodup
  wf : ∀ s ∈ ks, (Lit.int .i64 s.seq).wf = true
structure LinkIn (w : World) (B p : Nat) (vo : Value) (mb : Nat) (q : LK) : Prop where
  head : Blk w p 34 [.int .i64 q.last, .int .i64 q.seq, vo, .int .i64 q.upto, .map (some mb), .bool q.owed, .int .i64 q.self, .int .i64 q.peer, .int .i64 q.life, .int .i64 q.theirs]
  rows : OwnsAt w B 75 4 vo q.open_.length (q.open_.flatMap LD.c)
  kept : KeptIn w mb q.kept
  bytes : ∀ s ∈ q.open_ ++ q.kept, OwnB w B s.bv s.bs
  nodup : (byteBlocks (q.open_ ++ q.kept)).Nodup
  base : B ≤ p ∧ B ≤ mb
def linkFoot (p : Nat) (vo : Value) (mb : Nat) (ss : List LD) : List Nat := p :: mb :: (ownBlocks vo ++ byteBlocks ss)
def LinkAt (w : World) (B p : Nat) (F : List Nat) (q : LK) : Prop := ∃ vo mb, LinkIn w B p vo mb q ∧ F = linkFoot p vo mb (q.open_ ++ q.kept)
theorem KeptIn.lt {w : World} {mb : Nat} {ks : List LD} (h : KeptIn w mb ks) : mb < w.heap.size := by obtain ⟨D, h1, _⟩ := h.map; exact h1.lt
theorem KeptIn.obj {w : World} {mb : Nat} {ks : List LD} (h : KeptIn w mb ks) : ∃ es clk, w.heap[mb]? = some (.map es clk) := by obtain ⟨D, ⟨es, clk, hb, _⟩, _⟩ := h.map; exact ⟨es, clk, hb⟩
theorem KeptIn.of_same {w w' : World} {mb : Nat} {ks : List LD} (h : KeptIn w mb ks) (he : w'.heap[mb]? = w.heap[mb]?) : KeptIn w' mb ks := by
  obtain ⟨D, ⟨es, clk, hb, h1, h2, h3⟩, h4⟩ := h.map
  exact ⟨⟨D, ⟨es, clk, he.trans hb, h1, h2, h3⟩, h4⟩, h.nodup, h.wf⟩
theorem KeptIn.keep {w w' : World} {mb : Nat} {ks : List LD} {S : List Nat} (h : KeptIn w mb ks) (hk : Keep S w w') (hn : mb ∉ S) : KeptIn w' mb ks := h.of_same (hk.block mb h.lt hn)
theorem KeptIn.ne_blk {w : World} {mb p : Nat} {ks : List LD} {t : TypeId} {cs : List Value} (h : KeptIn w mb ks) (hb : Blk w p t cs) : mb ≠ p := by
  rintro rfl
  obtain ⟨es, clk, h1⟩ := h.obj
  unfold Blk at hb
  rw [h1] at hb
  cases hb
theorem KeptIn.ne_own {w : World} {mb : Nat} {ks : List LD} {B : Nat} {e : TypeId} {size n : Nat} {v : Value} {xs : List Value} (h : KeptIn w mb ks) (ho : OwnsAt w B e size v n xs) : v.ownBlock ≠ some mb := by
  intro hg
  obtain ⟨c, hc⟩ := ho.blk hg
  obtain ⟨es, clk, h1⟩ := h.obj
  rw [h1] at hc
  cases hc
theorem LinkIn.keep {w w' : World} {B p : Nat} {vo : Value} {mb : Nat} {q : LK} {S : List Nat} (h : LinkIn w B p vo mb q) (hk : Keep S w w') (hn : ∀ x ∈ linkFoot p vo mb (q.open_ ++ q.kept), x ∉ S) : LinkIn w' B p vo mb q :=
  ⟨h.head.keep hk (hn p (by simp [linkFoot])), h.rows.keep hk (fun g hg => hn g (by simp [linkFoot, mem_own, hg])), h.kept.keep hk (hn mb (by simp [linkFoot])),
   fun s hs => OwnsAt.keep (h.bytes s hs) hk (fun g hg => hn g (by simp only [linkFoot, List.mem_cons, List.mem_append]; exact Or.inr (Or.inr (Or.inr (mem_byteBlocks.2 ⟨s, hs, hg⟩))))), h.nodup, h.base⟩
theorem LinkAt.keep {w w' : World} {B p : Nat} {F : List Nat} {q : LK} {S : List Nat} (h : LinkAt w B p F q) (hk : Keep S w w') (hn : ∀ x ∈ F, x ∉ S) : LinkAt w' B p F q := by
  obtain ⟨vo, mb, h, rfl⟩ := h
  exact ⟨vo, mb, h.keep hk hn, rfl⟩
theorem LinkIn.lt {w : World} {B p : Nat} {vo : Value} {mb : Nat} {q : LK} (h : LinkIn w B p vo mb q) : ∀ x ∈ linkFoot p vo mb (q.open_ ++ q.kept), B ≤ x ∧ x < w.heap.size := by
  intro x hx
  simp only [linkFoot, List.mem_cons, List.mem_append] at hx
  rcases hx with rfl | rfl | hx | hx
  · exact ⟨h.base.1, h.head.lt⟩
  · exact ⟨h.base.2, h.kept.lt⟩
  · exact h.rows.lt x (mem_own.1 hx)
  · obtain ⟨s, hs, hb⟩ := mem_byteBlocks.1 hx
    exact OwnsAt.lt (h.bytes s hs) x hb
theorem LinkAt.lt {w : World} {B p : Nat} {F : List Nat} {q : LK} (h : LinkAt w B p F q) : ∀ x ∈ F, B ≤ x ∧ x < w.heap.size := by
  obtain ⟨vo, mb, h, rfl⟩ := h
  exact h.lt
/-- the parts of a link are apart -/
theorem LinkIn.apart {w : World} {B p : Nat} {vo : Value} {mb : Nat} {q : LK} (h : LinkIn w B p vo mb q) : vo.ownBlock ≠ some p ∧ vo.ownBlock ≠ some mb ∧ mb ≠ p ∧ ∀ s ∈ q.open_ ++ q.kept, s.bv.ownBlock ≠ some p ∧ s.bv.ownBlock ≠ some mb ∧ ∀ g, vo.ownBlock = some g → s.bv.ownBlock ≠ some g :=
  ⟨h.rows.ne_blk h.head (by decide), h.kept.ne_own h.rows, h.kept.ne_blk h.head, fun s hs => ⟨OwnsAt.ne_blk (h.bytes s hs) h.head (by decide), h.kept.ne_own (h.bytes s hs), fun g hg => OwnsAt.ne_own h.rows (h.bytes s hs) (by decide) g hg⟩⟩
def LPost (B p : Nat) (F : List Nat) (w : World) (v : Value) (q' : LK) (e : Ending) (w' : World) : Prop :=
  e = .returned v ∧ ∃ F', LinkAt w' B p F' q' ∧ Keep F w w' ∧ ∀ x ∈ F', x ∈ F ∨ w.heap.size ≤ x
def newL (self peer life theirs last : Int) : LK := ⟨last, 0, [], 0, [], false, self, peer, life, theirs⟩
def NewPost (w : World) (q : LK) (e : Ending) (w' : World) : Prop := ∃ p F, e = .returned (.pointer (some ⟨p, 0, none⟩)) ∧ LinkAt w' w.heap.size p F q ∧ Keep [] w w'
theorem kept_new (w : World) : KeptIn (w.alloc (.map #[] 0)) w.heap.size [] :=
  ⟨⟨.map [], World.ownsMap_made w Try.prog 3 Rv, Maps.tidy_empty, by simp, fun k => by simp [Maps.has_eq]⟩, by simp, by simp⟩
set_option maxHeartbeats 1000000 in
theorem new_spec (w : World) (self peer life theirs last : Int) : Calls Try.prog 10 #[.int .i64 self, .int .i64 peer, .int .i64 life, .int .i64 theirs, .int .i64 last] w (NewPost w (newL self peer life theirs last)) := by
  have hmm := @run_makeMap Try.prog
  have hk0 := kept_new w
  have Hk := Lib.hid hk0
  clear hk0
  go_enter Try.func10, Try.ntmps10
  go_wp2
  go_ret
  refine ⟨w.heap.size + 1, _, by simp, ⟨.slice none 0 0, w.heap.size, ⟨?_, OwnsAt.nil _ _ _ _, ?_, by simp [newL], by simp [newL, byteBlocks], by omega, by omega⟩, rfl⟩, ((Keep.refl _ _).alloc _).alloc _⟩
  · have := Blk.new' (w.alloc (.map #[] 0)) 34 #[.int .i64 last, .int .i64 0, .slice none 0 0, .int .i64 0, .map (some w.heap.size), .bool false, .int .i64 self, .int .i64 peer, .int .i64 life, .int .i64 theirs] _ rfl
    simpa [newL] using this
  · exact Hk.out.keep ((Keep.refl [] _).alloc _) (by simp)
end Go.Proofs.Ytacifjjhadjhfaa
