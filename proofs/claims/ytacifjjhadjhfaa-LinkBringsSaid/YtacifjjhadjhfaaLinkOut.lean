/- Links: what goes out, in plain words. -/
import Derived.Test.YtacifjjhadjhfaaRows
import Derived.WalkKit
import Derived.WalkSpells
import Derived.WalkLawsBesides
import Derived.RegionTactic
import Derived.ChangeAlike
import Derived.BigQuiet
import Derived.Deep.QuietTactic
import Derived.StillTailTactics
import Derived.IntWalk
import Derived.Handy
import Derived.Lib.Hide
import Derived.Deep.AppendLies
import Derived.Deep.RegionWith
import Derived.Test.YtacifjjhadjhfaaBase
import Derived.Test.YtacifjjhadjhfaaTail
import Derived.Test.YtacifjjhadjhfaaArgs
import Derived.Test.YtacifjjhadjhfaaAppend
import Derived.Deep.RegionLaw
import Derived.Test.YtacifjjhadjhfaaOffs
import Derived.Test.YtacifjjhadjhfaaStructs
import Derived.Test.YtacifjjhadjhfaaSplit
import Derived.Maps.OwnSet
import Derived.Maps.Views
import Derived.Test.YtacifjjhadjhfaaLinkBytes
import Derived.Test.YtacifjjhadjhfaaLinkObj
import Derived.Test.YtacifjjhadjhfaaLinkSend
import Derived.Test.YtacifjjhadjhfaaLinkDue
import Derived.Test.YtacifjjhadjhfaaLinkFrame
namespace Go.Proofs.Ytacifjjhadjhfaa
open Go.RowKit
/-! ### Frames -/
structure FR where
  fr : Int
  to : Int
  life : Int
  seq : Int
  ack : Int
  bs : List UInt8
  bv : Value
def FR.c (s : FR) : List Value := [.int .i64 s.fr, .int .i64 s.to, .int .i64 s.life, .int .i64 s.seq, .int .i64 s.ack, s.bv]
theorem FR.c_len (s : FR) : s.c.length = 6 := rfl
abbrev FD := Int × Int × Int × Int × Int × List UInt8
def frd (s : FR) : FD := (s.fr, s.to, s.life, s.seq, s.ack, s.bs)
def frBlocks (l : List FR) : List Nat := l.flatMap fun s => ownBlocks s.bv
theorem mem_frBlocks {ss : List FR} {x : Nat} : x ∈ frBlocks ss ↔ ∃ s ∈ ss, s.bv.ownBlock = some x := by
  unfold frBlocks
  rw [List.mem_flatMap]
  constructor
  · rintro ⟨s, hs, hx⟩; exact ⟨s, hs, mem_own.1 hx⟩
  · rintro ⟨s, hs, hx⟩; exact ⟨s, hs, mem_own.2 hx⟩
structure FramesIn (w : World) (B : Nat) (v : Value) (fs : List FR) : Prop where
  rows : OwnsAt w B 46 6 v fs.length (fs.flatMap FR.c)
  bytes : ∀ s ∈ fs, OwnB w B s.bv s.bs
  nodup : (frBlocks fs).Nodup
theorem FramesIn.nil (w : World) (B : Nat) : FramesIn w B (.slice none 0 0) [] := ⟨OwnsAt.nil _ _ _ _, by simp, by simp [frBlocks]⟩
theorem FramesIn.keep {w w' : World} {B : Nat} {v : Value} {fs : List FR} {S : List Nat} (h : FramesIn w B v fs) (hk : Keep S w w') (hn : ∀ x ∈ S, x < B ∨ w.heap.size ≤ x) : FramesIn w' B v fs :=
  ⟨h.rows.keep hk (fun g hg hx => by have := h.rows.lt g hg; rcases hn g hx with h1 | h1 <;> omega),
   fun s hs => OwnsAt.keep (h.bytes s hs) hk (fun g hg hx => by have := OwnsAt.lt (h.bytes s hs) g hg; rcases hn g hx with h1 | h1 <;> omega), h.nodup⟩
theorem FramesIn.push {w w1 w2 : World} {B : Nat} {v v' : Value} {fs : List FR} {s : FR} (h : FramesIn w B v fs) (hB : B ≤ w.heap.size) (k1 : Keep [] w w1) (hb : OwnB w1 w.heap.size s.bv s.bs)
    (k2 : Keep (ownBlocks v) w1 w2) (hr : OwnsAt w2 B 46 6 v' (fs.length + 1) (fs.flatMap FR.c ++ s.c)) : FramesIn w2 B v' (fs ++ [s]) := by
  have hbB : OwnB w1 B s.bv s.bs := OwnsAt.mono hb hB
  refine ⟨by simpa using hr, fun t ht => ?_, ?_⟩
  · rcases List.mem_append.1 ht with ht | ht
    · exact OwnsAt.keep (OwnsAt.keep (h.bytes t ht) k1 (by simp)) k2 (fun g hg hx => OwnsAt.ne_own (h.bytes t ht) h.rows (by decide) g hg (mem_own.1 hx))
    · obtain rfl : t = s := by simpa using ht
      refine OwnsAt.keep hbB k2 (fun g hg hx => ?_)
      have h1 := (OwnsAt.lt hb g hg).1
      have h2 := (h.rows.lt g (mem_own.1 hx)).2
      omega
  · unfold frBlocks
    rw [List.flatMap_append]
    refine List.nodup_append.2 ⟨h.nodup, ?_, ?_⟩
    · simp only [List.flatMap_cons, List.flatMap_nil, List.append_nil, ownBlocks]
      cases s.bv.ownBlock <;> simp
    · intro x hx y hy
      obtain ⟨t, ht, hxt⟩ := mem_frBlocks.1 hx
      have h1 := (OwnsAt.lt (h.bytes t ht) x hxt).2
      have h2 := (OwnsAt.lt hb y (by simpa [ownBlocks] using hy)).1
      omega
/-! ### Out, plain -/
def outUpd (now : Int) (s : LD) : LD := if dueL s now then { s with times := s.times + 1, at_ := now } else s
def outD (q : LK) (now : Int) (l : List LD) : List FD := (l.filter fun s => dueL s now).map fun s => (q.self, q.peer, q.life, s.seq, q.upto, s.bs)
def outF (q : LK) (now : Int) : List FD := if (outD q now q.open_).isEmpty && q.owed then [(q.self, q.peer, q.life, 0, q.upto, [])] else outD q now q.open_
def outL (q : LK) (now : Int) : LK := { q with open_ := q.open_.map (outUpd now), owed := false }
theorem upd_bv (now : Int) (s : LD) : (outUpd now s).bv = s.bv ∧ (outUpd now s).bs = s.bs ∧ (outUpd now s).seq = s.seq := by unfold outUpd; split <;> exact ⟨rfl, rfl, rfl⟩
theorem bb_map (l : List LD) : byteBlocks l = (l.map LD.bv).flatMap ownBlocks := by unfold byteBlocks; rw [List.flatMap_map]
/-- one cell of an open load turned -/
theorem LinkIn.row {w : World} {B p g off cn k mb : Nat} {q : LK} {s : LD} (h : LinkIn w B p (.slice (some ⟨g, off, none⟩) q.open_.length cn) mb q) (hi : q.open_[k]? = some s) (j : Nat) (hj : j < 4) (u : Value) (s' : LD) (hc : s'.c = s.c.set j u) (hbv : s'.bv = s.bv) (hbs : s'.bs = s.bs) :
    LinkIn (w.setCell ⟨g, off + k * 4 + j, none⟩ u) B p (.slice (some ⟨g, off, none⟩) q.open_.length cn) mb { q with open_ := q.open_.set k s' } ∧ Keep (linkFoot p (.slice (some ⟨g, off, none⟩) q.open_.length cn) mb (q.open_ ++ q.kept)) w (w.setCell ⟨g, off + k * 4 + j, none⟩ u) := by
  obtain ⟨a1, a2, a3, a4⟩ := h.apart
  have n1 : g ≠ p := fun e => a1 (by rw [e]; rfl)
  have n2 : g ≠ mb := fun e => a2 (by rw [e]; rfl)
  have k1 : Keep [g] w (w.setCell ⟨g, off + k * 4 + j, none⟩ u) := (Keep.refl _ _).setCell (by simp) _
  have hk : k < q.open_.length := by
    rcases Nat.lt_or_ge k q.open_.length with h' | h'
    · exact h'
    · rw [List.getElem?_eq_none h'] at hi; cases hi
  have hmap : (q.open_.set k s').map LD.bv = q.open_.map LD.bv := by
    rw [List.map_set, hbv]
    apply List.ext_getElem?
    intro i
    by_cases hik : k = i
    · subst hik
      rw [List.getElem?_set_self (by simpa using hk), List.getElem?_map, hi]
      rfl
    · rw [List.getElem?_set_ne hik]
  refine ⟨⟨h.head.far n1.symm _, ?_, h.kept.keep k1 (by simpa using n2.symm), fun t ht => ?_, ?_, h.base⟩, k1.mono (fun x hx => Or.inl (by rw [show x = g by simpa using hx]; simp [linkFoot, ownBlocks, Value.ownBlock]))⟩
  · have h1 := h.rows.set_ (k * 4 + j) u
    rw [flat_set_ LD.c_len q.open_ k s s' j u hi hj hc] at h1
    rw [Nat.add_assoc, List.length_set]
    exact h1
  · have key : ∃ t0 ∈ q.open_ ++ q.kept, t0.bv = t.bv ∧ t0.bs = t.bs := by
      rcases List.mem_append.1 ht with ht | ht
      · rcases List.mem_or_eq_of_mem_set ht with ht | ht
        · exact ⟨t, List.mem_append_left _ ht, rfl, rfl⟩
        · subst ht
          exact ⟨s, List.mem_append_left _ (List.mem_of_getElem? hi), hbv.symm, hbs.symm⟩
      · exact ⟨t, List.mem_append_right _ ht, rfl, rfl⟩
    obtain ⟨t0, ht0, e1, e2⟩ := key
    rw [← e1, ← e2]
    exact OwnsAt.keep (h.bytes t0 ht0) k1 (fun x hx hm => (a4 t0 ht0).2.2 g rfl ((show x = g by simpa using hm) ▸ hx))
  · have hn := h.nodup
    simp only [byteBlocks_append] at hn ⊢
    rw [bb_map (q.open_.set k s'), hmap, ← bb_map]
    exact hn
/-- so far: the first i turned -/
def part (q : LK) (now : Int) (i : Nat) : LK := { q with open_ := (q.open_.take i).map (outUpd now) ++ q.open_.drop i }
theorem part_len (q : LK) (now : Int) (i : Nat) : (part q now i).open_.length = q.open_.length := by unfold part; simp; omega
theorem part_foot (q : LK) (now : Int) (i p mb : Nat) (vo : Value) : linkFoot p vo mb ((part q now i).open_ ++ (part q now i).kept) = linkFoot p vo mb (q.open_ ++ q.kept) := by
  unfold linkFoot
  congr 3
  rw [byteBlocks_append, byteBlocks_append, bb_map, bb_map q.open_]
  congr 2
  unfold part
  simp only [List.map_append, List.map_map]
  conv => rhs; rw [← List.take_append_drop i q.open_, List.map_append]
  congr 1
  exact List.map_congr_left fun s _ => (upd_bv now s).1
theorem part_at {q : LK} {now : Int} {i : Nat} {s : LD} (h : q.open_[i]? = some s) : (part q now i).open_[i]? = some s := by
  have hi : i < q.open_.length := by
    rcases Nat.lt_or_ge i q.open_.length with h' | h'
    · exact h'
    · rw [List.getElem?_eq_none h'] at h; cases h
  unfold part
  simp only
  rw [List.getElem?_append_right (by simp; omega)]
  simp only [List.length_map, List.length_take]
  rw [show i - min i q.open_.length = 0 by omega, List.getElem?_drop]
  simpa using h
theorem part_succ {q : LK} {now : Int} {i : Nat} {s : LD} (h : q.open_[i]? = some s) : { part q now i with open_ := (part q now i).open_.set i (outUpd now s) } = part q now (i + 1) := by
  have hi : i < q.open_.length := by
    rcases Nat.lt_or_ge i q.open_.length with h' | h'
    · exact h'
    · rw [List.getElem?_eq_none h'] at h; cases h
  have hs : q.open_[i] = s := by rw [List.getElem?_eq_getElem hi] at h; exact Option.some.inj h
  unfold part
  congr 1
  simp only
  rw [List.set_append_right _ _ (by simp; omega)]
  simp only [List.length_map, List.length_take]
  rw [show i - min i q.open_.length = 0 by omega, List.drop_eq_getElem_cons hi, List.set_cons_zero, List.take_succ_eq_append_getElem hi, List.map_append, hs]
  simp
theorem outD_succ {q : LK} {now : Int} {i : Nat} {s : LD} (h : q.open_[i]? = some s) : outD q now (q.open_.take (i + 1)) = outD q now (q.open_.take i) ++ if dueL s now then [(q.self, q.peer, q.life, s.seq, q.upto, s.bs)] else [] := by
  have hi : i < q.open_.length := by
    rcases Nat.lt_or_ge i q.open_.length with h' | h'
    · exact h'
    · rw [List.getElem?_eq_none h'] at h; cases h
  have hs : q.open_[i] = s := by rw [List.getElem?_eq_getElem hi] at h; exact Option.some.inj h
  unfold outD
  rw [List.take_succ_eq_append_getElem hi, hs, List.filter_append, List.map_append]
  congr 1
  cases hd : dueL s now <;> simp [hd]
end Go.Proofs.Ytacifjjhadjhfaa
