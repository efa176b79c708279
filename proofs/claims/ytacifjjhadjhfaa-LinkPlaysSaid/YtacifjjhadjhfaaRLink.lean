/- The reference link in memory. -/
import Derived.Test.YtacifjjhadjhfaaRows
import Derived.WalkKit
import Derived.WalkSpells
import Derived.WalkLawsBesides
import Derived.RegionTactic
import Derived.ChangeAlike
import Derived.BigQuiet
import Derived.Deep.QuietTactic
import Derived.StillTailTactics
import Derived.IntWalk
import Derived.Handy
import Derived.Lib.Hide
import Derived.Deep.AppendLies
import Derived.Deep.RegionWith
import Derived.Test.YtacifjjhadjhfaaBase
import Derived.Test.YtacifjjhadjhfaaTail
import Derived.Test.YtacifjjhadjhfaaArgs
import Derived.Test.YtacifjjhadjhfaaAppend
import Derived.Deep.RegionLaw
import Derived.Test.YtacifjjhadjhfaaOffs
import Derived.Test.YtacifjjhadjhfaaStructs
import Derived.Test.YtacifjjhadjhfaaSplit
import Derived.Maps.OwnSet
import Derived.Maps.Views
import Derived.Test.YtacifjjhadjhfaaLinkBytes
import Derived.Test.YtacifjjhadjhfaaLinkObj
import Derived.Test.YtacifjjhadjhfaaLinkSend
import Derived.Test.YtacifjjhadjhfaaLinkDue
import Derived.Test.YtacifjjhadjhfaaLinkFrame
import Derived.Test.YtacifjjhadjhfaaLinkOut
import Derived.Test.YtacifjjhadjhfaaLinkOut2
import Derived.Test.YtacifjjhadjhfaaLinkOne
import Derived.Test.YtacifjjhadjhfaaLinkLive
import Derived.Test.YtacifjjhadjhfaaLinkAck
import Derived.Test.YtacifjjhadjhfaaLinkAck2
import Derived.Test.YtacifjjhadjhfaaLinkGot
import Derived.Test.YtacifjjhadjhfaaLinkGot2
import Derived.Test.YtacifjjhadjhfaaLinkGot3
import Derived.Test.YtacifjjhadjhfaaLinkInn
import Derived.Test.YtacifjjhadjhfaaLinkX2
import Derived.Deep.CutRange
import Derived.Deep.DeepCutAuto
import Derived.BigRegion
namespace Go.Proofs.Ytacifjjhadjhfaa
open Go.RowKit
theorem Try.info83 : (Try.prog.info? 83).map (fun i => (i.zero, i.size, i.bytes)) = some (some (.agg #[.int .i64 0, .int .i64 0, .int .i64 0, .slice none 0 0]), 4, 48) := by kernel_rfl
theorem Try.info88 : (Try.prog.info? 88).map (fun i => (i.zero, i.size, i.bytes)) = some (some (.agg #[.int .i64 0, .slice none 0 0]), 2, 32) := by kernel_rfl
theorem Try.ros62 : SliceTy Try.prog 62 83 (.agg #[.int .i64 0, .int .i64 0, .int .i64 0, .slice none 0 0]) 4 48 := ⟨Try.underlying62, Try.info83, rfl, by decide⟩
theorem Try.rks63 : SliceTy Try.prog 63 88 (.agg #[.int .i64 0, .slice none 0 0]) 2 32 := ⟨Try.underlying63, Try.info88, rfl, by decide⟩
/-- an open load, a kept one, as the reference has them -/
def LD.o (s : LD) : List Value := [.int .i64 s.seq, .int .i64 s.at_, .int .i64 s.times, s.bv]
theorem LD.o_len (s : LD) : s.o.length = 4 := rfl
def LD.k (s : LD) : List Value := [.int .i64 s.seq, s.bv]
theorem LD.k_len (s : LD) : s.k.length = 2 := rfl
structure RIn (w : World) (B p : Nat) (vo vk : Value) (q : LK) : Prop where
  head : Blk w p 65 [.int .i64 q.self, .int .i64 q.peer, .int .i64 q.life, .int .i64 q.theirs, .int .i64 q.last, .int .i64 q.seq, .int .i64 q.upto, vo, vk, .bool q.owed]
  rows : OwnsAt w B 83 4 vo q.open_.length (q.open_.flatMap LD.o)
  keeps : OwnsAt w B 88 2 vk q.kept.length (q.kept.flatMap LD.k)
  bytes : ∀ s ∈ q.open_ ++ q.kept, OwnB w B s.bv s.bs
  base : B ≤ p
def rFoot (p : Nat) (vo vk : Value) (ss : List LD) : List Nat := p :: (ownBlocks vo ++ (ownBlocks vk ++ byteBlocks ss))
def RAt (w : World) (B p : Nat) (F : List Nat) (q : LK) : Prop := ∃ vo vk, RIn w B p vo vk q ∧ F = rFoot p vo vk (q.open_ ++ q.kept)
theorem mem_rFoot {p : Nat} {vo vk : Value} {ss : List LD} {x : Nat} : x ∈ rFoot p vo vk ss ↔ x = p ∨ vo.ownBlock = some x ∨ vk.ownBlock = some x ∨ ∃ s ∈ ss, s.bv.ownBlock = some x := by
  unfold rFoot
  rw [List.mem_cons, List.mem_append, List.mem_append, mem_own, mem_own, mem_byteBlocks]
theorem RIn.keep {w w' : World} {B p : Nat} {vo vk : Value} {q : LK} {S : List Nat} (h : RIn w B p vo vk q) (hk : Keep S w w') (hn : ∀ x ∈ rFoot p vo vk (q.open_ ++ q.kept), x ∉ S) : RIn w' B p vo vk q :=
  ⟨h.head.keep hk (hn p (mem_rFoot.2 (Or.inl rfl))), h.rows.keep hk (fun g hg => hn g (mem_rFoot.2 (Or.inr (Or.inl hg)))), h.keeps.keep hk (fun g hg => hn g (mem_rFoot.2 (Or.inr (Or.inr (Or.inl hg))))),
   fun s hs => OwnsAt.keep (h.bytes s hs) hk (fun g hg => hn g (mem_rFoot.2 (Or.inr (Or.inr (Or.inr ⟨s, hs, hg⟩))))), h.base⟩
theorem RAt.keep {w w' : World} {B p : Nat} {F : List Nat} {q : LK} {S : List Nat} (h : RAt w B p F q) (hk : Keep S w w') (hn : ∀ x ∈ F, x ∉ S) : RAt w' B p F q := by
  obtain ⟨vo, vk, h, rfl⟩ := h
  exact ⟨vo, vk, h.keep hk hn, rfl⟩
theorem RIn.lt {w : World} {B p : Nat} {vo vk : Value} {q : LK} (h : RIn w B p vo vk q) : ∀ x ∈ rFoot p vo vk (q.open_ ++ q.kept), B ≤ x ∧ x < w.heap.size := by
  intro x hx
  rcases mem_rFoot.1 hx with rfl | hx | hx | ⟨s, hs, hx⟩
  · exact ⟨h.base, h.head.lt⟩
  · exact h.rows.lt x hx
  · exact h.keeps.lt x hx
  · exact OwnsAt.lt (h.bytes s hs) x hx
theorem RAt.lt {w : World} {B p : Nat} {F : List Nat} {q : LK} (h : RAt w B p F q) : ∀ x ∈ F, B ≤ x ∧ x < w.heap.size := by
  obtain ⟨vo, vk, h, rfl⟩ := h
  exact h.lt
theorem RAt.mono {w : World} {B B' p : Nat} {F : List Nat} {q : LK} (h : RAt w B p F q) (hb : B' ≤ B) : RAt w B' p F q := by
  obtain ⟨vo, vk, h, rfl⟩ := h
  exact ⟨vo, vk, ⟨h.head, h.rows.mono hb, h.keeps.mono hb, fun s hs => OwnsAt.mono (h.bytes s hs) hb, Nat.le_trans hb h.base⟩, rfl⟩
/-- the parts are apart -/
theorem RIn.apart {w : World} {B p : Nat} {vo vk : Value} {q : LK} (h : RIn w B p vo vk q) : vo.ownBlock ≠ some p ∧ vk.ownBlock ≠ some p ∧ (∀ g, vo.ownBlock = some g → vk.ownBlock ≠ some g) ∧ ∀ s ∈ q.open_ ++ q.kept, s.bv.ownBlock ≠ some p ∧ (∀ g, vo.ownBlock = some g → s.bv.ownBlock ≠ some g) ∧ ∀ g, vk.ownBlock = some g → s.bv.ownBlock ≠ some g :=
  ⟨h.rows.ne_blk h.head (by decide), h.keeps.ne_blk h.head (by decide), fun g hg => OwnsAt.ne_own h.rows h.keeps (by decide) g hg, fun s hs => ⟨OwnsAt.ne_blk (h.bytes s hs) h.head (by decide), fun g hg => OwnsAt.ne_own h.rows (h.bytes s hs) (by decide) g hg, fun g hg => OwnsAt.ne_own h.keeps (h.bytes s hs) (by decide) g hg⟩⟩
/-- a cell of the head turned -/
theorem RIn.turn {w : World} {B p : Nat} {vo vk : Value} {q q' : LK} (h : RIn w B p vo vk q) (i : Nat) (u : Value) (ho : q'.open_ = q.open_) (hk : q'.kept = q.kept)
    (hc : [.int .i64 q.self, .int .i64 q.peer, .int .i64 q.life, .int .i64 q.theirs, .int .i64 q.last, .int .i64 q.seq, .int .i64 q.upto, vo, vk, .bool q.owed].set i u = [.int .i64 q'.self, .int .i64 q'.peer, .int .i64 q'.life, .int .i64 q'.theirs, .int .i64 q'.last, .int .i64 q'.seq, .int .i64 q'.upto, vo, vk, .bool q'.owed]) :
    RIn (w.setCell ⟨p, i, none⟩ u) B p vo vk q' ∧ Keep (rFoot p vo vk (q.open_ ++ q.kept)) w (w.setCell ⟨p, i, none⟩ u) := by
  obtain ⟨a1, a2, a3, a4⟩ := h.apart
  have k3 : Keep [p] w (w.setCell ⟨p, i, none⟩ u) := (Keep.refl _ _).setCell (by simp) _
  refine ⟨⟨?_, ?_, ?_, fun t ht => ?_, h.base⟩, k3.mono (fun x hx => Or.inl (by simp at hx; subst hx; simp [rFoot]))⟩
  · rw [← hc]
    exact h.head.set_ i u
  · rw [ho]
    exact h.rows.keep k3 (fun g hg hx => a1 ((show g = p by simpa using hx) ▸ hg))
  · rw [hk]
    exact h.keeps.keep k3 (fun g hg hx => a2 ((show g = p by simpa using hx) ▸ hg))
  · rw [ho, hk] at ht
    exact OwnsAt.keep (h.bytes t ht) k3 (fun g hg hx => (a4 t ht).1 ((show g = p by simpa using hx) ▸ hg))
/-- other open loads -/
theorem RIn.setRows {w w2 : World} {B p : Nat} {vo vk vo' : Value} {q : LK} {l : List LD} (h : RIn w B p vo vk q) (k : Keep (ownBlocks vo) w w2) (hr : OwnsAt w2 B 83 4 vo' l.length (l.flatMap LD.o))
    (hb : ∀ s ∈ l, OwnB w2 B s.bv s.bs) (hat : ∀ x, vo'.ownBlock = some x → vo.ownBlock = some x ∨ w.heap.size ≤ x) (hbn : ∀ s ∈ l, ∀ x, s.bv.ownBlock = some x → (∃ t ∈ q.open_, t.bv.ownBlock = some x) ∨ w.heap.size ≤ x) :
    RIn (w2.setCell ⟨p, 7, none⟩ vo') B p vo' vk { q with open_ := l } ∧ Keep (rFoot p vo vk (q.open_ ++ q.kept)) w (w2.setCell ⟨p, 7, none⟩ vo') ∧ ∀ x ∈ rFoot p vo' vk (l ++ q.kept), x ∈ rFoot p vo vk (q.open_ ++ q.kept) ∨ w.heap.size ≤ x := by
  obtain ⟨a1, a2, a3, a4⟩ := h.apart
  have hpw : p ∉ ownBlocks vo := fun hx => a1 (mem_own.1 hx)
  have hd2 : Blk w2 p 65 _ := h.head.keep k hpw
  have k3 : Keep [p] w2 (w2.setCell ⟨p, 7, none⟩ vo') := (Keep.refl _ _).setCell (by simp) _
  have hkp : OwnsAt w2 B 88 2 vk q.kept.length (q.kept.flatMap LD.k) := h.keeps.keep k (fun g hg hx => a3 g (mem_own.1 hx) hg)
  refine ⟨⟨hd2.set_ 7 _, ?_, ?_, fun t ht => ?_, h.base⟩, ?_, ?_⟩
  · exact hr.keep k3 (fun g hg hx => hr.ne_blk hd2 (by decide) ((show g = p by simpa using hx) ▸ hg))
  · exact hkp.keep k3 (fun g hg hx => a2 ((show g = p by simpa using hx) ▸ hg))
  · have ht2 : OwnB w2 B t.bv t.bs := by
      rcases List.mem_append.1 ht with ht | ht
      · exact hb t ht
      · exact OwnsAt.keep (h.bytes t (List.mem_append_right _ ht)) k (fun g hg hx => (a4 t (List.mem_append_right _ ht)).2.1 g (mem_own.1 hx) hg)
    exact OwnsAt.keep ht2 k3 (fun g hg hx => OwnsAt.ne_blk ht2 hd2 (by decide) ((show g = p by simpa using hx) ▸ hg))
  · exact (k.mono (T := rFoot p vo vk (q.open_ ++ q.kept)) (fun x hx => Or.inl (mem_rFoot.2 (Or.inr (Or.inl (mem_own.1 hx)))))).trans k3 (fun x hx => Or.inl (by simp at hx; subst hx; simp [rFoot]))
  · intro x hx
    rcases mem_rFoot.1 hx with hx | hx | hx | ⟨s, hs, hx⟩
    · exact Or.inl (mem_rFoot.2 (Or.inl hx))
    · rcases hat x hx with h' | h'
      · exact Or.inl (mem_rFoot.2 (Or.inr (Or.inl h')))
      · exact Or.inr h'
    · exact Or.inl (mem_rFoot.2 (Or.inr (Or.inr (Or.inl hx))))
    · rcases List.mem_append.1 hs with hs | hs
      · rcases hbn s hs x hx with ⟨t, ht, h'⟩ | h'
        · exact Or.inl (mem_rFoot.2 (Or.inr (Or.inr (Or.inr ⟨t, List.mem_append_left _ ht, h'⟩))))
        · exact Or.inr h'
      · exact Or.inl (mem_rFoot.2 (Or.inr (Or.inr (Or.inr ⟨s, List.mem_append_right _ hs, hx⟩))))
/-- other kept loads -/
theorem RIn.setKept {w w2 : World} {B p : Nat} {vo vk vk' : Value} {q : LK} {l : List LD} (h : RIn w B p vo vk q) (k : Keep (ownBlocks vk) w w2) (hr : OwnsAt w2 B 88 2 vk' l.length (l.flatMap LD.k))
    (hb : ∀ s ∈ l, OwnB w2 B s.bv s.bs) (hat : ∀ x, vk'.ownBlock = some x → vk.ownBlock = some x ∨ w.heap.size ≤ x) (hbn : ∀ s ∈ l, ∀ x, s.bv.ownBlock = some x → (∃ t ∈ q.kept, t.bv.ownBlock = some x) ∨ w.heap.size ≤ x) :
    RIn (w2.setCell ⟨p, 8, none⟩ vk') B p vo vk' { q with kept := l } ∧ Keep (rFoot p vo vk (q.open_ ++ q.kept)) w (w2.setCell ⟨p, 8, none⟩ vk') ∧ ∀ x ∈ rFoot p vo vk' (q.open_ ++ l), x ∈ rFoot p vo vk (q.open_ ++ q.kept) ∨ w.heap.size ≤ x := by
  obtain ⟨a1, a2, a3, a4⟩ := h.apart
  have hpw : p ∉ ownBlocks vk := fun hx => a2 (mem_own.1 hx)
  have hd2 : Blk w2 p 65 _ := h.head.keep k hpw
  have k3 : Keep [p] w2 (w2.setCell ⟨p, 8, none⟩ vk') := (Keep.refl _ _).setCell (by simp) _
  have hkp : OwnsAt w2 B 83 4 vo q.open_.length (q.open_.flatMap LD.o) := h.rows.keep k (fun g hg hx => a3 g hg (mem_own.1 hx))
  refine ⟨⟨hd2.set_ 8 _, ?_, ?_, fun t ht => ?_, h.base⟩, ?_, ?_⟩
  · exact hkp.keep k3 (fun g hg hx => a1 ((show g = p by simpa using hx) ▸ hg))
  · exact hr.keep k3 (fun g hg hx => hr.ne_blk hd2 (by decide) ((show g = p by simpa using hx) ▸ hg))
  · have ht2 : OwnB w2 B t.bv t.bs := by
      rcases List.mem_append.1 ht with ht | ht
      · exact OwnsAt.keep (h.bytes t (List.mem_append_left _ ht)) k (fun g hg hx => (a4 t (List.mem_append_left _ ht)).2.2 g (mem_own.1 hx) hg)
      · exact hb t ht
    exact OwnsAt.keep ht2 k3 (fun g hg hx => OwnsAt.ne_blk ht2 hd2 (by decide) ((show g = p by simpa using hx) ▸ hg))
  · exact (k.mono (T := rFoot p vo vk (q.open_ ++ q.kept)) (fun x hx => Or.inl (mem_rFoot.2 (Or.inr (Or.inr (Or.inl (mem_own.1 hx))))))).trans k3 (fun x hx => Or.inl (by simp at hx; subst hx; simp [rFoot]))
  · intro x hx
    rcases mem_rFoot.1 hx with hx | hx | hx | ⟨s, hs, hx⟩
    · exact Or.inl (mem_rFoot.2 (Or.inl hx))
    · exact Or.inl (mem_rFoot.2 (Or.inr (Or.inl hx)))
    · rcases hat x hx with h' | h'
      · exact Or.inl (mem_rFoot.2 (Or.inr (Or.inr (Or.inl h'))))
      · exact Or.inr h'
    · rcases List.mem_append.1 hs with hs | hs
      · exact Or.inl (mem_rFoot.2 (Or.inr (Or.inr (Or.inr ⟨s, List.mem_append_left _ hs, hx⟩))))
      · rcases hbn s hs x hx with ⟨t, ht, h'⟩ | h'
        · exact Or.inl (mem_rFoot.2 (Or.inr (Or.inr (Or.inr ⟨t, List.mem_append_right _ ht, h'⟩))))
        · exact Or.inr h'
def RPost (B p : Nat) (F : List Nat) (w : World) (v : Value) (q' : LK) (e : Ending) (w' : World) : Prop :=
  e = .returned v ∧ ∃ F', RAt w' B p F' q' ∧ Keep F w w' ∧ ∀ x ∈ F', x ∈ F ∨ w.heap.size ≤ x
theorem openR_spec {w : World} {B p : Nat} {F : List Nat} {q : LK} (h : RAt w B p F q) : Calls Try.prog 24 #[.pointer (some ⟨p, 0, none⟩)] w (Same' (.int .i64 q.open_.length) w) := by
  obtain ⟨vo, vk, h, rfl⟩ := h
  obtain ⟨a, c, rfl⟩ := h.rows.shape
  have c7 : w.cell? ⟨p, 7, none⟩ = some (.slice a q.open_.length c) := h.head.cell 7
  clear h
  go_enter Try.func24, Try.ntmps24
  go_wp2
  go_ret
  exact ⟨rfl, rfl⟩
set_option maxHeartbeats 1000000 in
theorem waitR_spec {w : World} (t : Int) (ht : 0 ≤ t ∧ t ≤ 1000000000) : Calls Try.prog 33 #[.int .i64 t] w (Same' (.int .i64 (waitL t)) w) := by
  go_enter Try.func33, Try.ntmps33
  go_wp2
  go_loopw [3, 4] (fun v3 v4 wr => wr = w ∧ ((v4 = .int .i64 1 ∧ v3 = .int .i64 4) ∨ (v4 = .int .i64 2 ∧ v3 = .int .i64 8 ∧ 1 < t) ∨ (v4 = .int .i64 3 ∧ v3 = .int .i64 16 ∧ 2 < t) ∨ (v4 = .int .i64 4 ∧ v3 = .int .i64 32 ∧ 3 < t) ∨ (v4 = .int .i64 5 ∧ v3 = .int .i64 64 ∧ 4 < t))) (fun _ v _ => 6 - (intOf v).toNat)
  case atStart => exact ⟨rfl, Or.inl ⟨rfl, rfl⟩⟩
  case round =>
    obtain ⟨rfl, hcases⟩ := hrel
    rcases hcases with ⟨rfl, rfl⟩ | ⟨rfl, rfl, h1⟩ | ⟨rfl, rfl, h1⟩ | ⟨rfl, rfl, h1⟩ | ⟨rfl, rfl, h1⟩
    · by_cases h : 1 < t
      · go_wp2
        go_roundw
        case rel => exact ⟨trivial, Or.inr (Or.inl ⟨rfl, rfl, h⟩)⟩
        case measure => simp [intOf]
      · have hw : waitL t = 4 := by unfold waitL; rw [if_pos (by omega)]
        go_wp2
        go_ret
        exact ⟨rfl, rfl⟩
    · by_cases h : 2 < t
      · go_wp2
        go_roundw
        case rel => exact ⟨trivial, Or.inr (Or.inr (Or.inl ⟨rfl, rfl, h⟩))⟩
        case measure => simp [intOf]
      · have hw : waitL t = 8 := by unfold waitL; rw [if_neg (by omega), if_pos (by omega)]
        go_wp2
        go_ret
        exact ⟨rfl, rfl⟩
    · by_cases h : 3 < t
      · go_wp2
        go_roundw
        case rel => exact ⟨trivial, Or.inr (Or.inr (Or.inr (Or.inl ⟨rfl, rfl, h⟩)))⟩
        case measure => simp [intOf]
      · have hw : waitL t = 16 := by unfold waitL; rw [if_neg (by omega), if_neg (by omega), if_pos (by omega)]
        go_wp2
        go_ret
        exact ⟨rfl, rfl⟩
    · by_cases h : 4 < t
      · go_wp2
        go_roundw
        case rel => exact ⟨trivial, Or.inr (Or.inr (Or.inr (Or.inr ⟨rfl, rfl, h⟩)))⟩
        case measure => simp [intOf]
      · have hw : waitL t = 32 := by unfold waitL; rw [if_neg (by omega), if_neg (by omega), if_neg (by omega), if_pos (by omega)]
        go_wp2
        go_ret
        exact ⟨rfl, rfl⟩
    · have hw : waitL t = 64 := by unfold waitL; rw [if_neg (by omega), if_neg (by omega), if_neg (by omega), if_neg (by omega)]
      by_cases h : 5 < t
      all_goals
        go_wp2
        go_ret
        exact ⟨by simp [hw], rfl⟩
end Go.Proofs.Ytacifjjhadjhfaa
