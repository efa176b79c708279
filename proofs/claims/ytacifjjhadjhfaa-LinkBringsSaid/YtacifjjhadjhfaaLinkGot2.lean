/- Links: what comes next. -/
import Derived.Test.YtacifjjhadjhfaaRows
import Derived.WalkKit
import Derived.WalkSpells
import Derived.WalkLawsBesides
import Derived.RegionTactic
import Derived.ChangeAlike
import Derived.BigQuiet
import Derived.Deep.QuietTactic
import Derived.StillTailTactics
import Derived.IntWalk
import Derived.Handy
import Derived.Lib.Hide
import Derived.Deep.AppendLies
import Derived.Deep.RegionWith
import Derived.Test.YtacifjjhadjhfaaBase
import Derived.Test.YtacifjjhadjhfaaTail
import Derived.Test.YtacifjjhadjhfaaArgs
import Derived.Test.YtacifjjhadjhfaaAppend
import Derived.Deep.RegionLaw
import Derived.Test.YtacifjjhadjhfaaOffs
import Derived.Test.YtacifjjhadjhfaaStructs
import Derived.Test.YtacifjjhadjhfaaSplit
import Derived.Maps.OwnSet
import Derived.Maps.Views
import Derived.Test.YtacifjjhadjhfaaLinkBytes
import Derived.Test.YtacifjjhadjhfaaLinkObj
import Derived.Test.YtacifjjhadjhfaaLinkSend
import Derived.Test.YtacifjjhadjhfaaLinkDue
import Derived.Test.YtacifjjhadjhfaaLinkFrame
import Derived.Test.YtacifjjhadjhfaaLinkOut
import Derived.Test.YtacifjjhadjhfaaLinkOut2
import Derived.Test.YtacifjjhadjhfaaLinkOne
import Derived.Test.YtacifjjhadjhfaaLinkLive
import Derived.Test.YtacifjjhadjhfaaLinkAck
import Derived.Test.YtacifjjhadjhfaaLinkAck2
import Derived.Test.YtacifjjhadjhfaaLinkGot
namespace Go.Proofs.Ytacifjjhadjhfaa
open Go.RowKit
/-! ### What comes next, plain -/
def runK : Nat → Int → List LD → Int × List LD × List LD
  | 0, u, ks => (u, ks, [])
  | f + 1, u, ks => match ks.find? (fun s => s.seq == u + 1) with
    | none => (u, ks, [])
    | some s => ((runK f (u + 1) (ks.filter fun s => s.seq != u + 1)).1, (runK f (u + 1) (ks.filter fun s => s.seq != u + 1)).2.1, s :: (runK f (u + 1) (ks.filter fun s => s.seq != u + 1)).2.2)
theorem filter_perm {k : Int} : ∀ (l : List LD) (s : LD), (l.map LD.seq).Nodup → s ∈ l → s.seq = k → l.Perm (s :: l.filter fun s => s.seq != k)
  | [], _, _, h, _ => by cases h
  | x :: l, s, hn, h, hk => by
    rw [List.map_cons, List.nodup_cons] at hn
    by_cases hx : x.seq = k
    · have hsx : s = x := by
        rcases List.mem_cons.1 h with h | h
        · exact h
        · exact absurd (by rw [hx, ← hk]; exact List.mem_map_of_mem h) hn.1
      have hall : l.filter (fun s => s.seq != k) = l := by
        rw [List.filter_eq_self]
        intro t ht
        have : t.seq ≠ k := fun e => hn.1 (by rw [hx, ← e]; exact List.mem_map_of_mem ht)
        simpa using this
      rw [List.filter_cons_of_neg (by simp [hx]), hall, hsx]
    · have h' : s ∈ l := by
        rcases List.mem_cons.1 h with h | h
        · subst h; exact absurd hk hx
        · exact h
      rw [List.filter_cons_of_pos (by simp [hx])]
      exact ((filter_perm l s hn.2 h' hk).cons x).trans (List.Perm.swap _ _ _)
theorem bb_perm {a b : List LD} (h : a.Perm b) : (byteBlocks a).Perm (byteBlocks b) := by unfold byteBlocks; exact h.flatMap_right _
structure OutsIn (w : World) (B : Nat) (v : Value) (os : List LD) : Prop where
  rows : OwnsAt w B 35 1 v os.length (os.map LD.bv)
  bytes : ∀ s ∈ os, OwnB w B s.bv s.bs
theorem LinkIn.keptTo {w w2 : World} {B p mb : Nat} {vo : Value} {q : LK} {ks : List LD} (h : LinkIn w B p vo mb q) (hs : ∀ s ∈ ks, s ∈ q.kept) (hn : (byteBlocks (q.open_ ++ ks)).Nodup) (hk : KeptIn w2 mb ks) (k : Keep [mb] w w2) : LinkIn w2 B p vo mb { q with kept := ks } := by
  obtain ⟨a1, a2, a3, a4⟩ := h.apart
  refine ⟨h.head.keep k (by simpa using a3.symm), h.rows.keep k (fun g hg hx => a2 ((show g = mb by simpa using hx) ▸ hg)), hk, fun t ht => ?_, hn, h.base⟩
  have ht' : t ∈ q.open_ ++ q.kept := by
    rcases List.mem_append.1 ht with ht | ht
    · exact List.mem_append_left _ ht
    · exact List.mem_append_right _ (hs t ht)
  exact OwnsAt.keep (h.bytes t ht') k (fun g hg hx => (a4 t ht').2.1 ((show g = mb by simpa using hx) ▸ hg))
theorem LinkIn.far_own35 {w w' : World} {B p mb B' : Nat} {vo v : Value} {q : LK} {n : Nat} {xs : List Value} {size : Nat} (h : LinkIn w B p vo mb q) (ho : OwnsAt w B' 35 size v n xs) (k : Keep (ownBlocks v) w w') : LinkIn w' B p vo mb q := by
  refine h.keep k (fun x hx hm => ?_)
  have hg := mem_own.1 hm
  simp only [linkFoot, List.mem_cons, List.mem_append] at hx
  rcases hx with rfl | rfl | hx | hx
  · exact ho.ne_blk h.head (by decide) hg
  · exact h.kept.ne_own ho hg
  · exact ho.ne_own h.rows (by decide) x hg (mem_own.1 hx)
  · obtain ⟨s, hs, hb⟩ := mem_byteBlocks.1 hx
    exact OwnsAt.ne_own ho (h.bytes s hs) (by decide) x hg hb
theorem OutsIn.keep {w w' : World} {B : Nat} {v : Value} {os : List LD} {S : List Nat} (h : OutsIn w B v os) (hk : Keep S w w') (h1 : ∀ x ∈ ownBlocks v, x ∉ S) (h2 : ∀ s ∈ os, ∀ x ∈ ownBlocks s.bv, x ∉ S) : OutsIn w' B v os :=
  ⟨h.rows.keep hk (fun g hg => h1 g (mem_own.2 hg)), fun s hs => OwnsAt.keep (h.bytes s hs) hk (fun g hg => h2 s hs g (mem_own.2 hg))⟩
theorem OutsIn.beside {w w' : World} {B p : Nat} {t : TypeId} {cs : List Value} {v : Value} {os : List LD} (h : OutsIn w B v os) (hb : Blk w p t cs) (h1 : (35 : TypeId) ≠ t) (h2 : (5 : TypeId) ≠ t) (k : Keep [p] w w') : OutsIn w' B v os :=
  h.keep k (fun x hx hm => h.rows.ne_blk hb h1 (mem_own.1 ((show x = p by simpa using hm) ▸ hx))) (fun s hs x hx hm => OwnsAt.ne_blk (h.bytes s hs) hb h2 (mem_own.1 ((show x = p by simpa using hm) ▸ hx)))
theorem OutsIn.besideM {w w' : World} {B mb : Nat} {ks : List LD} {v : Value} {os : List LD} (h : OutsIn w B v os) (hb : KeptIn w mb ks) (k : Keep [mb] w w') : OutsIn w' B v os :=
  h.keep k (fun x hx hm => hb.ne_own h.rows (mem_own.1 ((show x = mb by simpa using hm) ▸ hx))) (fun s hs x hx hm => hb.ne_own (h.bytes s hs) (mem_own.1 ((show x = mb by simpa using hm) ▸ hx)))
def lenV : Value → Nat
  | .slice _ n _ => n
  | _ => 0
def GotPost (B p : Nat) (F : List Nat) (q : LK) (r : Int × List LD × List LD) (w : World) (e : Ending) (w' : World) : Prop :=
  ∃ v F', e = .returned v ∧ OutsIn w' B v r.2.2 ∧ LinkAt w' B p F' { q with upto := r.1, kept := r.2.1, owed := true } ∧ Keep F w w' ∧ (∀ x ∈ F', x ∈ F ∨ w.heap.size ≤ x) ∧ (byteBlocks (r.2.2 ++ (q.open_ ++ r.2.1))).Nodup
end Go.Proofs.Ytacifjjhadjhfaa
