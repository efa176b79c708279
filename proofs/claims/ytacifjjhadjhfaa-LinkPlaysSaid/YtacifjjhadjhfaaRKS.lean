/- The reference link: where In stands. -/
import Derived.Test.YtacifjjhadjhfaaRows
import Derived.WalkKit
import Derived.WalkSpells
import Derived.WalkLawsBesides
import Derived.RegionTactic
import Derived.ChangeAlike
import Derived.BigQuiet
import Derived.Deep.QuietTactic
import Derived.StillTailTactics
import Derived.IntWalk
import Derived.Handy
import Derived.Lib.Hide
import Derived.Deep.AppendLies
import Derived.Deep.RegionWith
import Derived.Test.YtacifjjhadjhfaaBase
import Derived.Test.YtacifjjhadjhfaaTail
import Derived.Test.YtacifjjhadjhfaaArgs
import Derived.Test.YtacifjjhadjhfaaAppend
import Derived.Deep.RegionLaw
import Derived.Test.YtacifjjhadjhfaaOffs
import Derived.Test.YtacifjjhadjhfaaStructs
import Derived.Test.YtacifjjhadjhfaaSplit
import Derived.Maps.OwnSet
import Derived.Maps.Views
import Derived.Test.YtacifjjhadjhfaaLinkBytes
import Derived.Test.YtacifjjhadjhfaaLinkObj
import Derived.Test.YtacifjjhadjhfaaLinkSend
import Derived.Test.YtacifjjhadjhfaaLinkDue
import Derived.Test.YtacifjjhadjhfaaLinkFrame
import Derived.Test.YtacifjjhadjhfaaLinkOut
import Derived.Test.YtacifjjhadjhfaaLinkOut2
import Derived.Test.YtacifjjhadjhfaaLinkOne
import Derived.Test.YtacifjjhadjhfaaLinkLive
import Derived.Test.YtacifjjhadjhfaaLinkAck
import Derived.Test.YtacifjjhadjhfaaLinkAck2
import Derived.Test.YtacifjjhadjhfaaLinkGot
import Derived.Test.YtacifjjhadjhfaaLinkGot2
import Derived.Test.YtacifjjhadjhfaaLinkGot3
import Derived.Test.YtacifjjhadjhfaaLinkInn
import Derived.Test.YtacifjjhadjhfaaLinkX2
import Derived.Deep.CutRange
import Derived.Deep.DeepCutAuto
import Derived.BigRegion
import Derived.Test.YtacifjjhadjhfaaRLink
import Derived.Test.YtacifjjhadjhfaaRLink2
import Derived.Test.YtacifjjhadjhfaaRLink3
namespace Go.Proofs.Ytacifjjhadjhfaa
open Go.RowKit
def RInPost (B p : Nat) (F : List Nat) (q : LK) (fr to_ life sq ack : Int) (bs : List UInt8) (w : World) (e : Ending) (w' : World) : Prop :=
  if inOk q fr to_ life sq ack bs = true then
    ∃ bv v F', e = .returned (.tuple #[v, .bool true]) ∧ OutsIn w' B v (inR (ackd q ack) sq bs bv).2.2 ∧
      RAt w' B p F' { ackd q ack with upto := (inR (ackd q ack) sq bs bv).1, kept := (inR (ackd q ack) sq bs bv).2.1, owed := q.owed || decide (sq ≠ 0) } ∧ Keep F w w' ∧ ∀ x ∈ F', x ∈ F ∨ w.heap.size ≤ x
  else e = .returned (.tuple #[.slice none 0 0, .bool false]) ∧ Keep [] w w'
theorem rin_done {w wx : World} {B p : Nat} {F : List Nat} {q q2 : LK} {fr to_ life sq ack : Int} {bs : List UInt8} {vo vk : Value} (hy : inOk q fr to_ life sq ack bs = true) (hr : inR (ackd q ack) sq bs (.slice none 0 0) = (q.upto, q.kept, [])) (h : RIn wx B p vo vk q2) (hk : Keep F w wx) (hf : ∀ x ∈ rFoot p vo vk (q2.open_ ++ q2.kept), x ∈ F ∨ w.heap.size ≤ x)
    (hq : q2 = { ackd q ack with upto := q.upto, kept := q.kept, owed := q.owed || decide (sq ≠ 0) }) : RInPost B p F q fr to_ life sq ack bs w (.returned (.tuple #[.slice none 0 0, .bool true])) wx := by
  unfold RInPost
  rw [if_pos hy]
  refine ⟨.slice none 0 0, _, _, rfl, ?_, ⟨vo, vk, ?_, rfl⟩, hk, ?_⟩
  · rw [hr]; exact ⟨OwnsAt.nil _ _ _ _, by simp⟩
  · rw [hr]
    rw [hq] at h
    exact h
  · rw [hr]
    rw [hq] at hf
    exact hf
theorem SrcOf.of_own {w : World} {B : Nat} {e : TypeId} {size : Nat} {g off n cap : Nat} {xs : List Value} (h : OwnsAt w B e size (.slice (some ⟨g, off, none⟩) n cap) n xs) {k : Nat} (hk : k ≤ n) (c : Nat) :
    SrcOf w (.slice (some ⟨g, off + k * size, none⟩) (n - k) c) size (n - k) (xs.drop (k * size)) := by
  have hl := h.1
  refine ⟨_, _, rfl, by rw [List.length_drop, hl, Nat.sub_mul], fun hne => ⟨_, rfl, fun j u hu => ?_⟩⟩
  rw [add_none, Nat.add_assoc]
  have hn : 0 < n := by
    rcases Nat.eq_zero_or_pos n with h0 | h0
    · subst h0; simp at hl; subst hl; simp at hne
    · exact h0
  obtain ⟨g', off', cap', hv, _, _, _, _, h5⟩ := h.form hn
  injection hv with e1 _ _
  injection e1 with e1
  injection e1 with e1 e2
  subst e1 e2
  exact h5 _ u (by rw [← List.getElem?_drop]; exact hu)
theorem src_own {w : World} {B : Nat} {e : TypeId} {size n : Nat} {v : Value} {xs : List Value} (h : OwnsAt w B e size v n xs) : SrcOf w v size n xs := by
  obtain ⟨a, c, rfl⟩ := h.shape
  refine ⟨a, c, rfl, h.1, fun hne => ?_⟩
  have hn : 0 < n := by
    rcases Nat.eq_zero_or_pos n with h0 | h0
    · subst h0
      have := h.1
      simp at this
      exact absurd this hne
    · exact h0
  obtain ⟨g, off, cap, hv, _, _, _, _, h5⟩ := h.form hn
  injection hv with e1 _ _
  subst e1
  exact ⟨_, rfl, fun j u hu => by rw [add_none]; exact h5 j u hu⟩
/-- where the last loop stands: u is how far all came in, ks are kept, os are out -/
structure KS (w wr : World) (B p : Nat) (FT : List Nat) (vo : Value) (qa : LK) (K0 : Nat) (R : Int × List LD × List LD) (v9 : Value) (ag : Bool) (f : Nat) (u : Int) (ks os : List LD) (vk : Value) : Prop where
  rin : RIn wr B p vo vk { qa with owed := true, upto := u, kept := ks }
  outs : OutsIn wr B v9 os
  new9 : ∀ x ∈ ownBlocks v9, w.heap.size ≤ x
  k : Keep FT w wr
  reach : ∀ x ∈ rFoot p vo vk (qa.open_ ++ ks), x ∈ FT ∨ w.heap.size ≤ x
  nd : (ks.map LD.seq).Nodup
  len : os.length + ks.length = K0
  fuel : ks.length < f
  run : R = ((runK f u ks).1, (runK f u ks).2.1, os ++ (runK f u ks).2.2)
  ub : 0 ≤ u ∧ u ≤ 1000000000 + (os.length : Int)
  none_ : ag = false → ks.find? (fun s => s.seq == u + 1) = none
def agN : Value → Nat
  | .bool true => 1
  | _ => 0
section
variable {w wr : World} {B p : Nat} {FT : List Nat} {vo : Value} {qa : LK} {K0 : Nat} {R : Int × List LD × List LD} {v9 : Value} {ag : Bool} {f : Nat} {u : Int} {ks os : List LD} {vk : Value}
theorem KS.keep0 {wr' : World} (h : KS w wr B p FT vo qa K0 R v9 ag f u ks os vk) (k : Keep [] wr wr') : KS w wr' B p FT vo qa K0 R v9 ag f u ks os vk :=
  ⟨h.rin.keep k (by simp), h.outs.keep k (by simp) (by simp), h.new9, h.k.trans k (by simp), h.reach, h.nd, h.len, h.fuel, h.run, h.ub, h.none_⟩
theorem KS.off (h : KS w wr B p FT vo qa K0 R v9 ag f u ks os vk) (hn : ks.find? (fun s => s.seq == u + 1) = none) : KS w wr B p FT vo qa K0 R v9 false f u ks os vk :=
  ⟨h.rin, h.outs, h.new9, h.k, h.reach, h.nd, h.len, h.fuel, h.run, h.ub, fun _ => hn⟩
theorem KS.stop (h : KS w wr B p FT vo qa K0 R v9 false f u ks os vk) : R = (u, ks, os) := by
  have hn := h.none_ rfl
  obtain ⟨m, rfl⟩ : ∃ m, f = m + 1 := ⟨f - 1, by have := h.fuel; omega⟩
  have hr : runK (m + 1) u ks = (u, ks, []) := by unfold runK; rw [hn]
  rw [h.run, hr]
  simp
end
theorem find_at {α : Type} {p : α → Bool} : ∀ {l : List α} {i : Nat} {x : α}, l[i]? = some x → p x = true → (∀ (j : Nat) (y : α), j < i → l[j]? = some y → p y = false) → l.find? p = some x
  | [], i, x, h, _, _ => by simp at h
  | a :: l, 0, x, h, hp, _ => by
    simp only [List.getElem?_cons_zero, Option.some.injEq] at h
    subst h
    simp [List.find?_cons, hp]
  | a :: l, i + 1, x, h, hp, hb => by
    simp only [List.getElem?_cons_succ] at h
    have h0 := hb 0 a (by omega) rfl
    rw [List.find?_cons, h0]
    exact find_at h hp (fun j y hj hy => hb (j + 1) y (by omega) (by simpa using hy))
theorem filter_erase {k : Int} : ∀ {l : List LD} {i : Nat} {s : LD}, (l.map LD.seq).Nodup → l[i]? = some s → s.seq = k → (l.filter fun s => s.seq != k) = l.eraseIdx i
  | [], i, s, _, h, _ => by simp at h
  | a :: l, 0, s, hn, h, hk => by
    simp only [List.getElem?_cons_zero, Option.some.injEq] at h
    subst h
    simp only [List.map_cons, List.nodup_cons, List.mem_map, not_exists, not_and] at hn
    rw [List.filter_cons_of_neg (by simp [hk]), List.eraseIdx_cons_zero]
    rw [List.filter_eq_self]
    intro t ht
    have := hn.1 t ht
    simp
    omega
  | a :: l, i + 1, s, hn, h, hk => by
    simp only [List.getElem?_cons_succ] at h
    simp only [List.map_cons, List.nodup_cons, List.mem_map, not_exists, not_and] at hn
    have ha : a.seq ≠ k := fun e => hn.1 s (List.mem_of_getElem? h) (by omega)
    rw [List.filter_cons_of_pos (by simpa using ha), List.eraseIdx_cons_succ, filter_erase hn.2 h hk]
theorem RIn.far {w w' : World} {B p B' : Nat} {vo vk v : Value} {q : LK} {n : Nat} {xs : List Value} {size : Nat} {e : TypeId} (h : RIn w B p vo vk q) (ho : OwnsAt w B' e size v n xs) (e1 : e ≠ 65) (e2 : e ≠ 83) (e3 : e ≠ 88) (e4 : e ≠ 5) (k : Keep (ownBlocks v) w w') : RIn w' B p vo vk q := by
  refine h.keep k (fun x hx hm => ?_)
  have hg := mem_own.1 hm
  rcases mem_rFoot.1 hx with rfl | hx | hx | ⟨s, hs, hb⟩
  · exact ho.ne_blk h.head e1 hg
  · exact ho.ne_own h.rows e2 x hg hx
  · exact ho.ne_own h.keeps e3 x hg hx
  · exact OwnsAt.ne_own ho (h.bytes s hs) e4 x hg hb
theorem KS.next {w wr wx : World} {B p : Nat} {FT : List Nat} {vo : Value} {qa : LK} {K0 : Nat} {R : Int × List LD × List LD} {v9 v9' : Value} {f : Nat} {u : Int} {ks os : List LD} {vk vk' : Value} {i : Nat} {s : LD} (h : KS w wr B p FT vo qa K0 R v9 true f u ks os vk) (hs : ks[i]? = some s) (hq : s.seq = u + 1) (hno : ∀ (j : Nat) (t : LD), j < i → ks[j]? = some t → t.seq ≠ u + 1)
    (r : RIn wx B p vo vk' { qa with owed := true, upto := u + 1, kept := ks.eraseIdx i }) (o : OutsIn wx B v9' (os ++ [s])) (n : ∀ x ∈ ownBlocks v9', w.heap.size ≤ x) (k : Keep FT w wx) (rc : ∀ x ∈ rFoot p vo vk' (qa.open_ ++ ks.eraseIdx i), x ∈ FT ∨ w.heap.size ≤ x) :
    KS w wx B p FT vo qa K0 R v9' true (f - 1) (u + 1) (ks.eraseIdx i) (os ++ [s]) vk' := by
  have hi : i < ks.length := by
    rcases Nat.lt_or_ge i ks.length with h' | h'
    · exact h'
    · rw [List.getElem?_eq_none h'] at hs; cases hs
  have hl : (ks.eraseIdx i).length = ks.length - 1 := List.length_eraseIdx_of_lt hi
  obtain ⟨m, rfl⟩ : ∃ m, f = m + 1 := ⟨f - 1, by have := h.fuel; omega⟩
  have hfind : ks.find? (fun s => s.seq == u + 1) = some s := find_at hs (by simpa using hq) (fun j t hj ht => by simpa using hno j t hj ht)
  have hfe := filter_erase h.nd hs hq
  have hrun := h.run
  unfold runK at hrun
  rw [hfind] at hrun
  simp only [hfe] at hrun
  refine ⟨r, o, n, k, rc, h.nd.sublist ((List.eraseIdx_sublist ks i).map _), ?_, ?_, ?_, ?_, fun h => by cases h⟩
  · have := h.len
    rw [hl, List.length_append, List.length_singleton]
    omega
  · have := h.fuel
    rw [hl]
    omega
  · rw [hrun]
    simp
  · have := h.ub
    rw [List.length_append, List.length_singleton]
    omega
theorem ld_one {w : World} {B : Nat} {l : List LD} (h : ∀ s ∈ l, OwnB w B s.bv s.bs) : ∀ u ∈ l.flatMap LD.k, u.oneCell' = true := by
  intro u hu
  rw [List.mem_flatMap] at hu
  obtain ⟨s, hs, hu⟩ := hu
  obtain ⟨a, c, hv⟩ := OwnsAt.shape (h s hs)
  simp only [LD.k, List.mem_cons, List.not_mem_nil, or_false] at hu
  rcases hu with rfl | rfl
  · rfl
  · rw [hv]; rfl
end Go.Proofs.Ytacifjjhadjhfaa
