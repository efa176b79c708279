/- A link and the reference link beside each other. -/
import Derived.Test.YtacifjjhadjhfaaRows
import Derived.WalkKit
import Derived.WalkSpells
import Derived.WalkLawsBesides
import Derived.RegionTactic
import Derived.ChangeAlike
import Derived.BigQuiet
import Derived.Deep.QuietTactic
import Derived.StillTailTactics
import Derived.IntWalk
import Derived.Handy
import Derived.Lib.Hide
import Derived.Deep.AppendLies
import Derived.Deep.RegionWith
import Derived.Test.YtacifjjhadjhfaaBase
import Derived.Test.YtacifjjhadjhfaaTail
import Derived.Test.YtacifjjhadjhfaaArgs
import Derived.Test.YtacifjjhadjhfaaAppend
import Derived.Deep.RegionLaw
import Derived.Test.YtacifjjhadjhfaaOffs
import Derived.Test.YtacifjjhadjhfaaStructs
import Derived.Test.YtacifjjhadjhfaaSplit
import Derived.Maps.OwnSet
import Derived.Maps.Views
import Derived.Test.YtacifjjhadjhfaaLinkBytes
import Derived.Test.YtacifjjhadjhfaaLinkObj
import Derived.Test.YtacifjjhadjhfaaLinkSend
import Derived.Test.YtacifjjhadjhfaaLinkDue
import Derived.Test.YtacifjjhadjhfaaLinkFrame
import Derived.Test.YtacifjjhadjhfaaLinkOut
import Derived.Test.YtacifjjhadjhfaaLinkOut2
import Derived.Test.YtacifjjhadjhfaaLinkOne
import Derived.Test.YtacifjjhadjhfaaLinkLive
import Derived.Test.YtacifjjhadjhfaaLinkAck
import Derived.Test.YtacifjjhadjhfaaLinkAck2
import Derived.Test.YtacifjjhadjhfaaLinkGot
import Derived.Test.YtacifjjhadjhfaaLinkGot2
import Derived.Test.YtacifjjhadjhfaaLinkGot3
import Derived.Test.YtacifjjhadjhfaaLinkInn
import Derived.Test.YtacifjjhadjhfaaLinkX2
import Derived.Deep.CutRange
import Derived.Deep.DeepCutAuto
import Derived.BigRegion
import Derived.Test.YtacifjjhadjhfaaRLink
import Derived.Test.YtacifjjhadjhfaaRLink2
import Derived.Test.YtacifjjhadjhfaaRLink3
import Derived.Laws.BytesArg
import Derived.Test.YtacifjjhadjhfaaRLink5
import Derived.Test.YtacifjjhadjhfaaRLink6
import Derived.Test.YtacifjjhadjhfaaRLink4
import Derived.Test.YtacifjjhadjhfaaLSim
import Derived.Test.YtacifjjhadjhfaaLinkIn2
namespace Go.Proofs.Ytacifjjhadjhfaa
open Go.RowKit
theorem LinkAt.mono {w : World} {B B' p : Nat} {F : List Nat} {q : LK} (h : LinkAt w B p F q) (hb : B' ≤ B) : LinkAt w B' p F q := by
  obtain ⟨vo, mb, h, rfl⟩ := h
  exact ⟨vo, mb, ⟨h.head, h.rows.mono hb, h.kept, fun s hs => OwnsAt.mono (h.bytes s hs) hb, h.nodup, Nat.le_trans hb h.base.1, Nat.le_trans hb h.base.2⟩, rfl⟩
/-- a link and a reference link that a law made, beside the blocks X -/
def LJ (X : List Nat) (p r : Nat) (w0 w : World) (q q' : LK) : Prop :=
  ∃ F F', LinkAt w w0.heap.size p F q ∧ RAt w w0.heap.size r F' q' ∧ Keep [] w0 w ∧ (∀ x ∈ F, x ∉ F') ∧ ∀ x ∈ X, x ∉ F ∧ x ∉ F' ∧ w0.heap.size ≤ x ∧ x < w.heap.size
section
variable {X : List Nat} {p r : Nat} {w0 w w' : World} {q q' : LK}
theorem LJ.out (h : LJ X p r w0 w q q') : Keep [] w0 w := by obtain ⟨F, F', _, _, h, _⟩ := h; exact h
theorem LJ.keep0 (h : LJ X p r w0 w q q') (k : Keep [] w w') : LJ X p r w0 w' q q' := by
  obtain ⟨F, F', h1, h2, h3, h4, h5⟩ := h
  exact ⟨F, F', h1.keep k (by simp), h2.keep k (by simp), h3.trans k (by simp), h4, fun x hx => ⟨(h5 x hx).1, (h5 x hx).2.1, (h5 x hx).2.2.1, Nat.lt_of_lt_of_le (h5 x hx).2.2.2 k.size⟩⟩
theorem LJ.drewN (h : LJ X p r w0 w q q') (n : Nat) : LJ X p r w0 (w.drewN n) q q' := h.keep0 ((Keep.refl [] _).drewN n)
theorem LJ.drew (h : LJ X p r w0 w q q') : LJ X p r w0 w.drew q q' := h.keep0 (Keep.refl [] _).drew
theorem LJ.sub {Y : List Nat} (h : LJ X p r w0 w q q') (hy : ∀ x ∈ Y, x ∈ X) : LJ Y p r w0 w q q' := by
  obtain ⟨F, F', h1, h2, h3, h4, h5⟩ := h
  exact ⟨F, F', h1, h2, h3, h4, fun x hx => h5 x (hy x hx)⟩
theorem LJ.fresh {Y : List Nat} (h : LJ X p r w0 w q q') (k : Keep [] w w') (hy : ∀ x ∈ Y, w.heap.size ≤ x ∧ x < w'.heap.size) : LJ (Y ++ X) p r w0 w' q q' := by
  obtain ⟨F, F', h1, h2, h3, h4, h5⟩ := h
  refine ⟨F, F', h1.keep k (by simp), h2.keep k (by simp), h3.trans k (by simp), h4, fun x hx => ?_⟩
  rcases List.mem_append.1 hx with hx | hx
  · have := hy x hx
    refine ⟨fun hF => ?_, fun hF => ?_, by have := h3.size; omega, this.2⟩
    · have := (h1.lt x hF).2
      omega
    · have := (h2.lt x hF).2
      omega
  · exact ⟨(h5 x hx).1, (h5 x hx).2.1, (h5 x hx).2.2.1, Nat.lt_of_lt_of_le (h5 x hx).2.2.2 k.size⟩
theorem LJ.write {S : List Nat} (h : LJ X p r w0 w q q') (k : Keep S w w') (hS : ∀ x ∈ S, x ∈ X) : LJ X p r w0 w' q q' := by
  obtain ⟨F, F', h1, h2, h3, h4, h5⟩ := h
  exact ⟨F, F', h1.keep k (fun x hx hX => (h5 x (hS x hX)).1 hx), h2.keep k (fun x hx hX => (h5 x (hS x hX)).2.1 hx), h3.trans k (fun x hx => Or.inr (h5 x (hS x hx)).2.2.1), h4, fun x hx => ⟨(h5 x hx).1, (h5 x hx).2.1, (h5 x hx).2.2.1, Nat.lt_of_lt_of_le (h5 x hx).2.2.2 k.size⟩⟩
theorem lj_step {F F' F2 : List Nat} {q2 : LK} (h1 : LinkAt w w0.heap.size p F q) (h2 : RAt w w0.heap.size r F' q') (h3 : Keep [] w0 w) (h4 : ∀ x ∈ F, x ∉ F') (h5 : ∀ x ∈ X, x ∉ F ∧ x ∉ F' ∧ w0.heap.size ≤ x ∧ x < w.heap.size)
    (g1 : LinkAt w' w0.heap.size p F2 q2) (g2 : Keep F w w') (g3 : ∀ x ∈ F2, x ∈ F ∨ w.heap.size ≤ x) : LJ X p r w0 w' q2 q' ∧ KX X w0 w w' := by
  refine ⟨⟨F2, F', g1, h2.keep g2 (fun x hx hF => h4 x hF hx), h3.trans g2 (fun x hx => Or.inr (h1.lt x hx).1), fun x hx hF' => ?_, fun x hx => ⟨fun hF => ?_, (h5 x hx).2.1, (h5 x hx).2.2.1, Nat.lt_of_lt_of_le (h5 x hx).2.2.2 g2.size⟩⟩, F, g2, fun x hx => ⟨(h1.lt x hx).1, fun hX => (h5 x hX).1 hx⟩⟩
  · rcases g3 x hx with h | h
    · exact h4 x h hF'
    · have := (h2.lt x hF').2
      omega
  · rcases g3 x hF with h | h
    · exact (h5 x hx).1 h
    · have := (h5 x hx).2.2.2
      omega
theorem lj_stepR {F F' F2 : List Nat} {q2 : LK} (h1 : LinkAt w w0.heap.size p F q) (h2 : RAt w w0.heap.size r F' q') (h3 : Keep [] w0 w) (h4 : ∀ x ∈ F, x ∉ F') (h5 : ∀ x ∈ X, x ∉ F ∧ x ∉ F' ∧ w0.heap.size ≤ x ∧ x < w.heap.size)
    (g1 : RAt w' w0.heap.size r F2 q2) (g2 : Keep F' w w') (g3 : ∀ x ∈ F2, x ∈ F' ∨ w.heap.size ≤ x) : LJ X p r w0 w' q q2 ∧ KX X w0 w w' := by
  refine ⟨⟨F, F2, h1.keep g2 (fun x hx hF => h4 x hx hF), g1, h3.trans g2 (fun x hx => Or.inr (h2.lt x hx).1), fun x hx hF' => ?_, fun x hx => ⟨(h5 x hx).1, fun hF => ?_, (h5 x hx).2.2.1, Nat.lt_of_lt_of_le (h5 x hx).2.2.2 g2.size⟩⟩, F', g2, fun x hx => ⟨(h2.lt x hx).1, fun hX => (h5 x hX).2.1 hx⟩⟩
  · rcases g3 x hF' with h | h
    · exact h4 x hx h
    · have := (h1.lt x hx).2
      omega
  · rcases g3 x hF with h | h
    · exact (h5 x hx).2.1 h
    · have := (h5 x hx).2.2.2
      omega
theorem lj_open (h : LJ X p r w0 w q q') : Calls Try.prog 13 #[.pointer (some ⟨p, 0, none⟩)] w (Same' (.int .i64 q.open_.length) w) := by
  obtain ⟨F, F', h1, _⟩ := h
  exact open_spec h1
theorem lj_seq (h : LJ X p r w0 w q q') : Calls Try.prog 25 #[.pointer (some ⟨p, 0, none⟩)] w (Same' (.int .i64 q.seq) w) := by
  obtain ⟨F, F', h1, _⟩ := h
  exact seq_spec h1
theorem lj_openR (h : LJ X p r w0 w q q') : Calls Try.prog 24 #[.pointer (some ⟨r, 0, none⟩)] w (Same' (.int .i64 q'.open_.length) w) := by
  obtain ⟨F, F', _, h2, _⟩ := h
  exact openR_spec h2
theorem LJ.seqR (h : LJ X p r w0 w q q') : w.cell? ⟨r, 5, none⟩ = some (.int .i64 q'.seq) := by
  obtain ⟨F, F', _, ⟨vo, vk, h2, _⟩, _⟩ := h
  exact h2.head.cell 5
theorem lj_send {v : Value} {bs : List UInt8} {n : Nat} (h : LJ X p r w0 w q q') (hv : BytesOf w v bs) (hx : ∀ x ∈ ownBlocks v, x ∈ X) (g : LGood q n) (hb : bs.length ≤ 5000) :
    Calls Try.prog 11 #[.pointer (some ⟨p, 0, none⟩), v] w fun e w' => ∃ q2, e = .returned (.int .i64 (sendCode q bs)) ∧ SentTo q bs (sendCode q bs) q2 ∧ LJ X p r w0 w' q2 q' ∧ KX X w0 w w' := by
  have h0 := h
  obtain ⟨F, F', h1, h2, h3, h4, h5⟩ := h
  refine (send_spec h1 h3.size (fun w' hk => hv.keep hk (fun x hxv hF => (h5 x (hx x hxv)).1 hF)) (by omega) g.s0 g.l0).mono fun e w' hp => ?_
  have same : ∀ c : Int, sendCode q bs = c → c ≠ 0 → SentTo q bs c q := fun c _ hc => by unfold SentTo; rw [if_neg hc]
  unfold SendPost at hp
  unfold sendCode at *
  split at hp
  · rename_i hc
    rw [if_pos hc]
    obtain ⟨rfl, rfl⟩ := hp
    exact ⟨q, rfl, same _ (by rw [if_pos hc]) (by decide), h0, KX.refl _ _ _⟩
  · rename_i hc
    rw [if_neg hc]
    rw [if_neg hc] at same
    split at hp
    · rename_i hc
      rw [if_pos hc]
      exact ⟨q, hp.1, same _ (by rw [if_pos hc]) (by decide), h0.keep0 hp.2, KX.of0 hp.2⟩
    · rename_i hc
      rw [if_neg hc]
      rw [if_neg hc] at same
      split at hp
      · rename_i hc
        rw [if_pos hc]
        exact ⟨q, hp.1, same _ (by rw [if_pos hc]) (by decide), h0.keep0 hp.2, KX.of0 hp.2⟩
      · rename_i hc
        rw [if_neg hc]
        obtain ⟨bv, rfl, F2, hl, hk, hf⟩ := hp
        have := lj_step h1 h2 h3 h4 h5 hl hk hf
        exact ⟨_, rfl, by unfold SentTo; rw [if_pos rfl]; exact ⟨bv, rfl⟩, this.1, this.2⟩
theorem lj_sendR {v : Value} {bs : List UInt8} {n : Nat} (h : LJ X p r w0 w q q') (hv : BytesOf w0 v bs) (g : LGood q' n) (hb : bs.length ≤ 5000) :
    Calls Try.prog 20 #[.pointer (some ⟨r, 0, none⟩), v] w fun e w' => ∃ q2, e = .returned (.int .i64 (sendCode q' bs)) ∧ SentTo q' bs (sendCode q' bs) q2 ∧ LJ X p r w0 w' q q2 ∧ KX X w0 w w' := by
  obtain ⟨F, F', h1, h2, h3, h4, h5⟩ := h
  refine (sendR_spec h2 h3.size (fun w' hk => hv.keep0 (h3.trans hk (fun x hx => Or.inr (h2.lt x hx).1))) (by omega) g.s0 g.l0).mono ?_
  rintro e w' ⟨q2, F2, he, hl, hk, hf, hs⟩
  have := lj_stepR h1 h2 h3 h4 h5 hl hk hf
  exact ⟨q2, he, hs, this.1, this.2⟩
theorem lj_out {n : Nat} (now : Int) (h : LJ X p r w0 w q q') (g : LGood q n) (hn : n ≤ 100000) (hnow : -1152921504606846976 ≤ now ∧ now ≤ 1152921504606846976) : Calls Try.prog 12 #[.pointer (some ⟨p, 0, none⟩), .int .i64 now] w fun e w' =>
    ∃ v fs, e = .returned v ∧ fs.map frd = outF q now ∧ FramesIn w' w.heap.size v fs ∧ LJ (ownBlocks v ++ (frBlocks fs ++ X)) p r w0 w' (outL q now) q' ∧ KX X w0 w w' := by
  obtain ⟨F, F', h1, h2, h3, h4, h5⟩ := h
  refine (out_spec now h1 h3.size (by have := g.ol; omega) (fun s hs => by have := g.lds s hs; omega) (by omega)).mono ?_
  rintro e w' ⟨v, fs, he, hfd, hfs, hl, hk⟩
  obtain ⟨⟨F2, F2', a1, a2, a3, a4, a5⟩, hkx⟩ := lj_step (X := X) h1 h2 h3 h4 h5 hl hk (fun x hx => Or.inl hx)
  refine ⟨v, fs, he, hfd, hfs, ⟨F, F', hl, h2.keep hk (fun x hx hF => h4 x hF hx), a3, h4, fun x hx => ?_⟩, hkx⟩
  have key : ∀ y, w.heap.size ≤ y → y < w'.heap.size → y ∉ F ∧ y ∉ F' ∧ w0.heap.size ≤ y ∧ y < w'.heap.size := fun y hy1 hy2 => ⟨fun hF => by have := (h1.lt y hF).2; omega, fun hF => by have := (h2.lt y hF).2; omega, by have := h3.size; omega, hy2⟩
  rcases List.mem_append.1 hx with hx | hx
  · have := hfs.rows.lt x (mem_own.1 hx)
    exact key x this.1 this.2
  · rcases List.mem_append.1 hx with hx | hx
    · obtain ⟨s, hs, hb⟩ := mem_frBlocks.1 hx
      have := OwnsAt.lt (hfs.bytes s hs) x hb
      exact key x this.1 this.2
    · exact ⟨(h5 x hx).1, (h5 x hx).2.1, (h5 x hx).2.2.1, Nat.lt_of_lt_of_le (h5 x hx).2.2.2 hk.size⟩
theorem lj_outR {n : Nat} (now : Int) (h : LJ X p r w0 w q q') (g : LGood q' n) (hn : n ≤ 100000) (hnow : -1152921504606846976 ≤ now ∧ now ≤ 1152921504606846976) : Calls Try.prog 22 #[.pointer (some ⟨r, 0, none⟩), .int .i64 now] w fun e w' =>
    ∃ v fs, e = .returned v ∧ fs.map frd = outF q' now ∧ FramesIn w' w.heap.size v fs ∧ LJ X p r w0 w' q (outL q' now) ∧ KX X w0 w w' := by
  obtain ⟨F, F', h1, h2, h3, h4, h5⟩ := h
  refine (outR_spec now h2 h3.size (by have := g.ol; omega) (fun s hs => by have := g.lds s hs; omega) (by omega)).mono ?_
  rintro e w' ⟨v, fs, he, hfd, hfs, ⟨F2, hl, hF2⟩, hk⟩
  have := lj_stepR (X := X) h1 h2 h3 h4 h5 hl hk (fun x hx => Or.inl ((hF2 x).1 hx))
  exact ⟨v, fs, he, hfd, hfs, this.1, this.2⟩
def InJ (X : List Nat) (p r : Nat) (w0 w : World) (q q' : LK) (fr to_ life sq ack : Int) (bs : List UInt8) (e : Ending) (w' : World) : Prop :=
  if inOk q fr to_ life sq ack bs = true then ∃ bv vr, e = .returned (.tuple #[vr, .bool true]) ∧ OutsIn w' 0 vr (inR (ackd q ack) sq bs bv).2.2 ∧ LJ (ownBlocks vr ++ (byteBlocks (inR (ackd q ack) sq bs bv).2.2 ++ X)) p r w0 w' (inLk q sq ack bs bv) q' ∧ KX X w0 w w'
  else e = .returned (.tuple #[.slice none 0 0, .bool false]) ∧ LJ X p r w0 w' q q' ∧ KX X w0 w w'
theorem OutsIn.mono {w : World} {B B' : Nat} {v : Value} {os : List LD} (h : OutsIn w B v os) (hb : B' ≤ B) : OutsIn w B' v os := ⟨h.rows.mono hb, fun s hs => OwnsAt.mono (h.bytes s hs) hb⟩
theorem outs_new_own {F : List Nat} {B' B : Nat} {v : Value} {os : List LD} (h : LinkAt w B p F q) (ho : OutsIn w B' v os) : ∀ x ∈ ownBlocks v, x ∉ F := by
  obtain ⟨vo, mb, h, rfl⟩ := h
  intro x hx hm
  have hx' := mem_own.1 hx
  simp only [linkFoot, List.mem_cons, List.mem_append] at hm
  rcases hm with rfl | rfl | hm | hm
  · exact OwnsAt.ne_blk ho.rows h.head (by decide) hx'
  · exact h.kept.ne_own ho.rows hx'
  · exact OwnsAt.ne_own h.rows ho.rows (by decide) x (mem_own.1 hm) hx'
  · obtain ⟨s, hs, hb⟩ := mem_byteBlocks.1 hm
    exact OwnsAt.ne_own (h.bytes s hs) ho.rows (by decide) x hb hx'
theorem outs_new_ref {F : List Nat} {B' B : Nat} {v : Value} {os : List LD} (h : RAt w B r F q') (ho : OutsIn w B' v os) : ∀ x ∈ ownBlocks v, x ∉ F := by
  obtain ⟨vo, vk, h, rfl⟩ := h
  intro x hx hm
  have hx' := mem_own.1 hx
  rcases mem_rFoot.1 hm with rfl | hm | hm | ⟨s, hs, hb⟩
  · exact OwnsAt.ne_blk ho.rows h.head (by decide) hx'
  · exact OwnsAt.ne_own h.rows ho.rows (by decide) x hm hx'
  · exact OwnsAt.ne_own h.keeps ho.rows (by decide) x hm hx'
  · exact OwnsAt.ne_own (h.bytes s hs) ho.rows (by decide) x hb hx'
theorem LinkAt.kept_mem {F : List Nat} {B x : Nat} {s : LD} (h : LinkAt w B p F q) (hs : s ∈ q.kept) (hx : s.bv.ownBlock = some x) : x ∈ F := by
  obtain ⟨vo, mb, h, rfl⟩ := h
  simp only [linkFoot, List.mem_cons, List.mem_append]
  exact Or.inr (Or.inr (Or.inr (mem_byteBlocks.2 ⟨s, List.mem_append_right _ hs, hx⟩)))
theorem lj_in {fr to_ life sq ack : Int} {bs : List UInt8} {v : Value} {n : Nat} (h : LJ X p r w0 w q q') (hv : BytesOf w0 v bs) (g : LGood q n) (hn : n ≤ 900) (hsq : sq ≤ 9223372036854775807) :
    Calls Try.prog 14 #[.pointer (some ⟨p, 0, none⟩), .agg #[.int .i64 fr, .int .i64 to_, .int .i64 life, .int .i64 sq, .int .i64 ack, v]] w (InJ X p r w0 w q q' fr to_ life sq ack bs) := by
  have h0 := h
  obtain ⟨F, F', h1, h2, h3, h4, h5⟩ := h
  have hun := g.un
  have hu0 := g.u0
  refine (in_spec2 h1 h3.size (fun w' hk => hv.keep0 (h3.trans hk (fun x hx => Or.inr (h1.lt x hx).1))) ⟨g.u0, by omega⟩ hsq (by omega) (by have := g.ol; omega)).mono fun e w' hp => ?_
  unfold InPost2 at hp
  unfold InJ
  by_cases hi : inOk q fr to_ life sq ack bs = true
  · rw [if_pos hi] at hp ⊢
    obtain ⟨bv, vr, F2, hbn, he, ho, hl, hk, hf, hnd⟩ := hp
    obtain ⟨_, hkx⟩ := lj_step (X := X) h1 h2 h3 h4 h5 hl hk hf
    have h2' := h2.keep hk (fun x hx hF => h4 x hF hx)
    have hd : ∀ x ∈ F2, x ∉ F' := fun x hx hF' => by
      rcases hf x hx with h | h
      · exact h4 x h hF'
      · have := (h2.lt x hF').2
        omega
    refine ⟨bv, vr, he, ho.mono (Nat.zero_le _), ⟨F2, F', hl, h2', h3.trans hk (fun x hx => Or.inr (h1.lt x hx).1), hd, fun x hx => ?_⟩, hkx⟩
    rcases List.mem_append.1 hx with hx | hx
    · have hlt := ho.rows.lt x (mem_own.1 hx)
      exact ⟨outs_new_own hl ho x hx, outs_new_ref h2' ho x hx, hlt.1, hlt.2⟩
    · rcases List.mem_append.1 hx with hx | hx
      · obtain ⟨s, hs, hsx⟩ := mem_byteBlocks.1 hx
        have hlt := OwnsAt.lt (ho.bytes s hs) x hsx
        have hn1 : x ∉ F2 := by
          refine LinkAt.beside_bytes hl (ho.bytes s hs) (fun y hy hy2 => ?_) x (mem_own.2 hsx)
          rw [byteBlocks_append] at hnd
          exact (List.nodup_append.1 hnd).2.2 y (mem_byteBlocks.2 ⟨s, hs, mem_own.1 hy⟩) y hy2 rfl
        refine ⟨hn1, ?_, hlt.1, hlt.2⟩
        intro hF'
        have hxF : x ∈ F ∨ w.heap.size ≤ x := by
          rcases inR_mem hs with h | h
          · exact Or.inl (LinkAt.kept_mem h1 h hsx)
          · rw [h] at hsx
            exact hbn x (mem_own.2 hsx)
        rcases hxF with h | h
        · exact h4 x h hF'
        · have := (h2.lt x hF').2
          omega
      · refine ⟨fun hF => ?_, (h5 x hx).2.1, (h5 x hx).2.2.1, Nat.lt_of_lt_of_le (h5 x hx).2.2.2 hk.size⟩
        rcases hf x hF with h | h
        · exact (h5 x hx).1 h
        · have := (h5 x hx).2.2.2
          omega
  · rw [if_neg hi] at hp ⊢
    exact ⟨hp.1, h0.keep0 hp.2, KX.of0 hp.2⟩
def InJR (X : List Nat) (p r : Nat) (w0 w : World) (q q' : LK) (fr to_ life sq ack : Int) (bs : List UInt8) (e : Ending) (w' : World) : Prop :=
  if inOk q' fr to_ life sq ack bs = true then ∃ bv vr, e = .returned (.tuple #[vr, .bool true]) ∧ OutsIn w' 0 vr (inR (ackd q' ack) sq bs bv).2.2 ∧ LJ X p r w0 w' q (inLk q' sq ack bs bv) ∧ KX X w0 w w'
  else e = .returned (.tuple #[.slice none 0 0, .bool false]) ∧ LJ X p r w0 w' q q' ∧ KX X w0 w w'
theorem lj_inR {fr to_ life sq ack : Int} {bs : List UInt8} {v : Value} {n : Nat} (h : LJ X p r w0 w q q') (hv : BytesOf w0 v bs) (g : LGood q' n) (hn : n ≤ 900) (hsq : sq ≤ 9223372036854775807) :
    Calls Try.prog 23 #[.pointer (some ⟨r, 0, none⟩), .agg #[.int .i64 fr, .int .i64 to_, .int .i64 life, .int .i64 sq, .int .i64 ack, v]] w (InJR X p r w0 w q q' fr to_ life sq ack bs) := by
  have h0 := h
  obtain ⟨F, F', h1, h2, h3, h4, h5⟩ := h
  have hun := g.un
  have hu0 := g.u0
  refine (inR_spec h2 h3.size (fun w' hk => hv.keep0 (h3.trans hk (fun x hx => Or.inr (h2.lt x hx).1))) ⟨g.u0, by omega⟩ hsq (by omega) (by have := g.ol; omega) g.nd).mono fun e w' hp => ?_
  unfold RInPost at hp
  unfold InJR
  by_cases hi : inOk q' fr to_ life sq ack bs = true
  · rw [if_pos hi] at hp ⊢
    obtain ⟨bv, vr, F2, he, ho, hl, hk, hf⟩ := hp
    have := lj_stepR (X := X) h1 h2 h3 h4 h5 hl hk hf
    exact ⟨bv, vr, he, ho.mono (Nat.zero_le _), this.1, this.2⟩
  · rw [if_neg hi] at hp ⊢
    exact ⟨hp.1, h0.keep0 hp.2, KX.of0 hp.2⟩
theorem OutsIn.kx {B : Nat} {v : Value} {os : List LD} (h : OutsIn w B v os) (k : KX X w0 w w') (h1 : ∀ x ∈ ownBlocks v, x ∈ X) (h2 : ∀ x ∈ byteBlocks os, x ∈ X) : OutsIn w' B v os :=
  ⟨k.own h.rows h1, fun s hs => k.own (h.bytes s hs) (fun x hx => h2 x (mem_byteBlocks.2 ⟨s, hs, mem_own.1 hx⟩))⟩
theorem FramesIn.kx {B : Nat} {v : Value} {fs : List FR} (h : FramesIn w B v fs) (k : KX X w0 w w') (h1 : ∀ x ∈ ownBlocks v, x ∈ X) (h2 : ∀ x ∈ frBlocks fs, x ∈ X) : FramesIn w' B v fs :=
  ⟨k.own h.rows h1, fun s hs => k.own (h.bytes s hs) (fun x hx => h2 x (mem_frBlocks.2 ⟨s, hs, mem_own.1 hx⟩)), h.nodup⟩
end
/-- making both -/
theorem lj_new {w w0 : World} (self peer life theirs last : Int) (k : Keep [] w0 w) : Calls Try.prog 10 #[.int .i64 self, .int .i64 peer, .int .i64 life, .int .i64 theirs, .int .i64 last] w fun e w' => ∃ p, e = .returned (.pointer (some ⟨p, 0, none⟩)) ∧
    ∀ w2, w2 = w'.alloc (.cells #[.int .i64 self, .int .i64 peer, .int .i64 life, .int .i64 theirs, .int .i64 last, .int .i64 0, .int .i64 0, .slice none 0 0, .slice none 0 0, .bool false] 65) → LJ [] p w'.heap.size w0 w2 (newL self peer life theirs last) (newL self peer life theirs last) := by
  refine (new_spec w self peer life theirs last).mono ?_
  rintro e w' ⟨p, F, rfl, h1, h2⟩
  refine ⟨p, rfl, ?_⟩
  rintro w2 rfl
  have k2 : Keep [] w' (w'.alloc (.cells #[.int .i64 self, .int .i64 peer, .int .i64 life, .int .i64 theirs, .int .i64 last, .int .i64 0, .int .i64 0, .slice none 0 0, .slice none 0 0, .bool false] 65)) := (Keep.refl _ _).alloc _
  have hsz : w0.heap.size ≤ w'.heap.size := by have := k.size; have := h2.size; omega
  refine ⟨F, _, (h1.mono k.size).keep k2 (by simp), ⟨.slice none 0 0, .slice none 0 0, ⟨Blk.new' _ _ _ _ rfl, OwnsAt.nil _ _ _ _, OwnsAt.nil _ _ _ _, by simp [newL], hsz⟩, rfl⟩, (k.trans h2 (by simp)).trans k2 (by simp), fun x hx hm => ?_, by simp⟩
  have h3 := (h1.lt x hx).2
  rcases mem_rFoot.1 hm with rfl | hm | hm | ⟨s, hs, _⟩
  · omega
  · cases hm
  · cases hm
  · simp [newL] at hs
theorem good_newL {self peer life theirs last : Int} (hl : last ≤ 9223372036854775807) : LGood (newL self peer life theirs last) 0 := ⟨by simp [newL], hl, by simp [newL], by simp [newL], by simp [newL], by simp [newL], by simp [newL]⟩
theorem Sim.refl (q : LK) : Sim q q := ⟨rfl, rfl, rfl, rfl, rfl, rfl, rfl, rfl, rfl, rfl⟩
end Go.Proofs.Ytacifjjhadjhfaa
