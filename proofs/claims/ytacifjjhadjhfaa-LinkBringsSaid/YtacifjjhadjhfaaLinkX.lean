/- Links beside others. -/
import Derived.Test.YtacifjjhadjhfaaLinkArgs
namespace Go.Proofs.Ytacifjjhadjhfaa
open Go.RowKit
/-- w' is w but for blocks that were made behind w0 and are none of X -/
def KX (X : List Nat) (w0 w w' : World) : Prop := ∃ S, Keep S w w' ∧ ∀ x ∈ S, w0.heap.size ≤ x ∧ x ∉ X
/-- a link whose blocks were made behind w0 and are none of X -/
structure LX (X : List Nat) (B p : Nat) (w0 w : World) (q : LK) : Prop where
  at_ : ∃ F, LinkAt w B p F q ∧ ∀ x ∈ F, w0.heap.size ≤ x ∧ x ∉ X
  out : Keep [] w0 w
  base : B ≤ w.heap.size
  xs : ∀ x ∈ X, x < w.heap.size
theorem KX.refl (X : List Nat) (w0 w : World) : KX X w0 w w := ⟨[], Keep.refl _ _, by simp⟩
theorem KX.of0 {X : List Nat} {w0 w w' : World} (k : Keep [] w w') : KX X w0 w w' := ⟨[], k, by simp⟩
theorem KX.size {X : List Nat} {w0 w w' : World} (h : KX X w0 w w') : w.heap.size ≤ w'.heap.size := by obtain ⟨S, k, _⟩ := h; exact k.size
theorem KX.sub {X Y : List Nat} {w0 w w' : World} (h : KX X w0 w w') (hs : ∀ x ∈ Y, x ∈ X) : KX Y w0 w w' := by
  obtain ⟨S, k, hk⟩ := h
  exact ⟨S, k, fun x hx => ⟨(hk x hx).1, fun hy => (hk x hx).2 (hs x hy)⟩⟩
theorem KX.out {X : List Nat} {w0 w w' : World} (h : KX X w0 w w') (k : Keep [] w0 w) : Keep [] w0 w' := by
  obtain ⟨S, k', hk⟩ := h
  exact k.trans k' (fun x hx => Or.inr (hk x hx).1)
theorem KX.trans {X : List Nat} {w0 w w' w'' : World} (h : KX X w0 w w') (h' : KX X w0 w' w'') : KX X w0 w w'' := by
  obtain ⟨S, k, hk⟩ := h
  obtain ⟨S', k', hk'⟩ := h'
  refine ⟨S ++ S', (k.mono (fun x hx => Or.inl (by simp [hx]))).trans (k'.mono (T := S ++ S') (fun x hx => Or.inl (by simp [hx]))) (fun x hx => Or.inl hx), fun x hx => ?_⟩
  rcases List.mem_append.1 hx with h | h
  · exact hk x h
  · exact hk' x h
theorem KX.blk {X : List Nat} {w0 w w' : World} {g : Nat} {t : TypeId} {cs : List Value} (h : KX X w0 w w') (hb : Blk w g t cs) (hg : g ∈ X) : Blk w' g t cs := by
  obtain ⟨S, k, hk⟩ := h
  exact hb.keep k (fun hs => (hk g hs).2 hg)
theorem KX.old {X : List Nat} {w0 w w' : World} {g : Nat} {t : TypeId} {cs : List Value} (h : KX X w0 w w') (hb : Blk w g t cs) (hg : g < w0.heap.size) : Blk w' g t cs := by
  obtain ⟨S, k, hk⟩ := h
  exact hb.keep k (fun hs => by have := (hk g hs).1; omega)
theorem KX.bytes {X : List Nat} {w0 w w' : World} {v : Value} {bs : List UInt8} (h : KX X w0 w w') (hb : BytesOf w v bs) (hg : ∀ x ∈ ownBlocks v, x ∈ X) : BytesOf w' v bs := by
  obtain ⟨S, k, hk⟩ := h
  exact hb.keep k (fun x hx hs => (hk x hs).2 (hg x hx))
theorem KX.own {X : List Nat} {w0 w w' : World} {B : Nat} {e : TypeId} {size n : Nat} {v : Value} {xs : List Value} (h : KX X w0 w w') (hb : OwnsAt w B e size v n xs) (hg : ∀ x ∈ ownBlocks v, x ∈ X) : OwnsAt w' B e size v n xs := by
  obtain ⟨S, k, hk⟩ := h
  exact hb.keep k (fun x hx hs => (hk x hs).2 (hg x (mem_own.2 hx)))
section
variable {X : List Nat} {B p : Nat} {w0 w : World} {q : LK}
theorem LX.keep0 {w' : World} (h : LX X B p w0 w q) (k : Keep [] w w') : LX X B p w0 w' q := by
  obtain ⟨⟨F, h1, h2⟩, h3, h4, h5⟩ := h
  exact ⟨⟨F, h1.keep k (by simp), h2⟩, h3.trans k (by simp), Nat.le_trans h4 k.size, fun x hx => Nat.lt_of_lt_of_le (h5 x hx) k.size⟩
/-- a store into a block of X -/
theorem LX.keepX {w' : World} {S : List Nat} (h : LX X B p w0 w q) (k : Keep S w w') (hS : ∀ x ∈ S, x ∈ X ∧ w0.heap.size ≤ x) : LX X B p w0 w' q := by
  obtain ⟨⟨F, h1, h2⟩, h3, h4, h5⟩ := h
  exact ⟨⟨F, h1.keep k (fun x hx hs => (h2 x hx).2 (hS x hs).1), h2⟩, h3.trans k (fun x hx => Or.inr (hS x hx).2), Nat.le_trans h4 k.size, fun x hx => Nat.lt_of_lt_of_le (h5 x hx) k.size⟩
/-- .. of what another one wrote, whose blocks are in X -/
theorem LX.keepF {w' : World} {S : List Nat} (h : LX X B p w0 w q) (k : Keep S w w') (hS : ∀ x ∈ S, (x ∈ X ∨ w.heap.size ≤ x) ∧ w0.heap.size ≤ x) : LX X B p w0 w' q := by
  obtain ⟨⟨F, h1, h2⟩, h3, h4, h5⟩ := h
  refine ⟨⟨F, h1.keep k (fun x hx hs => ?_), h2⟩, h3.trans k (fun x hx => Or.inr (hS x hx).2), Nat.le_trans h4 k.size, fun x hx => Nat.lt_of_lt_of_le (h5 x hx) k.size⟩
  rcases (hS x hs).1 with h | h
  · exact (h2 x hx).2 h
  · have := (h1.lt x hx).2; omega
theorem LX.sub {Y : List Nat} (h : LX X B p w0 w q) (hs : ∀ x ∈ Y, x ∈ X) : LX Y B p w0 w q := by
  obtain ⟨⟨F, h1, h2⟩, h3, h4, h5⟩ := h
  exact ⟨⟨F, h1, fun x hx => ⟨(h2 x hx).1, fun hy => (h2 x hx).2 (hs x hy)⟩⟩, h3, h4, fun x hx => h5 x (hs x hx)⟩
/-- blocks that are made beside it -/
theorem LX.more {w' : World} {Y : List Nat} (h : LX X B p w0 w q) (k : Keep [] w w') (hY : ∀ x ∈ Y, w.heap.size ≤ x ∧ x < w'.heap.size) : LX (Y ++ X) B p w0 w' q := by
  obtain ⟨⟨F, h1, h2⟩, h3, h4, h5⟩ := h
  refine ⟨⟨F, h1.keep k (by simp), fun x hx => ⟨(h2 x hx).1, fun hy => ?_⟩⟩, h3.trans k (by simp), Nat.le_trans h4 k.size, fun x hx => ?_⟩
  · rcases List.mem_append.1 hy with h | h
    · have := (h1.lt x hx).2; have := (hY x h).1; omega
    · exact (h2 x hx).2 h
  · rcases List.mem_append.1 hx with h | h
    · exact (hY x h).2
    · exact Nat.lt_of_lt_of_le (h5 x h) k.size
/-- blocks that were there ahead of all -/
theorem LX.old {Y : List Nat} (h : LX X B p w0 w q) (hY : ∀ x ∈ Y, x < w0.heap.size) : LX (Y ++ X) B p w0 w q := by
  obtain ⟨⟨F, h1, h2⟩, h3, h4, h5⟩ := h
  refine ⟨⟨F, h1, fun x hx => ⟨(h2 x hx).1, fun hy => ?_⟩⟩, h3, h4, fun x hx => ?_⟩
  · rcases List.mem_append.1 hy with h | h
    · have := (h2 x hx).1; have := (hY x h); omega
    · exact (h2 x hx).2 h
  · rcases List.mem_append.1 hx with h | h
    · exact Nat.lt_of_lt_of_le (hY x h) h3.size
    · exact h5 x h
/-- what a call made of it -/
theorem LX.step {w' : World} {F F' : List Nat} {q' : LK} (_h1 : LinkAt w B p F q) (h2 : ∀ x ∈ F, w0.heap.size ≤ x ∧ x ∉ X) (h3 : Keep [] w0 w) (h4 : B ≤ w.heap.size) (h5 : ∀ x ∈ X, x < w.heap.size) (hl : LinkAt w' B p F' q') (hk : Keep F w w') (hf : ∀ x ∈ F', x ∈ F ∨ w.heap.size ≤ x) :
    LX X B p w0 w' q' ∧ KX X w0 w w' := by
  refine ⟨⟨⟨F', hl, fun x hx => ?_⟩, h3.trans hk (fun x hx => Or.inr (h2 x hx).1), Nat.le_trans h4 hk.size, fun x hx => Nat.lt_of_lt_of_le (h5 x hx) hk.size⟩, F, hk, h2⟩
  rcases hf x hx with h | h
  · exact h2 x h
  · exact ⟨Nat.le_trans h3.size h, fun hy => by have := h5 x hy; omega⟩
theorem lx_new (w : World) (self peer life theirs last : Int) (w0 : World) (k : Keep [] w0 w) (hX : ∀ x ∈ X, x < w.heap.size) : Calls Try.prog 10 #[.int .i64 self, .int .i64 peer, .int .i64 life, .int .i64 theirs, .int .i64 last] w fun e w' => ∃ p, e = .returned (.pointer (some ⟨p, 0, none⟩)) ∧ LX X w.heap.size p w0 w' (newL self peer life theirs last) ∧ Keep [] w w' := by
  refine (new_spec w self peer life theirs last).mono ?_
  rintro e w' ⟨p, F, rfl, h1, h2⟩
  refine ⟨p, rfl, ⟨⟨F, h1, fun x hx => ?_⟩, k.trans h2 (by simp), h2.size, fun x hx => Nat.lt_of_lt_of_le (hX x hx) h2.size⟩, h2⟩
  have := (h1.lt x hx).1
  have := k.size
  exact ⟨by omega, fun hy => by have := hX x hy; omega⟩
/-- what Send leaves -/
def SentX (X : List Nat) (B p : Nat) (w0 : World) (q : LK) (bs : List UInt8) (e : Ending) (w' : World) : Prop :=
  if 4096 < bs.length then e = .returned (.int .i64 3) ∧ LX X B p w0 w' q
  else if q.last ≤ q.seq then e = .returned (.int .i64 32) ∧ LX X B p w0 w' q
  else if 8 ≤ q.open_.length then e = .returned (.int .i64 31) ∧ LX X B p w0 w' q
  else e = .returned (.int .i64 0) ∧ ∃ bv, LX X B p w0 w' { q with seq := q.seq + 1, open_ := q.open_ ++ [⟨q.seq + 1, 0, 0, bs, bv⟩] }
theorem lx_send {bs : List UInt8} {v : Value} (h : LX X B p w0 w q) (hv : ∀ w', KX X w0 w w' → BytesOf w' v bs) (hbl : bs.length ≤ 1000000) (hs0 : 0 ≤ q.seq) (hlast : q.last ≤ 9223372036854775807) :
    Calls Try.prog 11 #[.pointer (some ⟨p, 0, none⟩), v] w fun e w' => SentX X B p w0 q bs e w' ∧ KX X w0 w w' := by
  have h0 := h
  obtain ⟨⟨F, h1, h2⟩, h3, h4, h5⟩ := h
  refine (send_spec h1 h4 (fun w' hk => hv w' ⟨F, hk, h2⟩) hbl hs0 hlast).mono fun e w' hp => ?_
  unfold SendPost at hp
  unfold SentX
  split at hp
  · rename_i hc
    rw [if_pos hc]
    obtain ⟨rfl, rfl⟩ := hp
    exact ⟨⟨rfl, h0⟩, KX.refl _ _ _⟩
  · rename_i hc
    rw [if_neg hc]
    split at hp
    · rename_i hc
      rw [if_pos hc]
      exact ⟨⟨hp.1, h0.keep0 hp.2⟩, KX.of0 hp.2⟩
    · rename_i hc
      rw [if_neg hc]
      split at hp
      · rename_i hc
        rw [if_pos hc]
        exact ⟨⟨hp.1, h0.keep0 hp.2⟩, KX.of0 hp.2⟩
      · rename_i hc
        rw [if_neg hc]
        obtain ⟨bv, rfl, F', hl, hk, hf⟩ := hp
        have := LX.step h1 h2 h3 h4 h5 hl hk hf
        exact ⟨⟨rfl, bv, this.1⟩, this.2⟩
theorem lx_out (now : Int) (h : LX X B p w0 w q) (ok : OkL q) (hn : -9223372036854775808 ≤ now ∧ now ≤ 9223372036854775807) : Calls Try.prog 12 #[.pointer (some ⟨p, 0, none⟩), .int .i64 now] w fun e w' =>
    ∃ v fs, e = .returned v ∧ fs.map frd = outF q now ∧ FramesIn w' w.heap.size v fs ∧ (∀ Y : List Nat, (∀ x ∈ Y, w.heap.size ≤ x ∧ x < w'.heap.size) → LX (Y ++ X) B p w0 w' (outL q now)) ∧ KX X w0 w w' := by
  obtain ⟨⟨F, h1, h2⟩, h3, h4, h5⟩ := h
  refine (out_spec now h1 h4 ok.len ok.lds hn).mono ?_
  rintro e w' ⟨v, fs, he, hfd, hfs, hl, hk⟩
  refine ⟨v, fs, he, hfd, hfs, fun Y hY => ⟨⟨F, hl, fun x hx => ⟨(h2 x hx).1, fun hy => ?_⟩⟩, h3.trans hk (fun x hx => Or.inr (h2 x hx).1), Nat.le_trans h4 hk.size, fun x hx => ?_⟩, F, hk, h2⟩
  · rcases List.mem_append.1 hy with h | h
    · have := (h1.lt x hx).2; have := (hY x h).1; omega
    · exact (h2 x hx).2 h
  · rcases List.mem_append.1 hx with h | h
    · exact (hY x h).2
    · exact Nat.lt_of_lt_of_le (h5 x h) hk.size
theorem lx_open (h : LX X B p w0 w q) : Calls Try.prog 13 #[.pointer (some ⟨p, 0, none⟩)] w (Same' (.int .i64 q.open_.length) w) := by obtain ⟨⟨F, h1, _⟩, _⟩ := h; exact open_spec h1
theorem lx_seq (h : LX X B p w0 w q) : Calls Try.prog 25 #[.pointer (some ⟨p, 0, none⟩)] w (Same' (.int .i64 q.seq) w) := by obtain ⟨⟨F, h1, _⟩, _⟩ := h; exact seq_spec h1
theorem LinkAt.beside_bytes {F : List Nat} (h : LinkAt w B p F q) {B' : Nat} {v : Value} {bs : List UInt8} (hb : OwnB w B' v bs) (hn : ∀ x ∈ ownBlocks v, x ∉ byteBlocks (q.open_ ++ q.kept)) : ∀ x ∈ ownBlocks v, x ∉ F := by
  obtain ⟨vo, mb, h, rfl⟩ := h
  intro x hx hm
  have hx' := mem_own.1 hx
  simp only [linkFoot, List.mem_cons, List.mem_append] at hm
  rcases hm with rfl | rfl | hm | hm
  · exact OwnsAt.ne_blk hb h.head (by decide) hx'
  · exact h.kept.ne_own hb hx'
  · exact OwnsAt.ne_own h.rows hb (by decide) x (mem_own.1 hm) hx'
  · exact hn x hx hm
/-- what In leaves -/
def InX (X : List Nat) (B p : Nat) (w0 : World) (q : LK) (fr to life sq ack : Int) (bs : List UInt8) (e : Ending) (w' : World) : Prop :=
  if inOk q fr to life sq ack bs = true then ∃ bv vr, e = .returned (.tuple #[vr, .bool true]) ∧ OutsIn w' B vr (inR (ackd q ack) sq bs bv).2.2 ∧
    LX (byteBlocks (inR (ackd q ack) sq bs bv).2.2 ++ X) B p w0 w' { ackd q ack with upto := (inR (ackd q ack) sq bs bv).1, kept := (inR (ackd q ack) sq bs bv).2.1, owed := q.owed || decide (sq ≠ 0) }
  else e = .returned (.tuple #[.slice none 0 0, .bool false]) ∧ LX X B p w0 w' q
theorem lx_in {fr to life sq ack : Int} {bs : List UInt8} {v : Value} (h : LX X B p w0 w q) (hv : ∀ w', KX X w0 w w' → BytesOf w' v bs) (hu : 0 ≤ q.upto ∧ q.upto ≤ 1000000000) (hsq : sq ≤ 9223372036854775807) (hkl : q.kept.length ≤ 1000) (hol : q.open_.length ≤ 1000) :
    Calls Try.prog 14 #[.pointer (some ⟨p, 0, none⟩), .agg #[.int .i64 fr, .int .i64 to, .int .i64 life, .int .i64 sq, .int .i64 ack, v]] w fun e w' => InX X B p w0 q fr to life sq ack bs e w' ∧ KX X w0 w w' := by
  have h0 := h
  obtain ⟨⟨F, h1, h2⟩, h3, h4, h5⟩ := h
  refine (in_spec h1 h4 (fun w' hk => hv w' ⟨F, hk, h2⟩) hu hsq hkl hol).mono fun e w' hp => ?_
  unfold InPost at hp
  unfold InX
  by_cases hi : inOk q fr to life sq ack bs = true
  · rw [if_pos hi] at hp ⊢
    obtain ⟨bv, vr, F', he, ho, hl, hk, hf, hnd⟩ := hp
    obtain ⟨⟨⟨F2, hl2, hf2⟩, g3, g4, g5⟩, gk⟩ := LX.step h1 h2 h3 h4 h5 hl hk hf
    have hFF : ∀ x ∈ F', w0.heap.size ≤ x ∧ x ∉ X := fun x hx => by
      rcases hf x hx with h | h
      · exact h2 x h
      · exact ⟨Nat.le_trans h3.size h, fun hy => by have := h5 x hy; omega⟩
    refine ⟨⟨bv, vr, he, ho, ⟨F', hl, fun x hx => ⟨(hFF x hx).1, fun hy => ?_⟩⟩, g3, g4, fun x hx => ?_⟩, gk⟩
    · rcases List.mem_append.1 hy with h | h
      · obtain ⟨s, hs, hsx⟩ := mem_byteBlocks.1 h
        refine LinkAt.beside_bytes hl (ho.bytes s hs) (fun y hy hy2 => ?_) x (mem_own.2 hsx) hx
        rw [byteBlocks_append] at hnd
        exact (List.nodup_append.1 hnd).2.2 y (mem_byteBlocks.2 ⟨s, hs, mem_own.1 hy⟩) y hy2 rfl
      · exact (hFF x hx).2 h
    · rcases List.mem_append.1 hx with h | h
      · obtain ⟨s, hs, hsx⟩ := mem_byteBlocks.1 h
        exact (OwnsAt.lt (ho.bytes s hs) x hsx).2
      · exact g5 x h
  · rw [if_neg hi] at hp ⊢
    exact ⟨⟨hp.1, h0.keep0 hp.2⟩, KX.of0 hp.2⟩
end
theorem bytes1 {w : World} {g : Nat} {x : UInt8} (h : Blk w g 5 [u8 x]) : BytesOf w (.slice (some ⟨g, 0, none⟩) 1 1) [x] :=
  ⟨_, _, rfl, fun _ => ⟨g, 0, rfl, h.lt, fun k y hk => by
    match k, hk with
    | 0, hk => cases hk; exact h.cell 0
    | k + 1, hk => simp at hk⟩⟩
end Go.Proofs.Ytacifjjhadjhfaa
