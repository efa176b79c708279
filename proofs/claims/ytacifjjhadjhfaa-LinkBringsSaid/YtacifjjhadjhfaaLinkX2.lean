/- Two links. -/
import Derived.Test.YtacifjjhadjhfaaOrderLaw
namespace Go.Proofs.Ytacifjjhadjhfaa
open Go.RowKit
theorem KX.link {X : List Nat} {w0 w w' : World} {B p : Nat} {F : List Nat} {q : LK} (h : KX X w0 w w') (hl : LinkAt w B p F q) (hF : ∀ x ∈ F, x ∈ X) : LinkAt w' B p F q := by
  obtain ⟨S, k, hk⟩ := h
  exact hl.keep k (fun x hx hs => (hk x hs).2 (hF x hx))
theorem KX.frames {X : List Nat} {w0 w w' : World} {B : Nat} {v : Value} {fs : List FR} (h : KX X w0 w w') (hf : FramesIn w B v fs) (h1 : ∀ x ∈ ownBlocks v, x ∈ X) (h2 : ∀ x ∈ frBlocks fs, x ∈ X) : FramesIn w' B v fs :=
  ⟨h.own hf.rows h1, fun s hs => h.own (hf.bytes s hs) (fun x hx => h2 x (mem_frBlocks.2 ⟨s, hs, mem_own.1 hx⟩)), hf.nodup⟩
/-- the blocks of a row of frames -/
def frAll (v : Value) (fs : List FR) : List Nat := ownBlocks v ++ frBlocks fs
theorem FramesIn.all_lt {w : World} {B : Nat} {v : Value} {fs : List FR} (h : FramesIn w B v fs) : ∀ x ∈ frAll v fs, B ≤ x ∧ x < w.heap.size := by
  intro x hx
  rcases List.mem_append.1 hx with h1 | h1
  · exact h.rows.lt x (mem_own.1 h1)
  · obtain ⟨s, hs, hsx⟩ := mem_frBlocks.1 h1
    exact OwnsAt.lt (h.bytes s hs) x hsx
/-- two links that stand apart, beside blocks X -/
def LX2 (X : List Nat) (Ba pa : Nat) (qa : LK) (Bb pb : Nat) (qb : LK) (w0 w : World) : Prop :=
  ∃ Fb, LX (Fb ++ X) Ba pa w0 w qa ∧ LinkAt w Bb pb Fb qb ∧ (∀ x ∈ Fb, w0.heap.size ≤ x ∧ x ∉ X) ∧ Bb ≤ w.heap.size
section
variable {X : List Nat} {Ba pa Bb pb : Nat} {qa qb : LK} {w0 w : World}
theorem LX2.swap (h : LX2 X Ba pa qa Bb pb qb w0 w) : LX2 X Bb pb qb Ba pa qa w0 w := by
  obtain ⟨Fb, ⟨⟨Fa, h1, h2⟩, h3, h4, h5⟩, g1, g2, g3⟩ := h
  refine ⟨Fa, ⟨⟨Fb, g1, fun x hx => ⟨(g2 x hx).1, fun hy => ?_⟩⟩, h3, g3, fun x hx => ?_⟩, h1, fun x hx => ⟨(h2 x hx).1, fun hy => (h2 x hx).2 (by simp [hy])⟩, h4⟩
  · rcases List.mem_append.1 hy with h | h
    · exact (h2 x h).2 (by simp [hx])
    · exact (g2 x hx).2 h
  · rcases List.mem_append.1 hx with h | h
    · exact (h1.lt x h).2
    · exact h5 x (by simp [h])
theorem LX2.sub {Y : List Nat} (h : LX2 X Ba pa qa Bb pb qb w0 w) (hs : ∀ x ∈ Y, x ∈ X) : LX2 Y Ba pa qa Bb pb qb w0 w := by
  obtain ⟨Fb, h1, g1, g2, g3⟩ := h
  refine ⟨Fb, h1.sub (fun x hx => ?_), g1, fun x hx => ⟨(g2 x hx).1, fun hy => (g2 x hx).2 (hs x hy)⟩, g3⟩
  rcases List.mem_append.1 hx with h | h
  · simp [h]
  · simp [hs x h]
theorem LX2.out (h : LX2 X Ba pa qa Bb pb qb w0 w) : Keep [] w0 w := by obtain ⟨_, h1, _⟩ := h; exact h1.out
theorem LX2.xs (h : LX2 X Ba pa qa Bb pb qb w0 w) : ∀ x ∈ X, x < w.heap.size := by obtain ⟨_, h1, _⟩ := h; exact fun x hx => h1.xs x (by simp [hx])
theorem LX2.keep0 {w' : World} (h : LX2 X Ba pa qa Bb pb qb w0 w) (k : Keep [] w w') : LX2 X Ba pa qa Bb pb qb w0 w' := by
  obtain ⟨Fb, h1, g1, g2, g3⟩ := h
  exact ⟨Fb, h1.keep0 k, g1.keep k (by simp), g2, Nat.le_trans g3 k.size⟩
theorem LX2.keepX {w' : World} {S : List Nat} (h : LX2 X Ba pa qa Bb pb qb w0 w) (k : Keep S w w') (hS : ∀ x ∈ S, x ∈ X ∧ w0.heap.size ≤ x) : LX2 X Ba pa qa Bb pb qb w0 w' := by
  obtain ⟨Fb, h1, g1, g2, g3⟩ := h
  exact ⟨Fb, h1.keepX k (fun x hx => ⟨by simp [(hS x hx).1], (hS x hx).2⟩), g1.keep k (fun x hx hs => (g2 x hx).2 (hS x hs).1), g2, Nat.le_trans g3 k.size⟩
theorem LX2.more {w' : World} {Y : List Nat} (h : LX2 X Ba pa qa Bb pb qb w0 w) (k : Keep [] w w') (hY : ∀ x ∈ Y, w.heap.size ≤ x ∧ x < w'.heap.size) : LX2 (Y ++ X) Ba pa qa Bb pb qb w0 w' := by
  obtain ⟨Fb, h1, g1, g2, g3⟩ := h
  refine ⟨Fb, (h1.more k hY).sub (fun x hx => ?_), g1.keep k (by simp), fun x hx => ⟨(g2 x hx).1, fun hy => ?_⟩, Nat.le_trans g3 k.size⟩
  · simp only [List.mem_append] at hx ⊢
    rcases hx with h | h | h
    · exact Or.inr (Or.inl h)
    · exact Or.inl h
    · exact Or.inr (Or.inr h)
  · rcases List.mem_append.1 hy with h | h
    · have := (g1.lt x hx).2; have := (hY x h).1; omega
    · exact (g2 x hx).2 h
theorem LX2.step {w' : World} {qa' : LK} {Fb : List Nat} (h : LX (Fb ++ X) Ba pa w0 w' qa') (k : KX (Fb ++ X) w0 w w') (g1 : LinkAt w Bb pb Fb qb) (g2 : ∀ x ∈ Fb, w0.heap.size ≤ x ∧ x ∉ X) (g3 : Bb ≤ w.heap.size) : LX2 X Ba pa qa' Bb pb qb w0 w' :=
  ⟨Fb, h, k.link g1 (fun x hx => by simp [hx]), g2, Nat.le_trans g3 k.size⟩
/-- what Send leaves -/
def SentP (P : LK → Prop) (q : LK) (bs : List UInt8) (e : Ending) : Prop :=
  if 4096 < bs.length then e = .returned (.int .i64 3) ∧ P q
  else if q.last ≤ q.seq then e = .returned (.int .i64 32) ∧ P q
  else if 8 ≤ q.open_.length then e = .returned (.int .i64 31) ∧ P q
  else e = .returned (.int .i64 0) ∧ ∃ bv, P { q with seq := q.seq + 1, open_ := q.open_ ++ [⟨q.seq + 1, 0, 0, bs, bv⟩] }
theorem SentP.mono {P P' : LK → Prop} {q : LK} {bs : List UInt8} {e : Ending} (h : SentP P q bs e) (hp : ∀ q, P q → P' q) : SentP P' q bs e := by
  unfold SentP at h ⊢
  split at h
  · rename_i hc; rw [if_pos hc]; exact ⟨h.1, hp _ h.2⟩
  · rename_i hc
    rw [if_neg hc]
    split at h
    · rename_i hc; rw [if_pos hc]; exact ⟨h.1, hp _ h.2⟩
    · rename_i hc
      rw [if_neg hc]
      split at h
      · rename_i hc; rw [if_pos hc]; exact ⟨h.1, hp _ h.2⟩
      · rename_i hc
        rw [if_neg hc]
        obtain ⟨h1, bv, h2⟩ := h
        exact ⟨h1, bv, hp _ h2⟩
theorem l2_send {bs : List UInt8} {v : Value} (h : LX2 X Ba pa qa Bb pb qb w0 w) (hv : ∀ w', KX X w0 w w' → BytesOf w' v bs) (hbl : bs.length ≤ 1000000) (hs0 : 0 ≤ qa.seq) (hlast : qa.last ≤ 9223372036854775807) :
    Calls Try.prog 11 #[.pointer (some ⟨pa, 0, none⟩), v] w fun e w' => SentP (fun q => LX2 X Ba pa q Bb pb qb w0 w') qa bs e ∧ KX X w0 w w' := by
  obtain ⟨Fb, h1, g1, g2, g3⟩ := h
  refine (lx_send h1 (fun w' hk => hv w' (hk.sub (fun x hx => by simp [hx]))) hbl hs0 hlast).mono ?_
  rintro e w' ⟨hp, hk⟩
  exact ⟨SentP.mono (P := fun q => LX (Fb ++ X) Ba pa w0 w' q) hp (fun q hq => LX2.step hq hk g1 g2 g3), hk.sub (fun x hx => by simp [hx])⟩
theorem l2_out (now : Int) (h : LX2 X Ba pa qa Bb pb qb w0 w) (ok : OkL qa) (hn : -9223372036854775808 ≤ now ∧ now ≤ 9223372036854775807) : Calls Try.prog 12 #[.pointer (some ⟨pa, 0, none⟩), .int .i64 now] w fun e w' =>
    ∃ v fs, e = .returned v ∧ fs.map frd = outF qa now ∧ FramesIn w' w.heap.size v fs ∧ LX2 (frAll v fs ++ X) Ba pa (outL qa now) Bb pb qb w0 w' ∧ KX X w0 w w' := by
  obtain ⟨Fb, h1, g1, g2, g3⟩ := h
  refine (lx_out now h1 ok hn).mono ?_
  rintro e w' ⟨v, fs, he, hfd, hfs, hl, hk⟩
  have hl2 := hl (frAll v fs) (fun x hx => hfs.all_lt x hx)
  refine ⟨v, fs, he, hfd, hfs, ⟨Fb, hl2.sub (fun x hx => ?_), hk.link g1 (fun x hx => by simp [hx]), fun x hx => ⟨(g2 x hx).1, fun hy => ?_⟩, Nat.le_trans g3 hk.size⟩, hk.sub (fun x hx => by simp [hx])⟩
  · simp only [List.mem_append] at hx ⊢
    rcases hx with h | h | h
    · exact Or.inr (Or.inl h)
    · exact Or.inl h
    · exact Or.inr (Or.inr h)
  · rcases List.mem_append.1 hy with h | h
    · have := (g1.lt x hx).2; have := (hfs.all_lt x h).1; omega
    · exact (g2 x hx).2 h
theorem l2_open (h : LX2 X Ba pa qa Bb pb qb w0 w) : Calls Try.prog 13 #[.pointer (some ⟨pa, 0, none⟩)] w (Same' (.int .i64 qa.open_.length) w) := by obtain ⟨Fb, h1, _⟩ := h; exact lx_open h1
theorem l2_seq (h : LX2 X Ba pa qa Bb pb qb w0 w) : Calls Try.prog 25 #[.pointer (some ⟨pa, 0, none⟩)] w (Same' (.int .i64 qa.seq) w) := by obtain ⟨Fb, h1, _⟩ := h; exact lx_seq h1
/-- In, of a frame that is taken -/
theorem l2_in {fr to life sq ack : Int} {bs : List UInt8} {v : Value} (h : LX2 X Ba pa qa Bb pb qb w0 w) (hv : ∀ w', KX X w0 w w' → BytesOf w' v bs) (hu : 0 ≤ qa.upto ∧ qa.upto ≤ 1000000000) (hsq : sq ≤ 9223372036854775807) (hkl : qa.kept.length ≤ 1000) (hol : qa.open_.length ≤ 1000) (hok : inOk qa fr to life sq ack bs = true) :
    Calls Try.prog 14 #[.pointer (some ⟨pa, 0, none⟩), .agg #[.int .i64 fr, .int .i64 to, .int .i64 life, .int .i64 sq, .int .i64 ack, v]] w fun e w' => ∃ bv vr, e = .returned (.tuple #[vr, .bool true]) ∧ OutsIn w' Ba vr (inR (ackd qa ack) sq bs bv).2.2 ∧
      LX2 X Ba pa { ackd qa ack with upto := (inR (ackd qa ack) sq bs bv).1, kept := (inR (ackd qa ack) sq bs bv).2.1, owed := qa.owed || decide (sq ≠ 0) } Bb pb qb w0 w' ∧ KX X w0 w w' := by
  obtain ⟨Fb, h1, g1, g2, g3⟩ := h
  refine (lx_in h1 (fun w' hk => hv w' (hk.sub (fun x hx => by simp [hx]))) hu hsq hkl hol).mono ?_
  rintro e w' ⟨hp, hk⟩
  unfold InX at hp
  rw [if_pos hok] at hp
  obtain ⟨bv, vr, he, ho, hl⟩ := hp
  exact ⟨bv, vr, he, ho, LX2.step (hl.sub (fun x hx => List.mem_append.2 (Or.inr hx))) hk g1 g2 g3, hk.sub (fun x hx => by simp [hx])⟩
end
end Go.Proofs.Ytacifjjhadjhfaa
