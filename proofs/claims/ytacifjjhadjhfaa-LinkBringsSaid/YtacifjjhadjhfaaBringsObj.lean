/- LinkBrings: two links and what is on the way between them. -/
import Derived.Test.YtacifjjhadjhfaaBringsPlain
import Derived.Test.YtacifjjhadjhfaaLinkIn2
namespace Go.Proofs.Ytacifjjhadjhfaa
open Go.RowKit
theorem LinkAt.lower {w : World} {B B' p : Nat} {F : List Nat} {q : LK} (h : LinkAt w B p F q) (hb : B' ≤ B) : LinkAt w B' p F q := by
  obtain ⟨vo, mb, h, rfl⟩ := h
  exact ⟨vo, mb, ⟨h.head, h.rows.mono hb, h.kept, fun s hs => OwnsAt.mono (h.bytes s hs) hb, h.nodup, Nat.le_trans hb h.base.1, Nat.le_trans hb h.base.2⟩, rfl⟩
/-- two links that a law made, beside the blocks X -/
def TW (X : List Nat) (pa pb : Nat) (w0 w : World) (a b : LK) : Prop :=
  ∃ F F', LinkAt w w0.heap.size pa F a ∧ LinkAt w w0.heap.size pb F' b ∧ Keep [] w0 w ∧ (∀ x ∈ F, x ∉ F') ∧ ∀ x ∈ X, x ∉ F ∧ x ∉ F' ∧ w0.heap.size ≤ x ∧ x < w.heap.size
section
variable {X : List Nat} {pa pb : Nat} {w0 w w' : World} {a b : LK}
theorem TW.out (h : TW X pa pb w0 w a b) : Keep [] w0 w := by obtain ⟨F, F', _, _, h, _⟩ := h; exact h
theorem TW.swap (h : TW X pa pb w0 w a b) : TW X pb pa w0 w b a := by
  obtain ⟨F, F', h1, h2, h3, h4, h5⟩ := h
  exact ⟨F', F, h2, h1, h3, fun x hx hF => h4 x hF hx, fun x hx => ⟨(h5 x hx).2.1, (h5 x hx).1, (h5 x hx).2.2⟩⟩
theorem TW.lt (h : TW X pa pb w0 w a b) : ∀ x ∈ X, w0.heap.size ≤ x ∧ x < w.heap.size := by
  obtain ⟨F, F', h1, h2, h3, h4, h5⟩ := h
  exact fun x hx => (h5 x hx).2.2
theorem TW.sub {Y : List Nat} (h : TW X pa pb w0 w a b) (hy : ∀ x ∈ Y, x ∈ X) : TW Y pa pb w0 w a b := by
  obtain ⟨F, F', h1, h2, h3, h4, h5⟩ := h
  exact ⟨F, F', h1, h2, h3, h4, fun x hx => h5 x (hy x hx)⟩
/-- a write into blocks of X, and blocks that are made -/
theorem TW.grow {S Y : List Nat} (h : TW X pa pb w0 w a b) (k : Keep S w w') (hS : ∀ x ∈ S, x ∈ X) (hY : ∀ x ∈ Y, x ∈ X ∨ (w.heap.size ≤ x ∧ x < w'.heap.size)) : TW (Y ++ X) pa pb w0 w' a b := by
  obtain ⟨F, F', h1, h2, h3, h4, h5⟩ := h
  refine ⟨F, F', h1.keep k (fun x hx hX => (h5 x (hS x hX)).1 hx), h2.keep k (fun x hx hX => (h5 x (hS x hX)).2.1 hx), h3.trans k (fun x hx => Or.inr (h5 x (hS x hx)).2.2.1), h4, fun x hx => ?_⟩
  have hX : ∀ x ∈ X, x ∉ F ∧ x ∉ F' ∧ w0.heap.size ≤ x ∧ x < w'.heap.size := fun x hx => ⟨(h5 x hx).1, (h5 x hx).2.1, (h5 x hx).2.2.1, Nat.lt_of_lt_of_le (h5 x hx).2.2.2 k.size⟩
  rcases List.mem_append.1 hx with hx | hx
  · rcases hY x hx with hx | hx
    · exact hX x hx
    · refine ⟨fun hF => ?_, fun hF => ?_, by have := h3.size; omega, hx.2⟩
      · have := (h1.lt x hF).2
        omega
      · have := (h2.lt x hF).2
        omega
  · exact hX x hx
theorem TW.keep0 (h : TW X pa pb w0 w a b) (k : Keep [] w w') : TW X pa pb w0 w' a b := h.grow (Y := []) k (by simp) (by simp)
theorem tw_step {F F' F2 : List Nat} {a2 : LK} (h1 : LinkAt w w0.heap.size pa F a) (h2 : LinkAt w w0.heap.size pb F' b) (h3 : Keep [] w0 w) (h4 : ∀ x ∈ F, x ∉ F') (h5 : ∀ x ∈ X, x ∉ F ∧ x ∉ F' ∧ w0.heap.size ≤ x ∧ x < w.heap.size)
    (g1 : LinkAt w' w0.heap.size pa F2 a2) (g2 : Keep F w w') (g3 : ∀ x ∈ F2, x ∈ F ∨ w.heap.size ≤ x) : TW X pa pb w0 w' a2 b ∧ KX X w0 w w' := by
  refine ⟨⟨F2, F', g1, h2.keep g2 (fun x hx hF => h4 x hF hx), h3.trans g2 (fun x hx => Or.inr (h1.lt x hx).1), fun x hx hF' => ?_, fun x hx => ⟨fun hF => ?_, (h5 x hx).2.1, (h5 x hx).2.2.1, Nat.lt_of_lt_of_le (h5 x hx).2.2.2 g2.size⟩⟩, F, g2, fun x hx => ⟨(h1.lt x hx).1, fun hX => (h5 x hX).1 hx⟩⟩
  · rcases g3 x hx with h | h
    · exact h4 x h hF'
    · have := (h2.lt x hF').2
      omega
  · rcases g3 x hF with h | h
    · exact (h5 x hx).1 h
    · have := (h5 x hx).2.2.2
      omega
theorem tw_new {w1 w2 : World} {p q : Nat} {F F' : List Nat} (k : Keep [] w0 w) (ha : LinkAt w1 w.heap.size p F a) (k1 : Keep [] w w1) (hb : LinkAt w2 w1.heap.size q F' b) (k2 : Keep [] w1 w2) : TW [] p q w0 w2 a b := by
  have s0 := k.size
  have s1 := k1.size
  refine ⟨F, F', (ha.keep k2 (by simp)).lower s0, hb.lower (by omega), (k.trans k1 (by simp)).trans k2 (by simp), fun x hx hx' => ?_, by simp⟩
  have h1 := (ha.lt x hx).2
  have h2 := (hb.lt x hx').1
  omega
theorem tw_open (h : TW X pa pb w0 w a b) : Calls Try.prog 13 #[.pointer (some ⟨pa, 0, none⟩)] w (Same' (.int .i64 a.open_.length) w) := by
  obtain ⟨F, F', h1, _⟩ := h
  exact open_spec h1
/-- what Send answers -/
def sendC (q : LK) (bs : List UInt8) : Int := if 4096 < bs.length then 3 else if q.last ≤ q.seq then 32 else if 8 ≤ q.open_.length then 31 else 0
def SentC (q : LK) (bs : List UInt8) (q2 : LK) : Prop := if sendC q bs = 0 then (q.open_.length < 8 ∧ ∃ bv, q2 = sentQ q bs bv) else q2 = q
theorem tw_send {v : Value} {bs : List UInt8} (h : TW X pa pb w0 w a b) (hv : ∀ w', KX X w0 w w' → BytesOf w' v bs) (ok : OkL a) (hb : bs.length ≤ 1000000) :
    Calls Try.prog 11 #[.pointer (some ⟨pa, 0, none⟩), v] w fun e w' => ∃ q2, e = .returned (.int .i64 (sendC a bs)) ∧ SentC a bs q2 ∧ TW X pa pb w0 w' q2 b ∧ KX X w0 w w' := by
  have h0 := h
  obtain ⟨F, F', h1, h2, h3, h4, h5⟩ := h
  refine (send_spec h1 h3.size (fun w' hk => hv w' ⟨F, hk, fun x hx => ⟨(h1.lt x hx).1, fun hX => (h5 x hX).1 hx⟩⟩) hb ok.seq ok.last).mono fun e w' hp => ?_
  unfold SendPost at hp
  unfold SentC
  unfold sendC
  split at hp
  · rename_i hc
    simp only [if_pos hc]
    obtain ⟨rfl, rfl⟩ := hp
    exact ⟨a, rfl, by simp, h0, KX.refl _ _ _⟩
  · rename_i hc
    simp only [if_neg hc]
    split at hp
    · rename_i hc
      simp only [if_pos hc]
      exact ⟨a, hp.1, by simp, h0.keep0 hp.2, KX.of0 hp.2⟩
    · rename_i hc
      simp only [if_neg hc]
      split at hp
      · rename_i hc
        simp only [if_pos hc]
        exact ⟨a, hp.1, by simp, h0.keep0 hp.2, KX.of0 hp.2⟩
      · rename_i hc
        simp only [if_neg hc]
        obtain ⟨bv, rfl, F2, hl, hk, hf⟩ := hp
        have := tw_step h1 h2 h3 h4 h5 hl hk hf
        exact ⟨_, rfl, by rw [if_pos trivial]; exact ⟨by omega, bv, rfl⟩, this.1, this.2⟩
theorem tw_out (now : Int) (h : TW X pa pb w0 w a b) (ok : OkL a) (hnow : -9223372036854775808 ≤ now ∧ now ≤ 9223372036854775807) : Calls Try.prog 12 #[.pointer (some ⟨pa, 0, none⟩), .int .i64 now] w fun e w' =>
    ∃ v fs, e = .returned v ∧ fs.map frd = outF a now ∧ FramesIn w' w.heap.size v fs ∧ TW (ownBlocks v ++ (frBlocks fs ++ X)) pa pb w0 w' (outL a now) b ∧ KX X w0 w w' := by
  obtain ⟨F, F', h1, h2, h3, h4, h5⟩ := h
  refine (out_spec now h1 h3.size ok.len ok.lds hnow).mono ?_
  rintro e w' ⟨v, fs, he, hfd, hfs, hl, hk⟩
  obtain ⟨⟨F2, F2', a1, a2, a3, a4, a5⟩, hkx⟩ := tw_step (X := X) h1 h2 h3 h4 h5 hl hk (fun x hx => Or.inl hx)
  refine ⟨v, fs, he, hfd, hfs, ⟨F, F', hl, h2.keep hk (fun x hx hF => h4 x hF hx), a3, h4, fun x hx => ?_⟩, hkx⟩
  have key : ∀ y, w.heap.size ≤ y → y < w'.heap.size → y ∉ F ∧ y ∉ F' ∧ w0.heap.size ≤ y ∧ y < w'.heap.size := fun y hy1 hy2 => ⟨fun hF => by have := (h1.lt y hF).2; omega, fun hF => by have := (h2.lt y hF).2; omega, by have := h3.size; omega, hy2⟩
  rcases List.mem_append.1 hx with hx | hx
  · have := hfs.rows.lt x (mem_own.1 hx)
    exact key x this.1 this.2
  · rcases List.mem_append.1 hx with hx | hx
    · obtain ⟨s, hs, hb⟩ := mem_frBlocks.1 hx
      have := OwnsAt.lt (hfs.bytes s hs) x hb
      exact key x this.1 this.2
    · exact ⟨(h5 x hx).1, (h5 x hx).2.1, (h5 x hx).2.2.1, Nat.lt_of_lt_of_le (h5 x hx).2.2.2 hk.size⟩
theorem outs_new {F : List Nat} {B' B p : Nat} {q : LK} {v : Value} {os : List LD} (h : LinkAt w B p F q) (ho : OutsIn w B' v os) : ∀ x ∈ ownBlocks v, x ∉ F := by
  obtain ⟨vo, mb, h, rfl⟩ := h
  intro x hx hm
  have hx' := mem_own.1 hx
  simp only [linkFoot, List.mem_cons, List.mem_append] at hm
  rcases hm with rfl | rfl | hm | hm
  · exact OwnsAt.ne_blk ho.rows h.head (by decide) hx'
  · exact h.kept.ne_own ho.rows hx'
  · exact OwnsAt.ne_own h.rows ho.rows (by decide) x (mem_own.1 hm) hx'
  · obtain ⟨s, hs, hb⟩ := mem_byteBlocks.1 hm
    exact OwnsAt.ne_own (h.bytes s hs) ho.rows (by decide) x hb hx'
theorem LinkAt.kept_in {F : List Nat} {B p x : Nat} {q : LK} {s : LD} (h : LinkAt w B p F q) (hs : s ∈ q.kept) (hx : s.bv.ownBlock = some x) : x ∈ F := by
  obtain ⟨vo, mb, h, rfl⟩ := h
  simp only [linkFoot, List.mem_cons, List.mem_append]
  exact Or.inr (Or.inr (Or.inr (mem_byteBlocks.2 ⟨s, List.mem_append_right _ hs, hx⟩)))
theorem tw_in {fr to_ life sq ack : Int} {bs : List UInt8} {v : Value} (h : TW X pa pb w0 w a b) (hv : ∀ w', KX X w0 w w' → BytesOf w' v bs) (hu : 0 ≤ a.upto ∧ a.upto ≤ 1000000000) (hsq : sq ≤ 9223372036854775807) (hkl : a.kept.length ≤ 1000) (hol : a.open_.length ≤ 1000) (hi : inOk a fr to_ life sq ack bs = true) :
    Calls Try.prog 14 #[.pointer (some ⟨pa, 0, none⟩), .agg #[.int .i64 fr, .int .i64 to_, .int .i64 life, .int .i64 sq, .int .i64 ack, v]] w fun e w' =>
      ∃ bv vr, e = .returned (.tuple #[vr, .bool true]) ∧ OutsIn w' w0.heap.size vr (inR (ackd a ack) sq bs bv).2.2 ∧ TW (ownBlocks vr ++ (byteBlocks (inR (ackd a ack) sq bs bv).2.2 ++ X)) pa pb w0 w' (inQ a sq ack bs bv) b ∧ KX X w0 w w' := by
  obtain ⟨F, F', h1, h2, h3, h4, h5⟩ := h
  refine (in_spec2 h1 h3.size (fun w' hk => hv w' ⟨F, hk, fun x hx => ⟨(h1.lt x hx).1, fun hX => (h5 x hX).1 hx⟩⟩) hu hsq hkl hol).mono fun e w' hp => ?_
  unfold InPost2 at hp
  rw [if_pos hi] at hp
  obtain ⟨bv, vr, F2, hbn, he, ho, hl, hk, hf, hnd⟩ := hp
  obtain ⟨_, hkx⟩ := tw_step (X := X) h1 h2 h3 h4 h5 hl hk hf
  have h2' := h2.keep hk (fun x hx hF => h4 x hF hx)
  have hd : ∀ x ∈ F2, x ∉ F' := fun x hx hF' => by
    rcases hf x hx with h | h
    · exact h4 x h hF'
    · have := (h2.lt x hF').2
      omega
  refine ⟨bv, vr, he, ho, ⟨F2, F', hl, h2', h3.trans hk (fun x hx => Or.inr (h1.lt x hx).1), hd, fun x hx => ?_⟩, hkx⟩
  rcases List.mem_append.1 hx with hx | hx
  · have hlt := ho.rows.lt x (mem_own.1 hx)
    exact ⟨outs_new hl ho x hx, outs_new h2' ho x hx, hlt.1, hlt.2⟩
  · rcases List.mem_append.1 hx with hx | hx
    · obtain ⟨s, hs, hsx⟩ := mem_byteBlocks.1 hx
      have hlt := OwnsAt.lt (ho.bytes s hs) x hsx
      have hn1 : x ∉ F2 := by
        refine LinkAt.beside_bytes hl (ho.bytes s hs) (fun y hy hy2 => ?_) x (mem_own.2 hsx)
        rw [byteBlocks_append] at hnd
        exact (List.nodup_append.1 hnd).2.2 y (mem_byteBlocks.2 ⟨s, hs, mem_own.1 hy⟩) y hy2 rfl
      refine ⟨hn1, ?_, hlt.1, hlt.2⟩
      intro hF'
      have hxF : x ∈ F ∨ w.heap.size ≤ x := by
        rcases inR_mem hs with h | h
        · exact Or.inl (LinkAt.kept_in h1 h hsx)
        · rw [h] at hsx
          exact hbn x (mem_own.2 hsx)
      rcases hxF with h | h
      · exact h4 x h hF'
      · have := (h2.lt x hF').2
        omega
    · refine ⟨fun hF => ?_, (h5 x hx).2.1, (h5 x hx).2.2.1, Nat.lt_of_lt_of_le (h5 x hx).2.2.2 hk.size⟩
      rcases hf x hF with h | h
      · exact (h5 x hx).1 h
      · have := (h5 x hx).2.2.2
        omega
end
/-! ### loads that are read -/
structure BV where
  bs : List UInt8
  bv : Value
def ByAt (X : List Nat) (w0 w : World) (s : BV) : Prop := (OwnB w 0 s.bv s.bs ∧ ∀ x ∈ ownBlocks s.bv, x ∈ X) ∨ BytesOf w0 s.bv s.bs
section
variable {X Y : List Nat} {w0 w w' : World} {s : BV}
theorem ByAt.of (h : ByAt X w0 w s) (k : Keep [] w0 w) : BytesOf w s.bv s.bs := by
  rcases h with h | h
  · exact bytes_of_off h.1
  · exact h.keep0 k
theorem ByAt.sub (h : ByAt X w0 w s) (hs : ∀ x ∈ X, x ∈ Y) : ByAt Y w0 w s := by
  rcases h with h | h
  · exact Or.inl ⟨h.1, fun x hx => hs x (h.2 x hx)⟩
  · exact Or.inr h
theorem ByAt.kx (h : ByAt X w0 w s) (k : KX X w0 w w') : ByAt X w0 w' s := by
  rcases h with h | h
  · exact Or.inl ⟨k.own h.1 h.2, h.2⟩
  · exact Or.inr h
theorem ByAt.keep {S : List Nat} (h : ByAt X w0 w s) (k : Keep S w w') (hS : ∀ x ∈ S, OwnB w 0 s.bv s.bs → x ∉ ownBlocks s.bv) : ByAt X w0 w' s := by
  rcases h with h | h
  · exact Or.inl ⟨OwnsAt.keep h.1 k (fun g hg hx => hS g hx h.1 (mem_own.2 hg)), h.2⟩
  · exact Or.inr h
theorem ByAt.far {S : List Nat} {B n size : Nat} {e : TypeId} {v : Value} {xs : List Value} (h : ByAt X w0 w s) (ho : OwnsAt w B e size v n xs) (he : e ≠ 5) (k : Keep S w w') (hS : ∀ x ∈ S, x ∈ ownBlocks v) : ByAt X w0 w' s :=
  h.keep k (fun x hx h1 hm => OwnsAt.ne_own ho h1 he x (mem_own.1 (hS x hx)) (mem_own.1 hm))
theorem ByAt.blk {g : Nat} {t : TypeId} {cs : List Value} (h : ByAt X w0 w s) (hb : Blk w g t cs) (ht : t ≠ 5) (k : Keep [g] w w') : ByAt X w0 w' s :=
  h.keep k (fun x hx h1 hm => OwnsAt.ne_blk h1 hb (Ne.symm ht) (mem_own.1 ((show x = g by simpa using hx) ▸ hm)))
end
structure LdAt (X : List Nat) (w0 w : World) (v : Value) (os : List BV) : Prop where
  rows : OwnsAt w w0.heap.size 35 1 v os.length (os.map BV.bv)
  own : ∀ x ∈ ownBlocks v, x ∈ X
  bytes : ∀ s ∈ os, ByAt X w0 w s
theorem LdAt.nil (X : List Nat) (w0 w : World) : LdAt X w0 w (.slice none 0 0) [] := ⟨OwnsAt.nil _ _ _ _, by simp [ownBlocks, Value.ownBlock], by simp⟩
/-- the pair: its links, what is on the way, what each got and was sent -/
structure PairIn (X : List Nat) (w0 w : World) (g pa pb : Nat) (vw : Value) (u : Nat → Value) (a b : LK) (fs : List FR) (now : Int) (o : Nat → List BV) : Prop where
  tw : TW X pa pb w0 w a b
  head : Blk w g 52 [.pointer (some ⟨pa, 0, none⟩), .pointer (some ⟨pb, 0, none⟩), vw, .int .i64 now, u 0, u 1, u 2, u 3]
  gX : g ∈ X
  way : OwnsAt w w0.heap.size 46 6 vw fs.length (fs.flatMap FR.c)
  wayX : ∀ x ∈ ownBlocks vw, x ∈ X
  frs : ∀ s ∈ fs, ByAt X w0 w ⟨s.bs, s.bv⟩
  rows : ∀ i, i < 4 → LdAt X w0 w (u i) (o i)
  apart : ∀ i j, i < 4 → j < 4 → i ≠ j → ∀ x ∈ ownBlocks (u i), x ∉ ownBlocks (u j)
section
variable {X Y : List Nat} {w0 w w' : World} {g pa pb : Nat} {vw : Value} {u : Nat → Value} {a b a' b' : LK} {fs : List FR} {now : Int} {o : Nat → List BV}
theorem PairIn.link (h : PairIn X w0 w g pa pb vw u a b fs now o) (k : KX X w0 w w') (tw : TW Y pa pb w0 w' a' b') (hY : ∀ x ∈ X, x ∈ Y) : PairIn Y w0 w' g pa pb vw u a' b' fs now o :=
  ⟨tw, k.blk h.head h.gX, hY _ h.gX, k.own h.way h.wayX, fun x hx => hY x (h.wayX x hx), fun s hs => ((h.frs s hs).kx k).sub hY,
   fun i hi => ⟨k.own (h.rows i hi).rows (h.rows i hi).own, fun x hx => hY x ((h.rows i hi).own x hx), fun s hs => (((h.rows i hi).bytes s hs).kx k).sub hY⟩, h.apart⟩
theorem PairIn.keep0 (h : PairIn X w0 w g pa pb vw u a b fs now o) (k : Keep [] w w') : PairIn X w0 w' g pa pb vw u a b fs now o := h.link (KX.of0 k) (h.tw.keep0 k) (fun _ h => h)
theorem PairIn.out (h : PairIn X w0 w g pa pb vw u a b fs now o) : Keep [] w0 w := h.tw.out
/-- a row is written anew -/
theorem PairIn.row {w2 : World} {i : Nat} {v' : Value} {os' : List BV} (h : PairIn X w0 w g pa pb vw u a b fs now o) (hi : i < 4) (k : Keep (ownBlocks (u i)) w w2) (hr : OwnsAt w2 w0.heap.size 35 1 v' os'.length (os'.map BV.bv))
    (hb : v'.ownBlock = (u i).ownBlock ∨ ∀ x ∈ ownBlocks v', w.heap.size ≤ x) (hs : ∀ s ∈ os', ByAt X w0 w s) :
    PairIn (ownBlocks v' ++ X) w0 (w2.setCell ⟨g, 4 + i, none⟩ v') g pa pb vw (fun j => if j = i then v' else u j) a b fs now (fun j => if j = i then os' else o j) := by
  have hu := h.rows i hi
  have hg2 : Blk w2 g 52 [.pointer (some ⟨pa, 0, none⟩), .pointer (some ⟨pb, 0, none⟩), vw, .int .i64 now, u 0, u 1, u 2, u 3] := h.head.keep k (fun hx => OwnsAt.ne_blk hu.rows h.head (by decide) (mem_own.1 hx))
  have ks : Keep [g] w2 (w2.setCell ⟨g, 4 + i, none⟩ v') := (Keep.refl _ _).setCell (by simp) _
  have hv' : ∀ x ∈ ownBlocks v', x ∈ X ∨ (w.heap.size ≤ x ∧ x < w2.heap.size) := fun x hx => by
    rcases hb with hb | hb
    · exact Or.inl (hu.own x (by unfold ownBlocks at hx ⊢; rw [← hb]; exact hx))
    · exact Or.inr ⟨hb x hx, (hr.lt x (mem_own.1 hx)).2⟩
  have htw := (h.tw.grow k hu.own hv').grow (Y := []) ks (fun x hx => by rw [show x = g by simpa using hx]; exact List.mem_append_right _ h.gX) (by simp)
  have hnew : ∀ j, j < 4 → j ≠ i → ∀ x ∈ ownBlocks v', x ∉ ownBlocks (u j) := fun j hj hji x hx hx' => by
    rcases hb with hb | hb
    · exact h.apart i j hi hj (Ne.symm hji) x (by unfold ownBlocks at hx ⊢; rw [← hb]; exact hx) hx'
    · have h1 := ((h.rows j hj).rows.lt x (mem_own.1 hx')).2
      have h2 := hb x hx
      omega
  have hby : ∀ s, ByAt X w0 w s → ByAt (ownBlocks v' ++ X) w0 (w2.setCell ⟨g, 4 + i, none⟩ v') s := fun s hs =>
    (((hs.far hu.rows (by decide) k (fun x hx => hx)).blk hg2 (by decide) ks).sub (fun x hx => List.mem_append_right _ hx))
  refine ⟨htw, ?_, List.mem_append_right _ h.gX, (h.way.keep k (fun x hx hm => OwnsAt.ne_own hu.rows h.way (by decide) x (mem_own.1 hm) hx)).keep ks (fun x hx hm => ?_), fun x hx => List.mem_append_right _ (h.wayX x hx), fun s hs => hby _ (h.frs s hs), fun j hj => ?_, fun j l hj hl hjl x hx => ?_⟩
  · have := hg2.set_ (4 + i) v'
    rcases (show i = 0 ∨ i = 1 ∨ i = 2 ∨ i = 3 by omega) with rfl | rfl | rfl | rfl <;> exact this
  · have h1 := h.way.keep k (fun x hx hm => OwnsAt.ne_own hu.rows h.way (by decide) x (mem_own.1 hm) hx)
    rw [show x = g by simpa using hm] at hx
    exact OwnsAt.ne_blk h1 hg2 (by decide) hx
  · by_cases hji : j = i
    · subst hji
      simp only [if_true]
      refine ⟨hr.keep ks (fun x hx hm => ?_), fun x hx => List.mem_append_left _ hx, fun s hs' => hby s (hs s hs')⟩
      rw [show x = g by simpa using hm] at hx
      exact OwnsAt.ne_blk hr hg2 (by decide) hx
    · simp only [if_neg hji]
      have h1 := (h.rows j hj).rows.keep k (fun x hx hm => h.apart i j hi hj (Ne.symm hji) x hm (mem_own.2 hx))
      refine ⟨h1.keep ks (fun x hx hm => ?_), fun x hx => List.mem_append_right _ ((h.rows j hj).own x hx), fun s hs' => hby s ((h.rows j hj).bytes s hs')⟩
      rw [show x = g by simpa using hm] at hx
      exact OwnsAt.ne_blk h1 hg2 (by decide) hx
  · by_cases hji : j = i
    · subst hji
      simp only [if_true] at hx
      simp only [if_neg (Ne.symm hjl)]
      exact hnew l hl (Ne.symm hjl) x hx
    · simp only [if_neg hji] at hx
      by_cases hli : l = i
      · subst hli
        simp only [if_true]
        exact fun hx' => hnew j hj hji x hx' hx
      · simp only [if_neg hli]
        exact h.apart j l hj hl hjl x hx
/-- what is on the way is written anew -/
theorem PairIn.ways {w2 : World} {v' : Value} {fs' : List FR} (h : PairIn X w0 w g pa pb vw u a b fs now o) (k : Keep (ownBlocks vw) w w2) (hr : OwnsAt w2 w0.heap.size 46 6 v' fs'.length (fs'.flatMap FR.c))
    (hb : v'.ownBlock = vw.ownBlock ∨ ∀ x ∈ ownBlocks v', w.heap.size ≤ x) (hs : ∀ s ∈ fs', ByAt X w0 w ⟨s.bs, s.bv⟩) :
    PairIn (ownBlocks v' ++ X) w0 (w2.setCell ⟨g, 2, none⟩ v') g pa pb v' u a b fs' now o := by
  have hg2 : Blk w2 g 52 [.pointer (some ⟨pa, 0, none⟩), .pointer (some ⟨pb, 0, none⟩), vw, .int .i64 now, u 0, u 1, u 2, u 3] := h.head.keep k (fun hx => OwnsAt.ne_blk h.way h.head (by decide) (mem_own.1 hx))
  have ks : Keep [g] w2 (w2.setCell ⟨g, 2, none⟩ v') := (Keep.refl _ _).setCell (by simp) _
  have hv' : ∀ x ∈ ownBlocks v', x ∈ X ∨ (w.heap.size ≤ x ∧ x < w2.heap.size) := fun x hx => by
    rcases hb with hb | hb
    · exact Or.inl (h.wayX x (by unfold ownBlocks at hx ⊢; rw [← hb]; exact hx))
    · exact Or.inr ⟨hb x hx, (hr.lt x (mem_own.1 hx)).2⟩
  have htw := (h.tw.grow k h.wayX hv').grow (Y := []) ks (fun x hx => by rw [show x = g by simpa using hx]; exact List.mem_append_right _ h.gX) (by simp)
  have hby : ∀ s, ByAt X w0 w s → ByAt (ownBlocks v' ++ X) w0 (w2.setCell ⟨g, 2, none⟩ v') s := fun s hs =>
    (((hs.far h.way (by decide) k (fun x hx => hx)).blk hg2 (by decide) ks).sub (fun x hx => List.mem_append_right _ hx))
  refine ⟨htw, hg2.set_ 2 v', List.mem_append_right _ h.gX, hr.keep ks (fun x hx hm => ?_), fun x hx => List.mem_append_left _ hx, fun s hs' => hby _ (hs s hs'), fun j hj => ?_, h.apart⟩
  · rw [show x = g by simpa using hm] at hx
    exact OwnsAt.ne_blk hr hg2 (by decide) hx
  · have h1 := (h.rows j hj).rows.keep k (fun x hx hm => OwnsAt.ne_own h.way (h.rows j hj).rows (by decide) x (mem_own.1 hm) hx)
    refine ⟨h1.keep ks (fun x hx hm => ?_), fun x hx => List.mem_append_right _ ((h.rows j hj).own x hx), fun s hs' => hby s ((h.rows j hj).bytes s hs')⟩
    rw [show x = g by simpa using hm] at hx
    exact OwnsAt.ne_blk h1 hg2 (by decide) hx
/-- the hour -/
theorem PairIn.hour (h : PairIn X w0 w g pa pb vw u a b fs now o) (n : Int) : PairIn X w0 (w.setCell ⟨g, 3, none⟩ (.int .i64 n)) g pa pb vw u a b fs n o := by
  have ks : Keep [g] w (w.setCell ⟨g, 3, none⟩ (.int .i64 n)) := (Keep.refl _ _).setCell (by simp) _
  have htw := h.tw.grow (Y := []) ks (fun x hx => by rw [show x = g by simpa using hx]; exact h.gX) (by simp)
  refine ⟨htw, h.head.set_ 3 _, h.gX, h.way.keep ks (fun x hx hm => ?_), h.wayX, fun s hs => (h.frs s hs).blk h.head (by decide) ks, fun j hj => ⟨(h.rows j hj).rows.keep ks (fun x hx hm => ?_), (h.rows j hj).own, fun s hs => ((h.rows j hj).bytes s hs).blk h.head (by decide) ks⟩, h.apart⟩
  · rw [show x = g by simpa using hm] at hx
    exact OwnsAt.ne_blk h.way h.head (by decide) hx
  · rw [show x = g by simpa using hm] at hx
    exact OwnsAt.ne_blk (h.rows j hj).rows h.head (by decide) hx
end
end Go.Proofs.Ytacifjjhadjhfaa
