/- A term and the reference term beside each other. -/
import Derived.Test.YtiicmlhpcfhfeaaRows
import Derived.WalkKit
import Derived.WalkSpells
import Derived.WalkLawsBesides
import Derived.RegionTactic
import Derived.ChangeAlike
import Derived.BigQuiet
import Derived.Deep.QuietTactic
import Derived.StillTailTactics
import Derived.IntWalk
import Derived.Handy
import Derived.Lib.Hide
import Derived.Deep.AppendLies
import Derived.Deep.RegionWith
import Derived.Test.YtiicmlhpcfhfeaaBase
import Derived.Test.YtiicmlhpcfhfeaaTail
import Derived.Test.YtiicmlhpcfhfeaaArgs
import Derived.Test.YtiicmlhpcfhfeaaAppend
import Derived.Deep.RegionLaw
import Derived.Test.YtiicmlhpcfhfeaaOffs
import Derived.Test.YtiicmlhpcfhfeaaStructs
import Derived.Test.YtiicmlhpcfhfeaaSplit
import Derived.Test.YtiicmlhpcfhfeaaTermObj
import Derived.Test.YtiicmlhpcfhfeaaTermRead
import Derived.Test.YtiicmlhpcfhfeaaTermSettle
import Derived.Test.YtiicmlhpcfhfeaaTermSettle2
import Derived.Test.YtiicmlhpcfhfeaaTermDel
import Derived.Test.YtiicmlhpcfhfeaaTermSend
import Derived.Test.YtiicmlhpcfhfeaaTermDeliver
import Derived.Test.YtiicmlhpcfhfeaaTermNew2
import Derived.Test.YtiicmlhpcfhfeaaTermAlive
import Derived.Test.YtiicmlhpcfhfeaaTermInv2
import Derived.Test.YtiicmlhpcfhfeaaRefTerm
import Derived.Test.YtiicmlhpcfhfeaaRefSettle
import Derived.Test.YtiicmlhpcfhfeaaRefSend
import Derived.Deep.CutRange
import Derived.Deep.DeepCutAuto
import Derived.Test.YtiicmlhpcfhfeaaRefDeliver
import Derived.Laws.MakeOwn
import Derived.Test.YtiicmlhpcfhfeaaRefNew
import Derived.Test.YtiicmlhpcfhfeaaStarPlain
import Derived.Test.YtiicmlhpcfhfeaaOpens
import Derived.Test.YtiicmlhpcfhfeaaTermActs
namespace Go.Proofs.Ytiicmlhpcfhfeaa
open Go.RowKit
theorem TermAt.mono {w : World} {B B' p : Nat} {F : List Nat} {q : TM} (h : TermAt w B p F q) (hb : B' ≤ B) : TermAt w B' p F q := by
  obtain ⟨vn, vw, h, rfl⟩ := h
  exact ⟨vn, vw, ⟨h.head, h.nodes.mono hb, h.way.mono hb, Nat.le_trans hb h.base⟩, rfl⟩
theorem RefAt.mono {w : World} {B B' p : Nat} {F : List Nat} {q : TM} (h : RefAt w B p F q) (hb : B' ≤ B) : RefAt w B' p F q := by
  obtain ⟨ga, go, gu, vw, h, rfl⟩ := h
  exact ⟨ga, go, gu, vw, ⟨h.head, h.act, h.owe, h.up, h.way.mono hb, h.ne, Nat.le_trans hb h.base.1, Nat.le_trans hb h.base.2.1, Nat.le_trans hb h.base.2.2.1, Nat.le_trans hb h.base.2.2.2⟩, rfl⟩
/-- a term and a reference term that a law made, beside the blocks X -/
def TR (X : List Nat) (p r : Nat) (w0 w : World) (q q' : TM) : Prop :=
  ∃ F F', TermAt w w0.heap.size p F q ∧ RefAt w w0.heap.size r F' q' ∧ Keep [] w0 w ∧ (∀ x ∈ F, x ∉ F') ∧ ∀ x ∈ X, x ∉ F ∧ x ∉ F' ∧ w0.heap.size ≤ x ∧ x < w.heap.size
section
variable {X : List Nat} {p r : Nat} {w0 w w' : World} {q q' : TM}
theorem TR.out (h : TR X p r w0 w q q') : Keep [] w0 w := by obtain ⟨F, F', _, _, h, _⟩ := h; exact h
theorem TR.keep0 (h : TR X p r w0 w q q') (k : Keep [] w w') : TR X p r w0 w' q q' := by
  obtain ⟨F, F', h1, h2, h3, h4, h5⟩ := h
  exact ⟨F, F', h1.keep k (by simp), h2.keep k (by simp), h3.trans k (by simp), h4, fun x hx => ⟨(h5 x hx).1, (h5 x hx).2.1, (h5 x hx).2.2.1, Nat.lt_of_lt_of_le (h5 x hx).2.2.2 k.size⟩⟩
theorem TR.drew (h : TR X p r w0 w q q') : TR X p r w0 w.drew q q' := h.keep0 (Keep.refl [] _).drew
theorem TR.drewN (h : TR X p r w0 w q q') (n : Nat) : TR X p r w0 (w.drewN n) q q' := h.keep0 ((Keep.refl [] _).drewN n)
theorem TR.sub {Y : List Nat} (h : TR X p r w0 w q q') (hy : ∀ x ∈ Y, x ∈ X) : TR Y p r w0 w q q' := by
  obtain ⟨F, F', h1, h2, h3, h4, h5⟩ := h
  exact ⟨F, F', h1, h2, h3, h4, fun x hx => h5 x (hy x hx)⟩
theorem TR.fresh {Y : List Nat} (h : TR X p r w0 w q q') (k : Keep [] w w') (hy : ∀ x ∈ Y, w.heap.size ≤ x ∧ x < w'.heap.size) : TR (Y ++ X) p r w0 w' q q' := by
  obtain ⟨F, F', h1, h2, h3, h4, h5⟩ := h
  refine ⟨F, F', h1.keep k (by simp), h2.keep k (by simp), h3.trans k (by simp), h4, fun x hx => ?_⟩
  rcases List.mem_append.1 hx with hx | hx
  · have := hy x hx
    refine ⟨fun hF => ?_, fun hF => ?_, by have := h3.size; omega, this.2⟩
    · have := (h1.lt x hF).2
      omega
    · have := (h2.lt x hF).2
      omega
  · exact ⟨(h5 x hx).1, (h5 x hx).2.1, (h5 x hx).2.2.1, Nat.lt_of_lt_of_le (h5 x hx).2.2.2 k.size⟩
theorem TR.write (h : TR X p r w0 w q q') (k : Keep X w w') : TR X p r w0 w' q q' := by
  obtain ⟨F, F', h1, h2, h3, h4, h5⟩ := h
  exact ⟨F, F', h1.keep k (fun x hx hX => (h5 x hX).1 hx), h2.keep k (fun x hx hX => (h5 x hX).2.1 hx), h3.trans k (fun x hx => Or.inr (h5 x hx).2.2.1), h4, fun x hx => ⟨(h5 x hx).1, (h5 x hx).2.1, (h5 x hx).2.2.1, Nat.lt_of_lt_of_le (h5 x hx).2.2.2 k.size⟩⟩
def TRun2 (X : List Nat) (p r : Nat) (w0 w : World) (v : Value) (q q' : TM) (e : Ending) (w' : World) : Prop :=
  e = .returned v ∧ TR X p r w0 w' q q' ∧ ∀ (x : Nat) t cs, x ∈ X → Blk w x t cs → Blk w' x t cs
theorem tr_own {v : Value} {q2 : TM} {f : Nat} {args : Array Value} (h : TR X p r w0 w q q') (hc : ∀ F, TermAt w w0.heap.size p F q → Keep [] w0 w → (∀ x ∈ F, w0.heap.size ≤ x) → Calls Try.prog f args w (TPost w0.heap.size p F w v q2)) : Calls Try.prog f args w (TRun2 X p r w0 w v q2 q') := by
  obtain ⟨F, F', h1, h2, h3, h4, h5⟩ := h
  refine (hc F h1 h3 (fun x hx => (h1.lt x hx).1)).mono ?_
  rintro e w' ⟨rfl, F2, g1, g2, g3⟩
  refine ⟨rfl, ⟨F2, F', g1, h2.keep g2 (fun x hx hF => h4 x hF hx), h3.trans g2 (fun x hx => Or.inr (h1.lt x hx).1), fun x hx hF' => ?_, fun x hx => ⟨fun hF => ?_, (h5 x hx).2.1, (h5 x hx).2.2.1, Nat.lt_of_lt_of_le (h5 x hx).2.2.2 g2.size⟩⟩, fun x t cs hx hb => hb.keep g2 (h5 x hx).1⟩
  · rcases g3 x hx with h | h
    · exact h4 x h hF'
    · have := (h2.lt x hF').2
      omega
  · rcases g3 x hF with h | h
    · exact (h5 x hx).1 h
    · have := (h5 x hx).2.2.2
      omega
theorem tr_ref {v : Value} {q2 : TM} {f : Nat} {args : Array Value} (h : TR X p r w0 w q q') (hc : ∀ F', RefAt w w0.heap.size r F' q' → Keep [] w0 w → (∀ x ∈ F', w0.heap.size ≤ x) → Calls Try.prog f args w (RPost w0.heap.size r F' w v q2)) : Calls Try.prog f args w (TRun2 X p r w0 w v q q2) := by
  obtain ⟨F, F', h1, h2, h3, h4, h5⟩ := h
  refine (hc F' h2 h3 (fun x hx => (h2.lt x hx).1)).mono ?_
  rintro e w' ⟨rfl, F2, g1, g2, g3⟩
  refine ⟨rfl, ⟨F, F2, h1.keep g2 (fun x hx hF => h4 x hx hF), g1, h3.trans g2 (fun x hx => Or.inr (h2.lt x hx).1), fun x hx hF' => ?_, fun x hx => ⟨(h5 x hx).1, fun hF => ?_, (h5 x hx).2.2.1, Nat.lt_of_lt_of_le (h5 x hx).2.2.2 g2.size⟩⟩, fun x t cs hx hb => hb.keep g2 (h5 x hx).2.1⟩
  · rcases g3 x hF' with h | h
    · exact h4 x hx h
    · have := (h1.lt x hx).2
      omega
  · rcases g3 x hF with h | h
    · exact (h5 x hx).2.1 h
    · have := (h5 x hx).2.2.2
      omega
theorem tr_idle (n : Int) (h : TR X p r w0 w q q') (ok : OkT q) : Calls Try.prog 11 #[.pointer (some ⟨p, 0, none⟩), .int .i64 n] w (TRun2 X p r w0 w (.bool (idleN q n).2) (idleN q n).1 q') :=
  tr_own h fun _ h1 k _ => idle_spec n h1 k.size (by have := ok.l2; omega) (by have := ok.w_; omega)
theorem tr_deliver (n : Int) (h : TR X p r w0 w q q') (ok : OkT q) : Calls Try.prog 12 #[.pointer (some ⟨p, 0, none⟩), .int .i64 n] w (TRun2 X p r w0 w (.bool (deliverN q n).2) (deliverN q n).1 q') :=
  tr_own h fun _ h1 k _ => deliver_spec n h1 k.size (by have := ok.l2; omega) (by have := ok.w_; omega) (fun x hx => by have := ok.n_ x hx; omega) ok.f_
theorem tr_send {v : Value} {to_ : List Int} (n : Int) (h : TR X p r w0 w q q') (ok : OkT q) (hv : IntsOf w0 v to_) (hl : to_.length ≤ 1000000) : Calls Try.prog 10 #[.pointer (some ⟨p, 0, none⟩), .int .i64 n, v] w (TRun2 X p r w0 w (.int .i64 (sendN q n to_).2) (sendN q n to_).1 q') :=
  tr_own h fun _ h1 k hF => send_spec n h1 k.size (fun w' hk => hv.keep0 (k.trans hk (fun x hx => Or.inr (hF x hx)))) (by have := ok.l2; omega) (by have := ok.w_; omega) (fun x hx => by have := ok.n_ x hx; omega)
theorem tr_idleR (n : Int) (h : TR X p r w0 w q q') (ok : OkR q') : Calls Try.prog 20 #[.pointer (some ⟨r, 0, none⟩), .int .i64 n] w (TRun2 X p r w0 w (.bool (idleN q' n).2) q (idleN q' n).1) :=
  tr_ref h fun _ h1 k _ => idleR_spec n h1 k.size ok
theorem tr_deliverR (n : Int) (h : TR X p r w0 w q q') (ok : OkR q') : Calls Try.prog 21 #[.pointer (some ⟨r, 0, none⟩), .int .i64 n] w (TRun2 X p r w0 w (.bool (deliverN q' n).2) q (deliverN q' n).1) :=
  tr_ref h fun _ h1 k _ => deliverR_spec n h1 k.size ok
theorem tr_sendR {v : Value} {to_ : List Int} (n : Int) (h : TR X p r w0 w q q') (ok : OkR q') (hv : IntsOf w0 v to_) (hl : to_.length ≤ 1000000) : Calls Try.prog 19 #[.pointer (some ⟨r, 0, none⟩), .int .i64 n, v] w (TRun2 X p r w0 w (.int .i64 (sendN q' n to_).2) q (sendN q' n to_).1) :=
  tr_ref h fun _ h1 k hF => sendR_spec n h1 k.size (fun w' hk => hv.keep0 (k.trans hk (fun x hx => Or.inr (hF x hx)))) ok hl
theorem tr_way (h : TR X p r w0 w q q') (ok : OkT q) : Calls Try.prog 13 #[.pointer (some ⟨p, 0, none⟩)] w fun e w' => ∃ v, e = .returned v ∧ OwnsAt w' w.heap.size 44 3 v q.way.length (q.way.flatMap sgC) ∧ TR (ownBlocks v) p r w0 w' q q' := by
  have h' := h
  obtain ⟨F, F', h1, _⟩ := h
  refine (way_spec h1 (by have := ok.w_; omega)).mono ?_
  rintro e w' ⟨v, rfl, h5, h6⟩
  refine ⟨v, rfl, h5, ?_⟩
  have := (h'.sub (Y := []) (by simp)).fresh (Y := ownBlocks v) h6 (fun x hx => h5.lt x (mem_own.1 hx))
  simpa using this
theorem tr_decl (h : TR X p r w0 w q q') (ok : OkT q) : Calls Try.prog 14 #[.pointer (some ⟨p, 0, none⟩)] w (Same' (.bool (declN q)) w) := by
  obtain ⟨F, F', h1, _⟩ := h
  exact decl_spec h1 (by have := ok.l1; omega)
theorem tr_declR (h : TR X p r w0 w q q') (ok : OkR q') : Calls Try.prog 22 #[.pointer (some ⟨r, 0, none⟩)] w (Same' (.bool (declN q')) w) := by
  obtain ⟨F, F', _, h2, _⟩ := h
  exact declR_spec h2 (by have := ok.l0; omega)
theorem tr_active (n : Int) (h : TR X p r w0 w q q') : Calls Try.prog 15 #[.pointer (some ⟨p, 0, none⟩), .int .i64 n] w (Same' (.bool (activeN q n)) w) := by
  obtain ⟨F, F', h1, _⟩ := h
  exact active_spec n h1
theorem tr_owes (n : Int) (h : TR X p r w0 w q q') : Calls Try.prog 16 #[.pointer (some ⟨p, 0, none⟩), .int .i64 n] w (Same' (.int .i64 (owesN q n)) w) := by
  obtain ⟨F, F', h1, _⟩ := h
  exact owes_spec n h1
theorem tr_up (n : Int) (h : TR X p r w0 w q q') : Calls Try.prog 17 #[.pointer (some ⟨p, 0, none⟩), .int .i64 n] w (Same' (.int .i64 (upN q n)) w) := by
  obtain ⟨F, F', h1, _⟩ := h
  exact up_spec n h1
/-- what of the reference can be read -/
theorem TR.ref (h : TR X p r w0 w q q') : ∃ ga go gu vw, RefIn w w0.heap.size r ga go gu vw q' := by
  obtain ⟨F, F', _, ⟨ga, go, gu, vw, h2, _⟩, _⟩ := h
  exact ⟨ga, go, gu, vw, h2⟩
end
/-- the first half of making both -/
def T1 (p : Nat) (w0 w : World) (q : TM) : Prop := ∃ F, TermAt w w0.heap.size p F q ∧ Keep [] w0 w
theorem t1_new (w : World) (n : Int) (w0 : World) (k : Keep [] w0 w) : Calls Try.prog 9 #[.int .i64 n] w fun e w' => ∃ p, e = .returned (.pointer (some ⟨p, 0, none⟩)) ∧ T1 p w0 w' (newN n) := by
  refine (new_spec w n).mono ?_
  rintro e w' ⟨p, F, rfl, h1, h2⟩
  exact ⟨p, rfl, F, h1.mono k.size, k.trans h2 (by simp)⟩
theorem tr_new {w w0 : World} {p : Nat} {q : TM} (n : Int) (h : T1 p w0 w q) : Calls Try.prog 18 #[.int .i64 n] w fun e w' => ∃ r, e = .returned (.pointer (some ⟨r, 0, none⟩)) ∧ TR [] p r w0 w' q (newN n) := by
  obtain ⟨F, h1, k⟩ := h
  refine (newR_spec w n).mono ?_
  rintro e w' ⟨r, F', rfl, h2, h3⟩
  exact ⟨r, rfl, F, F', h1.keep h3 (by simp), h2.mono k.size, k.trans h3 (by simp), fun x hx hx' => by
    have := (h1.lt x hx).2
    have := (h2.lt x hx').1
    omega, by simp⟩
theorem Good.okR {q : TM} {M N : Nat} (h : Good q M N) (hM : M ≤ 900000) : OkR q := by
  have ok := h.ok hM
  refine ⟨⟨h.inv.root, fun k x hx => ?_⟩, h.calm, ok.l1, by have := ok.l2; omega, by have := ok.w_; omega, fun x hx => by have := ok.n_ x hx; omega, ok.f_, fun s hs => (h.inv.sgs s hs).1.1⟩
  rcases h.inv.ups k x hx with h1 | h1
  · exact Or.inl h1
  · exact Or.inr h1.1
theorem good_any (n : Int) : Good (newN n) 0 (cutN n) := by
  obtain ⟨a, b, c⟩ := inv_new n
  exact ⟨a, b, c⟩
end Go.Proofs.Ytiicmlhpcfhfeaa
