/- Links: how frames are read, In of a living link. -/
import Derived.Test.YtacifjjhadjhfaaRows
import Derived.WalkKit
import Derived.WalkSpells
import Derived.WalkLawsBesides
import Derived.RegionTactic
import Derived.ChangeAlike
import Derived.BigQuiet
import Derived.Deep.QuietTactic
import Derived.StillTailTactics
import Derived.IntWalk
import Derived.Handy
import Derived.Lib.Hide
import Derived.Deep.AppendLies
import Derived.Deep.RegionWith
import Derived.Test.YtacifjjhadjhfaaBase
import Derived.Test.YtacifjjhadjhfaaTail
import Derived.Test.YtacifjjhadjhfaaArgs
import Derived.Test.YtacifjjhadjhfaaAppend
import Derived.Deep.RegionLaw
import Derived.Test.YtacifjjhadjhfaaOffs
import Derived.Test.YtacifjjhadjhfaaStructs
import Derived.Test.YtacifjjhadjhfaaSplit
import Derived.Maps.OwnSet
import Derived.Maps.Views
import Derived.Test.YtacifjjhadjhfaaLinkBytes
import Derived.Test.YtacifjjhadjhfaaLinkObj
import Derived.Test.YtacifjjhadjhfaaLinkSend
import Derived.Test.YtacifjjhadjhfaaLinkDue
import Derived.Test.YtacifjjhadjhfaaLinkFrame
import Derived.Test.YtacifjjhadjhfaaLinkOut
import Derived.Test.YtacifjjhadjhfaaLinkOut2
import Derived.Test.YtacifjjhadjhfaaLinkOne
import Derived.Test.YtacifjjhadjhfaaLinkLive
import Derived.Test.YtacifjjhadjhfaaLinkAck
import Derived.Test.YtacifjjhadjhfaaLinkAck2
import Derived.Test.YtacifjjhadjhfaaLinkGot
import Derived.Test.YtacifjjhadjhfaaLinkGot2
import Derived.Test.YtacifjjhadjhfaaLinkGot3
import Derived.Test.YtacifjjhadjhfaaLinkInn
import Derived.Test.YtacifjjhadjhfaaOpens
namespace Go.Proofs.Ytacifjjhadjhfaa
open Go.ChangeShapes Go.WideShapes Go.RowKit Go.Deep
theorem reads_bytes {H : Type} {enc : TypeId × Value → H} {P : Program} {w : World} {t e : TypeId} {cs : List Value} (ht : P.underlying t = some (.slice e)) (he : P.underlying e = some (.int .u8)) (hC : P.cellsOf e = 1) (h : Reads enc P w t cs) :
    ∃ v bs, cs = [v] ∧ BytesOf w v bs := by
  obtain ⟨v, css, hcs, ⟨a, c, hv, hr⟩, hall'⟩ := reads_rows 1 ht hC (by omega) h
  obtain ⟨bs, hlen, hx⟩ := choose_list (fun cs (x : UInt8) => cs = [u8 x]) css (fun cs hcs => by
    obtain ⟨x, hx, hw⟩ := reads_int he (hall' cs hcs)
    have hw' : 0 ≤ x ∧ x ≤ 255 := by
      simp [Lit.wf] at hw
      exact ⟨hw.1, hw.2⟩
    refine ⟨UInt8.ofNat x.toNat, ?_⟩
    rw [hx]
    unfold u8
    have : x.toNat < 256 := by omega
    rw [UInt8.toNat_ofNat_of_lt' (by simpa [UInt8.size] using this)]
    congr 2
    omega)
  refine ⟨v, bs, hcs, ⟨a, c, by rw [hlen]; exact hv, fun hne => ?_⟩⟩
  obtain ⟨b, off, ha, hb, hc⟩ := hr (by intro h; subst h; simp at hlen; exact hne hlen)
  refine ⟨b, off, ha, hb, fun k x hk => ?_⟩
  have hk' : k < bs.length := by
    rcases Nat.lt_or_ge k bs.length with h | h
    · exact h
    · rw [List.getElem?_eq_none h] at hk; cases hk
  have h1 := hx k _ _ (List.getElem?_eq_getElem (by omega)) hk
  have h2 := (hc k _ (List.getElem?_eq_getElem (by omega))).2 0 (u8 x) (by rw [h1]; rfl)
  simpa using h2
/-- a frame that comes from outside -/
structure FA where
  fr : Int
  to : Int
  life : Int
  sq : Int
  ack : Int
  bs : List UInt8
  v : Value
def FA.c (f : FA) : List Value := [.int .i64 f.fr, .int .i64 f.to, .int .i64 f.life, .int .i64 f.sq, .int .i64 f.ack, f.v]
structure FA.In (f : FA) (w : World) : Prop where
  bytes : BytesOf w f.v f.bs
  sq : f.sq ≤ 9223372036854775807
  wfs : (Lit.int .i64 f.fr).wf = true ∧ (Lit.int .i64 f.to).wf = true ∧ (Lit.int .i64 f.life).wf = true ∧ (Lit.int .i64 f.sq).wf = true ∧ (Lit.int .i64 f.ack).wf = true
theorem FA.In.keep0 {f : FA} {w w' : World} (h : f.In w) (k : Keep [] w w') : f.In w' := ⟨h.bytes.keep0 k, h.sq, h.wfs⟩
theorem len6 {cs : List Value} (hl : cs.length = 6) {c0 c1 c2 c3 c4 c5 : Value} (h0 : cs[0]? = some c0) (h1 : cs[1]? = some c1) (h2 : cs[2]? = some c2) (h3 : cs[3]? = some c3) (h4 : cs[4]? = some c4) (h5 : cs[5]? = some c5) : cs = [c0, c1, c2, c3, c4, c5] := by
  match cs, hl with
  | [a, b, c, d, e, f], _ =>
    simp at h0 h1 h2 h3 h4 h5
    simp [h0, h1, h2, h3, h4, h5]
theorem frame_reads {H : Type} {enc : TypeId × Value → H} {w : World} {cs : List Value} (h : Reads enc Try.prog w 46 cs) : ∃ f : FA, cs = f.c ∧ f.In w := by
  obtain ⟨x0, h0, w0⟩ := reads_int_at (i := 0) (t := 3) (o := 0) Try.underlying46 (show _ = (#[(3, 0), (3, 1), (3, 2), (3, 3), (3, 4), (35, 5)] : Array (TypeId × Nat)) by kernel_rfl) h rfl Try.underlying3 (by kernel_rfl)
  obtain ⟨x1, h1, w1⟩ := reads_int_at (i := 1) (t := 3) (o := 1) Try.underlying46 (show _ = (#[(3, 0), (3, 1), (3, 2), (3, 3), (3, 4), (35, 5)] : Array (TypeId × Nat)) by kernel_rfl) h rfl Try.underlying3 (by kernel_rfl)
  obtain ⟨x2, h2, w2⟩ := reads_int_at (i := 2) (t := 3) (o := 2) Try.underlying46 (show _ = (#[(3, 0), (3, 1), (3, 2), (3, 3), (3, 4), (35, 5)] : Array (TypeId × Nat)) by kernel_rfl) h rfl Try.underlying3 (by kernel_rfl)
  obtain ⟨x3, h3, w3⟩ := reads_int_at (i := 3) (t := 3) (o := 3) Try.underlying46 (show _ = (#[(3, 0), (3, 1), (3, 2), (3, 3), (3, 4), (35, 5)] : Array (TypeId × Nat)) by kernel_rfl) h rfl Try.underlying3 (by kernel_rfl)
  obtain ⟨x4, h4, w4⟩ := reads_int_at (i := 4) (t := 3) (o := 4) Try.underlying46 (show _ = (#[(3, 0), (3, 1), (3, 2), (3, 3), (3, 4), (35, 5)] : Array (TypeId × Nat)) by kernel_rfl) h rfl Try.underlying3 (by kernel_rfl)
  have h5 := reads_at (i := 5) (t := 35) (o := 5) Try.underlying46 (show _ = (#[(3, 0), (3, 1), (3, 2), (3, 3), (3, 4), (35, 5)] : Array (TypeId × Nat)) by kernel_rfl) h rfl
  rw [show Try.prog.cellsOf 35 = 1 by kernel_rfl] at h5
  obtain ⟨v, bs, hv, hb⟩ := reads_bytes Try.underlying35 Try.underlying5 (by kernel_rfl) h5
  have hl : cs.length = 6 := (reads_field Try.underlying46 h).1.trans (by kernel_rfl)
  refine ⟨⟨x0, x1, x2, x3, x4, bs, v⟩, len6 hl h0 h1 h2 h3 h4 (one_at hv), hb, ?_, w0, w1, w2, w3, w4⟩
  simp [Lit.wf] at w3
  exact w3.2
theorem frame_open {H : Type} {enc : TypeId × Value → H} {W : World} {base : Nat} {v : Value} {d : DataW H} {p : List MemPlace} (o : Value.okWide Try.prog W .any base 46 v) (h : DataW.Trod enc Try.prog W 0 (fun _ => true) true 46 v d p) :
    ∃ f : FA, v = .agg #[.int .i64 f.fr, .int .i64 f.to, .int .i64 f.life, .int .i64 f.sq, .int .i64 f.ack, f.v] ∧ f.In W := by
  obtain ⟨cs, rfl, hsz⟩ := okWide_struct Try.underlying46 o
  obtain ⟨fuel, hf⟩ := h
  obtain ⟨f, h1, h2⟩ := frame_reads (cs := cs.toList) ⟨fuel, _, hf⟩
  refine ⟨f, ?_, h2⟩
  obtain ⟨l⟩ := cs
  have : l = f.c := h1
  rw [this]
  rfl
/-- .. In -/
theorem live_in {B p : Nat} {w0 w : World} {q : LK} {fr to life sq ack : Int} {bs : List UInt8} {v : Value} (h : LLive B p w0 w q) (hv : ∀ F, LinkAt w B p F q → ∀ w', Keep [] w0 w' → Keep F w w' → BytesOf w' v bs) (hu : 0 ≤ q.upto ∧ q.upto ≤ 1000000000) (hsq : sq ≤ 9223372036854775807) (hkl : q.kept.length ≤ 1000) (hol : q.open_.length ≤ 1000) :
    Calls Try.prog 14 #[.pointer (some ⟨p, 0, none⟩), .agg #[.int .i64 fr, .int .i64 to, .int .i64 life, .int .i64 sq, .int .i64 ack, v]] w fun e w' =>
      if inOk q fr to life sq ack bs = true then ∃ bv vr, e = .returned (.tuple #[vr, .bool true]) ∧ OutsIn w' B vr (inR (ackd q ack) sq bs bv).2.2 ∧
        LLive B p w0 w' { ackd q ack with upto := (inR (ackd q ack) sq bs bv).1, kept := (inR (ackd q ack) sq bs bv).2.1, owed := q.owed || decide (sq ≠ 0) }
      else e = .returned (.tuple #[.slice none 0 0, .bool false]) ∧ LLive B p w0 w' q := by
  obtain ⟨F, h1, h2, h3, h4⟩ := h
  refine (in_spec h1 h4 (fun w' hk => hv F h1 w' (h2.trans hk (fun x hx => Or.inr (h3 x hx))) hk) hu hsq hkl hol).mono fun e w' hp => ?_
  unfold InPost at hp
  by_cases hi : inOk q fr to life sq ack bs = true
  · rw [if_pos hi] at hp ⊢
    obtain ⟨bv, vr, F', he, ho, hl, hk, hf, _⟩ := hp
    have := reach_trans h2 (fun x hx => Or.inr (h3 x hx)) hk hf
    refine ⟨bv, vr, he, ho, F', hl, this.1, fun x hx => ?_, by have := hk.size; omega⟩
    rcases this.2 x hx with h | h
    · cases h
    · exact h
  · rw [if_neg hi] at hp ⊢
    exact ⟨hp.1, LLive.keep0 ⟨F, h1, h2, h3, h4⟩ hp.2⟩
end Go.Proofs.Ytacifjjhadjhfaa
