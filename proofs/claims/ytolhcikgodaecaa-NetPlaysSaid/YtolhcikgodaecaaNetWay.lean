/- Nets: Way. -/
import Derived.Test.YtolhcikgodaecaaRows
import Derived.WalkKit
import Derived.WalkSpells
import Derived.WalkLawsBesides
import Derived.RegionTactic
import Derived.ChangeAlike
import Derived.BigQuiet
import Derived.Deep.QuietTactic
import Derived.StillTailTactics
import Derived.IntWalk
import Derived.Handy
import Derived.Lib.Hide
import Derived.Deep.AppendLies
import Derived.Deep.RegionWith
import Derived.Test.YtolhcikgodaecaaBase
import Derived.Test.YtolhcikgodaecaaTail
import Derived.Test.YtolhcikgodaecaaArgs
import Derived.Test.YtolhcikgodaecaaAppend
import Derived.Test.YtolhcikgodaecaaOffs
import Derived.Test.YtolhcikgodaecaaStructs
import Derived.Test.YtolhcikgodaecaaNetObj
import Derived.Test.YtolhcikgodaecaaNetObj2
import Derived.Test.YtolhcikgodaecaaNetSend
namespace Go.Proofs.Ytolhcikgodaecaa
open Go.RowKit

theorem OwnsAt.rowAt {α : Type} {w : World} {B : Nat} {e : TypeId} {sz : Nat} {av : Option Addr} {n cv : Nat} {l : List α} {c : α → List Value} (h : OwnsAt w B e sz (.slice av n cv) n (l.flatMap c)) (hc : ∀ a, (c a).length = sz) {i : Nat} {a : α} (hi : l[i]? = some a) (hn : i < n) :
    ∃ g off, av = some ⟨g, off, none⟩ ∧ B ≤ g ∧ g < w.heap.size ∧ (∀ (j : Nat) (u : Value), j < sz → (c a)[j]? = some u → w.cell? ⟨g, off + i * sz + j, none⟩ = some u) ∧ n ≤ cv ∧ ∀ j, w.frozen? ⟨g, j, none⟩ = false := by
  obtain ⟨g, off, cap, hv, h1, h2, h3, h4, h5⟩ := h.form (by omega)
  injection hv with e1 e2 e3
  subst e1 e3
  refine ⟨g, off, rfl, h3, h4, fun j u hj hu => ?_, h1, h.free⟩
  rw [Nat.add_assoc]
  exact h5 _ u ((flat_at hc l i a j hi hj).trans hu)
/-- parcels of the call's own, in a slice of its own -/
structure ParcelsIn (w : World) (B : Nat) (v : Value) (ws : List PS) : Prop where
  rows : OwnsAt w B 29 3 v ws.length (ws.flatMap PS.c3)
  bytes : ∀ s ∈ ws, OwnB w B s.bv s.bs
  nodup : (byteBlocks ws).Nodup
theorem ParcelsIn.keep {w w' : World} {B : Nat} {v : Value} {ws : List PS} {S : List Nat} (h : ParcelsIn w B v ws) (hk : Keep S w w') (hn : ∀ x ∈ parcelBlocks v ws, x ∉ S) : ParcelsIn w' B v ws :=
  ⟨h.rows.keep hk (fun g hg => hn g (by simp only [parcelBlocks, List.mem_append]; exact Or.inl (mem_own.2 hg))),
   fun s hs => OwnsAt.keep (h.bytes s hs) hk (fun g hg => hn g (by simp only [parcelBlocks, List.mem_append]; exact Or.inr (mem_byteBlocks.2 ⟨s, hs, hg⟩))), h.nodup⟩
theorem ParcelsIn.nil (w : World) (B : Nat) : ParcelsIn w B (.slice none 0 0) [] := ⟨OwnsAt.nil _ _ _ _, by simp, by simp [byteBlocks]⟩
theorem ParcelsIn.of {w : World} {B : Nat} {v : Value} {ws : List PS} (h : ParcelsIn w B v ws) : ParcelsOf w v ws := by
  obtain ⟨a, c, rfl⟩ := h.rows.shape
  refine ⟨a, c, rfl, fun i s hs => ?_⟩
  have hi : i < ws.length := by
    rcases Nat.lt_or_ge i ws.length with h' | h'
    · exact h'
    · rw [List.getElem?_eq_none h'] at hs; cases hs
  obtain ⟨g, off, rfl, _, hlt, hc, _⟩ := h.rows.rowAt PS.c3_len hs hi
  exact ⟨g, off, rfl, hlt, hc 0 _ (by omega) rfl, hc 1 _ (by omega) rfl, hc 2 _ (by omega) rfl, bytes_of_off (h.bytes s (List.mem_of_getElem? hs))⟩
theorem ParcelsIn.lt {w : World} {B : Nat} {v : Value} {ws : List PS} (h : ParcelsIn w B v ws) : ∀ x ∈ parcelBlocks v ws, B ≤ x ∧ x < w.heap.size := by
  intro x hx
  simp only [parcelBlocks, List.mem_append] at hx
  rcases hx with hx | hx
  · exact h.rows.lt x (mem_own.1 hx)
  · obtain ⟨s, hs, hb⟩ := mem_byteBlocks.1 hx
    exact OwnsAt.lt (h.bytes s hs) x hb
/-- one parcel more -/
theorem ParcelsIn.push {w w1 w2 : World} {B : Nat} {v v' : Value} {ws : List PS} {s : PS} (h : ParcelsIn w B v ws) (hB : B ≤ w.heap.size) (k1 : Keep [] w w1) (hb : OwnB w1 w.heap.size s.bv s.bs)
    (k2 : Keep (ownBlocks v) w1 w2) (hr : OwnsAt w2 B 29 3 v' (ws.length + 1) ((ws ++ [s]).flatMap PS.c3)) : ParcelsIn w2 B v' (ws ++ [s]) := by
  have hbB : OwnB w1 B s.bv s.bs := OwnsAt.mono hb hB
  refine ⟨by rw [List.length_append]; exact hr, fun t ht => ?_, ?_⟩
  · rcases List.mem_append.1 ht with ht | ht
    · exact OwnsAt.keep (OwnsAt.keep (h.bytes t ht) k1 (by simp)) k2 (fun g hg hx => (h.bytes t ht).ne_own h.rows (by decide) g hg (mem_own.1 hx))
    · obtain rfl : t = s := by simpa using ht
      refine OwnsAt.keep hbB k2 (fun g hg hx => ?_)
      have h1 := (OwnsAt.lt hb g hg).1
      have h2 := (h.rows.lt g (mem_own.1 hx)).2
      omega
  · unfold byteBlocks
    rw [List.flatMap_append]
    refine List.nodup_append.2 ⟨h.nodup, ?_, ?_⟩
    · simp only [List.flatMap_cons, List.flatMap_nil, List.append_nil, ownBlocks]
      cases s.bv.ownBlock <;> simp
    · intro x hx y hy
      obtain ⟨t, ht, hxt⟩ := mem_byteBlocks.1 hx
      have h1 := (OwnsAt.lt (h.bytes t ht) x hxt).2
      have h2 := (OwnsAt.lt hb y (by simpa [ownBlocks] using hy)).1
      omega
def dat3 (s : PS) : Int × Int × List UInt8 := (s.f, s.t, s.bs)
def WayPost (w : World) (ss : List PS) (e : Ending) (w' : World) : Prop := ∃ v ws, e = .returned v ∧ ws.map dat3 = ss.map dat3 ∧ ParcelsIn w' w.heap.size v ws ∧ Keep [] w w'
set_option maxHeartbeats 4000000 in
set_option maxRecDepth 100000 in
theorem way_spec {w : World} {B p : Nat} {vw : Value} {ss : List PS} (h : NetIn w B p vw ss) (hl : ss.length ≤ 100000) (hbl : ∀ s ∈ ss, s.bs.length ≤ 1000000) :
    Calls Try.prog 11 #[.pointer (some ⟨p, 0, none⟩)] w (WayPost w ss) := by
  obtain ⟨aw, cw, rfl⟩ := h.rows.shape
  have c0 : w.cell? ⟨p, 0, none⟩ = some (.slice aw ss.length cw) := h.head.cell 0
  have H := Lib.hid h
  have Hl := Lib.hid hl
  have hl2 : (ss.length : Int) ≤ 9000000000 := by omega
  have Hbl := Lib.hid hbl
  clear h hl hbl
  go_enter Try.func11, Try.ntmps11
  go_wp2
  clear c0
  go_loopw [3, 5, 11] (fun v3 v5 v11 wr => ∃ (i : Nat) (ws : List PS), i ≤ ss.length ∧ v11 = .int .i64 i ∧ ws.map dat3 = (ss.take i).map dat3 ∧ ParcelsIn wr w.heap.size v3 ws ∧ Keep [] w wr) (fun _ _ v _ => ss.length - (intOf v).toNat)
  case atStart => exact ⟨0, [], by omega, rfl, by simp, ParcelsIn.nil _ _, Keep.refl _ _⟩
  case round =>
    obtain ⟨i, ws, hi, rfl, hdat, hws, hk⟩ := hrel
    have hwl : ws.length = i := by
      have := congrArg List.length hdat
      simp only [List.length_map, List.length_take] at this
      omega
    obtain ⟨ao, co, rfl⟩ := hws.rows.shape
    by_cases hlt : i < ss.length
    · have hn := H.out.keep hk (by simp)
      obtain ⟨g, off, rfl, hg1, hg2, hcells, hcap, hfr⟩ := hn.rows.rowAt PS.c4_len (List.getElem?_eq_getElem hlt) hlt
      have hby := bytes_of_off (hn.bytes _ (List.getElem_mem hlt))
      have hbl2 := Hbl.out _ (List.getElem_mem hlt)
      have htk : ss.take (i + 1) = ss.take i ++ [ss[i]] := List.take_succ_eq_append_getElem hlt
      generalize ss[i] = s at *
      obtain ⟨f, t, bs, fl, bv⟩ := s
      have e0 : wr.cell? ⟨g, off + i * 4, none⟩ = some (.int .i64 f) := hcells 0 _ (by omega) rfl
      have e1 : wr.cell? ⟨g, off + i * 4 + 1, none⟩ = some (.int .i64 t) := hcells 1 _ (by omega) rfl
      have e2 : wr.cell? ⟨g, off + i * 4 + 2, none⟩ = some bv := hcells 2 _ (by omega) rfl
      have e3 : wr.cell? ⟨g, off + i * 4 + 3, none⟩ = some (.bool fl) := hcells 3 _ (by omega) rfl
      simp only at hby hbl2
      obtain ⟨ab, cb, rfl⟩ := hby.shape
      have hkA : Keep [] wr (wr.alloc (.cells #[.int .i64 f, .int .i64 t, .slice ab bs.length cb, .bool fl] 54)) := (Keep.refl _ _).alloc _
      have hA : Blk (wr.alloc (.cells #[.int .i64 f, .int .i64 t, .slice ab bs.length cb, .bool fl] 54)) wr.heap.size 54 [.int .i64 f, .int .i64 t, .slice ab bs.length cb, .bool fl] := Blk.new' _ _ _ _ rfl
      have Hby := Lib.hid (hby.keep0 hkA)
      have Htk := Lib.hid htk
      have Hws := Lib.hid hws
      have Hwl := Lib.hid hwl
      have Hbl2 := Lib.hid hbl2
      clear hcells hby htk hws hn hfr hwl hbl2
      go_wp2_with fail
      refine (own_spec Hby.out (by have := Hbl2.out; omega)).mono ?_
      rintro e w3 ⟨bv', rfl, ho, hk3⟩
      obtain ⟨a9, c9, rfl⟩ := OwnsAt.shape ho
      have hws3 := ((Hws.out.keep hkA (by simp)).keep hk3 (by simp)).rows.keep ((Keep.refl [] _).alloc (.cells #[.int .i64 f, .int .i64 t, .slice a9 bs.length c9] 29)) (by simp)
      go_wp2_with (at_builtin; refine wpList_append_off rfl _ _ rfl Try.pcs32 w.heap.size (.slice ao ws.length co) ws.length _ rfl hws3 _ 1 _ rfl (src_row 3 rfl _ rfl) (by simp [Value.oneCell']) (by unfold maxLen; have := Hwl.out; have := Hl.out; omega) (by have := Hwl.out; have := Hl.out; omega) (by have := hk.size; have := hk3.size; simp at this; simp; omega) ?_)
      intro v' w4 hown4 hk4 hat4
      have hpush := (Hws.out.keep hkA (by simp)).push (s := ⟨f, t, bs, fl, .slice a9 bs.length c9⟩) (by have := hk.size; simp; omega) (hk3.alloc (.cells #[.int .i64 f, .int .i64 t, .slice a9 bs.length c9] 29)) (OwnsAt.keep ho ((Keep.refl [] _).alloc _) (by simp)) hk4 (by simpa [PS.c3] using hown4)
      have hk5 : Keep [] w w4 := ((hk.trans hkA (by simp)).trans (hk3.alloc _) (by simp)).trans hk4 (fun x hx => Or.inr (Hws.out.rows.lt x (mem_own.1 hx)).1)
      have hdat2 : (ws ++ [(⟨f, t, bs, fl, .slice a9 bs.length c9⟩ : PS)]).map dat3 = (ss.take (i + 1)).map dat3 := by
        rw [Htk.out, List.map_append, List.map_append, hdat]
        rfl
      obtain ⟨a7, c7, rfl⟩ := hown4.shape
      clear hown4 hk4 hat4 hws3 hk3 ho hA hkA hdat hk
      go_wp2
      go_roundw
      case rel => exact ⟨i + 1, _, by omega, by go_num, hdat2, hpush, hk5⟩
      case measure => simp [intOf]; omega
    · have : i = ss.length := by omega
      subst this
      have Hfin : Hid (WayPost w ss (.returned (.slice ao ws.length co)) wr) := Lib.hid ⟨_, ws, rfl, by simpa using hdat, hws, hk⟩
      clear hws hk hdat
      go_wp2
      go_ret
      exact Hfin.out
end Go.Proofs.Ytolhcikgodaecaa
