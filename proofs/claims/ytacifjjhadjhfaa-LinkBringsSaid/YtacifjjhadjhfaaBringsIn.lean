/- LinkBrings: a frame comes in. -/
import Derived.Test.YtacifjjhadjhfaaRows
import Derived.WalkKit
import Derived.WalkSpells
import Derived.WalkLawsBesides
import Derived.RegionTactic
import Derived.ChangeAlike
import Derived.BigQuiet
import Derived.Deep.QuietTactic
import Derived.StillTailTactics
import Derived.IntWalk
import Derived.Handy
import Derived.Lib.Hide
import Derived.Deep.AppendLies
import Derived.Deep.RegionWith
import Derived.Test.YtacifjjhadjhfaaBase
import Derived.Test.YtacifjjhadjhfaaTail
import Derived.Test.YtacifjjhadjhfaaArgs
import Derived.Test.YtacifjjhadjhfaaAppend
import Derived.Deep.RegionLaw
import Derived.Test.YtacifjjhadjhfaaOffs
import Derived.Test.YtacifjjhadjhfaaStructs
import Derived.Test.YtacifjjhadjhfaaSplit
import Derived.Maps.OwnSet
import Derived.Maps.Views
import Derived.Test.YtacifjjhadjhfaaLinkBytes
import Derived.Test.YtacifjjhadjhfaaLinkObj
import Derived.Test.YtacifjjhadjhfaaLinkSend
import Derived.Test.YtacifjjhadjhfaaLinkDue
import Derived.Test.YtacifjjhadjhfaaLinkFrame
import Derived.Test.YtacifjjhadjhfaaLinkOut
import Derived.Test.YtacifjjhadjhfaaLinkOut2
import Derived.Test.YtacifjjhadjhfaaLinkOne
import Derived.Test.YtacifjjhadjhfaaLinkLive
import Derived.Test.YtacifjjhadjhfaaLinkAck
import Derived.Test.YtacifjjhadjhfaaLinkAck2
import Derived.Test.YtacifjjhadjhfaaLinkGot
import Derived.Test.YtacifjjhadjhfaaLinkGot2
import Derived.Test.YtacifjjhadjhfaaLinkGot3
import Derived.Test.YtacifjjhadjhfaaLinkInn
import Derived.Test.YtacifjjhadjhfaaLinkX2
import Derived.Deep.CutRange
import Derived.Deep.DeepCutAuto
import Derived.BigRegion
import Derived.Laws.BytesArg
import Derived.Test.YtacifjjhadjhfaaBringsObj
import Derived.Test.YtacifjjhadjhfaaBringsLoads
namespace Go.Proofs.Ytacifjjhadjhfaa
open Go.RowKit
theorem src_own2 {w : World} {B : Nat} {e : TypeId} {size n : Nat} {v : Value} {xs : List Value} (h : OwnsAt w B e size v n xs) : SrcOf w v size n xs := by
  obtain ⟨a, c, rfl⟩ := h.shape
  refine ⟨a, c, rfl, h.1, fun hne => ?_⟩
  have hn : 0 < n := by
    rcases Nat.eq_zero_or_pos n with h0 | h0
    · subst h0
      have := h.1
      simp at this
      exact absurd this hne
    · exact h0
  obtain ⟨g, off, cap, hv, _, _, _, _, h5⟩ := h.form hn
  injection hv with e1 _ _
  subst e1
  exact ⟨_, rfl, fun j u hu => by rw [add_none]; exact h5 j u hu⟩
set_option maxHeartbeats 8000000 in
set_option maxRecDepth 100000 in
theorem pin_spec0 {X : List Nat} {w0 w : World} {g pa pb : Nat} {vw : Value} {u : Nat → Value} {a b : LK} {fs : List FR} {now : Int} {o : Nat → List BV} {fr to_ life sq ack : Int} {bs : List UInt8} {v : Value}
    (h : PairIn X w0 w g pa pb vw u a b fs now o) (hv : ByAt X w0 w ⟨bs, v⟩) (hu : 0 ≤ a.upto ∧ a.upto ≤ 1000000000) (hsq : sq ≤ 9223372036854775807) (hkl : a.kept.length ≤ 1000) (hol : a.open_.length ≤ 1000) (hi : inOk a fr to_ life sq ack bs = true) (hto : to_ = 0)
    (hlo : (o 0).length ≤ 200000) (hlr : ∀ bv, (inR (ackd a ack) sq bs bv).2.2.length ≤ 1000) :
    Calls Try.prog 31 #[.pointer (some ⟨g, 0, none⟩), .agg #[.int .i64 fr, .int .i64 to_, .int .i64 life, .int .i64 sq, .int .i64 ack, v]] w fun e w' => e = .returned (.bool true) ∧
      ∃ bv X' u' os, os.map BV.bs = (inR (ackd a ack) sq bs bv).2.2.map LD.bs ∧ PairIn X' w0 w' g pa pb vw u' (inQ a sq ack bs bv) b fs now (fun j => if j = 0 then o 0 ++ os else o j) := by
  obtain ⟨av, cv, rfl⟩ : ∃ av cv, v = .slice av bs.length cv := (hv.of h.out).shape
  have kA : Keep [] w (w.alloc (.cells #[.int .i64 fr, .int .i64 to_, .int .i64 life, .int .i64 sq, .int .i64 ack, .slice av bs.length cv] 46)) := (Keep.refl _ _).alloc _
  have bA : Blk (w.alloc (.cells #[.int .i64 fr, .int .i64 to_, .int .i64 life, .int .i64 sq, .int .i64 ack, .slice av bs.length cv] 46)) w.heap.size 46 [.int .i64 fr, .int .i64 to_, .int .i64 life, .int .i64 sq, .int .i64 ack, .slice av bs.length cv] := Blk.new' _ _ _ _ rfl
  have h1 := h
  have h2 := h.keep0 kA
  have hv2 := hv.kx (KX.of0 (X := X) kA)
  have tw2 := h1.tw.grow (Y := [w.heap.size]) kA (by simp) (by simp)
  have H2 := Lib.hid (And.intro h2 (And.intro hv2 (And.intro tw2 bA)))
  clear h h1 h2 hv hv2 tw2 bA kA
  have ht : (to_ == 0) = true := by simpa using hto
  clear hto
  go_enter Try.func31, Try.ntmps31
  go_upto_region 1 with fail
  generalize hwA : w.alloc (.cells #[.int .i64 fr, .int .i64 to_, .int .i64 life, .int .i64 sq, .int .i64 ack, .slice av bs.length cv] 46) = wA at *
  generalize hgA : w.heap.size = gA at *
  clear hwA hgA
  have x1 : wA.cell? ⟨gA, 1, none⟩ = some (.int .i64 to_) := H2.out.2.2.2.cell 1
  go_upto_region 2 with fail
  clear x1
  have hA := H2.out.2.2.2
  have x0 : wA.cell? ⟨gA, 0, none⟩ = some (.int .i64 fr) := hA.cell 0
  have x1 : wA.cell? ⟨gA, 1, none⟩ = some (.int .i64 to_) := hA.cell 1
  have x2 : wA.cell? ⟨gA, 2, none⟩ = some (.int .i64 life) := hA.cell 2
  have x3 : wA.cell? ⟨gA, 3, none⟩ = some (.int .i64 sq) := hA.cell 3
  have x4 : wA.cell? ⟨gA, 4, none⟩ = some (.int .i64 ack) := hA.cell 4
  have x5 : wA.cell? ⟨gA, 5, none⟩ = some (.slice av bs.length cv) := hA.cell 5
  have xg : wA.cell? ⟨g, 0, none⟩ = some (.pointer (some ⟨pa, 0, none⟩)) := H2.out.1.head.cell 0
  have hs := Lib.hid (tw_in (fr := fr) (to_ := to_) (life := life) (sq := sq) (ack := ack) (bs := bs) (v := .slice av bs.length cv) (H2.out.2.2.1.keep0 (Keep.refl [] wA).drew) (fun w' k => ((H2.out.2.1.kx (KX.of0 (X := X) (Keep.refl [] wA).drew)).kx (k.sub (fun x hx => by simp [hx]))).of (k.out (H2.out.1.out.trans (Keep.refl [] wA).drew (by simp)))) hu hsq hkl hol hi)
  clear hA hu hsq hkl hol hi
  go_region_held3 (fun w' => w'.cell? ⟨g, 0, none⟩ = some (.pointer (some ⟨pa, 0, none⟩)) ∧ w'.cell? ⟨gA, 0, none⟩ = some (.int .i64 fr) ∧ w'.cell? ⟨gA, 1, none⟩ = some (.int .i64 to_) ∧ w'.cell? ⟨gA, 2, none⟩ = some (.int .i64 life) ∧ w'.cell? ⟨gA, 3, none⟩ = some (.int .i64 sq) ∧ w'.cell? ⟨gA, 4, none⟩ = some (.int .i64 ack) ∧ w'.cell? ⟨gA, 5, none⟩ = some (.slice av bs.length cv))
    (first | exact ⟨by assumption, by assumption, by assumption, by assumption, by assumption, by assumption, by assumption⟩ | go_keep)
    (first
      | (go_at_call 14; refine hs.out.mono ?_; rintro e w6 ⟨bv, vr, rfl, ho, htw, hkx⟩; obtain ⟨ar, cr, rfl⟩ := ho.rows.shape; have b6 := hkx.blk H2.out.2.2.2 (by simp); have g6 := (hkx.sub (Y := X) (fun x hx => by simp [hx])).blk H2.out.1.head H2.out.1.gX; have y0 : w6.cell? ⟨gA, 0, none⟩ = some (.int .i64 fr) := b6.cell 0; have y1 : w6.cell? ⟨gA, 1, none⟩ = some (.int .i64 to_) := b6.cell 1; have y2 : w6.cell? ⟨gA, 2, none⟩ = some (.int .i64 life) := b6.cell 2; have y3 : w6.cell? ⟨gA, 3, none⟩ = some (.int .i64 sq) := b6.cell 3; have y4 : w6.cell? ⟨gA, 4, none⟩ = some (.int .i64 ack) := b6.cell 4; have y5 : w6.cell? ⟨gA, 5, none⟩ = some (.slice av bs.length cv) := b6.cell 5; have yg : w6.cell? ⟨g, 0, none⟩ = some (.pointer (some ⟨pa, 0, none⟩)) := g6.cell 0))
  have hp := H2.out.1.keep0 (Keep.refl [] wA).drew
  have hlr2 := hlr bv
  clear y0 y1 y2 y3 y4 y5 yg b6 g6 x0 x1 x2 x3 x4 x5 xg hs hlr
  generalize hL : (inR (ackd a ack) sq bs bv).2.2 = L at *
  have h6 := PairIn.link hp (hkx.sub (fun x hx => by simp [hx])) (htw.sub (Y := byteBlocks L ++ X) (fun x hx => by simp only [List.mem_append, List.mem_cons] at hx ⊢; rcases hx with h | h <;> simp [h])) (fun x hx => by simp [hx])
  obtain ⟨os, hos⟩ : ∃ os : List BV, os = L.map (fun s => ⟨s.bs, s.bv⟩) := ⟨_, rfl⟩
  have hosb : os.map BV.bs = L.map LD.bs := by rw [hos, List.map_map]; rfl
  have hosv : os.map BV.bv = L.map LD.bv := by rw [hos, List.map_map]; rfl
  have hby : ∀ s ∈ os, ByAt (byteBlocks L ++ X) w0 w6 s := fun s hs => by
    rw [hos] at hs
    obtain ⟨t, ht, rfl⟩ := List.mem_map.1 hs
    exact Or.inl ⟨OwnsAt.mono (ho.bytes t ht) (Nat.zero_le _), fun x hx => List.mem_append_left _ (mem_byteBlocks.2 ⟨t, ht, mem_own.1 hx⟩)⟩
  have hnew := (h6.rows 0 (by omega)).rows
  obtain ⟨a0, c0, hu0⟩ := hnew.shape
  have yc : w6.cell? ⟨g, 4, none⟩ = some (.slice a0 (o 0).length c0) := by rw [← hu0]; exact h6.head.cell 4
  have H6 := Lib.hid h6
  have Ho := Lib.hid ho
  have Hby := Lib.hid hby
  have Hosb := Lib.hid hosb
  have Hosv := Lib.hid hosv
  have Hu0 := Lib.hid hu0
  have Hlo := Lib.hid hlo
  have HL := Lib.hid hL
  have Hlr := Lib.hid hlr2
  have Hll : Hid (os.length = L.length) := Lib.hid (by rw [hos, List.length_map])
  clear hp h6 ho htw hkx hos hosb hosv hby hnew hu0 hlo hlr2 hL
  go_upto_region 3 with fail
  refine wp_region_split 11 (fun w' => w'.cell? ⟨g, 4, none⟩ = some (.slice a0 (o 0).length c0)) (by kernel_rfl) rfl (by kernel_rfl) yc ?_
  clear yc
  intro hHeld
  simp only [List.take_succ_cons, List.take_zero]
  refine wpAnyH_take (i := 0) (v := ?_) rfl (by kernel_rfl) (by kernel_rfl) (by kernel_rfl) (fun _ _ _ h => h) (Or.inl ⟨by rfl, by (intro w hSw; (try dsimp only at hSw); go_simp) <;> with_reducible rfl⟩) (by assumption) ?_
  (try simp only [List.getElem_toArray, List.getElem_cons_succ, List.getElem_cons_zero, Act.put, List.setIfInBounds_toArray, List.set_cons_zero, List.set_cons_succ])
  refine wpAnyH_take (i := 1) (v := ?_) rfl (by kernel_rfl) (by kernel_rfl) (by kernel_rfl) (fun _ _ _ h => h) (Or.inl ⟨by rfl, by (intro w hSw; (try dsimp only at hSw); go_simp) <;> with_reducible rfl⟩) (by assumption) ?_
  (try simp only [List.getElem_toArray, List.getElem_cons_succ, List.getElem_cons_zero, Act.put, List.setIfInBounds_toArray, List.set_cons_zero, List.set_cons_succ])
  refine wpAnyH_take (i := 2) (v := ?_) rfl (by kernel_rfl) (by kernel_rfl) (by kernel_rfl) (fun _ _ _ h => h) (Or.inl ⟨by rfl, by (intro w hSw; (try dsimp only at hSw); go_simp) <;> with_reducible rfl⟩) (by assumption) ?_
  (try simp only [List.getElem_toArray, List.getElem_cons_succ, List.getElem_cons_zero, Act.put, List.setIfInBounds_toArray, List.set_cons_zero, List.set_cons_succ])
  refine wpAnyH_take (i := 3) (v := ?_) rfl (by kernel_rfl) (by kernel_rfl) (by kernel_rfl) (fun _ _ _ h => h) (Or.inl ⟨by rfl, by (intro w hSw; (try dsimp only at hSw); go_simp) <;> with_reducible rfl⟩) (by assumption) ?_
  (try simp only [List.getElem_toArray, List.getElem_cons_succ, List.getElem_cons_zero, Act.put, List.setIfInBounds_toArray, List.set_cons_zero, List.set_cons_succ])
  refine wpAnyH_take (i := 4) (v := ?_) rfl (by kernel_rfl) (by kernel_rfl) (by kernel_rfl) (fun _ _ _ h => h) (Or.inl ⟨by rfl, by (intro w hSw; (try dsimp only at hSw); go_simp) <;> with_reducible rfl⟩) (by assumption) ?_
  (try simp only [List.getElem_toArray, List.getElem_cons_succ, List.getElem_cons_zero, Act.put, List.setIfInBounds_toArray, List.set_cons_zero, List.set_cons_succ])
  refine wpAnyH_take (i := 5) (v := ?_) rfl (by kernel_rfl) (by kernel_rfl) (by kernel_rfl) (fun _ _ _ h => h) (Or.inl ⟨by rfl, by (intro w hSw; (try dsimp only at hSw); go_simp) <;> with_reducible rfl⟩) (by assumption) ?_
  (try simp only [List.getElem_toArray, List.getElem_cons_succ, List.getElem_cons_zero, Act.put, List.setIfInBounds_toArray, List.set_cons_zero, List.set_cons_succ])
  refine wpAnyH_take (i := 6) (v := ?_) rfl (by kernel_rfl) (by kernel_rfl) (by kernel_rfl) (fun _ _ _ h => h) (Or.inl ⟨by rfl, by (intro w hSw; (try dsimp only at hSw); go_simp) <;> with_reducible rfl⟩) (by assumption) ?_
  (try simp only [List.getElem_toArray, List.getElem_cons_succ, List.getElem_cons_zero, Act.put, List.setIfInBounds_toArray, List.set_cons_zero, List.set_cons_succ])
  refine wpAnyH_take (i := 8) (v := ?_) rfl (by kernel_rfl) (by kernel_rfl) (by kernel_rfl) (fun _ _ _ h => h) (Or.inl ⟨by rfl, by (intro w hSw; (try dsimp only at hSw); go_simp) <;> with_reducible rfl⟩) (by assumption) ?_
  (try simp only [List.getElem_toArray, List.getElem_cons_succ, List.getElem_cons_zero, Act.put, List.setIfInBounds_toArray, List.set_cons_zero, List.set_cons_succ])
  refine wpAnyH_take (i := 9) (v := ?_) rfl (by kernel_rfl) (by kernel_rfl) (by kernel_rfl) (fun _ _ _ h => h) (Or.inl ⟨by rfl, by (intro w hSw; (try dsimp only at hSw); go_simp) <;> with_reducible rfl⟩) (by assumption) ?_
  (try simp only [List.getElem_toArray, List.getElem_cons_succ, List.getElem_cons_zero, Act.put, List.setIfInBounds_toArray, List.set_cons_zero, List.set_cons_succ])
  refine wpAnyH_ready (rs := [7]) (by kernel_rfl) (by simp) ?_
  refine AllReadyH.cons (o := { dst := some 28, op := .call { callee := .builtin .append, args := #[.tmp 26, .tmp 27], argTypes := #[42, 42] }, type := 42, pos := "law.go:137", after := #[{ on := 5, ground := .data }, { on := 6, ground := .data }], guard := none }) rfl (fun K hK => ?_) AllReadyH.nil
  refine step_append_off rfl (.tmp 26) (.tmp 27) rfl Try.bss42 w0.heap.size (.slice a0 (o 0).length c0) (o 0).length ((o 0).map BV.bv) (by simp [Act.eval]) (by rw [← Hu0.out]; exact (H6.out.rows 0 (by omega)).rows.keep (Keep.refl [] w6).drew (by simp)) (.slice ar L.length cr) L.length (L.map LD.bv) (by simp [Act.eval]) (src_own2 (Ho.out.rows.keep (Keep.refl [] w6).drew (by simp))) (fun x hx => ?_) (by unfold maxLen; have := Hlo.out; have := Hlr.out; omega) (by have := Hlo.out; have := Hlr.out; omega) H6.out.out.size ?_
  · obtain ⟨s, hs, rfl⟩ := List.mem_map.1 hx
    obtain ⟨_, _, h9⟩ := OwnsAt.shape (Ho.out.bytes s hs)
    rw [h9]
    rfl
  intro v' w4 hown4 hk4 hat4
  have hk4' : Keep (ownBlocks (u 0)) w6 w4 := by rw [Hu0.out]; exact ((Keep.refl _ _).trans (Keep.refl [] w6).drew (by simp)).trans hk4 (fun x hx => Or.inl hx)
  have hrow := H6.out.row (i := 0) (v' := v') (os' := o 0 ++ os) (by omega) hk4' (by rw [List.length_append, List.map_append, Hosv.out, Hll.out]; exact hown4) (by
    rcases hat4 with h | h
    · exact Or.inl (by rw [Hu0.out]; exact h)
    · exact Or.inr (fun x hx => by have := mem_own.1 hx; rw [h] at this; injection this with this; rw [← this]; exact Nat.le_refl _)) (fun s hs => by
    rcases List.mem_append.1 hs with hs | hs
    · exact (H6.out.rows 0 (by omega)).bytes s hs
    · exact Hby.out s hs)
  have hg4 : Blk w4 g 52 [.pointer (some ⟨pa, 0, none⟩), .pointer (some ⟨pb, 0, none⟩), vw, .int .i64 now, u 0, u 1, u 2, u 3] := H6.out.head.keep hk4' (fun hx => OwnsAt.ne_blk (H6.out.rows 0 (by omega)).rows H6.out.head (by decide) (mem_own.1 hx))
  have yc : w4.cell? ⟨g, 4, none⟩ = some (.slice a0 (o 0).length c0) := by rw [← Hu0.out]; exact hg4.cell 4
  have yf : w4.frozen? ⟨g, 4, none⟩ = false := hg4.frozen 4
  obtain ⟨a7, c7, rfl⟩ := hown4.shape
  refine hK.out _ _ yc (fun hHeld => ?_)
  clear hK K
  (try simp only [List.getElem_toArray, List.getElem_cons_succ, List.getElem_cons_zero, Act.put, List.setIfInBounds_toArray, List.set_cons_zero, List.set_cons_succ])
  refine wpAnyH_take (i := 10) (v := ?_) rfl (by kernel_rfl) (by kernel_rfl) (by kernel_rfl) (fun _ _ _ h => h) (Or.inl ⟨by rfl, by (intro w hSw; (try dsimp only at hSw); go_simp) <;> with_reducible rfl⟩) (by assumption) ?_
  (try simp only [List.getElem_toArray, List.getElem_cons_succ, List.getElem_cons_zero, Act.put, List.setIfInBounds_toArray, List.set_cons_zero, List.set_cons_succ])
  have Hfin := Lib.hid hrow
  clear hrow hown4 hk4 hat4 hk4' hg4
  refine wpAnyH_done (by kernel_rfl) ?_ _
  show Oper.wp _ _ _ _ _ _
  go_simp
  clear hHeld
  go_wp2_with fail
  go_ret
  exact ⟨rfl, bv, _, _, os, by rw [HL.out]; exact Hosb.out, Hfin.out⟩
set_option maxHeartbeats 8000000 in
set_option maxRecDepth 100000 in
theorem pin_spec1 {X : List Nat} {w0 w : World} {g pa pb : Nat} {vw : Value} {u : Nat → Value} {a b : LK} {fs : List FR} {now : Int} {o : Nat → List BV} {fr to_ life sq ack : Int} {bs : List UInt8} {v : Value}
    (h : PairIn X w0 w g pa pb vw u a b fs now o) (hv : ByAt X w0 w ⟨bs, v⟩) (hu : 0 ≤ b.upto ∧ b.upto ≤ 1000000000) (hsq : sq ≤ 9223372036854775807) (hkl : b.kept.length ≤ 1000) (hol : b.open_.length ≤ 1000) (hi : inOk b fr to_ life sq ack bs = true) (hto : to_ ≠ 0)
    (hlo : (o 1).length ≤ 200000) (hlr : ∀ bv, (inR (ackd b ack) sq bs bv).2.2.length ≤ 1000) :
    Calls Try.prog 31 #[.pointer (some ⟨g, 0, none⟩), .agg #[.int .i64 fr, .int .i64 to_, .int .i64 life, .int .i64 sq, .int .i64 ack, v]] w fun e w' => e = .returned (.bool true) ∧
      ∃ bv X' u' os, os.map BV.bs = (inR (ackd b ack) sq bs bv).2.2.map LD.bs ∧ PairIn X' w0 w' g pa pb vw u' a (inQ b sq ack bs bv) fs now (fun j => if j = 1 then o 1 ++ os else o j) := by
  obtain ⟨av, cv, rfl⟩ : ∃ av cv, v = .slice av bs.length cv := (hv.of h.out).shape
  have kA : Keep [] w (w.alloc (.cells #[.int .i64 fr, .int .i64 to_, .int .i64 life, .int .i64 sq, .int .i64 ack, .slice av bs.length cv] 46)) := (Keep.refl _ _).alloc _
  have bA : Blk (w.alloc (.cells #[.int .i64 fr, .int .i64 to_, .int .i64 life, .int .i64 sq, .int .i64 ack, .slice av bs.length cv] 46)) w.heap.size 46 [.int .i64 fr, .int .i64 to_, .int .i64 life, .int .i64 sq, .int .i64 ack, .slice av bs.length cv] := Blk.new' _ _ _ _ rfl
  have h1 := h
  have h2 := h.keep0 kA
  have hv2 := hv.kx (KX.of0 (X := X) kA)
  have tw2 := (h1.tw.swap.grow (Y := [w.heap.size]) kA (by simp) (by simp))
  have H2 := Lib.hid (And.intro h2 (And.intro hv2 (And.intro tw2 bA)))
  clear h h1 h2 hv hv2 tw2 bA kA
  have ht : (to_ == 0) = false := by simpa using hto
  clear hto
  go_enter Try.func31, Try.ntmps31
  go_upto_region 1 with fail
  generalize hwA : w.alloc (.cells #[.int .i64 fr, .int .i64 to_, .int .i64 life, .int .i64 sq, .int .i64 ack, .slice av bs.length cv] 46) = wA at *
  generalize hgA : w.heap.size = gA at *
  clear hwA hgA
  have x1 : wA.cell? ⟨gA, 1, none⟩ = some (.int .i64 to_) := H2.out.2.2.2.cell 1
  go_upto_region 5 with fail
  clear x1
  have hA := H2.out.2.2.2
  have x0 : wA.cell? ⟨gA, 0, none⟩ = some (.int .i64 fr) := hA.cell 0
  have x1 : wA.cell? ⟨gA, 1, none⟩ = some (.int .i64 to_) := hA.cell 1
  have x2 : wA.cell? ⟨gA, 2, none⟩ = some (.int .i64 life) := hA.cell 2
  have x3 : wA.cell? ⟨gA, 3, none⟩ = some (.int .i64 sq) := hA.cell 3
  have x4 : wA.cell? ⟨gA, 4, none⟩ = some (.int .i64 ack) := hA.cell 4
  have x5 : wA.cell? ⟨gA, 5, none⟩ = some (.slice av bs.length cv) := hA.cell 5
  have xg : wA.cell? ⟨g, 1, none⟩ = some (.pointer (some ⟨pb, 0, none⟩)) := H2.out.1.head.cell 1
  have hs := Lib.hid (tw_in (fr := fr) (to_ := to_) (life := life) (sq := sq) (ack := ack) (bs := bs) (v := .slice av bs.length cv) (H2.out.2.2.1.keep0 (Keep.refl [] wA).drew) (fun w' k => ((H2.out.2.1.kx (KX.of0 (X := X) (Keep.refl [] wA).drew)).kx (k.sub (fun x hx => by simp [hx]))).of (k.out (H2.out.1.out.trans (Keep.refl [] wA).drew (by simp)))) hu hsq hkl hol hi)
  clear hA hu hsq hkl hol hi
  go_region_held3 (fun w' => w'.cell? ⟨g, 1, none⟩ = some (.pointer (some ⟨pb, 0, none⟩)) ∧ w'.cell? ⟨gA, 0, none⟩ = some (.int .i64 fr) ∧ w'.cell? ⟨gA, 1, none⟩ = some (.int .i64 to_) ∧ w'.cell? ⟨gA, 2, none⟩ = some (.int .i64 life) ∧ w'.cell? ⟨gA, 3, none⟩ = some (.int .i64 sq) ∧ w'.cell? ⟨gA, 4, none⟩ = some (.int .i64 ack) ∧ w'.cell? ⟨gA, 5, none⟩ = some (.slice av bs.length cv))
    (first | exact ⟨by assumption, by assumption, by assumption, by assumption, by assumption, by assumption, by assumption⟩ | go_keep)
    (first
      | (go_at_call 14; refine hs.out.mono ?_; rintro e w6 ⟨bv, vr, rfl, ho, htw, hkx⟩; obtain ⟨ar, cr, rfl⟩ := ho.rows.shape; have b6 := hkx.blk H2.out.2.2.2 (by simp); have g6 := (hkx.sub (Y := X) (fun x hx => by simp [hx])).blk H2.out.1.head H2.out.1.gX; have y0 : w6.cell? ⟨gA, 0, none⟩ = some (.int .i64 fr) := b6.cell 0; have y1 : w6.cell? ⟨gA, 1, none⟩ = some (.int .i64 to_) := b6.cell 1; have y2 : w6.cell? ⟨gA, 2, none⟩ = some (.int .i64 life) := b6.cell 2; have y3 : w6.cell? ⟨gA, 3, none⟩ = some (.int .i64 sq) := b6.cell 3; have y4 : w6.cell? ⟨gA, 4, none⟩ = some (.int .i64 ack) := b6.cell 4; have y5 : w6.cell? ⟨gA, 5, none⟩ = some (.slice av bs.length cv) := b6.cell 5; have yg : w6.cell? ⟨g, 1, none⟩ = some (.pointer (some ⟨pb, 0, none⟩)) := g6.cell 1))
  have hp := H2.out.1.keep0 (Keep.refl [] wA).drew
  have hlr2 := hlr bv
  clear y0 y1 y2 y3 y4 y5 yg b6 g6 x0 x1 x2 x3 x4 x5 xg hs hlr
  generalize hL : (inR (ackd b ack) sq bs bv).2.2 = L at *
  have h6 := PairIn.link hp (hkx.sub (fun x hx => by simp [hx])) (htw.sub (Y := byteBlocks L ++ X) (fun x hx => by simp only [List.mem_append, List.mem_cons] at hx ⊢; rcases hx with h | h <;> simp [h])).swap (fun x hx => by simp [hx])
  obtain ⟨os, hos⟩ : ∃ os : List BV, os = L.map (fun s => ⟨s.bs, s.bv⟩) := ⟨_, rfl⟩
  have hosb : os.map BV.bs = L.map LD.bs := by rw [hos, List.map_map]; rfl
  have hosv : os.map BV.bv = L.map LD.bv := by rw [hos, List.map_map]; rfl
  have hby : ∀ s ∈ os, ByAt (byteBlocks L ++ X) w0 w6 s := fun s hs => by
    rw [hos] at hs
    obtain ⟨t, ht, rfl⟩ := List.mem_map.1 hs
    exact Or.inl ⟨OwnsAt.mono (ho.bytes t ht) (Nat.zero_le _), fun x hx => List.mem_append_left _ (mem_byteBlocks.2 ⟨t, ht, mem_own.1 hx⟩)⟩
  have hnew := (h6.rows 1 (by omega)).rows
  obtain ⟨a0, c0, hu0⟩ := hnew.shape
  have yc : w6.cell? ⟨g, 5, none⟩ = some (.slice a0 (o 1).length c0) := by rw [← hu0]; exact h6.head.cell 5
  have H6 := Lib.hid h6
  have Ho := Lib.hid ho
  have Hby := Lib.hid hby
  have Hosb := Lib.hid hosb
  have Hosv := Lib.hid hosv
  have Hu0 := Lib.hid hu0
  have Hlo := Lib.hid hlo
  have HL := Lib.hid hL
  have Hlr := Lib.hid hlr2
  have Hll : Hid (os.length = L.length) := Lib.hid (by rw [hos, List.length_map])
  clear hp h6 ho htw hkx hos hosb hosv hby hnew hu0 hlo hlr2 hL
  go_upto_region 6 with fail
  refine wp_region_split 11 (fun w' => w'.cell? ⟨g, 5, none⟩ = some (.slice a0 (o 1).length c0)) (by kernel_rfl) rfl (by kernel_rfl) yc ?_
  clear yc
  intro hHeld
  simp only [List.take_succ_cons, List.take_zero]
  refine wpAnyH_take (i := 0) (v := ?_) rfl (by kernel_rfl) (by kernel_rfl) (by kernel_rfl) (fun _ _ _ h => h) (Or.inl ⟨by rfl, by (intro w hSw; (try dsimp only at hSw); go_simp) <;> with_reducible rfl⟩) (by assumption) ?_
  (try simp only [List.getElem_toArray, List.getElem_cons_succ, List.getElem_cons_zero, Act.put, List.setIfInBounds_toArray, List.set_cons_zero, List.set_cons_succ])
  refine wpAnyH_take (i := 1) (v := ?_) rfl (by kernel_rfl) (by kernel_rfl) (by kernel_rfl) (fun _ _ _ h => h) (Or.inl ⟨by rfl, by (intro w hSw; (try dsimp only at hSw); go_simp) <;> with_reducible rfl⟩) (by assumption) ?_
  (try simp only [List.getElem_toArray, List.getElem_cons_succ, List.getElem_cons_zero, Act.put, List.setIfInBounds_toArray, List.set_cons_zero, List.set_cons_succ])
  refine wpAnyH_take (i := 2) (v := ?_) rfl (by kernel_rfl) (by kernel_rfl) (by kernel_rfl) (fun _ _ _ h => h) (Or.inl ⟨by rfl, by (intro w hSw; (try dsimp only at hSw); go_simp) <;> with_reducible rfl⟩) (by assumption) ?_
  (try simp only [List.getElem_toArray, List.getElem_cons_succ, List.getElem_cons_zero, Act.put, List.setIfInBounds_toArray, List.set_cons_zero, List.set_cons_succ])
  refine wpAnyH_take (i := 3) (v := ?_) rfl (by kernel_rfl) (by kernel_rfl) (by kernel_rfl) (fun _ _ _ h => h) (Or.inl ⟨by rfl, by (intro w hSw; (try dsimp only at hSw); go_simp) <;> with_reducible rfl⟩) (by assumption) ?_
  (try simp only [List.getElem_toArray, List.getElem_cons_succ, List.getElem_cons_zero, Act.put, List.setIfInBounds_toArray, List.set_cons_zero, List.set_cons_succ])
  refine wpAnyH_take (i := 4) (v := ?_) rfl (by kernel_rfl) (by kernel_rfl) (by kernel_rfl) (fun _ _ _ h => h) (Or.inl ⟨by rfl, by (intro w hSw; (try dsimp only at hSw); go_simp) <;> with_reducible rfl⟩) (by assumption) ?_
  (try simp only [List.getElem_toArray, List.getElem_cons_succ, List.getElem_cons_zero, Act.put, List.setIfInBounds_toArray, List.set_cons_zero, List.set_cons_succ])
  refine wpAnyH_take (i := 5) (v := ?_) rfl (by kernel_rfl) (by kernel_rfl) (by kernel_rfl) (fun _ _ _ h => h) (Or.inl ⟨by rfl, by (intro w hSw; (try dsimp only at hSw); go_simp) <;> with_reducible rfl⟩) (by assumption) ?_
  (try simp only [List.getElem_toArray, List.getElem_cons_succ, List.getElem_cons_zero, Act.put, List.setIfInBounds_toArray, List.set_cons_zero, List.set_cons_succ])
  refine wpAnyH_take (i := 6) (v := ?_) rfl (by kernel_rfl) (by kernel_rfl) (by kernel_rfl) (fun _ _ _ h => h) (Or.inl ⟨by rfl, by (intro w hSw; (try dsimp only at hSw); go_simp) <;> with_reducible rfl⟩) (by assumption) ?_
  (try simp only [List.getElem_toArray, List.getElem_cons_succ, List.getElem_cons_zero, Act.put, List.setIfInBounds_toArray, List.set_cons_zero, List.set_cons_succ])
  refine wpAnyH_take (i := 8) (v := ?_) rfl (by kernel_rfl) (by kernel_rfl) (by kernel_rfl) (fun _ _ _ h => h) (Or.inl ⟨by rfl, by (intro w hSw; (try dsimp only at hSw); go_simp) <;> with_reducible rfl⟩) (by assumption) ?_
  (try simp only [List.getElem_toArray, List.getElem_cons_succ, List.getElem_cons_zero, Act.put, List.setIfInBounds_toArray, List.set_cons_zero, List.set_cons_succ])
  refine wpAnyH_take (i := 9) (v := ?_) rfl (by kernel_rfl) (by kernel_rfl) (by kernel_rfl) (fun _ _ _ h => h) (Or.inl ⟨by rfl, by (intro w hSw; (try dsimp only at hSw); go_simp) <;> with_reducible rfl⟩) (by assumption) ?_
  (try simp only [List.getElem_toArray, List.getElem_cons_succ, List.getElem_cons_zero, Act.put, List.setIfInBounds_toArray, List.set_cons_zero, List.set_cons_succ])
  refine wpAnyH_ready (rs := [7]) (by kernel_rfl) (by simp) ?_
  refine AllReadyH.cons (o := { dst := some 49, op := .call { callee := .builtin .append, args := #[.tmp 47, .tmp 48], argTypes := #[42, 42] }, type := 42, pos := "law.go:141", after := #[{ on := 5, ground := .data }, { on := 6, ground := .data }], guard := none }) rfl (fun K hK => ?_) AllReadyH.nil
  refine step_append_off rfl (.tmp 47) (.tmp 48) rfl Try.bss42 w0.heap.size (.slice a0 (o 1).length c0) (o 1).length ((o 1).map BV.bv) (by simp [Act.eval]) (by rw [← Hu0.out]; exact (H6.out.rows 1 (by omega)).rows.keep (Keep.refl [] w6).drew (by simp)) (.slice ar L.length cr) L.length (L.map LD.bv) (by simp [Act.eval]) (src_own2 (Ho.out.rows.keep (Keep.refl [] w6).drew (by simp))) (fun x hx => ?_) (by unfold maxLen; have := Hlo.out; have := Hlr.out; omega) (by have := Hlo.out; have := Hlr.out; omega) H6.out.out.size ?_
  · obtain ⟨s, hs, rfl⟩ := List.mem_map.1 hx
    obtain ⟨_, _, h9⟩ := OwnsAt.shape (Ho.out.bytes s hs)
    rw [h9]
    rfl
  intro v' w4 hown4 hk4 hat4
  have hk4' : Keep (ownBlocks (u 1)) w6 w4 := by rw [Hu0.out]; exact ((Keep.refl _ _).trans (Keep.refl [] w6).drew (by simp)).trans hk4 (fun x hx => Or.inl hx)
  have hrow := H6.out.row (i := 1) (v' := v') (os' := o 1 ++ os) (by omega) hk4' (by rw [List.length_append, List.map_append, Hosv.out, Hll.out]; exact hown4) (by
    rcases hat4 with h | h
    · exact Or.inl (by rw [Hu0.out]; exact h)
    · exact Or.inr (fun x hx => by have := mem_own.1 hx; rw [h] at this; injection this with this; rw [← this]; exact Nat.le_refl _)) (fun s hs => by
    rcases List.mem_append.1 hs with hs | hs
    · exact (H6.out.rows 1 (by omega)).bytes s hs
    · exact Hby.out s hs)
  have hg4 : Blk w4 g 52 [.pointer (some ⟨pa, 0, none⟩), .pointer (some ⟨pb, 0, none⟩), vw, .int .i64 now, u 0, u 1, u 2, u 3] := H6.out.head.keep hk4' (fun hx => OwnsAt.ne_blk (H6.out.rows 1 (by omega)).rows H6.out.head (by decide) (mem_own.1 hx))
  have yc : w4.cell? ⟨g, 5, none⟩ = some (.slice a0 (o 1).length c0) := by rw [← Hu0.out]; exact hg4.cell 5
  have yf : w4.frozen? ⟨g, 5, none⟩ = false := hg4.frozen 5
  obtain ⟨a7, c7, rfl⟩ := hown4.shape
  refine hK.out _ _ yc (fun hHeld => ?_)
  clear hK K
  (try simp only [List.getElem_toArray, List.getElem_cons_succ, List.getElem_cons_zero, Act.put, List.setIfInBounds_toArray, List.set_cons_zero, List.set_cons_succ])
  refine wpAnyH_take (i := 10) (v := ?_) rfl (by kernel_rfl) (by kernel_rfl) (by kernel_rfl) (fun _ _ _ h => h) (Or.inl ⟨by rfl, by (intro w hSw; (try dsimp only at hSw); go_simp) <;> with_reducible rfl⟩) (by assumption) ?_
  (try simp only [List.getElem_toArray, List.getElem_cons_succ, List.getElem_cons_zero, Act.put, List.setIfInBounds_toArray, List.set_cons_zero, List.set_cons_succ])
  have Hfin := Lib.hid hrow
  clear hrow hown4 hk4 hat4 hk4' hg4
  refine wpAnyH_done (by kernel_rfl) ?_ _
  show Oper.wp _ _ _ _ _ _
  go_simp
  clear hHeld
  go_wp2_with fail
  go_ret
  exact ⟨rfl, bv, _, _, os, by rw [HL.out]; exact Hosb.out, Hfin.out⟩
end Go.Proofs.Ytacifjjhadjhfaa
