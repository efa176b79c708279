/- The reference net: Deliver. -/
import Derived.Test.YtolhcikgodaecaaRows
import Derived.WalkKit
import Derived.WalkSpells
import Derived.WalkLawsBesides
import Derived.RegionTactic
import Derived.ChangeAlike
import Derived.BigQuiet
import Derived.Deep.QuietTactic
import Derived.StillTailTactics
import Derived.IntWalk
import Derived.Handy
import Derived.Lib.Hide
import Derived.Deep.AppendLies
import Derived.Deep.RegionWith
import Derived.Deep.RegionLaw
import Derived.Test.YtolhcikgodaecaaBase
import Derived.Test.YtolhcikgodaecaaTail
import Derived.Test.YtolhcikgodaecaaArgs
import Derived.Test.YtolhcikgodaecaaAppend
import Derived.Test.YtolhcikgodaecaaOffs
import Derived.Test.YtolhcikgodaecaaStructs
import Derived.Test.YtolhcikgodaecaaNetObj
import Derived.Test.YtolhcikgodaecaaNetObj2
import Derived.Test.YtolhcikgodaecaaNetSend
import Derived.Test.YtolhcikgodaecaaNetWay
import Derived.Test.YtolhcikgodaecaaNetDel
import Derived.Test.YtolhcikgodaecaaNetSmall
import Derived.Test.YtolhcikgodaecaaSplit
import Derived.Test.YtolhcikgodaecaaNetSmall
import Derived.Test.YtolhcikgodaecaaNetFlip
import Derived.Test.YtolhcikgodaecaaNetDup
import Derived.Deep.CutRange
import Derived.Deep.DeepCutAuto
import Derived.BigRegion
import Derived.Test.YtolhcikgodaecaaRNet
import Derived.Test.YtolhcikgodaecaaRNet2
namespace Go.Proofs.Ytolhcikgodaecaa
open Go.RowKit
theorem src_own {w : World} {B : Nat} {e : TypeId} {size n : Nat} {v : Value} {xs : List Value} (h : OwnsAt w B e size v n xs) : SrcOf w v size n xs := by
  obtain ⟨a, c, rfl⟩ := h.shape
  refine ⟨a, c, rfl, h.1, fun hne => ?_⟩
  have hn : 0 < n := by
    rcases Nat.eq_zero_or_pos n with h0 | h0
    · subst h0
      have := h.1
      simp at this
      exact absurd this hne
    · exact h0
  obtain ⟨g, off, cap, hv, _, _, _, _, h5⟩ := h.form hn
  injection hv with e1 _ _
  subst e1
  exact ⟨_, rfl, fun j u hu => by rw [add_none]; exact h5 j u hu⟩
theorem ps_one {w : World} {B : Nat} {l : List PS} (h : ∀ s ∈ l, OwnB w B s.bv s.bs) : ∀ u ∈ l.flatMap PS.c3, u.oneCell' = true := by
  intro u hu
  rw [List.mem_flatMap] at hu
  obtain ⟨s, hs, hu⟩ := hu
  obtain ⟨a, c, hv⟩ := OwnsAt.shape (h s hs)
  simp only [PS.c3, List.mem_cons, List.not_mem_nil, or_false] at hu
  rcases hu with rfl | rfl | rfl
  · rfl
  · rfl
  · rw [hv]; rfl
theorem bb_sub {a b : List PS} (h : a.Sublist b) : (byteBlocks a).Sublist (byteBlocks b) := by
  induction h with
  | slnil => exact List.Sublist.refl _
  | cons x _ ih => exact ih.trans (List.sublist_append_right _ _)
  | cons_cons x _ ih => exact List.Sublist.append (List.Sublist.refl _) ih
/-- fewer are on the way, in rows that are new -/
theorem RNIn.less {w w2 : World} {B p : Nat} {vw vw' : Value} {ss l : List PS} (h : RNIn w B p vw ss) (hs : l.Sublist ss) (k : Keep [] w w2) (hr : OwnsAt w2 B 29 3 vw' l.length (l.flatMap PS.c3)) (hat : ∀ x, vw'.ownBlock = some x → w.heap.size ≤ x) :
    RNIn (w2.setCell ⟨p, 0, none⟩ vw') B p vw' l ∧ Keep (netFoot p vw ss) w (w2.setCell ⟨p, 0, none⟩ vw') ∧ (∀ x ∈ netFoot p vw' l, x ∈ netFoot p vw ss ∨ w.heap.size ≤ x) := by
  have hd2 : Blk w2 p 42 _ := h.head.keep k (by simp)
  have k3 : Keep [p] w2 (w2.setCell ⟨p, 0, none⟩ vw') := (Keep.refl _ _).setCell (by simp) _
  refine ⟨⟨hd2.set_ 0 _, ?_, fun t ht => ?_, h.nodup.sublist (bb_sub hs), h.base⟩, ?_, ?_⟩
  · exact hr.keep k3 (fun g hg hx => hr.ne_blk hd2 (by decide) ((show g = p by simpa using hx) ▸ hg))
  · have h1 := OwnsAt.keep (h.bytes t (hs.subset ht)) k (by simp)
    exact OwnsAt.keep h1 k3 (fun g hg hx => OwnsAt.ne_blk h1 hd2 (by decide) ((show g = p by simpa using hx) ▸ hg))
  · exact (k.mono (T := netFoot p vw ss) (by simp)).trans k3 (fun x hx => Or.inl (by simp at hx; subst hx; simp [netFoot]))
  · intro x hx
    simp only [netFoot, List.mem_cons, List.mem_append] at hx ⊢
    rcases hx with hx | hx | hx
    · exact Or.inl (Or.inl hx)
    · exact Or.inr (hat x (mem_own.1 hx))
    · exact Or.inl (Or.inr (Or.inr ((bb_sub hs).subset hx)))
def RDelPost (B p : Nat) (F : List Nat) (w : World) (ss : List PS) (k : Int) (e : Ending) (w' : World) : Prop :=
  if isK k ss.length = true then
    ∃ (s : PS) (F' : List Nat), ss[k.toNat]? = some s ∧ e = .returned (.tuple #[.agg #[.int .i64 s.f, .int .i64 s.t, s.bv], .bool true]) ∧ RNAt w' B p F' (ss.eraseIdx k.toNat) ∧ Keep F w w' ∧ (∀ x ∈ F', x ∈ F ∨ w.heap.size ≤ x) ∧ OwnB w' B s.bv s.bs ∧
      (∀ x ∈ ownBlocks s.bv, x ∉ F' ∧ x ∈ F)
  else e = .returned (.tuple #[.agg #[.int .i64 0, .int .i64 0, .slice none 0 0], .bool false]) ∧ Keep [] w w'
def RDel0 (B p : Nat) (F : List Nat) (w : World) (ss : List PS) (kn : Nat) (s : PS) (e : Ending) (w' : World) : Prop :=
  ∃ F' : List Nat, e = .returned (.tuple #[.agg #[.int .i64 s.f, .int .i64 s.t, s.bv], .bool true]) ∧ RNAt w' B p F' (ss.eraseIdx kn) ∧ Keep F w w' ∧ (∀ x ∈ F', x ∈ F ∨ w.heap.size ≤ x) ∧ OwnB w' B s.bv s.bs ∧ (∀ x ∈ ownBlocks s.bv, x ∉ F' ∧ x ∈ F)
theorem not_in_erase : ∀ {ss : List PS} {k : Nat} {s : PS} {x : Nat}, (byteBlocks ss).Nodup → ss[k]? = some s → s.bv.ownBlock = some x → x ∉ byteBlocks (ss.eraseIdx k)
  | [], k, s, x, _, h, _ => by simp at h
  | a :: l, 0, s, x, hn, h, hx => by
    simp only [List.getElem?_cons_zero, Option.some.injEq] at h
    subst h
    have hn' : (ownBlocks a.bv ++ byteBlocks l).Nodup := hn
    rw [List.eraseIdx_cons_zero]
    exact fun hm => (List.nodup_append.1 hn').2.2 x (mem_own.2 hx) x hm rfl
  | a :: l, k + 1, s, x, hn, h, hx => by
    simp only [List.getElem?_cons_succ] at h
    have hn' : (ownBlocks a.bv ++ byteBlocks l).Nodup := hn
    obtain ⟨_, n2, n3⟩ := List.nodup_append.1 hn'
    rw [List.eraseIdx_cons_succ]
    intro hm
    have hm' : x ∈ ownBlocks a.bv ++ byteBlocks (l.eraseIdx k) := hm
    rcases List.mem_append.1 hm' with hm | hm
    · exact n3 x hm x (mem_byteBlocks.2 ⟨s, List.mem_of_getElem? h, hx⟩) rfl
    · exact not_in_erase n2 h hx hm
set_option maxHeartbeats 16000000 in
set_option maxRecDepth 100000 in
theorem deliverR_spec {w : World} {B p : Nat} {F : List Nat} {ss : List PS} (k : Int) (h : RNAt w B p F ss) (hB : B ≤ w.heap.size) (hl : ss.length ≤ 100000) :
    Calls Try.prog 16 #[.pointer (some ⟨p, 0, none⟩), .int .i64 k] w (RDelPost B p F w ss k) := by
  obtain ⟨vw, h, rfl⟩ := h
  obtain ⟨aw, cw, rfl⟩ := h.rows.shape
  have hlI : (ss.length : Int) ≤ 100000 := by omega
  have hk0 : Keep [] w (w.alloc (.cells #[.int .i64 0, .int .i64 0, .slice none 0 0] 29)) := (Keep.refl _ _).alloc _
  have br : Blk (w.alloc (.cells #[.int .i64 0, .int .i64 0, .slice none 0 0] 29)) w.heap.size 29 [.int .i64 0, .int .i64 0, .slice none 0 0] := Blk.new' w _ _ _ rfl
  have c0w : (w.alloc (.cells #[.int .i64 0, .int .i64 0, .slice none 0 0] 29)).cell? ⟨p, 0, none⟩ = some (.slice aw ss.length cw) := (h.head.alloc _).cell 0
  by_cases hin : 0 ≤ k ∧ k < ss.length
  · obtain ⟨kn, rfl⟩ := Int.eq_ofNat_of_zero_le hin.1
    have hk : kn < ss.length := by omega
    obtain ⟨n, hlen⟩ : ∃ n, ss.length = n + 1 := ⟨ss.length - 1, by omega⟩
    obtain ⟨s, hs⟩ : ∃ s, ss[kn]? = some s := ⟨_, List.getElem?_eq_getElem hk⟩
    have hrows := h.rows
    rw [hlen] at hrows c0w
    obtain ⟨g, off, rfl, _, hg2, hcells, hcap, hfr⟩ := hrows.rowAt PS.c3_len hs (by omega)
    obtain ⟨sa, sc, hsv⟩ := OwnsAt.shape (h.bytes s (List.mem_of_getElem? hs))
    have hgl : ∀ o v, w.cell? ⟨g, o, none⟩ = some v → (w.alloc (.cells #[.int .i64 0, .int .i64 0, .slice none 0 0] 29)).cell? ⟨g, o, none⟩ = some v := fun o v hv => (hk0.cell (p := ⟨g, o, none⟩) hg2 (by simp)).trans hv
    have e0 : (w.alloc (.cells #[.int .i64 0, .int .i64 0, .slice none 0 0] 29)).cell? ⟨g, off + kn * 3, none⟩ = some (.int .i64 s.f) := hgl _ _ (hcells 0 (.int .i64 s.f) (by omega) rfl)
    have e1 := hgl _ _ (hcells 1 (.int .i64 s.t) (by omega) rfl)
    have e2 := hgl _ _ (hcells 2 s.bv (by omega) rfl)
    rw [hsv] at e2
    have hpost : RDelPost B p (netFoot p (.slice (some ⟨g, off, none⟩) ss.length cw) ss) w ss kn = RDel0 B p (netFoot p (.slice (some ⟨g, off, none⟩) ss.length cw) ss) w ss kn s := by
      funext e w'
      unfold RDelPost RDel0
      rw [if_pos (by unfold isK; simp; omega)]
      simp only [Int.toNat_natCast]
      apply propext
      constructor
      · rintro ⟨s', F', h1, h2⟩
        rw [hs] at h1
        cases h1
        exact ⟨F', h2⟩
      · rintro ⟨F', h2⟩
        exact ⟨s, F', hs, h2⟩
    rw [hpost]
    have hkA : Keep [] w ((w.alloc (.cells #[.int .i64 0, .int .i64 0, .slice none 0 0] 29)).alloc (.cells #[.int .i64 s.f, .int .i64 s.t, .slice sa s.bs.length sc] 29)) := hk0.alloc _
    have b1 : Blk ((w.alloc (.cells #[.int .i64 0, .int .i64 0, .slice none 0 0] 29)).alloc (.cells #[.int .i64 s.f, .int .i64 s.t, .slice sa s.bs.length sc] 29)) (w.heap.size + 1) 29 [.int .i64 s.f, .int .i64 s.t, .slice sa s.bs.length sc] := by
      have := Blk.new' (w.alloc (.cells #[.int .i64 0, .int .i64 0, .slice none 0 0] 29)) 29 #[.int .i64 s.f, .int .i64 s.t, .slice sa s.bs.length sc] _ rfl
      simpa using this
    have b0 := br.alloc (.cells #[.int .i64 s.f, .int .i64 s.t, .slice sa s.bs.length sc] 29)
    have c0A : ((w.alloc (.cells #[.int .i64 0, .int .i64 0, .slice none 0 0] 29)).alloc (.cells #[.int .i64 s.f, .int .i64 s.t, .slice sa s.bs.length sc] 29)).cell? ⟨p, 0, none⟩ = some (.slice (some ⟨g, off, none⟩) (n + 1) cw) := by
      have := (h.head.keep hkA (by simp)).cell 0
      rw [hlen] at this
      exact this
    have hszA : ((w.alloc (.cells #[.int .i64 0, .int .i64 0, .slice none 0 0] 29)).alloc (.cells #[.int .i64 s.f, .int .i64 s.t, .slice sa s.bs.length sc] 29)).heap.size = w.heap.size + 2 := by simp
    have HszA := Lib.hid hszA
    have H := Lib.hid h
    have Hs := Lib.hid hs
    have Hlen := Lib.hid hlen
    have Hrows := Lib.hid hrows
    have Hsv := Lib.hid hsv
    have hkn2 : (kn : Int) < (n : Int) + 1 := by omega
    have hn2 : (n : Int) ≤ 100000 := by omega
    have hplt := h.head.lt
    have hwr : IntKind.i64.wrap ((kn : Int) + 1) = ((kn + 1 : Nat) : Int) := by rw [IntWalk.i64_in _ (by omega)]; rfl
    have hknc : kn + 1 ≤ cw := by omega
    have hlg : ¬ ((n : Int) + 1 ≤ (kn : Int)) := by omega
    have B1 := Lib.hid b1
    have B0 := Lib.hid b0
    have HkA := Lib.hid hkA
    have C0A := Lib.hid c0A
    clear hcells hfr hin hs hlen h hrows hsv hgl hpost hk0 br b1 b0 hkA c0A hszA
    go_enter Try.func16, Try.ntmps16
    go_upto_region 4 with fail
    have c0A := C0A.out
    clear C0A c0w e0 e1 e2
    generalize (w.alloc (.cells #[.int .i64 0, .int .i64 0, .slice none 0 0] 29)).alloc (.cells #[.int .i64 s.f, .int .i64 s.t, .slice sa s.bs.length sc] 29) = wA at *
    go_cut [7] from 27 (fun v6 wx => OwnsAt wx B 29 3 v6 (n - kn) ((ss.drop (kn + 1)).flatMap PS.c3) ∧ Keep [] wA wx ∧ ∀ x, v6.ownBlock = some x → w.heap.size ≤ x)
    case first =>
      have hone : ∀ t ∈ ss, OwnB wA B t.bv t.bs := fun t ht => OwnsAt.keep (H.out.bytes t ht) HkA.out (by simp)
      have Hone := Lib.hid hone
      clear hone
      by_cases hc : cw = kn + 1
      · have hnk : n = kn := by omega
        have hdrop : ss.drop (kn + 1) = [] := List.drop_of_length_le (by have := Hlen.out; omega)
        have Hdrop := Lib.hid hdrop
        have hsrc : ∀ a c, SrcOf wA (.slice a 0 c) 3 0 ([] : List Value) := fun a c => ⟨a, c, rfl, rfl, fun h => absurd rfl h⟩
        subst hc
        subst hnk
        clear hdrop
        go_wp2_with (at_builtin; refine wpList_append_off rfl _ _ rfl Try.pcs32 B (.slice none 0 0) 0 [] rfl (OwnsAt.nil _ _ _ _) _ 0 _ rfl (hsrc _ _) (by simp) (by unfold maxLen; omega) (by omega) (by have := HszA.out; omega) ?_)
        intro v6 w6 h6 k6 hb6
        go_wp2
        go_meet
        case rel => exact ⟨by rw [Hdrop.out, Nat.sub_self]; simpa using h6, k6, fun y hy => by
          rcases hb6 with h | h
          · rw [h] at hy; cases hy
          · rw [h] at hy; cases hy; have := HszA.out; omega⟩
      · have hsrc := SrcOf.of_own (Hrows.out.keep HkA.out (by simp)) (show kn + 1 ≤ n + 1 by omega) (cw - (kn + 1))
        rw [flat_drop PS.c3_len, show n + 1 - (kn + 1) = n - kn by omega] at hsrc
        have Hsrc := Lib.hid hsrc
        clear hsrc
        go_wp2_with (at_builtin; refine wpList_append_off rfl _ _ rfl Try.pcs32 B (.slice none 0 0) 0 [] rfl (OwnsAt.nil _ _ _ _) _ (n - kn) _ rfl Hsrc.out (ps_one (fun t ht => Hone.out t (List.mem_of_mem_drop ht))) (by unfold maxLen; omega) (by omega) (by have := HszA.out; omega) ?_)
        intro v6 w6 h6 k6 hb6
        go_wp2
        go_meet
        case rel => exact ⟨by simpa using h6, k6, fun y hy => by
          rcases hb6 with h | h
          · rw [h] at hy; cases hy
          · rw [h] at hy; cases hy; have := HszA.out; omega⟩
    case rest =>
      obtain ⟨h6, k6, hb6⟩ := hcut
      have hkW := HkA.out.trans k6 (by simp)
      have hpre := (Hrows.out.keep hkW (by simp)).cutAt (show kn ≤ n + 1 by omega)
      rw [flat_take PS.c3_len] at hpre
      have hszc : w.heap.size + 2 ≤ wc.heap.size := by have := k6.size; have := HszA.out; omega
      have hone : ∀ t ∈ ss, OwnB wc B t.bv t.bs := fun t ht => OwnsAt.keep (H.out.bytes t ht) hkW (by simp)
      have Hone := Lib.hid hone
      have Hpre := Lib.hid hpre
      have H6 := Lib.hid h6
      have K6 := Lib.hid k6
      have c0c : wc.cell? ⟨p, 0, none⟩ = some (.slice (some ⟨g, off, none⟩) (n + 1) cw) := (k6.cell (show p < wA.heap.size by have := HszA.out; omega) (by simp)).trans c0A
      obtain ⟨a6, c6, rfl⟩ := h6.shape
      clear h6 k6 hkW hpre c0A hone
      go_wp2_with (at_builtin; refine wpList_append_off rfl _ _ rfl Try.pcs32 B (.slice none 0 0) 0 [] rfl (OwnsAt.nil _ _ _ _) _ kn _ rfl (src_own Hpre.out) (ps_one (fun t ht => Hone.out t (List.mem_of_mem_take ht))) (by unfold maxLen; omega) (by omega) (by omega) ?_)
      intro v5 w5 h5 k5 hb5
      have h5 : OwnsAt w5 B 29 3 v5 kn ((ss.take kn).flatMap PS.c3) := by simpa using h5
      have k5' : Keep [] wc w5 := k5
      have H6' := Lib.hid (H6.out.keep k5' (by simp))
      have hb5' : ∀ y, v5.ownBlock = some y → wc.heap.size ≤ y := fun y hy => by
        rcases hb5 with h | h
        · rw [h] at hy; cases hy
        · rw [h] at hy; cases hy; exact Nat.le_refl _
      have hsz5 : wc.heap.size ≤ w5.heap.size := k5'.size
      have H5 := Lib.hid h5
      have K5 := Lib.hid k5'
      have Hb5 := Lib.hid hb5'
      obtain ⟨a5, c5, rfl⟩ := h5.shape
      clear h5 k5 k5' hb5 hb5' H6 Hpre
      go_wp2_with (at_builtin; refine wpList_append_off rfl _ _ rfl Try.pcs32 B (.slice a5 kn c5) kn _ rfl H5.out _ (n - kn) _ rfl (src_own H6'.out) (ps_one (fun t ht => OwnsAt.keep (Hone.out t (List.mem_of_mem_drop ht)) K5.out (by simp))) (by unfold maxLen; omega) (by omega) (by omega) ?_)
      intro v7 w7 h7 k7 hb7
      have hb7' : ∀ y, v7.ownBlock = some y → w.heap.size + 2 ≤ y := fun y hy => by
        rcases hb7 with h | h
        · rw [h] at hy; have := Hb5.out y hy; omega
        · rw [h] at hy; cases hy; omega
      have hflat : (ss.take kn).flatMap PS.c3 ++ (ss.drop (kn + 1)).flatMap PS.c3 = (ss.eraseIdx kn).flatMap PS.c3 := by
        rw [← List.flatMap_append, List.eraseIdx_eq_take_drop_succ]
      have hel : (ss.eraseIdx kn).length = n := by rw [List.length_eraseIdx_of_lt hk]; have := Hlen.out; omega
      rw [hflat, show kn + (n - kn) = n by omega] at h7
      have k7A : Keep [] wA w7 := (K6.out.trans K5.out (by simp)).trans k7 (fun y hy => Or.inr (by have := Hb5.out y (mem_own.1 hy); have := K6.out.size; omega))
      have k7' : Keep [] w w7 := HkA.out.trans k7A (by simp)
      have hd7 := H.out.head.keep k7' (by simp)
      have c07 : w7.cell? ⟨p, 0, none⟩ = some (.slice (some ⟨g, off, none⟩) ss.length cw) := hd7.cell 0
      have f07 := hd7.frozen 0
      obtain ⟨t1, t2, t3⟩ := RNIn.less (l := ss.eraseIdx kn) H.out (List.eraseIdx_sublist ss kn) k7' (by rw [hel]; exact h7) (fun x hx => by have := hb7' x hx; omega)
      have hob := OwnsAt.keep (H.out.bytes s (List.mem_of_getElem? Hs.out)) k7' (by simp)
      have kp : Keep [p] w7 (w7.setCell ⟨p, 0, none⟩ v7) := (Keep.refl _ _).setCell (by simp) _
      have hob2 := OwnsAt.keep hob kp (fun x hx hm => OwnsAt.ne_blk hob hd7 (by decide) ((show x = p by simpa using hm) ▸ hx))
      have q1 : Blk (w7.setCell ⟨p, 0, none⟩ v7) (w.heap.size + 1) 29 [.int .i64 s.f, .int .i64 s.t, .slice sa s.bs.length sc] := (B1.out.keep k7A (by simp)).far (by simp; omega) _
      have q0 : Blk (w7.setCell ⟨p, 0, none⟩ v7) w.heap.size 29 [.int .i64 0, .int .i64 0, .slice none 0 0] := (B0.out.keep k7A (by simp)).far (by simp; omega) _
      have hnin : ∀ x ∈ ownBlocks s.bv, x ∉ netFoot p v7 (ss.eraseIdx kn) ∧ x ∈ netFoot p (.slice (some ⟨g, off, none⟩) ss.length cw) ss := fun x hx => by
        have hx' := mem_own.1 hx
        refine ⟨fun hm => ?_, ?_⟩
        · simp only [netFoot, List.mem_cons, List.mem_append] at hm
          rcases hm with rfl | hm | hm
          · exact OwnsAt.ne_blk hob hd7 (by decide) hx'
          · have h1 := (OwnsAt.lt (H.out.bytes s (List.mem_of_getElem? Hs.out)) x hx').2
            have h2 := hb7' x (mem_own.1 hm)
            omega
          · exact not_in_erase H.out.nodup Hs.out hx' hm
        · simp only [netFoot, List.mem_cons, List.mem_append]
          exact Or.inr (Or.inr (mem_byteBlocks.2 ⟨s, List.mem_of_getElem? Hs.out, hx'⟩))
      have hnr : w.heap.size ∉ netFoot p v7 (ss.eraseIdx kn) := fun hm => by
        simp only [netFoot, List.mem_cons, List.mem_append] at hm
        rcases hm with h | h | h
        · omega
        · have := hb7' _ (mem_own.1 h)
          omega
        · obtain ⟨t, ht, hb⟩ := mem_byteBlocks.1 ((bb_sub (List.eraseIdx_sublist ss kn)).subset h)
          have := (OwnsAt.lt (H.out.bytes t ht) _ hb).2
          omega
      have Hnr := Lib.hid hnr
      clear hnr
      obtain ⟨a7, c7, rfl⟩ := h7.shape
      have T1 := Lib.hid t1
      have T2 := Lib.hid t2
      have T3 := Lib.hid t3
      have Hob := Lib.hid hob2
      have Hnin := Lib.hid hnin
      have hszw : w.heap.size + 2 ≤ (w7.setCell ⟨p, 0, none⟩ (.slice a7 n c7)).heap.size := by have := k7A.size; have := HszA.out; simp; omega
      clear h7 k7 hb7 hb7' hflat hel t1 t2 t3 hd7 hob hob2 K5 K6 H5 H6' Hb5 hb6 k7A k7' kp c0c hnin B0 B1 HkA
      rw [Hlen.out] at c07
      go_upto_region 6 with fail
      clear c07 f07
      generalize w7.setCell ⟨p, 0, none⟩ (.slice a7 n c7) = w8 at *
      have z0 : w8.cell? ⟨w.heap.size + 1, 0, none⟩ = some (.int .i64 s.f) := q1.cell 0
      have z1 : w8.cell? ⟨w.heap.size + 1, 1, none⟩ = some (.int .i64 s.t) := q1.cell 1
      have z2 : w8.cell? ⟨w.heap.size + 1, 2, none⟩ = some (.slice sa s.bs.length sc) := q1.cell 2
      have y0 : w8.cell? ⟨w.heap.size, 0, none⟩ = some (.int .i64 0) := q0.cell 0
      have y1 : w8.cell? ⟨w.heap.size, 1, none⟩ = some (.int .i64 0) := q0.cell 1
      have y2 : w8.cell? ⟨w.heap.size, 2, none⟩ = some (.slice none 0 0) := q0.cell 2
      have f0 := q0.frozen 0
      have f1 := q0.frozen 1
      have f2 := q0.frozen 2
      have hfin : ∀ w9, w9 = ((w8.setCell ⟨w.heap.size, 0, none⟩ (.int .i64 s.f)).setCell ⟨w.heap.size, 1, none⟩ (.int .i64 s.t)).setCell ⟨w.heap.size, 2, none⟩ (.slice sa s.bs.length sc) → RDel0 B p (netFoot p (.slice (some ⟨g, off, none⟩) ss.length cw) ss) w ss kn s (.returned (.tuple #[.agg #[.int .i64 s.f, .int .i64 s.t, .slice sa s.bs.length sc], .bool true])) w9 := by
        rintro w9 rfl
        have k9 : Keep [w.heap.size] w8 (((w8.setCell ⟨w.heap.size, 0, none⟩ (.int .i64 s.f)).setCell ⟨w.heap.size, 1, none⟩ (.int .i64 s.t)).setCell ⟨w.heap.size, 2, none⟩ (.slice sa s.bs.length sc)) := (((Keep.refl _ _).setCell (by simp) _).setCell (by simp) _).setCell (by simp) _
        have hnf : ∀ x ∈ netFoot p (.slice a7 n c7) (ss.eraseIdx kn), x ∉ [w.heap.size] := fun x hx hm => by
          have hxe : x = w.heap.size := by simpa using hm
          subst hxe
          rcases T3.out _ hx with h | h
          · have := RNAt.lt ⟨_, H.out, rfl⟩ _ h
            omega
          · exact Hnr.out hx
        refine ⟨_, by rw [Hsv.out], ⟨_, T1.out.keep k9 hnf, rfl⟩, T2.out.trans k9 (fun x hx => Or.inr (by rw [show x = w.heap.size by simpa using hx]; exact Nat.le_refl _)), T3.out, OwnsAt.keep Hob.out k9 (fun x hx hm => ?_), Hnin.out⟩
        have hxe : x = w.heap.size := by simpa using hm
        have := (OwnsAt.lt (H.out.bytes s (List.mem_of_getElem? Hs.out)) x hx).2
        omega
      have Hfin := Lib.hid hfin
      clear hfin q0 q1 T1 T2 T3 Hob Hnin
      go_wp2
      exact bodyPost_ret (v := .tuple #[.agg #[.int .i64 s.f, .int .i64 s.t, .slice sa s.bs.length sc], .bool true]) (by simp [results, Try.results16, go_sem, y0, y1, y2]) rfl (Hfin.out _ rfl)
  · have hno : ¬ isK k ss.length = true := by unfold isK; simpa using hin
    have Hfin : Hid (∀ w', Keep [] w w' → RDelPost B p (netFoot p (.slice aw ss.length cw) ss) w ss k (.returned (.tuple #[.agg #[.int .i64 0, .int .i64 0, .slice none 0 0], .bool false])) w') := Lib.hid (fun w' hk => by
      unfold RDelPost
      rw [if_neg hno]
      exact ⟨rfl, hk⟩)
    have y0 : (w.alloc (.cells #[.int .i64 0, .int .i64 0, .slice none 0 0] 29)).cell? ⟨w.heap.size, 0, none⟩ = some (.int .i64 0) := br.cell 0
    have y1 : (w.alloc (.cells #[.int .i64 0, .int .i64 0, .slice none 0 0] 29)).cell? ⟨w.heap.size, 1, none⟩ = some (.int .i64 0) := br.cell 1
    have y2 : (w.alloc (.cells #[.int .i64 0, .int .i64 0, .slice none 0 0] 29)).cell? ⟨w.heap.size, 2, none⟩ = some (.slice none 0 0) := br.cell 2
    have f0 := br.frozen 0
    have f1 := br.frozen 1
    have f2 := br.frozen 2
    have Hk9 := Lib.hid hk0
    clear h br hno hk0
    by_cases h0 : k < 0
    · go_enter Try.func16, Try.ntmps16
      go_wp2
      exact bodyPost_ret (v := .tuple #[.agg #[.int .i64 0, .int .i64 0, .slice none 0 0], .bool false]) (by simp [results, Try.results16, go_sem, y0, y1, y2]) rfl (Hfin.out _ Hk9.out)
    · have h1 : (ss.length : Int) ≤ k := by omega
      clear hin
      go_enter Try.func16, Try.ntmps16
      go_wp2
      exact bodyPost_ret (v := .tuple #[.agg #[.int .i64 0, .int .i64 0, .slice none 0 0], .bool false]) (by simp [results, Try.results16, go_sem, y0, y1, y2]) rfl (Hfin.out _ Hk9.out)
end Go.Proofs.Ytolhcikgodaecaa
