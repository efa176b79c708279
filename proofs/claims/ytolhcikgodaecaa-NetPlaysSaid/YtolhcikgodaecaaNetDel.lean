/- Nets: Delete, Deliver. -/
import Derived.Test.YtolhcikgodaecaaRows
import Derived.WalkKit
import Derived.WalkSpells
import Derived.WalkLawsBesides
import Derived.RegionTactic
import Derived.ChangeAlike
import Derived.BigQuiet
import Derived.Deep.QuietTactic
import Derived.StillTailTactics
import Derived.IntWalk
import Derived.Handy
import Derived.Lib.Hide
import Derived.Deep.AppendLies
import Derived.Deep.RegionWith
import Derived.Test.YtolhcikgodaecaaBase
import Derived.Test.YtolhcikgodaecaaTail
import Derived.Test.YtolhcikgodaecaaArgs
import Derived.Test.YtolhcikgodaecaaAppend
import Derived.Test.YtolhcikgodaecaaOffs
import Derived.Test.YtolhcikgodaecaaStructs
import Derived.Test.YtolhcikgodaecaaNetObj
import Derived.Test.YtolhcikgodaecaaNetObj2
import Derived.Test.YtolhcikgodaecaaNetSend
import Derived.Test.YtolhcikgodaecaaNetWay
namespace Go.Proofs.Ytolhcikgodaecaa
open Go.RowKit

theorem OwnsAt.cutAt {w : World} {B : Nat} {e : TypeId} {size : Nat} {g off n cap : Nat} {xs : List Value} (h : OwnsAt w B e size (.slice (some ⟨g, off, none⟩) n cap) n xs) {k : Nat} (hk : k ≤ n) : OwnsAt w B e size (.slice (some ⟨g, off, none⟩) k cap) k (xs.take (k * size)) := by
  have hl := h.1
  have hmul : k * size ≤ n * size := Nat.mul_le_mul_right _ hk
  refine ⟨by rw [List.length_take]; omega, ?_⟩
  rcases h.2 with ⟨h0, _⟩ | ⟨g', off', cap', cur, hv, hb, hg, h3, h4, h5, h6⟩
  · cases h0
  · injection hv with e1 e2 e3
    injection e1 with e1
    injection e1 with e1 e4
    subst e1 e3 e4
    refine Or.inr ⟨g, off, cap, cur, rfl, hb, hg, by omega, h4, h5, ?_⟩
    rw [← h6, List.take_take, Nat.min_eq_left hmul]
def DelPost (B g off n cap : Nat) (w : World) (xs : List Value) (e : Ending) (w' : World) : Prop :=
  e = .returned (.slice (some ⟨g, off, none⟩) n cap) ∧ OwnsAt w' B 54 4 (.slice (some ⟨g, off, none⟩) n cap) n xs ∧ Keep [g] w w'
theorem SrcOf.of_own {w : World} {B : Nat} {e : TypeId} {size : Nat} {g off n cap : Nat} {xs : List Value} (h : OwnsAt w B e size (.slice (some ⟨g, off, none⟩) n cap) n xs) {k : Nat} (hk : k ≤ n) (c : Nat) :
    SrcOf w (.slice (some ⟨g, off + k * size, none⟩) (n - k) c) size (n - k) (xs.drop (k * size)) := by
  have hl := h.1
  refine ⟨_, _, rfl, by rw [List.length_drop, hl, Nat.sub_mul], fun hne => ⟨_, rfl, fun j u hu => ?_⟩⟩
  rw [add_none, Nat.add_assoc]
  have hn : 0 < n := by
    rcases Nat.eq_zero_or_pos n with h0 | h0
    · subst h0; simp at hl; subst hl; simp at hne
    · exact h0
  obtain ⟨g', off', cap', hv, _, _, _, _, h5⟩ := h.form hn
  injection hv with e1 _ _
  injection e1 with e1
  injection e1 with e1 e2
  subst e1 e2
  exact h5 _ u (by rw [← List.getElem?_drop]; exact hu)
set_option maxHeartbeats 4000000 in
set_option maxRecDepth 100000 in
theorem delete_spec {w : World} {B g off n cap k : Nat} {ss : List PS} (h : OwnsAt w B 54 4 (.slice (some ⟨g, off, none⟩) (n + 1) cap) (n + 1) (ss.flatMap PS.c4)) (hl : ss.length = n + 1) (hk : k < n + 1) (hn : n ≤ 1000000) (hone' : ∀ s ∈ ss, ∃ a c, s.bv = .slice a s.bs.length c) :
    Calls Try.prog 25 #[.slice (some ⟨g, off, none⟩) (n + 1) cap, .int .i64 k, .int .i64 ((k : Int) + 1)] w (DelPost B g off n cap w ((ss.eraseIdx k).flatMap PS.c4)) := by
  have hcap : n + 1 ≤ cap ∧ cap ≤ maxLen := by
    obtain ⟨g', off', cap', hv, h1, h2, _⟩ := h.form (by omega)
    injection hv with e1 e2 e3
    subst e3
    exact ⟨h1, h2⟩
  obtain ⟨hcap, hcm⟩ := hcap
  unfold maxLen at hcm
  have H := Lib.hid h
  have Hl := Lib.hid hl
  have Hn := Lib.hid hn
  have hn2 : (n : Int) ≤ 9000000000 := by omega
  clear h hl hn
  go_enter Try.func25, Try.ntmps25
  have hz : ∀ w, (zeroValue 54).run Try.prog w = .ok (.agg #[.int .i64 0, .int .i64 0, .slice none 0 0, .bool false]) w := fun _ => by kernel_rfl
  have Hz := Lib.hid hz
  clear hz
  have hz1 : ∀ u ∈ (Value.agg #[.int .i64 0, .int .i64 0, .slice none 0 0, .bool false]).cells, u.oneCell' = true := by
    show ∀ u ∈ (#[.int .i64 0, .int .i64 0, .slice none 0 0, .bool false] : Array Value), u.oneCell' = true
    simp [Value.oneCell']
  have hpre := H.out.cutAt (show k ≤ n + 1 by omega)
  rw [flat_take PS.c4_len] at hpre
  have fin : ∀ (w1 w2 : World), Keep [] w w1 → OwnsAt w2 B 54 4 (.slice (some ⟨g, off, none⟩) (k + (n - k)) cap) (k + (n - k)) ((ss.take k).flatMap PS.c4 ++ (ss.drop (k + 1)).flatMap PS.c4) → Keep [g] w1 w2 →
      ∃ w3, (Builtin.clear_ #[49] 0 #[.slice (some ⟨g, off + n * 4, none⟩) 1 (cap - n)]).run Try.prog w2 = .ok (.tuple #[]) w3 ∧ DelPost B g off n cap w ((ss.eraseIdx k).flatMap PS.c4) (.returned (.slice (some ⟨g, off, none⟩) n cap)) w3 := by
    intro w1 w2 k1 h1 k2
    have e1 : (ss.take k).flatMap PS.c4 ++ (ss.drop (k + 1)).flatMap PS.c4 = (ss.eraseIdx k).flatMap PS.c4 := by
      rw [← List.flatMap_append, List.eraseIdx_eq_take_drop_succ]
    rw [e1, show k + (n - k) = n by omega] at h1
    obtain ⟨w3, h3, h4, h5⟩ := run_clear_own (P := Try.prog) Try.underlying49 Hz.out (size := 4) rfl hz1 0 B g off cap n 1 (cap - n) _ h1 hcap
    exact ⟨w3, h3, rfl, h4, (k1.mono (T := [g]) (by simp)).trans (k2.trans h5 (by simp)) (by simp)⟩
  have Fin := Lib.hid fin
  clear fin
  have hkn : ((k : Int) + ((n : Int) - (k : Int))) = n := by omega
  by_cases hc : cap = k + 1
  · obtain rfl : k = n := by omega
    have hdrop : ss.drop (k + 1) = [] := List.drop_of_length_le (by have := Hl.out; omega)
    have Hdrop := Lib.hid hdrop
    subst hc
    clear hdrop hone'
    go_wp2
    refine wp_region_quiet_tail 6 (by kernel_rfl) (by kernel_rfl) ?_
    simp only [List.take_succ_cons, List.take_zero, List.drop_succ_cons, List.drop_zero]
    repeat (go_big_quiet_step (fail))
    refine quiet_tail_end ?_
    rintro _ ⟨nq, rfl⟩
    have hsrc : ∀ a, SrcOf (w.drewN nq) (.slice a 0 0) 4 0 ([] : List Value) := fun a => ⟨a, 0, rfl, rfl, fun h => absurd rfl h⟩
    go_wp2_with (at_builtin; refine wpList_append_fit rfl _ _ rfl Try.way49 B g off (k + 1) k _ rfl (hpre.keep ((Keep.refl [] _).drewN nq) (by simp)) _ 0 _ rfl (hsrc _) (by simp) (by omega) ?_)
    intro w2 hown2 hk2
    have hown3 : OwnsAt w2 B 54 4 (.slice (some ⟨g, off, none⟩) (k + (k - k)) (k + 1)) (k + (k - k)) ((ss.take k).flatMap PS.c4 ++ (ss.drop (k + 1)).flatMap PS.c4) := by
      rw [Hdrop.out, Nat.sub_self]
      simpa using hown2
    obtain ⟨w3, hcl, hpost⟩ := Fin.out _ w2 ((Keep.refl [] w).drewN nq) hown3 hk2
    rw [show k + 1 - k = 1 by omega] at hcl
    clear hown2 hk2 hown3 hsrc hpre
    go_wp2
    go_ret
    exact hpost
  · have hsrc := fun nq => SrcOf.of_own (H.out.keep ((Keep.refl [] w).drewN nq) (by simp)) (show k + 1 ≤ n + 1 by omega) (cap - (k + 1))
    rw [flat_drop PS.c4_len, show n + 1 - (k + 1) = n - k by omega] at hsrc
    have Hsrc := Lib.hid hsrc
    have Hpre := Lib.hid hpre
    have hone : ∀ u ∈ (ss.drop (k + 1)).flatMap PS.c4, u.oneCell' = true := by
      intro u hu
      rw [List.mem_flatMap] at hu
      obtain ⟨s, hs, hu⟩ := hu
      obtain ⟨a, c, hbv⟩ := hone' s (List.mem_of_mem_drop hs)
      simp only [PS.c4, List.mem_cons, List.not_mem_nil, or_false] at hu
      rcases hu with rfl | rfl | rfl | rfl
      · rfl
      · rfl
      · rw [hbv]; rfl
      · rfl
    have Hone := Lib.hid hone
    clear hsrc hpre hone hone'
    go_wp2
    refine wp_region_quiet_tail 6 (by kernel_rfl) (by kernel_rfl) ?_
    simp only [List.take_succ_cons, List.take_zero, List.drop_succ_cons, List.drop_zero]
    repeat (go_big_quiet_step (fail))
    refine quiet_tail_end ?_
    rintro _ ⟨nq, rfl⟩
    go_wp2_with (at_builtin; refine wpList_append_fit rfl _ _ rfl Try.way49 B g off cap k _ rfl (Hpre.out.keep ((Keep.refl [] _).drewN nq) (by simp)) _ (n - k) _ rfl (Hsrc.out nq) Hone.out (by omega) ?_)
    intro w2 hown2 hk2
    obtain ⟨w3, hcl, hpost⟩ := Fin.out _ w2 ((Keep.refl [] w).drewN nq) hown2 hk2
    clear hown2 hk2
    rw [show k + (n - k) = n by omega]
    go_wp2
    go_ret
    exact hpost
/-! ### Deliver -/
theorem NetIn.erase {w w2 : World} {B p g off off' n cap cap' kn : Nat} {ss : List PS} {s : PS} (h : NetIn w B p (.slice (some ⟨g, off, none⟩) ss.length cap) ss) (hi : ss[kn]? = some s) (k : Keep [p, g] w w2) (hh : Blk w2 p 51 [.slice (some ⟨g, off', none⟩) n cap'])
    (hr : OwnsAt w2 B 54 4 (.slice (some ⟨g, off', none⟩) n cap') n ((ss.eraseIdx kn).flatMap PS.c4)) (hn : ss.length = n + 1) :
    NetIn w2 B p (.slice (some ⟨g, off', none⟩) n cap') (ss.eraseIdx kn) ∧ (∀ x ∈ netFoot p (.slice (some ⟨g, off', none⟩) n cap') (ss.eraseIdx kn), x ∈ netFoot p (.slice (some ⟨g, off, none⟩) ss.length cap) ss) ∧ OwnB w2 B s.bv s.bs ∧
      ∀ x ∈ ownBlocks s.bv, x ∉ netFoot p (.slice (some ⟨g, off', none⟩) n cap') (ss.eraseIdx kn) ∧ x ∈ netFoot p (.slice (some ⟨g, off, none⟩) ss.length cap) ss := by
  have hkn : kn < ss.length := by
    rcases Nat.lt_or_ge kn ss.length with h' | h'
    · exact h'
    · rw [List.getElem?_eq_none h'] at hi; cases hi
  have hs : s ∈ ss := List.mem_of_getElem? hi
  have hsplit : ss = ss.take kn ++ s :: ss.drop (kn + 1) := by
    have := List.take_append_drop kn ss
    rw [List.drop_eq_getElem_cons hkn] at this
    rw [List.getElem?_eq_getElem hkn] at hi
    cases hi
    exact this.symm
  have hmem : ∀ t ∈ ss.eraseIdx kn, t ∈ ss := fun t ht => List.mem_of_mem_eraseIdx ht
  have far : ∀ t ∈ ss, ∀ x, t.bv.ownBlock = some x → x ≠ p ∧ x ≠ g := fun t ht x hx =>
    ⟨fun e => by subst e; exact OwnsAt.ne_blk (h.bytes t ht) h.head (by decide) hx, fun e => by subst e; exact OwnsAt.ne_own (h.bytes t ht) h.rows (by decide) _ hx rfl⟩
  have keepB : ∀ t ∈ ss, OwnB w2 B t.bv t.bs := fun t ht => OwnsAt.keep (h.bytes t ht) k (fun x hx hm => by
    have := far t ht x hx
    simp only [List.mem_cons, List.not_mem_nil, or_false] at hm
    omega)
  have hnd := h.nodup
  have hbb : byteBlocks ss = byteBlocks (ss.take kn) ++ (ownBlocks s.bv ++ byteBlocks (ss.drop (kn + 1))) := by
    conv => lhs; rw [hsplit]
    unfold byteBlocks
    rw [List.flatMap_append, List.flatMap_cons]
  have hbe : byteBlocks (ss.eraseIdx kn) = byteBlocks (ss.take kn) ++ byteBlocks (ss.drop (kn + 1)) := by
    rw [List.eraseIdx_eq_take_drop_succ]
    unfold byteBlocks
    rw [List.flatMap_append]
  rw [hbb] at hnd
  obtain ⟨n1, n2, n3⟩ := List.nodup_append.1 hnd
  obtain ⟨n4, n5, n6⟩ := List.nodup_append.1 n2
  refine ⟨⟨hh, by rw [List.length_eraseIdx_of_lt hkn, hn]; exact hr, fun t ht => keepB t (hmem t ht), ?_, h.base⟩, fun x hx => ?_, keepB s hs, fun x hx => ⟨fun hf => ?_, ?_⟩⟩
  · rw [hbe]
    exact List.nodup_append.2 ⟨n1, n5, fun a ha b hb => n3 a ha b (List.mem_append_right _ hb)⟩
  · simp only [netFoot, List.mem_cons, List.mem_append] at hx ⊢
    rcases hx with hx | hx | hx
    · exact Or.inl hx
    · exact Or.inr (Or.inl hx)
    · rw [hbe] at hx
      rw [hbb]
      refine Or.inr (Or.inr ?_)
      rcases List.mem_append.1 hx with hx | hx
      · exact List.mem_append_left _ hx
      · exact List.mem_append_right _ (List.mem_append_right _ hx)
  · have hf1 := far s hs x (mem_own.1 hx)
    simp only [netFoot, List.mem_cons, List.mem_append] at hf
    rcases hf with hf | hf | hf
    · exact hf1.1 hf
    · have : x = g := by simpa [ownBlocks, Value.ownBlock] using hf
      exact hf1.2 this
    · rw [hbe] at hf
      rcases List.mem_append.1 hf with hf | hf
      · exact n3 x hf x (List.mem_append_left _ hx) rfl
      · exact n6 x hx x hf rfl
  · simp only [netFoot, List.mem_cons, List.mem_append]
    exact Or.inr (Or.inr (mem_byteBlocks.2 ⟨s, hs, mem_own.1 hx⟩))
/-- what a delivered parcel is, and the net without it -/
def DeliverPost (B p : Nat) (F : List Nat) (w : World) (ss : List PS) (k : Int) (e : Ending) (w' : World) : Prop :=
  if isK k ss.length = true then
    ∃ (s : PS) (F' : List Nat), ss[k.toNat]? = some s ∧ e = .returned (.tuple #[.agg #[.int .i64 s.f, .int .i64 s.t, s.bv], .bool true]) ∧ NetAt w' B p F' (ss.eraseIdx k.toNat) ∧ Keep F w w' ∧ (∀ x ∈ F', x ∈ F) ∧ OwnB w' B s.bv s.bs ∧
      (∀ x ∈ ownBlocks s.bv, x ∉ F' ∧ x ∈ F)
  else e = .returned (.tuple #[.agg #[.int .i64 0, .int .i64 0, .slice none 0 0], .bool false]) ∧ Keep [] w w'
set_option maxHeartbeats 4000000 in
set_option maxRecDepth 100000 in
theorem deliver_spec {w : World} {B p : Nat} {F : List Nat} {ss : List PS} (k : Int) (h : NetAt w B p F ss) (hl : ss.length ≤ 100000) :
    Calls Try.prog 10 #[.pointer (some ⟨p, 0, none⟩), .int .i64 k] w (DeliverPost B p F w ss k) := by
  obtain ⟨vw, h, rfl⟩ := h
  obtain ⟨aw, cw, rfl⟩ := h.rows.shape
  have H := Lib.hid h
  by_cases hk : isK k ss.length = true
  · have hk' : 0 ≤ k ∧ k < ss.length := by unfold isK at hk; simpa using hk
    obtain ⟨kn, rfl⟩ := Int.eq_ofNat_of_zero_le hk'.1
    have hkn : kn < ss.length := by omega
    have Hk := Lib.hid hk
    obtain ⟨n, hn⟩ : ∃ n, ss.length = n + 1 := ⟨ss.length - 1, by omega⟩
    have hi : ss[kn]? = some ss[kn] := List.getElem?_eq_getElem hkn
    have hrows := h.rows
    have hshape : ∀ s ∈ ss, ∃ a c, s.bv = .slice a s.bs.length c := fun s hs => OwnsAt.shape (h.bytes s hs)
    have c0 : w.cell? ⟨p, 0, none⟩ = some (.slice aw ss.length cw) := h.head.cell 0
    have hplt := h.head.lt
    have hfp := h.head.frozen 0
    have hd0 : Keep [] w (w.alloc (.cells #[.int .i64 0, .int .i64 0, .slice none 0 0] 29)) := (Keep.refl _ _).alloc _
    have his := isK_spec (kn : Int) (h.keep hd0 (by simp))
    rw [hk] at his
    have His := Lib.hid his
    rw [hn] at hrows c0
    obtain ⟨g, off, rfl, hg1, hg2, hcells, hcap, hfr⟩ := hrows.rowAt PS.c4_len hi (by omega)
    obtain ⟨ab, cb, hbv⟩ := hshape _ (List.getElem_mem hkn)
    generalize ss[kn] = s at *
    obtain ⟨f, t, bs, fl, bv⟩ := s
    simp only at hbv
    subst hbv
    have e0 : w.cell? ⟨g, off + kn * 4, none⟩ = some (.int .i64 f) := hcells 0 _ (by omega) rfl
    have e1 : w.cell? ⟨g, off + kn * 4 + 1, none⟩ = some (.int .i64 t) := hcells 1 _ (by omega) rfl
    have e2 : w.cell? ⟨g, off + kn * 4 + 2, none⟩ = some (.slice ab bs.length cb) := hcells 2 _ (by omega) rfl
    have hkn2 : (kn : Int) < (n : Int) + 1 := by omega
    have hk2 : Keep [] w ((w.alloc (.cells #[.int .i64 0, .int .i64 0, .slice none 0 0] 29)).alloc (.cells #[.int .i64 f, .int .i64 t, .slice ab bs.length cb] 29)) := hd0.alloc _
    have b1 : Blk ((w.alloc (.cells #[.int .i64 0, .int .i64 0, .slice none 0 0] 29)).alloc (.cells #[.int .i64 f, .int .i64 t, .slice ab bs.length cb] 29)) w.heap.size 29 [.int .i64 0, .int .i64 0, .slice none 0 0] := (Blk.new' w _ _ _ rfl).alloc _
    have b2 : Blk ((w.alloc (.cells #[.int .i64 0, .int .i64 0, .slice none 0 0] 29)).alloc (.cells #[.int .i64 f, .int .i64 t, .slice ab bs.length cb] 29)) (w.heap.size + 1) 29 [.int .i64 f, .int .i64 t, .slice ab bs.length cb] := by
      have := Blk.new' (w.alloc (.cells #[.int .i64 0, .int .i64 0, .slice none 0 0] 29)) 29 #[.int .i64 f, .int .i64 t, .slice ab bs.length cb] _ rfl
      simpa using this
    have hdel := delete_spec (k := kn) (hrows.keep hk2 (by simp)) hn (by omega) (by omega) hshape
    have Hdel := Lib.hid hdel
    have Hhp := Lib.hid hplt
    have Hi := Lib.hid hi
    have hn9 : (n : Int) ≤ 1000000 := by omega
    clear hcells hfr hdel his hk hk' hl hshape hi h
    go_enter Try.func10, Try.ntmps10
    go_wp2_with fail
    rw [← hn]
    refine His.out.mono ?_
    rintro e w1 ⟨rfl, rfl⟩
    go_wp2_with fail
    refine Hdel.out.mono ?_
    rintro e w3 ⟨rfl, hown3, hk3⟩
    have hpg : p ∉ [g] := fun hx => by
      have : p = g := by simpa using hx
      subst this
      exact H.out.rows.ne_blk H.out.head (by decide) rfl
    have k3 : Keep [g] w w3 := (hk2.mono (T := [g]) (by simp)).trans hk3 (by simp)
    have hh3 := H.out.head.keep k3 hpg
    have b3 := b1.keep hk3 (by simp; omega)
    have b4 := b2.keep hk3 (by simp; omega)
    rw [hn] at hh3
    have x0 : w3.cell? ⟨p, 0, none⟩ = some (.slice (some ⟨g, off, none⟩) (n + 1) cw) := hh3.cell 0
    have x1 := hh3.frozen 0
    have y0 : w3.cell? ⟨w.heap.size, 0, none⟩ = some (.int .i64 0) := b3.cell 0
    have y1 : w3.cell? ⟨w.heap.size, 1, none⟩ = some (.int .i64 0) := b3.cell 1
    have y2 : w3.cell? ⟨w.heap.size, 2, none⟩ = some (.slice none 0 0) := b3.cell 2
    have y3 := b3.frozen 0
    have y4 := b3.frozen 1
    have y5 := b3.frozen 2
    have z0 : w3.cell? ⟨w.heap.size + 1, 0, none⟩ = some (.int .i64 f) := b4.cell 0
    have z1 : w3.cell? ⟨w.heap.size + 1, 1, none⟩ = some (.int .i64 t) := b4.cell 1
    have z2 : w3.cell? ⟨w.heap.size + 1, 2, none⟩ = some (.slice ab bs.length cb) := b4.cell 2
    have np : p ≠ w.heap.size := by omega
    have np2 : p ≠ w.heap.size + 1 := by omega
    have hfin : ∀ w4, w4 = (((w3.setCell ⟨p, 0, none⟩ (.slice (some ⟨g, off, none⟩) n cw)).setCell ⟨w.heap.size, 0, none⟩ (.int .i64 f)).setCell ⟨w.heap.size, 1, none⟩ (.int .i64 t)).setCell ⟨w.heap.size, 2, none⟩ (.slice ab bs.length cb) →
        DeliverPost B p (netFoot p (.slice (some ⟨g, off, none⟩) ss.length cw) ss) w ss (kn : Int) (.returned (.tuple #[.agg #[.int .i64 f, .int .i64 t, .slice ab bs.length cb], .bool true])) w4 := by
      rintro w4 rfl
      have h4 : Blk ((((w3.setCell ⟨p, 0, none⟩ (.slice (some ⟨g, off, none⟩) n cw)).setCell ⟨w.heap.size, 0, none⟩ (.int .i64 f)).setCell ⟨w.heap.size, 1, none⟩ (.int .i64 t)).setCell ⟨w.heap.size, 2, none⟩ (.slice ab bs.length cb)) p 51 [.slice (some ⟨g, off, none⟩) n cw] :=
        (((hh3.set_ 0 _).far np _).far np _).far np _
      have k4 : Keep [p, w.heap.size] w3 ((((w3.setCell ⟨p, 0, none⟩ (.slice (some ⟨g, off, none⟩) n cw)).setCell ⟨w.heap.size, 0, none⟩ (.int .i64 f)).setCell ⟨w.heap.size, 1, none⟩ (.int .i64 t)).setCell ⟨w.heap.size, 2, none⟩ (.slice ab bs.length cb)) :=
        ((((Keep.refl _ _).setCell (by simp) _).setCell (by simp) _).setCell (by simp) _).setCell (by simp) _
      have k5 : Keep [p, g] w ((((w3.setCell ⟨p, 0, none⟩ (.slice (some ⟨g, off, none⟩) n cw)).setCell ⟨w.heap.size, 0, none⟩ (.int .i64 f)).setCell ⟨w.heap.size, 1, none⟩ (.int .i64 t)).setCell ⟨w.heap.size, 2, none⟩ (.slice ab bs.length cb)) :=
        (k3.mono (T := [p, g]) (by simp)).trans k4 (by simp)
      obtain ⟨q1, q2, q3, q4⟩ := H.out.erase Hi.out k5 h4 (hown3.keep k4 (fun x hx hm => by
        have : x = g := by simpa [Value.ownBlock] using hx.symm
        subst this
        simp only [List.mem_cons, List.not_mem_nil, or_false] at hm
        rcases hm with hm | hm
        · exact hpg (by simp [hm])
        · omega)) hn
      unfold DeliverPost
      rw [if_pos Hk.out]
      exact ⟨⟨f, t, bs, fl, .slice ab bs.length cb⟩, _, Hi.out, rfl, ⟨_, q1, rfl⟩, k5.mono (fun x hx => Or.inl (by
        simp only [List.mem_cons, List.not_mem_nil, or_false] at hx
        rcases hx with rfl | rfl
        · simp [netFoot]
        · simp [netFoot, ownBlocks, Value.ownBlock])), q2, q3, q4⟩
    have Hfin := Lib.hid hfin
    clear hfin hh3 b3 b4 b1 b2 hown3 hk3 k3 hk2 hd0
    go_wp2
    exact bodyPost_ret (v := .tuple #[.agg #[.int .i64 f, .int .i64 t, .slice ab bs.length cb], .bool true]) (by simp [results, Try.results10, go_sem, y0, y1, y2]) rfl (Hfin.out _ rfl)
  · have hk' : isK k ss.length = false := by simpa using hk
    have Hk := Lib.hid hk
    have hd0 : Keep [] w (w.alloc (.cells #[.int .i64 0, .int .i64 0, .slice none 0 0] 29)) := (Keep.refl _ _).alloc _
    have his := isK_spec k (h.keep hd0 (by simp))
    rw [hk'] at his
    have His := Lib.hid his
    clear hk hk' h his hl
    go_enter Try.func10, Try.ntmps10
    go_wp2_with fail
    refine His.out.mono ?_
    rintro e w1 ⟨rfl, rfl⟩
    go_wp2
    refine bodyPost_ret (v := .tuple #[.agg #[.int .i64 0, .int .i64 0, .slice none 0 0], .bool false]) (by simp [results, Try.results10, go_sem]) rfl ?_
    unfold DeliverPost
    rw [if_neg Hk.out]
    exact ⟨rfl, hd0⟩
end Go.Proofs.Ytolhcikgodaecaa
