/- Terms: a signal is struck. -/
import Derived.Test.YtiicmlhpcfhfeaaRows
import Derived.WalkKit
import Derived.WalkSpells
import Derived.WalkLawsBesides
import Derived.RegionTactic
import Derived.ChangeAlike
import Derived.BigQuiet
import Derived.Deep.QuietTactic
import Derived.StillTailTactics
import Derived.IntWalk
import Derived.Handy
import Derived.Lib.Hide
import Derived.Deep.AppendLies
import Derived.Deep.RegionWith
import Derived.Test.YtiicmlhpcfhfeaaBase
import Derived.Test.YtiicmlhpcfhfeaaTail
import Derived.Test.YtiicmlhpcfhfeaaArgs
import Derived.Test.YtiicmlhpcfhfeaaAppend
import Derived.Deep.RegionLaw
import Derived.Test.YtiicmlhpcfhfeaaOffs
import Derived.Test.YtiicmlhpcfhfeaaStructs
import Derived.Test.YtiicmlhpcfhfeaaSplit
import Derived.Test.YtiicmlhpcfhfeaaTermObj
import Derived.Test.YtiicmlhpcfhfeaaTermRead
import Derived.Test.YtiicmlhpcfhfeaaTermSettle
import Derived.Test.YtiicmlhpcfhfeaaTermSettle2
namespace Go.Proofs.Ytiicmlhpcfhfeaa
open Go.RowKit
theorem OwnsAt.cutAt {w : World} {B : Nat} {e : TypeId} {size : Nat} {g off n cap : Nat} {xs : List Value} (h : OwnsAt w B e size (.slice (some ⟨g, off, none⟩) n cap) n xs) {k : Nat} (hk : k ≤ n) : OwnsAt w B e size (.slice (some ⟨g, off, none⟩) k cap) k (xs.take (k * size)) := by
  have hl := h.1
  have hmul : k * size ≤ n * size := Nat.mul_le_mul_right _ hk
  refine ⟨by rw [List.length_take]; omega, ?_⟩
  rcases h.2 with ⟨h0, _⟩ | ⟨g', off', cap', cur, hv, hb, hg, h3, h4, h5, h6⟩
  · cases h0
  · injection hv with e1 e2 e3
    injection e1 with e1
    injection e1 with e1 e4
    subst e1 e3 e4
    refine Or.inr ⟨g, off, cap, cur, rfl, hb, hg, by omega, h4, h5, ?_⟩
    rw [← h6, List.take_take, Nat.min_eq_left hmul]
def DelPost (B g off n cap : Nat) (w : World) (xs : List Value) (e : Ending) (w' : World) : Prop :=
  e = .returned (.slice (some ⟨g, off, none⟩) n cap) ∧ OwnsAt w' B 44 3 (.slice (some ⟨g, off, none⟩) n cap) n xs ∧ Keep [g] w w'
theorem SrcOf.of_own {w : World} {B : Nat} {e : TypeId} {size : Nat} {g off n cap : Nat} {xs : List Value} (h : OwnsAt w B e size (.slice (some ⟨g, off, none⟩) n cap) n xs) {k : Nat} (hk : k ≤ n) (c : Nat) :
    SrcOf w (.slice (some ⟨g, off + k * size, none⟩) (n - k) c) size (n - k) (xs.drop (k * size)) := by
  have hl := h.1
  refine ⟨_, _, rfl, by rw [List.length_drop, hl, Nat.sub_mul], fun hne => ⟨_, rfl, fun j u hu => ?_⟩⟩
  rw [add_none, Nat.add_assoc]
  have hn : 0 < n := by
    rcases Nat.eq_zero_or_pos n with h0 | h0
    · subst h0; simp at hl; subst hl; simp at hne
    · exact h0
  obtain ⟨g', off', cap', hv, _, _, _, _, h5⟩ := h.form hn
  injection hv with e1 _ _
  injection e1 with e1
  injection e1 with e1 e2
  subst e1 e2
  exact h5 _ u (by rw [← List.getElem?_drop]; exact hu)
set_option maxHeartbeats 4000000 in
set_option maxRecDepth 100000 in
theorem delete_spec {w : World} {B g off n cap k : Nat} {ss : List Sg} (h : OwnsAt w B 44 3 (.slice (some ⟨g, off, none⟩) (n + 1) cap) (n + 1) (ss.flatMap sgC)) (hl : ss.length = n + 1) (hk : k < n + 1) (hn : n ≤ 100000000) :
    Calls Try.prog 26 #[.slice (some ⟨g, off, none⟩) (n + 1) cap, .int .i64 k, .int .i64 ((k : Int) + 1)] w (DelPost B g off n cap w ((ss.eraseIdx k).flatMap sgC)) := by
  have hcap : n + 1 ≤ cap ∧ cap ≤ maxLen := by
    obtain ⟨g', off', cap', hv, h1, h2, _⟩ := h.form (by omega)
    injection hv with e1 e2 e3
    subst e3
    exact ⟨h1, h2⟩
  obtain ⟨hcap, hcm⟩ := hcap
  unfold maxLen at hcm
  have H := Lib.hid h
  have Hl := Lib.hid hl
  have Hn := Lib.hid hn
  have hn2 : (n : Int) ≤ 9000000000 := by omega
  clear h hl hn
  go_enter Try.func26, Try.ntmps26
  have hz : ∀ w, (zeroValue 44).run Try.prog w = .ok (.agg #[.int .i64 0, .int .i64 0, .bool false]) w := fun _ => by kernel_rfl
  have Hz := Lib.hid hz
  clear hz
  have hz1 : ∀ u ∈ (Value.agg #[.int .i64 0, .int .i64 0, .bool false]).cells, u.oneCell' = true := by
    show ∀ u ∈ (#[.int .i64 0, .int .i64 0, .bool false] : Array Value), u.oneCell' = true
    simp [Value.oneCell']
  have hpre := H.out.cutAt (show k ≤ n + 1 by omega)
  rw [flat_take sgC_len] at hpre
  have fin : ∀ (w1 w2 : World), Keep [] w w1 → OwnsAt w2 B 44 3 (.slice (some ⟨g, off, none⟩) (k + (n - k)) cap) (k + (n - k)) ((ss.take k).flatMap sgC ++ (ss.drop (k + 1)).flatMap sgC) → Keep [g] w1 w2 →
      ∃ w3, (Builtin.clear_ #[31] 0 #[.slice (some ⟨g, off + n * 3, none⟩) 1 (cap - n)]).run Try.prog w2 = .ok (.tuple #[]) w3 ∧ DelPost B g off n cap w ((ss.eraseIdx k).flatMap sgC) (.returned (.slice (some ⟨g, off, none⟩) n cap)) w3 := by
    intro w1 w2 k1 h1 k2
    have e1 : (ss.take k).flatMap sgC ++ (ss.drop (k + 1)).flatMap sgC = (ss.eraseIdx k).flatMap sgC := by
      rw [← List.flatMap_append, List.eraseIdx_eq_take_drop_succ]
    rw [e1, show k + (n - k) = n by omega] at h1
    obtain ⟨w3, h3, h4, h5⟩ := run_clear_own (P := Try.prog) Try.underlying31 Hz.out (size := 3) rfl hz1 0 B g off cap n 1 (cap - n) _ h1 hcap
    exact ⟨w3, h3, rfl, h4, (k1.mono (T := [g]) (by simp)).trans (k2.trans h5 (by simp)) (by simp)⟩
  have Fin := Lib.hid fin
  clear fin
  have hkn : ((k : Int) + ((n : Int) - (k : Int))) = n := by omega
  by_cases hc : cap = k + 1
  · obtain rfl : k = n := by omega
    have hdrop : ss.drop (k + 1) = [] := List.drop_of_length_le (by have := Hl.out; omega)
    have Hdrop := Lib.hid hdrop
    subst hc
    clear hdrop
    go_wp2
    refine wp_region_quiet_tail 6 (by kernel_rfl) (by kernel_rfl) ?_
    simp only [List.take_succ_cons, List.take_zero, List.drop_succ_cons, List.drop_zero]
    repeat (go_big_quiet_step (fail))
    refine quiet_tail_end ?_
    rintro _ ⟨nq, rfl⟩
    have hsrc : ∀ a, SrcOf (w.drewN nq) (.slice a 0 0) 3 0 ([] : List Value) := fun a => ⟨a, 0, rfl, rfl, fun h => absurd rfl h⟩
    go_wp2_with (at_builtin; refine wpList_append_fit rfl _ _ rfl Try.sgs31 B g off (k + 1) k _ rfl (hpre.keep ((Keep.refl [] _).drewN nq) (by simp)) _ 0 _ rfl (hsrc _) (by simp) (by omega) ?_)
    intro w2 hown2 hk2
    have hown3 : OwnsAt w2 B 44 3 (.slice (some ⟨g, off, none⟩) (k + (k - k)) (k + 1)) (k + (k - k)) ((ss.take k).flatMap sgC ++ (ss.drop (k + 1)).flatMap sgC) := by
      rw [Hdrop.out, Nat.sub_self]
      simpa using hown2
    obtain ⟨w3, hcl, hpost⟩ := Fin.out _ w2 ((Keep.refl [] w).drewN nq) hown3 hk2
    rw [show k + 1 - k = 1 by omega] at hcl
    clear hown2 hk2 hown3 hsrc hpre
    go_wp2
    go_ret
    exact hpost
  · have hsrc := fun nq => SrcOf.of_own (H.out.keep ((Keep.refl [] w).drewN nq) (by simp)) (show k + 1 ≤ n + 1 by omega) (cap - (k + 1))
    rw [flat_drop sgC_len, show n + 1 - (k + 1) = n - k by omega] at hsrc
    have Hsrc := Lib.hid hsrc
    have Hpre := Lib.hid hpre
    have hone : ∀ u ∈ (ss.drop (k + 1)).flatMap sgC, u.oneCell' = true := by
      intro u hu
      rw [List.mem_flatMap] at hu
      obtain ⟨s, hs, hu⟩ := hu
      simp only [sgC, List.mem_cons, List.not_mem_nil, or_false] at hu
      rcases hu with rfl | rfl | rfl <;> rfl
    have Hone := Lib.hid hone
    clear hsrc hpre hone
    go_wp2
    refine wp_region_quiet_tail 6 (by kernel_rfl) (by kernel_rfl) ?_
    simp only [List.take_succ_cons, List.take_zero, List.drop_succ_cons, List.drop_zero]
    repeat (go_big_quiet_step (fail))
    refine quiet_tail_end ?_
    rintro _ ⟨nq, rfl⟩
    go_wp2_with (at_builtin; refine wpList_append_fit rfl _ _ rfl Try.sgs31 B g off cap k _ rfl (Hpre.out.keep ((Keep.refl [] _).drewN nq) (by simp)) _ (n - k) _ rfl (Hsrc.out nq) Hone.out (by omega) ?_)
    intro w2 hown2 hk2
    obtain ⟨w3, hcl, hpost⟩ := Fin.out _ w2 ((Keep.refl [] w).drewN nq) hown2 hk2
    clear hown2 hk2
    rw [show k + (n - k) = n by omega]
    go_wp2
    go_ret
    exact hpost
end Go.Proofs.Ytiicmlhpcfhfeaa
