/- Links: acknowledged; the map. -/
import Derived.Test.YtacifjjhadjhfaaRows
import Derived.WalkKit
import Derived.WalkSpells
import Derived.WalkLawsBesides
import Derived.RegionTactic
import Derived.ChangeAlike
import Derived.BigQuiet
import Derived.Deep.QuietTactic
import Derived.StillTailTactics
import Derived.IntWalk
import Derived.Handy
import Derived.Lib.Hide
import Derived.Deep.AppendLies
import Derived.Deep.RegionWith
import Derived.Test.YtacifjjhadjhfaaBase
import Derived.Test.YtacifjjhadjhfaaTail
import Derived.Test.YtacifjjhadjhfaaArgs
import Derived.Test.YtacifjjhadjhfaaAppend
import Derived.Deep.RegionLaw
import Derived.Test.YtacifjjhadjhfaaOffs
import Derived.Test.YtacifjjhadjhfaaStructs
import Derived.Test.YtacifjjhadjhfaaSplit
import Derived.Maps.OwnSet
import Derived.Maps.Views
import Derived.Test.YtacifjjhadjhfaaLinkBytes
import Derived.Test.YtacifjjhadjhfaaLinkObj
import Derived.Test.YtacifjjhadjhfaaLinkSend
import Derived.Test.YtacifjjhadjhfaaLinkDue
import Derived.Test.YtacifjjhadjhfaaLinkFrame
import Derived.Test.YtacifjjhadjhfaaLinkOut
import Derived.Test.YtacifjjhadjhfaaLinkOut2
import Derived.Test.YtacifjjhadjhfaaLinkOne
import Derived.Test.YtacifjjhadjhfaaLinkLive
import Derived.Test.YtacifjjhadjhfaaLinkAck
import Derived.Test.YtacifjjhadjhfaaLinkAck2
namespace Go.Proofs.Ytacifjjhadjhfaa
open Go.RowKit
/-! ### acknowledged -/
theorem bb_sub {a b : List LD} (h : a.Sublist b) : (byteBlocks a).Sublist (byteBlocks b) := by
  unfold byteBlocks
  induction h with
  | slnil => exact List.Sublist.refl _
  | cons x _ ih =>
    rw [List.flatMap_cons]
    exact ih.trans (List.sublist_append_right _ _)
  | cons_cons x _ ih =>
    rw [List.flatMap_cons, List.flatMap_cons]
    exact List.Sublist.append (List.Sublist.refl _) ih
theorem LinkIn.sub {w w2 : World} {B p mb : Nat} {vo vo' : Value} {q : LK} {l' : List LD} (h : LinkIn w B p vo mb q) (hs : l'.Sublist q.open_) (k : Keep (ownBlocks vo) w w2) (hr : OwnsAt w2 B 75 4 vo' l'.length (l'.flatMap LD.c)) (hv : vo'.ownBlock = vo.ownBlock) :
    LinkIn (w2.setCell ⟨p, 2, none⟩ vo') B p vo' mb { q with open_ := l' } ∧ Keep (linkFoot p vo mb (q.open_ ++ q.kept)) w (w2.setCell ⟨p, 2, none⟩ vo') ∧ ∀ x ∈ linkFoot p vo' mb (l' ++ q.kept), x ∈ linkFoot p vo mb (q.open_ ++ q.kept) := by
  obtain ⟨a1, a2, a3, a4⟩ := h.apart
  have hpw : p ∉ ownBlocks vo := fun hx => a1 (mem_own.1 hx)
  have hmw : mb ∉ ownBlocks vo := fun hx => a2 (mem_own.1 hx)
  have hd2 : Blk w2 p 34 _ := h.head.keep k hpw
  have k3 : Keep [p] w2 (w2.setCell ⟨p, 2, none⟩ vo') := (Keep.refl _ _).setCell (by simp) _
  have hp' : vo'.ownBlock ≠ some p := by rw [hv]; exact a1
  have hsub : (l' ++ q.kept).Sublist (q.open_ ++ q.kept) := List.Sublist.append hs (List.Sublist.refl _)
  refine ⟨⟨hd2.set_ 2 _, hr.keep k3 (fun g hg hx => hp' ((show g = p by simpa using hx) ▸ hg)), (h.kept.keep k hmw).keep k3 (by simpa using a3), fun t ht => ?_, h.nodup.sublist (bb_sub hsub), h.base⟩, ?_, fun x hx => ?_⟩
  · have ht' := hsub.subset ht
    exact OwnsAt.keep (OwnsAt.keep (h.bytes t ht') k (fun g hg hx => (a4 t ht').2.2 g (mem_own.1 hx) hg)) k3 (fun g hg hx => (a4 t ht').1 ((show g = p by simpa using hx) ▸ hg))
  · exact (k.mono (T := linkFoot p vo mb (q.open_ ++ q.kept)) (fun x hx => Or.inl (by simp only [linkFoot, List.mem_cons, List.mem_append]; exact Or.inr (Or.inr (Or.inl hx))))).trans k3 (fun x hx => Or.inl (by simp at hx; subst hx; simp [linkFoot]))
  · simp only [linkFoot, List.mem_cons, List.mem_append] at hx ⊢
    rcases hx with hx | hx | hx | hx
    · exact Or.inl hx
    · exact Or.inr (Or.inl hx)
    · exact Or.inr (Or.inr (Or.inl (by rw [mem_own, ← hv]; exact mem_own.1 hx)))
    · exact Or.inr (Or.inr (Or.inr ((bb_sub hsub).subset hx)))
set_option maxHeartbeats 4000000 in
theorem ack_spec {w : World} {B p : Nat} {F : List Nat} {q : LK} (n : Int) (h : LinkAt w B p F q) (hl : q.open_.length ≤ 1000) :
    Calls Try.prog 29 #[.pointer (some ⟨p, 0, none⟩), .int .i64 n] w (LPost B p F w (.tuple #[]) { q with open_ := keepL n q.open_ }) := by
  obtain ⟨vo, mb, h, rfl⟩ := h
  obtain ⟨ao, co, rfl⟩ := h.rows.shape
  have hA : Keep [] w (w.alloc (.cells #[.int .i64 n] 3)) := (Keep.refl _ _).alloc _
  have bA : Blk (w.alloc (.cells #[.int .i64 n] 3)) w.heap.size 3 [.int .i64 n] := Blk.new' _ _ _ _ rfl
  have h1 := h.keep hA (by simp)
  have c2 : (w.alloc (.cells #[.int .i64 n] 3)).cell? ⟨p, 2, none⟩ = some (.slice ao q.open_.length co) := h1.head.cell 2
  have hdel := delete_spec (n := n) (nb := w.heap.size) h1.rows (fun s hs => OwnsAt.shape (h1.bytes s (List.mem_append_left _ hs))) hl (bA.cell 0) (by simp) (fun e => by have := (h.rows.lt _ e).2; omega)
  have hmf : ∀ fn first cap w, (Instr.makeFunc fn first cap).run Try.prog w = .ok (.func fn first cap) w := fun _ _ _ _ => rfl
  have Hdel := Lib.hid hdel
  have H1 := Lib.hid h1
  have hplt := h.head.lt
  clear hdel h1 h bA
  go_enter Try.func29, Try.ntmps29
  go_wp2_with fail
  refine Hdel.out.mono ?_
  rintro e w2 ⟨rfl, hown, hk⟩
  obtain ⟨t1, t2, t3⟩ := H1.out.sub (l' := keepL n q.open_) List.filter_sublist hk hown (by cases ao <;> rfl)
  have hp2 := H1.out.apart.1
  have hd2 := H1.out.head.keep hk (fun hx => hp2 (mem_own.1 hx))
  have c3 : w2.cell? ⟨p, 2, none⟩ = some (.slice ao q.open_.length co) := hd2.cell 2
  have f3 := hd2.frozen 2
  have Hfin := Lib.hid (And.intro t1 (And.intro ((hA.mono (T := linkFoot p (.slice ao q.open_.length co) mb (q.open_ ++ q.kept)) (by simp)).trans t2 (fun x hx => Or.inl hx)) t3))
  clear t1 t2 t3 hk hown hd2 hp2
  go_wp2
  go_end0
  exact ⟨rfl, _, ⟨_, mb, Hfin.out.1, rfl⟩, Hfin.out.2.1, fun x hx => Or.inl (Hfin.out.2.2 x hx)⟩
/-! ### The map -/
theorem keyed : Maps.Keyed Try.prog 3 := Maps.int_keyed Try.underlying3
theorem key_of {k : Int} (hw : (Lit.int .i64 k).wf = true) : keyOf Try.prog 3 (.int .i64 k) = some (keyL k) := Maps.keyOf_int_mk Try.underlying3 hw
theorem keyL_ne {a b : Int} (h : a ≠ b) : keyL a ≠ keyL b := fun e => h (by unfold keyL at e; cases e; rfl)
theorem KeptIn.look {w : World} {mb : Nat} {ks : List LD} (h : KeptIn w mb ks) {k : Int} (hw : (Lit.int .i64 k).wf = true) :
    ∃ v, (Instr.lookup 30 (.map (some mb)) (.int .i64 k) true).run Try.prog w = .ok (.tuple #[v, .bool (ks.any fun s => s.seq == k)]) w ∧ ∀ s ∈ ks, s.seq = k → v = s.bv := by
  obtain ⟨D, h1, h2, h3, h4⟩ := h.map
  have hz : (zeroValue 35).run Try.prog w = .ok (.slice none 0 0) w := by kernel_rfl
  obtain ⟨v, ps, hr, hv⟩ := h1.look_ok keyed Try.underlying30 hz (zd := .held (.slice none 0 0)) (zp := []) rfl (key_of hw)
  refine ⟨v, by rw [hr, h4], fun s hs hk => ?_⟩
  subst hk
  rw [h3 s hs] at hv
  unfold Rv at hv
  cases hv
  rfl
def lookV (ks : List LD) (k : Int) : Value := match ks.find? (fun s => s.seq == k) with | some s => s.bv | none => .slice none 0 0
theorem KeptIn.look2 {w : World} {mb : Nat} {ks : List LD} (h : KeptIn w mb ks) {k : Int} (hw : (Lit.int .i64 k).wf = true) :
    (Instr.lookup 30 (.map (some mb)) (.int .i64 k) true).run Try.prog w = .ok (.tuple #[lookV ks k, .bool (ks.any fun s => s.seq == k)]) w := by
  obtain ⟨D, h1, h2, h3, h4⟩ := h.map
  have hz : (zeroValue 35).run Try.prog w = .ok (.slice none 0 0) w := by kernel_rfl
  obtain ⟨v, ps, hr, hv⟩ := h1.look_ok keyed Try.underlying30 hz (zd := .held (.slice none 0 0)) (zp := []) rfl (key_of hw)
  rw [hr, h4]
  have hvv : v = lookV ks k := by
    unfold lookV
    cases hf : ks.find? (fun s => s.seq == k) with
    | some s =>
      have hs := List.mem_of_find?_eq_some hf
      have hk : s.seq = k := by have := List.find?_some hf; simpa using this
      subst hk
      rw [h3 s hs] at hv
      unfold Rv at hv
      cases hv
      rfl
    | none =>
      have hh : Maps.has D (keyL k) = false := by
        rw [h4, List.any_eq_false]
        intro s hs
        have := List.find?_eq_none.1 hf s hs
        simpa using this
      rw [Maps.atKey_of_not_has hh] at hv
      unfold Rv at hv
      cases hv
      rfl
  rw [hvv]
theorem mapTurned_keep {w w' : World} {b : Nat} (h : w.mapTurned w' b) : Keep [b] w w' := Keep.of_grown h.grown (fun k hk => by cases hk; exact Or.inl (by simp))
theorem KeptIn.store {w : World} {mb : Nat} {ks : List LD} (h : KeptIn w mb ks) (s : LD) (hw : (Lit.int .i64 s.seq).wf = true) (hn : ∀ t ∈ ks, t.seq ≠ s.seq) (hl : ks.length ≤ 1000) :
    ∃ w', (Instr.mapUpdate 30 (.map (some mb)) (.int .i64 s.seq) s.bv).run Try.prog w = .ok () w' ∧ KeptIn w' mb (ks ++ [s]) ∧ Keep [mb] w w' := by
  obtain ⟨D, h1, h2, h3, h4⟩ := h.map
  obtain ⟨w', hr, h5, h6⟩ := h1.store keyed Try.underlying30 (by unfold maxLen; omega) (key_of hw) (d := .held s.bv) (ps := []) rfl
  refine ⟨w', hr, ⟨⟨D.put (keyL s.seq) (.held s.bv), by simpa using h5, h2.put (by simp [keyL, WideAt.IsKeyLit]) _, fun t ht z => ?_, fun k => ?_⟩, ?_, fun t ht => ?_⟩, mapTurned_keep h6⟩
  · rcases List.mem_append.1 ht with ht | ht
    · rw [Maps.atKey_put_other (keyL_ne (hn t ht))]
      exact h3 t ht z
    · obtain rfl : t = s := by simpa using ht
      exact Maps.atKey_put_same h2.isMap (by simp [keyL, WideAt.IsKeyLit]) _ _
  · rw [List.any_append]
    by_cases hk : s.seq = k
    · subst hk
      rw [Maps.has_put_same h2.isMap (by simp [keyL, WideAt.IsKeyLit])]
      simp
    · rw [Maps.has_put_other (keyL_ne (fun e => hk e.symm)), h4]
      simp [hk]
  · rw [List.map_append]
    refine List.nodup_append.2 ⟨h.nodup, by simp, fun a ha b hb e => ?_⟩
    subst e
    obtain ⟨t, ht, rfl⟩ := List.mem_map.1 ha
    exact hn t ht (by simpa using hb)
  · rcases List.mem_append.1 ht with ht | ht
    · exact h.wf t ht
    · obtain rfl : t = s := by simpa using ht
      exact hw
theorem owns_tight {w : World} {R : Value → Option (DataW Value × List MemPlace)} {b n : Nat} {D : DataW Value} (h : w.ownsMap Try.prog 3 R b n D) : w.ownsMap Try.prog 3 R b (Maps.size D) D := by
  obtain ⟨es, clk, h1, h2, h3, rfl⟩ := h
  exact ⟨es, clk, h1, h2, by rw [Maps.size_eq, length_read]; exact Nat.le_refl _, rfl⟩
theorem filter_one_less {k : Int} : ∀ (l : List LD), (l.map LD.seq).Nodup → (∃ s ∈ l, s.seq = k) → (l.filter fun s => s.seq != k).length + 1 = l.length
  | [], _, h => by obtain ⟨s, hs, _⟩ := h; cases hs
  | x :: l, hn, h => by
    rw [List.map_cons, List.nodup_cons] at hn
    by_cases hx : x.seq = k
    · have hall : l.filter (fun s => s.seq != k) = l := by
        rw [List.filter_eq_self]
        intro s hs
        have : s.seq ≠ k := fun e => hn.1 (by rw [hx, ← e]; exact List.mem_map_of_mem hs)
        simpa using this
      rw [List.filter_cons_of_neg (by simp [hx]), hall, List.length_cons]
    · have h' : ∃ s ∈ l, s.seq = k := by
        obtain ⟨s, hs, hk⟩ := h
        rcases List.mem_cons.1 hs with rfl | hs
        · exact absurd hk hx
        · exact ⟨s, hs, hk⟩
      rw [List.filter_cons_of_pos (by simp [hx]), List.length_cons, List.length_cons, filter_one_less l hn.2 h']
theorem KeptIn.drop {w : World} {mb : Nat} {ks : List LD} (h : KeptIn w mb ks) {k : Int} (hw : (Lit.int .i64 k).wf = true) (ty : TypeId) (hin : ∃ s ∈ ks, s.seq = k) :
    ∃ w', (Builtin.delete_ #[30, 3] ty #[.map (some mb), .int .i64 k]).run Try.prog w = .ok (.tuple #[]) w' ∧ KeptIn w' mb (ks.filter fun s => s.seq != k) ∧ Keep [mb] w w' := by
  obtain ⟨D, h1, h2, h3, h4⟩ := h.map
  obtain ⟨w', hr, h5, h6⟩ := h1.drop keyed Try.underlying30 (key_of hw) ty
  have hsz := Maps.size_del (k := keyL k) h2
  have hhas : Maps.has D (keyL k) = true := by
    rw [h4]
    obtain ⟨s, hs, hk⟩ := hin
    exact List.any_eq_true.2 ⟨s, hs, by simpa using hk⟩
  rw [hhas] at hsz
  simp only [if_true] at hsz
  have hle := h1.size_le
  have hfl := filter_one_less ks h.nodup hin
  refine ⟨w', hr, ⟨⟨D.del (keyL k), (owns_tight h5).mono (by omega), h2.del _, fun t ht z => ?_, fun j => ?_⟩, ?_, fun t ht => h.wf t (List.mem_filter.1 ht).1⟩, mapTurned_keep h6⟩
  · obtain ⟨ht1, ht2⟩ := List.mem_filter.1 ht
    rw [Maps.atKey_del_other (keyL_ne (by simpa using ht2))]
    exact h3 t ht1 z
  · by_cases hj : j = k
    · subst hj
      rw [Maps.has_del_same]
      symm
      rw [List.any_eq_false]
      intro s hs
      have := (List.mem_filter.1 hs).2
      simpa using this
    · rw [Maps.has_del_other (keyL_ne hj), h4, List.any_filter]
      congr 1
      funext s
      by_cases hs : s.seq = j
      · simp [hs, hj]
      · simp [hs]
  · exact h.nodup.sublist (List.filter_sublist.map _)
end Go.Proofs.Ytacifjjhadjhfaa
