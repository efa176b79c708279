/- Links: Send. -/
import Derived.Test.YtacifjjhadjhfaaRows
import Derived.WalkKit
import Derived.WalkSpells
import Derived.WalkLawsBesides
import Derived.RegionTactic
import Derived.ChangeAlike
import Derived.BigQuiet
import Derived.Deep.QuietTactic
import Derived.StillTailTactics
import Derived.IntWalk
import Derived.Handy
import Derived.Lib.Hide
import Derived.Deep.AppendLies
import Derived.Deep.RegionWith
import Derived.Test.YtacifjjhadjhfaaBase
import Derived.Test.YtacifjjhadjhfaaTail
import Derived.Test.YtacifjjhadjhfaaArgs
import Derived.Test.YtacifjjhadjhfaaAppend
import Derived.Deep.RegionLaw
import Derived.Test.YtacifjjhadjhfaaOffs
import Derived.Test.YtacifjjhadjhfaaStructs
import Derived.Test.YtacifjjhadjhfaaSplit
import Derived.Maps.OwnSet
import Derived.Maps.Views
import Derived.Test.YtacifjjhadjhfaaLinkBytes
import Derived.Test.YtacifjjhadjhfaaLinkObj
namespace Go.Proofs.Ytacifjjhadjhfaa
open Go.RowKit
theorem perm_nodup {α : Type} {a b c : List α} (h : (a ++ c).Nodup) (hb : b.Nodup) (h1 : ∀ x ∈ a ++ c, x ∉ b) : (a ++ b ++ c).Nodup := by
  obtain ⟨n1, n2, n3⟩ := List.nodup_append.1 h
  refine List.nodup_append.2 ⟨List.nodup_append.2 ⟨n1, hb, fun x hx y hy e => ?_⟩, n2, fun x hx y hy e => ?_⟩
  · subst e
    exact h1 x (List.mem_append_left _ hx) hy
  · subst e
    rcases List.mem_append.1 hx with hx | hx
    · exact n3 x hx x hy rfl
    · exact h1 x (List.mem_append_right _ hy) hx
/-- a link with one more open load, its bytes new -/
theorem LinkIn.push {w w1 w2 : World} {B p mb : Nat} {vo vo' : Value} {q : LK} {s : LD} (h : LinkIn w B p vo mb q) (hB : B ≤ w.heap.size) (k1 : Keep [] w w1) (hb : OwnB w1 w.heap.size s.bv s.bs)
    (k2 : Keep (ownBlocks vo) w1 w2) (hr : OwnsAt w2 B 75 4 vo' (q.open_.length + 1) (q.open_.flatMap LD.c ++ s.c)) (hat : vo'.ownBlock = vo.ownBlock ∨ vo'.ownBlock = some w1.heap.size) :
    LinkIn (w2.setCell ⟨p, 2, none⟩ vo') B p vo' mb { q with open_ := q.open_ ++ [s] } ∧ Keep (linkFoot p vo mb (q.open_ ++ q.kept)) w (w2.setCell ⟨p, 2, none⟩ vo') ∧ ∀ x ∈ linkFoot p vo' mb ((q.open_ ++ [s]) ++ q.kept), x ∈ linkFoot p vo mb (q.open_ ++ q.kept) ∨ w.heap.size ≤ x := by
  obtain ⟨a1, a2, a3, a4⟩ := h.apart
  have hpw : p ∉ ownBlocks vo := fun hx => a1 (mem_own.1 hx)
  have hmw : mb ∉ ownBlocks vo := fun hx => a2 (mem_own.1 hx)
  have hd2 : Blk w2 p 34 _ := (h.head.keep k1 (by simp)).keep k2 hpw
  have k3 : Keep [p] w2 (w2.setCell ⟨p, 2, none⟩ vo') := (Keep.refl _ _).setCell (by simp) _
  have hp' : vo'.ownBlock ≠ some p := hr.ne_blk hd2 (by decide)
  have hs1 := k1.size
  have hbB : OwnB w1 B s.bv s.bs := OwnsAt.mono hb hB
  have old : ∀ t ∈ q.open_ ++ q.kept, OwnB (w2.setCell ⟨p, 2, none⟩ vo') B t.bv t.bs := fun t ht => by
    have h1 := OwnsAt.keep (h.bytes t ht) k1 (by simp)
    have h2 := OwnsAt.keep h1 k2 (fun g hg hx => (a4 t ht).2.2 g (mem_own.1 hx) hg)
    exact OwnsAt.keep h2 k3 (fun g hg hx => (a4 t ht).1 ((show g = p by simpa using hx) ▸ hg))
  have new1 : OwnB w2 B s.bv s.bs := OwnsAt.keep hbB k2 (fun g hg hx => by
    have h1 := (OwnsAt.lt hb g hg).1
    have h2 := (h.rows.lt g (mem_own.1 hx)).2
    omega)
  have new : OwnB (w2.setCell ⟨p, 2, none⟩ vo') B s.bv s.bs := OwnsAt.keep new1 k3 (fun g hg hx => OwnsAt.ne_blk new1 hd2 (by decide) ((show g = p by simpa using hx) ▸ hg))
  refine ⟨⟨hd2.set_ 2 _, ?_, ?_, fun t ht => ?_, ?_, h.base⟩, ?_, ?_⟩
  · have h1 := hr.keep k3 (fun g hg hx => hp' ((show g = p by simpa using hx) ▸ hg))
    simpa using h1
  · exact ((h.kept.keep k1 (by simp)).keep k2 hmw).keep k3 (by simpa using a3)
  · simp only [List.append_assoc, List.mem_append, List.mem_singleton] at ht
    rcases ht with ht | rfl | ht
    · exact old t (List.mem_append_left _ ht)
    · exact new
    · exact old t (List.mem_append_right _ ht)
  · have hn := h.nodup
    simp only [byteBlocks_append] at hn ⊢
    refine perm_nodup hn ?_ (fun x hx hy => ?_)
    · simp only [byteBlocks, List.flatMap_cons, List.flatMap_nil, List.append_nil, ownBlocks]
      cases s.bv.ownBlock <;> simp
    · have hx' : x ∈ byteBlocks (q.open_ ++ q.kept) := by rw [byteBlocks_append]; exact hx
      obtain ⟨t, ht, hxt⟩ := mem_byteBlocks.1 hx'
      have h1 := (OwnsAt.lt (h.bytes t ht) x hxt).2
      have h2 := (OwnsAt.lt hb x (by simpa [byteBlocks, ownBlocks] using hy)).1
      omega
  · have a1' : Keep (linkFoot p vo mb (q.open_ ++ q.kept)) w w2 := (k1.mono (T := linkFoot p vo mb (q.open_ ++ q.kept)) (by simp)).trans k2 (fun x hx => Or.inl (by simp only [linkFoot, List.mem_cons, List.mem_append]; exact Or.inr (Or.inr (Or.inl hx))))
    exact a1'.trans k3 (fun x hx => Or.inl (by simp at hx; subst hx; simp [linkFoot]))
  · intro x hx
    simp only [linkFoot, List.mem_cons, List.mem_append] at hx ⊢
    rcases hx with hx | hx | hx | hx
    · exact Or.inl (Or.inl hx)
    · exact Or.inl (Or.inr (Or.inl hx))
    · rcases hat with hat | hat
      · exact Or.inl (Or.inr (Or.inr (Or.inl (by rw [mem_own, ← hat]; exact mem_own.1 hx))))
      · rw [mem_own, hat] at hx
        cases hx
        exact Or.inr hs1
    · obtain ⟨t, ht, hb'⟩ := mem_byteBlocks.1 hx
      simp only [List.append_assoc, List.mem_append, List.mem_singleton] at ht
      rcases ht with ht | rfl | ht
      · exact Or.inl (Or.inr (Or.inr (Or.inr (mem_byteBlocks.2 ⟨t, List.mem_append_left _ ht, hb'⟩))))
      · exact Or.inr (OwnsAt.lt hb x hb').1
      · exact Or.inl (Or.inr (Or.inr (Or.inr (mem_byteBlocks.2 ⟨t, List.mem_append_right _ ht, hb'⟩))))
/-- a number of the head turned -/
theorem LinkIn.turn {w : World} {B p mb : Nat} {vo : Value} {q q' : LK} (h : LinkIn w B p vo mb q) (i : Nat) (u : Value) (ho : q'.open_ = q.open_) (hk : q'.kept = q.kept)
    (hc : [.int .i64 q.last, .int .i64 q.seq, vo, .int .i64 q.upto, .map (some mb), .bool q.owed, .int .i64 q.self, .int .i64 q.peer, .int .i64 q.life, .int .i64 q.theirs].set i u = [.int .i64 q'.last, .int .i64 q'.seq, vo, .int .i64 q'.upto, .map (some mb), .bool q'.owed, .int .i64 q'.self, .int .i64 q'.peer, .int .i64 q'.life, .int .i64 q'.theirs]) :
    LinkIn (w.setCell ⟨p, i, none⟩ u) B p vo mb q' ∧ Keep (linkFoot p vo mb (q.open_ ++ q.kept)) w (w.setCell ⟨p, i, none⟩ u) := by
  obtain ⟨a1, a2, a3, a4⟩ := h.apart
  have k3 : Keep [p] w (w.setCell ⟨p, i, none⟩ u) := (Keep.refl _ _).setCell (by simp) _
  refine ⟨⟨?_, ?_, ?_, fun t ht => ?_, by rw [ho, hk]; exact h.nodup, h.base⟩, k3.mono (fun x hx => Or.inl (by simp at hx; subst hx; simp [linkFoot]))⟩
  · rw [← hc]
    exact h.head.set_ i u
  · rw [ho]
    exact h.rows.keep k3 (fun g hg hx => a1 ((show g = p by simpa using hx) ▸ hg))
  · rw [hk]
    exact h.kept.keep k3 (by simpa using a3)
  · rw [ho, hk] at ht
    exact OwnsAt.keep (h.bytes t ht) k3 (fun g hg hx => (a4 t ht).1 ((show g = p by simpa using hx) ▸ hg))
def SendPost (B p : Nat) (F : List Nat) (w : World) (q : LK) (bs : List UInt8) (e : Ending) (w' : World) : Prop :=
  if 4096 < bs.length then e = .returned (.int .i64 3) ∧ w' = w
  else if q.last ≤ q.seq then e = .returned (.int .i64 32) ∧ Keep [] w w'
  else if 8 ≤ q.open_.length then e = .returned (.int .i64 31) ∧ Keep [] w w'
  else ∃ bv, LPost B p F w (.int .i64 0) { q with seq := q.seq + 1, open_ := q.open_ ++ [⟨q.seq + 1, 0, 0, bs, bv⟩] } e w'
set_option maxHeartbeats 16000000 in
set_option maxRecDepth 100000 in
theorem send_spec {w : World} {B p : Nat} {F : List Nat} {q : LK} {bs : List UInt8} {v : Value} (h : LinkAt w B p F q) (hB : B ≤ w.heap.size) (hv : ∀ w', Keep F w w' → BytesOf w' v bs) (hbl : bs.length ≤ 1000000) (hs0 : 0 ≤ q.seq) (hlast : q.last ≤ 9223372036854775807) :
    Calls Try.prog 11 #[.pointer (some ⟨p, 0, none⟩), v] w (SendPost B p F w q bs) := by
  obtain ⟨vo, mb, h, rfl⟩ := h
  obtain ⟨aw, cw, rfl⟩ := h.rows.shape
  obtain ⟨ab, cb, rfl⟩ := (hv w (Keep.refl _ _)).shape
  have c0 : w.cell? ⟨p, 0, none⟩ = some (.int .i64 q.last) := h.head.cell 0
  have c1 : w.cell? ⟨p, 1, none⟩ = some (.int .i64 q.seq) := h.head.cell 1
  have c2 : w.cell? ⟨p, 2, none⟩ = some (.slice aw q.open_.length cw) := h.head.cell 2
  have f1 := h.head.frozen 1
  by_cases hb : 4096 < bs.length
  · have hbI : (4096 : Int) < (bs.length : Int) := by omega
    have Hb := Lib.hid hb
    clear h hv hb
    go_enter Try.func11, Try.ntmps11
    go_wp2
    go_ret
    unfold SendPost
    rw [if_pos Hb.out]
    exact ⟨rfl, rfl⟩
  · have hbI : ¬ (4096 : Int) < (bs.length : Int) := by omega
    by_cases hsl : q.last ≤ q.seq
    · have Hb := Lib.hid hb
      clear h hv hb
      go_enter Try.func11, Try.ntmps11
      go_wp2_with fail
      go_quiet (fail)
      go_wp2
      go_ret
      unfold SendPost
      rw [if_neg Hb.out, if_pos hsl]
      exact ⟨rfl, (Keep.refl _ _).drewN _⟩
    · by_cases hol : 8 ≤ q.open_.length
      · have holI : (8 : Int) ≤ (q.open_.length : Int) := by omega
        have Hb := Lib.hid hb
        have Hol := Lib.hid hol
        clear h hv hb hol
        go_enter Try.func11, Try.ntmps11
        go_wp2_with fail
        go_quiet (fail)
        go_wp2
        go_ret
        unfold SendPost
        rw [if_neg Hb.out, if_neg (by omega), if_pos Hol.out]
        exact ⟨rfl, (Keep.refl _ _).drewN _⟩
      · have holI : ¬ (8 : Int) ≤ (q.open_.length : Int) := by omega
        have hw1 : IntKind.i64.wrap (q.seq + 1) = q.seq + 1 := IntWalk.i64_in _ (by omega)
        have H := Lib.hid h
        have Hv := Lib.hid hv
        have Hbl2 := Lib.hid hbl
        have hol8 : q.open_.length < 8 := by omega
        clear h hv hol hbl
        go_enter Try.func11, Try.ntmps11
        go_wp2_with fail
        go_quiet (fail)
        have h2 := H.out.keep ((Keep.refl [] w).drewN nq) (by simp)
        obtain ⟨t1, t2⟩ := LinkIn.turn (q' := { q with seq := q.seq + 1 }) h2 1 (.int .i64 (q.seq + 1)) rfl rfl rfl
        have Hby := Lib.hid (Hv.out _ (((Keep.refl _ _).drewN nq).trans t2 (fun x hx => Or.inl hx)))
        go_wp2_with fail
        have c2 : ((w.drewN nq).setCell ⟨p, 1, none⟩ (.int .i64 (q.seq + 1))).cell? ⟨p, 2, none⟩ = some (.slice aw q.open_.length cw) := t1.head.cell 2
        have c1' : ((w.drewN nq).setCell ⟨p, 1, none⟩ (.int .i64 (q.seq + 1))).cell? ⟨p, 1, none⟩ = some (.int .i64 (q.seq + 1)) := t1.head.cell 1
        have T2 := t2
        have hB : B ≤ ((w.drewN nq).setCell ⟨p, 1, none⟩ (.int .i64 (q.seq + 1))).heap.size := by simpa using hB
        have hn2 := t1.keep (Keep.refl [] _).drew (by simp)
        have t2 := ((Keep.refl (linkFoot p (.slice aw q.open_.length cw) mb (q.open_ ++ q.kept)) w).drewN nq).trans t2 (fun x hx => Or.inl hx)
        refine wp_region_split 16 (fun w' => w'.cell? ⟨p, 2, none⟩ = some (.slice aw q.open_.length cw) ∧ w'.cell? ⟨p, 1, none⟩ = some (.int .i64 (q.seq + 1))) (by kernel_rfl) rfl (by kernel_rfl) ⟨c2, c1'⟩ ?_
        intro hHeld
        simp only [List.take_succ_cons, List.take_zero]
        refine wpAnyH_take (i := 0) (v := ?_) rfl (by kernel_rfl) (by kernel_rfl) (by kernel_rfl) (fun _ _ _ h => h) (Or.inl ⟨by rfl, by (intro w hSw; (try dsimp only at hSw); go_simp) <;> with_reducible rfl⟩) (by assumption) ?_
        (try simp only [Act.put, List.setIfInBounds_toArray, List.set_cons_zero, List.set_cons_succ])
        refine wpAnyH_take (i := 1) (v := ?_) rfl (by kernel_rfl) (by kernel_rfl) (by kernel_rfl) (fun _ _ _ h => h) (Or.inl ⟨by rfl, by (intro w hSw; (try dsimp only at hSw); go_simp) <;> with_reducible rfl⟩) (by assumption) ?_
        (try simp only [Act.put, List.setIfInBounds_toArray, List.set_cons_zero, List.set_cons_succ])
        refine wpAnyH_take (i := 2) (v := ?_) rfl (by kernel_rfl) (by kernel_rfl) (by kernel_rfl) (fun _ _ _ h => h) (Or.inl ⟨by rfl, by (intro w hSw; (try dsimp only at hSw); go_simp) <;> with_reducible rfl⟩) (by assumption) ?_
        (try simp only [Act.put, List.setIfInBounds_toArray, List.set_cons_zero, List.set_cons_succ])
        refine wpAnyH_take (i := 3) (v := ?_) rfl (by kernel_rfl) (by kernel_rfl) (by kernel_rfl) (fun _ _ _ h => h) (Or.inl ⟨by rfl, by (intro w hSw; (try dsimp only at hSw); go_simp) <;> with_reducible rfl⟩) (by assumption) ?_
        (try simp only [Act.put, List.setIfInBounds_toArray, List.set_cons_zero, List.set_cons_succ])
        refine wpAnyH_take (i := 4) (v := ?_) rfl (by kernel_rfl) (by kernel_rfl) (by kernel_rfl) (fun _ _ _ h => h) (Or.inl ⟨by rfl, by (intro w hSw; (try dsimp only at hSw); go_simp) <;> with_reducible rfl⟩) (by assumption) ?_
        (try simp only [Act.put, List.setIfInBounds_toArray, List.set_cons_zero, List.set_cons_succ])
        refine wpAnyH_take (i := 5) (v := ?_) rfl (by kernel_rfl) (by kernel_rfl) (by kernel_rfl) (fun _ _ _ h => h) (Or.inl ⟨by rfl, by (intro w hSw; (try dsimp only at hSw); go_simp) <;> with_reducible rfl⟩) (by assumption) ?_
        (try simp only [Act.put, List.setIfInBounds_toArray, List.set_cons_zero, List.set_cons_succ])
        refine wpAnyH_take (i := 6) (v := ?_) rfl (by kernel_rfl) (by kernel_rfl) (by kernel_rfl) (fun _ _ _ h => h) (Or.inl ⟨by rfl, by (intro w hSw; (try dsimp only at hSw); go_simp) <;> with_reducible rfl⟩) (by assumption) ?_
        (try simp only [Act.put, List.setIfInBounds_toArray, List.set_cons_zero, List.set_cons_succ])
        refine wpAnyH_take (i := 7) (v := ?_) rfl (by kernel_rfl) (by kernel_rfl) (by kernel_rfl) (fun _ _ _ h => h) (Or.inl ⟨by rfl, by (intro w hSw; (try dsimp only at hSw); go_simp) <;> with_reducible rfl⟩) (by assumption) ?_
        (try simp only [Act.put, List.setIfInBounds_toArray, List.set_cons_zero, List.set_cons_succ])
        refine wpAnyH_take (i := 8) (v := ?_) rfl (by kernel_rfl) (by kernel_rfl) (by kernel_rfl) (fun _ _ _ h => h) (Or.inl ⟨by rfl, by (intro w hSw; (try dsimp only at hSw); go_simp) <;> with_reducible rfl⟩) (by assumption) ?_
        (try simp only [Act.put, List.setIfInBounds_toArray, List.set_cons_zero, List.set_cons_succ])
        refine wpAnyH_take (i := 9) (v := ?_) rfl (by kernel_rfl) (by kernel_rfl) (by kernel_rfl) (fun _ _ _ h => h) (Or.inl ⟨by rfl, by (intro w hSw; (try dsimp only at hSw); go_simp) <;> with_reducible rfl⟩) (by assumption) ?_
        (try simp only [Act.put, List.setIfInBounds_toArray, List.set_cons_zero, List.set_cons_succ])
        refine wpAnyH_ready (rs := [10]) (by kernel_rfl) (by simp) ?_
        refine AllReadyH.cons rfl (fun K hK => ?_) AllReadyH.nil
        go_simp
        go_at_call 26
        refine (clone_spec (Hby.out.keep0 (Keep.refl _ _).drew) (by have := Hbl2.out; omega)).mono ?_
        rintro e w3 ⟨bv, rfl, ho, hk3⟩
        have hn3 := hn2.keep hk3 (by simp)
        obtain ⟨a9, c9, rfl⟩ := OwnsAt.shape ho
        go_wp2_with fail
        refine hK.out _ _ ?_ (fun hHeld => ?_)
        · exact ⟨hn3.head.cell 2, hn3.head.cell 1⟩
        clear hK K
        (try simp only [Act.put, List.setIfInBounds_toArray, List.set_cons_zero, List.set_cons_succ])
        refine wpAnyH_take (i := 11) (v := ?_) rfl (by kernel_rfl) (by kernel_rfl) (by kernel_rfl) (fun _ _ _ h => h) (Or.inl ⟨by rfl, by (intro w hSw; (try dsimp only at hSw); go_simp) <;> with_reducible rfl⟩) (by assumption) ?_
        (try simp only [Act.put, List.setIfInBounds_toArray, List.set_cons_zero, List.set_cons_succ])
        refine wpAnyH_ready (rs := [12]) (by kernel_rfl) (by simp) ?_
        refine AllReadyH.cons rfl (fun K hK => ?_) AllReadyH.nil
        go_simp
        refine hK.out _ _ ?_ (fun hHeld => ?_)
        · exact ⟨(hn3.head.alloc _).cell 2, (hn3.head.alloc _).cell 1⟩
        clear hK K
        (try simp only [Act.put, List.setIfInBounds_toArray, List.set_cons_zero, List.set_cons_succ])
        refine wpAnyH_ready (rs := [13]) (by kernel_rfl) (by simp) ?_
        refine AllReadyH.cons rfl (fun K hK => ?_) AllReadyH.nil
        refine step_append_off rfl (.tmp 37) (.tmp 45) rfl Try.lds27 B (.slice aw q.open_.length cw) q.open_.length (q.open_.flatMap LD.c) (by simp [Act.eval]) (hn3.rows.keep ((Keep.refl [] _).alloc _) (by simp)) (.slice (some ⟨w3.heap.size, 0, none⟩) 1 1) 1 [.int .i64 (q.seq + 1), .int .i64 0, .int .i64 0, .slice a9 bs.length c9] (by simp [Act.eval]) (src_row 4 rfl _ rfl) (by simp [Value.oneCell']) (by unfold maxLen; omega) (by omega) (by have := hk3.size; simp at this; simp; omega) ?_
        intro v' w4 hown4 hk4 hat4
        have hp4 : p ∉ ownBlocks (.slice aw q.open_.length cw) := (fun hx => hn3.apart.1 (mem_own.1 hx))
        have hd4 := (hn3.head.alloc (.cells #[.int .i64 (q.seq + 1), .int .i64 0, .int .i64 0, .slice a9 bs.length c9] 75)).keep hk4 hp4
        have c5 : w4.cell? ⟨p, 2, none⟩ = some (.slice aw q.open_.length cw) := hd4.cell 2
        have c6 : w4.cell? ⟨p, 1, none⟩ = some (.int .i64 (q.seq + 1)) := hd4.cell 1
        have f5 : w4.frozen? ⟨p, 2, none⟩ = false := hd4.frozen 2
        obtain ⟨a7, c7', rfl⟩ := hown4.shape
        refine hK.out _ _ ?_ (fun hHeld => ?_)
        · exact ⟨c5, c6⟩
        clear hK K
        (try simp only [Act.put, List.setIfInBounds_toArray, List.set_cons_zero, List.set_cons_succ])
        refine wpAnyH_take (i := 14) (v := ?_) rfl (by kernel_rfl) (by kernel_rfl) (by kernel_rfl) (fun _ _ _ h => h) (Or.inl ⟨by rfl, by (intro w hSw; (try dsimp only at hSw); go_simp) <;> with_reducible rfl⟩) (by assumption) ?_
        (try simp only [Act.put, List.setIfInBounds_toArray, List.set_cons_zero, List.set_cons_succ])
        refine wpAnyH_take (i := 15) (v := ?_) rfl (by kernel_rfl) (by kernel_rfl) (by kernel_rfl) (fun _ _ _ h => h) (Or.inl ⟨by rfl, by (intro w hSw; (try dsimp only at hSw); go_simp) <;> with_reducible rfl⟩) (by assumption) ?_
        (try simp only [Act.put, List.setIfInBounds_toArray, List.set_cons_zero, List.set_cons_succ])
        refine wpAnyH_done (by kernel_rfl) ?_ _
        obtain ⟨g1, g2, g3⟩ := LinkIn.push (s := ⟨q.seq + 1, 0, 0, bs, .slice a9 bs.length c9⟩) hn2 (by simpa using hB) (hk3.alloc (.cells #[.int .i64 (q.seq + 1), .int .i64 0, .int .i64 0, .slice a9 bs.length c9] 75)) (OwnsAt.keep ho ((Keep.refl [] _).alloc _) (by simp)) hk4 (by simpa [LD.c] using hown4) (by simpa using hat4)
        have Hfin := Lib.hid (And.intro g1 (And.intro ((t2.trans (Keep.refl (linkFoot p (.slice aw q.open_.length cw) mb (q.open_ ++ q.kept)) _).drew (fun x hx => Or.inl hx)).trans g2 (fun x hx => Or.inl hx)) g3))
        clear g1 g2 g3 hn3 hn2 hk3 hk4 hown4 hat4 ho hd4 t1 t2
        show Oper.wp _ _ _ _ _ _
        go_simp
        go_wp2
        go_ret
        unfold SendPost
        rw [if_neg (by omega), if_neg (by omega), if_neg (by omega)]
        exact ⟨_, rfl, _, ⟨_, mb, Hfin.out.1, rfl⟩, Hfin.out.2.1, fun x hx => by simpa using Hfin.out.2.2 x hx⟩
end Go.Proofs.Ytacifjjhadjhfaa
