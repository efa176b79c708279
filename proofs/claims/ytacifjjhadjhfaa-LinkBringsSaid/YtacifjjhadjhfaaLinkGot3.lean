/- Links: got. -/
import Derived.Test.YtacifjjhadjhfaaRows
import Derived.WalkKit
import Derived.WalkSpells
import Derived.WalkLawsBesides
import Derived.RegionTactic
import Derived.ChangeAlike
import Derived.BigQuiet
import Derived.Deep.QuietTactic
import Derived.StillTailTactics
import Derived.IntWalk
import Derived.Handy
import Derived.Lib.Hide
import Derived.Deep.AppendLies
import Derived.Deep.RegionWith
import Derived.Test.YtacifjjhadjhfaaBase
import Derived.Test.YtacifjjhadjhfaaTail
import Derived.Test.YtacifjjhadjhfaaArgs
import Derived.Test.YtacifjjhadjhfaaAppend
import Derived.Deep.RegionLaw
import Derived.Test.YtacifjjhadjhfaaOffs
import Derived.Test.YtacifjjhadjhfaaStructs
import Derived.Test.YtacifjjhadjhfaaSplit
import Derived.Maps.OwnSet
import Derived.Maps.Views
import Derived.Test.YtacifjjhadjhfaaLinkBytes
import Derived.Test.YtacifjjhadjhfaaLinkObj
import Derived.Test.YtacifjjhadjhfaaLinkSend
import Derived.Test.YtacifjjhadjhfaaLinkDue
import Derived.Test.YtacifjjhadjhfaaLinkFrame
import Derived.Test.YtacifjjhadjhfaaLinkOut
import Derived.Test.YtacifjjhadjhfaaLinkOut2
import Derived.Test.YtacifjjhadjhfaaLinkOne
import Derived.Test.YtacifjjhadjhfaaLinkLive
import Derived.Test.YtacifjjhadjhfaaLinkAck
import Derived.Test.YtacifjjhadjhfaaLinkAck2
import Derived.Test.YtacifjjhadjhfaaLinkGot
import Derived.Test.YtacifjjhadjhfaaLinkGot2
namespace Go.Proofs.Ytacifjjhadjhfaa
open Go.RowKit
theorem wf64 {x : Int} (h : -9223372036854775808 ≤ x ∧ x ≤ 9223372036854775807) : (Lit.int .i64 x).wf = true := by
  simp [Lit.wf, IntKind.min, IntKind.max, IntKind.bits, IntKind.signed]
  omega
def gotTake (q : LK) (sq : Int) : Bool := !(q.kept.any fun s => s.seq == sq) && decide (q.upto < sq) && decide (sq - q.upto ≤ 8)
theorem LinkIn.keptAdd {w w2 : World} {B p mb : Nat} {vo : Value} {q : LK} {s : LD} (h : LinkIn w B p vo mb q) (hb : OwnB w B s.bv s.bs) (hf : ∀ x ∈ ownBlocks s.bv, x ∉ linkFoot p vo mb (q.open_ ++ q.kept)) (hk : KeptIn w2 mb (q.kept ++ [s])) (k : Keep [mb] w w2) :
    LinkIn w2 B p vo mb { q with kept := q.kept ++ [s] } ∧ Keep (linkFoot p vo mb (q.open_ ++ q.kept)) w w2 ∧ ∀ x ∈ linkFoot p vo mb (q.open_ ++ (q.kept ++ [s])), x ∈ linkFoot p vo mb (q.open_ ++ q.kept) ∨ x ∈ ownBlocks s.bv := by
  obtain ⟨a1, a2, a3, a4⟩ := h.apart
  refine ⟨⟨h.head.keep k (by simpa using a3.symm), h.rows.keep k (fun g hg hx => a2 ((show g = mb by simpa using hx) ▸ hg)), hk, fun t ht => ?_, ?_, h.base⟩, k.mono (fun x hx => Or.inl (by rw [show x = mb by simpa using hx]; simp [linkFoot])), fun x hx => ?_⟩
  · simp only [List.mem_append, List.mem_singleton] at ht
    rcases ht with ht | ht | rfl
    · exact OwnsAt.keep (h.bytes t (List.mem_append_left _ ht)) k (fun g hg hx => (a4 t (List.mem_append_left _ ht)).2.1 ((show g = mb by simpa using hx) ▸ hg))
    · exact OwnsAt.keep (h.bytes t (List.mem_append_right _ ht)) k (fun g hg hx => (a4 t (List.mem_append_right _ ht)).2.1 ((show g = mb by simpa using hx) ▸ hg))
    · exact OwnsAt.keep hb k (fun g hg hx => hf g (mem_own.2 hg) (by rw [show g = mb by simpa using hx]; simp [linkFoot]))
  · simp only [← List.append_assoc]
    rw [byteBlocks_append]
    refine List.nodup_append.2 ⟨h.nodup, ?_, fun x hx y hy e => ?_⟩
    · simp only [byteBlocks, List.flatMap_cons, List.flatMap_nil, List.append_nil, ownBlocks]
      cases s.bv.ownBlock <;> simp
    · subst e
      refine hf x (by simpa [byteBlocks] using hy) ?_
      simp only [linkFoot, List.mem_cons, List.mem_append]
      exact Or.inr (Or.inr (Or.inr hx))
  · simp only [linkFoot, List.mem_cons, List.mem_append, byteBlocks_append] at hx ⊢
    rcases hx with hx | hx | hx | hx | hx | hx
    · exact Or.inl (Or.inl hx)
    · exact Or.inl (Or.inr (Or.inl hx))
    · exact Or.inl (Or.inr (Or.inr (Or.inl hx)))
    · exact Or.inl (Or.inr (Or.inr (Or.inr (Or.inl hx))))
    · exact Or.inl (Or.inr (Or.inr (Or.inr (Or.inr hx))))
    · exact Or.inr (by simpa [byteBlocks] using hx)
def GotAll (B p : Nat) (F : List Nat) (q : LK) (sq : Int) (bs : List UInt8) (w : World) (e : Ending) (w' : World) : Prop :=
  if gotTake q sq = true then ∃ bv, GotPost B p F q (runK (q.kept.length + 2) q.upto (q.kept ++ [⟨sq, 0, 0, bs, bv⟩])) w e w'
  else GotPost B p F q (q.upto, q.kept, []) w e w'
set_option maxHeartbeats 40000000 in
set_option maxRecDepth 100000 in
theorem got_spec {w : World} {B p : Nat} {F : List Nat} {q : LK} {sq : Int} {bs : List UInt8} {v : Value} (h : LinkAt w B p F q) (hB : B ≤ w.heap.size) (hv : ∀ w', Keep F w w' → BytesOf w' v bs) (hbl : bs.length ≤ 1000000) (hu : 0 ≤ q.upto ∧ q.upto ≤ 1000000000) (hsq : 0 ≤ sq ∧ sq ≤ 9223372036854775807) (hkl : q.kept.length ≤ 1000) :
    Calls Try.prog 30 #[.pointer (some ⟨p, 3, none⟩), .int .i64 sq, v] w (GotAll B p F q sq bs w) := by
  obtain ⟨vo, mb, h, rfl⟩ := h
  obtain ⟨ab, cb, rfl⟩ := (hv w (Keep.refl _ _)).shape
  have c5 : w.cell? ⟨p, 5, none⟩ = some (.bool q.owed) := h.head.cell 5
  have f5 := h.head.frozen 5
  obtain ⟨t1, t2⟩ := LinkIn.turn (q' := { q with owed := true }) h 5 (.bool true) rfl rfl rfl
  have hwf : (Lit.int .i64 sq).wf = true := wf64 (by omega)
  obtain ⟨v0, hlook, _⟩ := t1.kept.look hwf
  simp only at hlook
  have c3 : (w.setCell ⟨p, 5, none⟩ (.bool true)).cell? ⟨p, 3, none⟩ = some (.int .i64 q.upto) := t1.head.cell 3
  have c4 : (w.setCell ⟨p, 5, none⟩ (.bool true)).cell? ⟨p, 4, none⟩ = some (.map (some mb)) := t1.head.cell 4
  have hw1 : IntKind.i64.wrap (sq - q.upto) = sq - q.upto := IntWalk.i64_in _ (by omega)
  have T1 := Lib.hid t1
  have T2 := Lib.hid t2
  have href : gotTake q sq = false → GotAll B p (linkFoot p vo mb (q.open_ ++ q.kept)) q sq bs w (.returned (.slice none 0 0)) (w.setCell ⟨p, 5, none⟩ (.bool true)) := by
    intro hg
    unfold GotAll
    rw [if_neg (by simp [hg])]
    exact ⟨_, _, rfl, ⟨OwnsAt.nil _ _ _ _, by simp⟩, ⟨vo, mb, T1.out, rfl⟩, T2.out, fun x hx => Or.inl hx, by simpa using T1.out.nodup⟩
  have Href := Lib.hid href
  have Hby := Lib.hid (hv _ t2)
  have hsz := h.head.lt
  clear hv t1 t2 h href
  cases hhas : q.kept.any (fun s => s.seq == sq) with
  | true =>
    rw [hhas] at hlook
    have Hend := Lib.hid (Href.out (by unfold gotTake; rw [hhas]; rfl))
    clear hhas
    go_enter Try.func30, Try.ntmps30
    go_wp2
    go_ret
    exact Hend.out
  | false =>
    rw [hhas] at hlook
    by_cases h1 : sq ≤ q.upto
    · have Hend := Lib.hid (Href.out (by unfold gotTake; simp; omega))
      clear hhas
      go_enter Try.func30, Try.ntmps30
      go_wp2
      go_ret
      exact Hend.out
    · by_cases h2 : 8 < sq - q.upto
      · have Hend := Lib.hid (Href.out (by unfold gotTake; simp; omega))
        clear hhas
        go_enter Try.func30, Try.ntmps30
        go_wp2
        go_ret
        exact Hend.out
      · have htake : gotTake q sq = true := by unfold gotTake; rw [hhas]; simp; omega
        have Htake := Lib.hid htake
        have hnew : ∀ t ∈ q.kept, t.seq ≠ sq := fun t ht e => by
          have := List.any_eq_false.1 hhas t ht
          simp [e] at this
        clear hhas htake Href
        go_enter Try.func30, Try.ntmps30
        go_wp2_with fail
        clear c5 f5
        refine wp_region_split 7 (fun w' => w'.cell? ⟨p, 4, none⟩ = some (.map (some mb))) (by kernel_rfl) rfl (by kernel_rfl) (T1.out.head.cell 4) ?_
        intro hHeld
        simp only [List.take_succ_cons, List.take_zero]
        refine wpAnyH_take (i := 0) (v := ?_) rfl (by kernel_rfl) (by kernel_rfl) (by kernel_rfl) (fun _ _ _ h => h) (Or.inl ⟨by rfl, by (intro w hSw; (try dsimp only at hSw); go_simp) <;> with_reducible rfl⟩) (by assumption) ?_
        (try simp only [Act.put, List.setIfInBounds_toArray, List.set_cons_zero, List.set_cons_succ])
        refine wpAnyH_take (i := 1) (v := ?_) rfl (by kernel_rfl) (by kernel_rfl) (by kernel_rfl) (fun _ _ _ h => h) (Or.inl ⟨by rfl, by (intro w hSw; (try dsimp only at hSw); go_simp) <;> with_reducible rfl⟩) (by assumption) ?_
        (try simp only [Act.put, List.setIfInBounds_toArray, List.set_cons_zero, List.set_cons_succ])
        refine wpAnyH_take (i := 2) (v := ?_) rfl (by kernel_rfl) (by kernel_rfl) (by kernel_rfl) (fun _ _ _ h => h) (Or.inl ⟨by rfl, by (intro w hSw; (try dsimp only at hSw); go_simp) <;> with_reducible rfl⟩) (by assumption) ?_
        (try simp only [Act.put, List.setIfInBounds_toArray, List.set_cons_zero, List.set_cons_succ])
        refine wpAnyH_take (i := 3) (v := ?_) rfl (by kernel_rfl) (by kernel_rfl) (by kernel_rfl) (fun _ _ _ h => h) (Or.inl ⟨by rfl, by (intro w hSw; (try dsimp only at hSw); go_simp) <;> with_reducible rfl⟩) (by assumption) ?_
        (try simp only [Act.put, List.setIfInBounds_toArray, List.set_cons_zero, List.set_cons_succ])
        refine wpAnyH_take (i := 4) (v := ?_) rfl (by kernel_rfl) (by kernel_rfl) (by kernel_rfl) (fun _ _ _ h => h) (Or.inl ⟨by rfl, by (intro w hSw; (try dsimp only at hSw); go_simp) <;> with_reducible rfl⟩) (by assumption) ?_
        (try simp only [Act.put, List.setIfInBounds_toArray, List.set_cons_zero, List.set_cons_succ])
        refine wpAnyH_take (i := 5) (v := ?_) rfl (by kernel_rfl) (by kernel_rfl) (by kernel_rfl) (fun _ _ _ h => h) (Or.inl ⟨by rfl, by (intro w hSw; (try dsimp only at hSw); go_simp) <;> with_reducible rfl⟩) (by assumption) ?_
        (try simp only [Act.put, List.setIfInBounds_toArray, List.set_cons_zero, List.set_cons_succ])
        refine wpAnyH_ready (rs := [6]) (by kernel_rfl) (by simp) ?_
        refine AllReadyH.cons rfl (fun K hK => ?_) AllReadyH.nil
        go_simp
        go_at_call 26
        refine (clone_spec (Hby.out.keep0 (Keep.refl _ _).drew) (by omega)).mono ?_
        rintro e w3 ⟨bv, rfl, ho, hk3⟩
        have hn3 := (T1.out.keep (Keep.refl [] _).drew (by simp)).keep hk3 (by simp)
        obtain ⟨a9, c9, rfl⟩ := OwnsAt.shape ho
        go_wp2_with fail
        refine hK.out _ _ ?_ (fun hHeld => ?_)
        · exact hn3.head.cell 4
        clear hK K
        (try simp only [Act.put, List.setIfInBounds_toArray, List.set_cons_zero, List.set_cons_succ])
        refine wpAnyH_done (by kernel_rfl) ?_ _
        obtain ⟨w4, hst, hk4a, hk4b⟩ := hn3.kept.store ⟨sq, 0, 0, bs, .slice a9 bs.length c9⟩ hwf hnew (by simpa using hkl)
        simp only at hst
        obtain ⟨l1, l2, l3⟩ := hn3.keptAdd (s := ⟨sq, 0, 0, bs, .slice a9 bs.length c9⟩) (OwnsAt.mono ho (by simp; omega)) (fun x hx hm => by
          have h1 := (OwnsAt.lt ho x (mem_own.1 hx)).1
          have h2 := (T1.out.lt x hm).2
          simp at h1 h2
          omega) hk4a hk4b
        have kk1 := (T2.out.trans hk3.of_drew (by simp)).trans l2 (fun x hx => Or.inl hx)
        have hsz3 := hk3.size
        have L1 := Lib.hid l1
        have KK1 := Lib.hid kk1
        have hlo : ∀ x ∈ ownBlocks (.slice a9 bs.length c9), w.heap.size ≤ x := fun x hx => by
          have := (OwnsAt.lt ho x (mem_own.1 hx)).1
          simp at this
          omega
        have L3 := Lib.hid (show ∀ x ∈ linkFoot p vo mb (q.open_ ++ (q.kept ++ [⟨sq, 0, 0, bs, .slice a9 bs.length c9⟩])), x ∈ linkFoot p vo mb (q.open_ ++ q.kept) ∨ w.heap.size ≤ x from fun x hx => (l3 x hx).imp id (hlo x))
        clear hn3 ho hk3 hk4a hk4b l1 l2 l3 kk1 hlo Hby
        show Oper.wp _ _ _ _ _ _
        go_simp
        clear hst
        generalize hS : (⟨sq, 0, 0, bs, .slice a9 bs.length c9⟩ : LD) = sN at *
        have HS := Lib.hid hS
        clear hS
        go_wp2_with fail
        go_loopw [9, 10, 11] (fun v9 _ _ wr => ∃ (f : Nat) (u : Int) (ks os : List LD), u = q.upto + os.length ∧ os.length + ks.length = q.kept.length + 1 ∧ ks.length < f ∧ (runK (q.kept.length + 2) q.upto (q.kept ++ [sN])) = ((runK f u ks).1, (runK f u ks).2.1, os ++ (runK f u ks).2.2) ∧
          OutsIn wr B v9 os ∧ LinkIn wr B p vo mb { q with upto := u, kept := ks, owed := true } ∧ Keep (linkFoot p vo mb (q.open_ ++ q.kept)) w wr ∧ (∀ s ∈ os, ∀ x ∈ ownBlocks s.bv, x ∈ linkFoot p vo mb (q.open_ ++ q.kept) ∨ w.heap.size ≤ x) ∧ (∀ x ∈ linkFoot p vo mb (q.open_ ++ ks), x ∈ linkFoot p vo mb (q.open_ ++ q.kept) ∨ w.heap.size ≤ x) ∧ (byteBlocks (os ++ (q.open_ ++ ks))).Nodup ∧ (∀ x ∈ ownBlocks v9, w.heap.size ≤ x)) (fun v _ _ _ => q.kept.length + 1 - lenV v)
        case atStart => exact ⟨q.kept.length + 2, q.upto, q.kept ++ [sN], [], by simp, by simp, by simp, by simp, ⟨OwnsAt.nil _ _ _ _, by simp⟩, L1.out, KK1.out, by simp, L3.out, by simpa using L1.out.nodup, by simp [ownBlocks, Value.ownBlock]⟩
        case round =>
          obtain ⟨f, u, ks, os, hu, hcnt, hf, hrun, hos, hat, hk, hofoot, hfoot, hnd, hvf⟩ := hrel
          obtain ⟨ao, co, rfl⟩ := hos.rows.shape
          have hul : (os.length : Int) ≤ 1001 := by omega
          have hwf1 : (Lit.int .i64 (u + 1)).wf = true := wf64 (by omega)
          have hwu : IntKind.i64.wrap (u + 1) = u + 1 := IntWalk.i64_in _ (by omega)
          have hlook : ∀ n, (Instr.lookup 30 (.map (some mb)) (.int .i64 (u + 1)) true).run Try.prog (wr.drewN n) = .ok (.tuple #[lookV ks (u + 1), .bool (ks.any fun s => s.seq == u + 1)]) (wr.drewN n) := fun n => (hat.kept.keep ((Keep.refl [] wr).drewN n) (by simp)).look2 hwf1
          have k3 : wr.cell? ⟨p, 3, none⟩ = some (.int .i64 u) := hat.head.cell 3
          have k4 : wr.cell? ⟨p, 4, none⟩ = some (.map (some mb)) := hat.head.cell 4
          have kf3 := hat.head.frozen 3
          have hpl := hat.head.lt
          have Hat := Lib.hid hat
          have Hos := Lib.hid hos
          have Hk := Lib.hid hk
          have Hof := Lib.hid hofoot
          have Hfo := Lib.hid hfoot
          have Hnd := Lib.hid hnd
          have Hrun := Lib.hid hrun
          have Hvf := Lib.hid hvf
          obtain ⟨f, rfl⟩ : ∃ f', f = f' + 1 := ⟨f - 1, by omega⟩
          have Hu := Lib.hid hu
          have hub : 0 ≤ u ∧ u ≤ 1000001001 := by omega
          clear hat hos hk hofoot hfoot hnd hrun hvf hu
          cases hfd : ks.find? (fun s => s.seq == u + 1) with
          | none =>
            have hany : ks.any (fun s => s.seq == u + 1) = false := by
              rw [List.any_eq_false]
              intro s hs
              have := List.find?_eq_none.1 hfd s hs
              simpa using this
            have hlv : lookV ks (u + 1) = .slice none 0 0 := by unfold lookV; rw [hfd]
            rw [hany, hlv] at hlook
            have hr0 : runK (f + 1) u ks = (u, ks, []) := by unfold runK; rw [hfd]
            have hend : ∀ n, GotAll B p (linkFoot p vo mb (q.open_ ++ q.kept)) q sq bs w (.returned (.slice ao os.length co)) (wr.drewN n) := by
              intro n
              unfold GotAll
              rw [if_pos Htake.out]
              refine ⟨sN.bv, ?_⟩
              have hsN : (⟨sq, 0, 0, bs, sN.bv⟩ : LD) = sN := by rw [← HS.out]
              rw [hsN, Hrun.out, hr0]
              simp only [List.append_nil]
              exact ⟨_, _, rfl, ⟨Hos.out.rows.keep ((Keep.refl [] _).drewN n) (by simp), fun s hs => OwnsAt.keep (Hos.out.bytes s hs) ((Keep.refl [] _).drewN n) (by simp)⟩, ⟨vo, mb, Hat.out.keep ((Keep.refl [] _).drewN n) (by simp), rfl⟩, Hk.out.drewN n, Hfo.out, Hnd.out⟩
            have Hend := Lib.hid hend
            clear hend hr0 hany hlv hfd
            go_wp2_with fail
            go_quiet (fail)
            go_wp2
            go_ret
            exact Hend.out _
          | some s =>
            have hs : s ∈ ks := List.mem_of_find?_eq_some hfd
            have hsq2 : s.seq = u + 1 := by have := List.find?_some hfd; simpa using this
            have hany : ks.any (fun s => s.seq == u + 1) = true := List.any_eq_true.2 ⟨s, hs, by simpa using hsq2⟩
            have hlv : lookV ks (u + 1) = s.bv := by unfold lookV; rw [hfd]
            obtain ⟨sa, sc, hsv⟩ := OwnsAt.shape (Hat.out.bytes s (List.mem_append_right _ hs))
            rw [hany, hlv, hsv] at hlook
            have hrs : runK (f + 1) u ks = ((runK f (u + 1) (ks.filter fun s => s.seq != u + 1)).1, (runK f (u + 1) (ks.filter fun s => s.seq != u + 1)).2.1, s :: (runK f (u + 1) (ks.filter fun s => s.seq != u + 1)).2.2) := by
              conv => lhs; unfold runK
              rw [hfd]
            have Hs := Lib.hid (And.intro hs (And.intro hsq2 (And.intro hrs hsv)))
            clear hs hsq2 hany hlv hrs hfd
            go_wp2_with fail
            go_quiet (fail)
            obtain ⟨t3, t4⟩ := LinkIn.turn (q' := { q with upto := u + 1, kept := ks, owed := true }) (Hat.out.keep ((Keep.refl [] wr).drewN nq) (by simp)) 3 (.int .i64 (u + 1)) rfl rfl rfl
            have T3 := Lib.hid t3
            have T4 := Lib.hid (Hk.out.trans (((Keep.refl (linkFoot p vo mb (q.open_ ++ ks)) wr).drewN nq).trans t4 (fun x hx => Or.inl hx)) Hfo.out)
            go_wp2_with fail
            have kW : Keep [p] wr ((wr.drewN nq).setCell ⟨p, 3, none⟩ (.int .i64 (u + 1))) := ((Keep.refl _ _).drewN nq).setCell (by simp) _
            have osW := Lib.hid (Hos.out.beside Hat.out.head (by decide) (by decide) kW)
            have k3' : ((wr.drewN nq).setCell ⟨p, 3, none⟩ (.int .i64 (u + 1))).cell? ⟨p, 3, none⟩ = some (.int .i64 (u + 1)) := t3.head.cell 3
            have k4' : ((wr.drewN nq).setCell ⟨p, 3, none⟩ (.int .i64 (u + 1))).cell? ⟨p, 4, none⟩ = some (.map (some mb)) := t3.head.cell 4
            clear k3 k4 kf3 t3 t4 hlook hwu kW
            generalize ((wr.drewN nq).setCell ⟨p, 3, none⟩ (.int .i64 (u + 1))) = w5 at *
            refine wp_region_quiet_tail 8 (by kernel_rfl) (by kernel_rfl) ?_
            simp only [List.take_succ_cons, List.take_zero, List.drop_succ_cons, List.drop_zero]
            repeat (go_big_quiet_step (fail))
            refine quiet_tail_end ?_
            rintro _ ⟨nq2, rfl⟩
            have T5 := T3.out.keep ((Keep.refl [] w5).drewN nq2) (by simp)
            have os5 := osW.out.keep ((Keep.refl [] w5).drewN nq2) (by simp) (by simp)
            obtain ⟨w6, hdel, hk6a, hk6b⟩ := T5.kept.drop hwf1 0 ⟨s, Hs.out.1, Hs.out.2.1⟩
            simp only at hk6a
            have hperm := filter_perm ks s T5.kept.nodup Hs.out.1 Hs.out.2.1
            have hless := filter_one_less ks T5.kept.nodup ⟨s, Hs.out.1, Hs.out.2.1⟩
            have hnd2 : (byteBlocks ((os ++ [s]) ++ (q.open_ ++ ks.filter fun s => s.seq != u + 1))).Nodup := by
              have hp : (os ++ (q.open_ ++ ks)).Perm ((os ++ [s]) ++ (q.open_ ++ ks.filter fun s => s.seq != u + 1)) := by
                rw [List.append_assoc]
                refine List.Perm.append_left os ?_
                refine (List.Perm.append_left q.open_ hperm).trans ?_
                simp
              exact (bb_perm hp).nodup_iff.1 Hnd.out
            have hnd3 : (byteBlocks (q.open_ ++ ks.filter fun s => s.seq != u + 1)).Nodup := by
              have := hnd2
              rw [byteBlocks_append] at this
              exact (List.nodup_append.1 this).2.1
            have T6 := T5.keptTo (ks := ks.filter fun s => s.seq != u + 1) (fun t ht => (List.mem_filter.1 ht).1) hnd3 hk6a hk6b
            have os6 := os5.besideM T5.kept hk6b
            have sb5 : OwnB (w5.drewN nq2) B s.bv s.bs := T5.bytes s (List.mem_append_right _ Hs.out.1)
            have sb6 : OwnB w6 B s.bv s.bs := OwnsAt.keep sb5 hk6b (fun g hg hx => T5.kept.ne_own sb5 ((show g = mb by simpa using hx) ▸ hg))
            have hA : Keep [] w6 (w6.alloc (.cells #[s.bv] 35)) := (Keep.refl _ _).alloc _
            have osA := os6.keep hA (by simp) (by simp)
            have kk6 := ((T4.out.drewN nq2).trans hk6b (fun x hx => Or.inl (by rw [show x = mb by simpa using hx]; simp [linkFoot]))).trans hA (by simp)
            have hB6 : B ≤ (w6.alloc (.cells #[s.bv] 35)).heap.size := by have := kk6.size; omega
            have T6A := T6.keep hA (by simp)
            have hone : s.bv.oneCell' = true := by rw [Hs.out.2.2.2]; rfl
            have K6 := Lib.hid kk6
            have T6' := Lib.hid T6A
            have O6 := Lib.hid osA
            have S6 := Lib.hid (OwnsAt.keep sb6 hA (by simp))
            have N2 := Lib.hid hnd2
            have hsvv := Hs.out.2.2.2
            rw [hsvv] at hB6 K6 T6' O6 S6 hone
            clear T5 os5 hk6a hk6b hperm hnd2 hnd3 T6 os6 sb5 sb6 hA osA kk6 T6A osW T3 T4 hsvv
            go_wp2_with (at_builtin; refine wpList_append_off rfl _ _ rfl Try.bss42 B (.slice ao os.length co) os.length _ rfl O6.out.rows _ 1 _ rfl (src_row 1 rfl _ rfl) (by simp [Value.oneCell']) (by unfold maxLen; omega) (by omega) hB6 ?_)
            intro v' w7 hown7 hk7 hat7
            have T7 := T6'.out.far_own35 O6.out.rows hk7
            have os7 : OutsIn w7 B v' (os ++ [s]) := by
              refine ⟨?_, fun t ht => ?_⟩
              · rw [List.map_append, List.length_append, List.map_cons, List.map_nil, Hs.out.2.2.2]
                exact hown7
              · rcases List.mem_append.1 ht with ht | ht
                · exact OwnsAt.keep (O6.out.bytes t ht) hk7 (fun g hg hx => OwnsAt.ne_own (O6.out.bytes t ht) O6.out.rows (by decide) g hg (mem_own.1 hx))
                · obtain rfl : t = s := by simpa using ht
                  rw [Hs.out.2.2.2]
                  exact OwnsAt.keep S6.out hk7 (fun g hg hx => OwnsAt.ne_own S6.out O6.out.rows (by decide) g hg (mem_own.1 hx))
            have hvf7 : ∀ x ∈ ownBlocks v', w.heap.size ≤ x := fun x hx => by
              rcases hat7 with h | h
              · exact Hvf.out x (mem_own.2 (h ▸ mem_own.1 hx))
              · rw [mem_own, h] at hx
                cases hx
                have := K6.out.size
                simpa using this
            have kk7 := K6.out.trans hk7 (fun x hx => Or.inr (Hvf.out x hx))
            have hrun7 : runK (q.kept.length + 2) q.upto (q.kept ++ [sN]) = ((runK f (u + 1) (ks.filter fun s => s.seq != u + 1)).1, (runK f (u + 1) (ks.filter fun s => s.seq != u + 1)).2.1, (os ++ [s]) ++ (runK f (u + 1) (ks.filter fun s => s.seq != u + 1)).2.2) := by
              rw [Hrun.out, Hs.out.2.2.1]
              simp
            have hof7 : ∀ t ∈ os ++ [s], ∀ x ∈ ownBlocks t.bv, x ∈ linkFoot p vo mb (q.open_ ++ q.kept) ∨ w.heap.size ≤ x := fun t ht x hx => by
              rcases List.mem_append.1 ht with ht | ht
              · exact Hof.out t ht x hx
              · obtain rfl : t = s := by simpa using ht
                refine Hfo.out x ?_
                simp only [linkFoot, List.mem_cons, List.mem_append]
                exact Or.inr (Or.inr (Or.inr (mem_byteBlocks.2 ⟨t, List.mem_append_right _ Hs.out.1, mem_own.1 hx⟩)))
            have hfo7 : ∀ x ∈ linkFoot p vo mb (q.open_ ++ ks.filter fun s => s.seq != u + 1), x ∈ linkFoot p vo mb (q.open_ ++ q.kept) ∨ w.heap.size ≤ x := fun x hx => by
              refine Hfo.out x ?_
              simp only [linkFoot, List.mem_cons, List.mem_append] at hx ⊢
              rcases hx with hx | hx | hx | hx
              · exact Or.inl hx
              · exact Or.inr (Or.inl hx)
              · exact Or.inr (Or.inr (Or.inl hx))
              · refine Or.inr (Or.inr (Or.inr ?_))
                exact (bb_sub (List.Sublist.append (List.Sublist.refl _) List.filter_sublist)).subset hx
            obtain ⟨a7, c7, rfl⟩ := hown7.shape
            have Rel := Lib.hid (And.intro hrun7 (And.intro os7 (And.intro T7 (And.intro kk7 (And.intro hof7 (And.intro hfo7 hvf7))))))
            clear hrun7 os7 T7 kk7 hof7 hfo7 hvf7 hown7 hk7 hat7 K6 T6' O6 S6 hone hB6
            go_wp2
            go_roundw
            case rel => exact ⟨f, u + 1, ks.filter fun s => s.seq != u + 1, os ++ [s], by have := Hu.out; simp; omega, by simp; omega, by omega, Rel.out.1, Rel.out.2.1, Rel.out.2.2.1, Rel.out.2.2.2.1, Rel.out.2.2.2.2.1, Rel.out.2.2.2.2.2.1, N2.out, Rel.out.2.2.2.2.2.2⟩
            case measure => simp [lenV]; omega
end Go.Proofs.Ytacifjjhadjhfaa
