/- Nets: Dup. -/
import Derived.Test.YtolhcikgodaecaaRows
import Derived.WalkKit
import Derived.WalkSpells
import Derived.WalkLawsBesides
import Derived.RegionTactic
import Derived.ChangeAlike
import Derived.BigQuiet
import Derived.Deep.QuietTactic
import Derived.StillTailTactics
import Derived.IntWalk
import Derived.Handy
import Derived.Lib.Hide
import Derived.Deep.AppendLies
import Derived.Deep.RegionWith
import Derived.Deep.RegionLaw
import Derived.Test.YtolhcikgodaecaaBase
import Derived.Test.YtolhcikgodaecaaTail
import Derived.Test.YtolhcikgodaecaaArgs
import Derived.Test.YtolhcikgodaecaaAppend
import Derived.Test.YtolhcikgodaecaaOffs
import Derived.Test.YtolhcikgodaecaaStructs
import Derived.Test.YtolhcikgodaecaaNetObj
import Derived.Test.YtolhcikgodaecaaNetObj2
import Derived.Test.YtolhcikgodaecaaNetSend
import Derived.Test.YtolhcikgodaecaaNetWay
import Derived.Test.YtolhcikgodaecaaNetDel
import Derived.Test.YtolhcikgodaecaaNetSmall
import Derived.Test.YtolhcikgodaecaaSplit
namespace Go.Proofs.Ytolhcikgodaecaa
open Go.RowKit

def DupPost (B p : Nat) (F : List Nat) (w : World) (ss : List PS) (k : Int) (e : Ending) (w' : World) : Prop :=
  if isK k ss.length = true ∧ ss.length < 10000 then
    ∃ (s s' : PS), ss[k.toNat]? = some s ∧ dat s' = dat s ∧ NetPost B p F w (.bool true) (ss ++ [s']) e w'
  else e = .returned (.bool false) ∧ w' = w
set_option maxHeartbeats 40000000 in
set_option maxRecDepth 100000 in
theorem dup_spec {w : World} {B p : Nat} {F : List Nat} {ss : List PS} (k : Int) (h : NetAt w B p F ss) (hB : B ≤ w.heap.size) (hl : ss.length ≤ 10000) (hbl : ∀ s ∈ ss, s.bs.length ≤ 1000000) :
    Calls Try.prog 12 #[.pointer (some ⟨p, 0, none⟩), .int .i64 k] w (DupPost B p F w ss k) := by
  obtain ⟨vw, h, rfl⟩ := h
  obtain ⟨aw, cw, rfl⟩ := h.rows.shape
  have c0 : w.cell? ⟨p, 0, none⟩ = some (.slice aw ss.length cw) := h.head.cell 0
  have his := isK_spec k h
  have H := Lib.hid h
  have Hl := Lib.hid hl
  have hl2 : (ss.length : Int) ≤ 9000000000 := by omega
  have Hbl := Lib.hid hbl
  clear h hl hbl
  by_cases hk : isK k ss.length = true
  · rw [hk] at his
    have His := Lib.hid his
    have hk' : 0 ≤ k ∧ k < ss.length := by unfold isK at hk; simpa using hk
    obtain ⟨kn, rfl⟩ := Int.eq_ofNat_of_zero_le hk'.1
    have hkn : kn < ss.length := by omega
    by_cases hroom : ss.length < 10000
    · have ht : decide ((10000 : Int) ≤ (ss.length : Int)) = false := by simp; omega
      have Hc := Lib.hid (show isK (kn : Int) ss.length = true ∧ ss.length < 10000 from ⟨hk, hroom⟩)
      have Hroom := Lib.hid hroom
      have hi : ss[kn]? = some ss[kn] := List.getElem?_eq_getElem hkn
      obtain ⟨g, off, rfl, hg1, hg2, hcells, hcap, hfr⟩ := H.out.rows.rowAt PS.c4_len hi hkn
      have hby := bytes_of_off (H.out.bytes _ (List.getElem_mem hkn))
      have hbl2 := Hbl.out _ (List.getElem_mem hkn)
      generalize ss[kn] = s at *
      obtain ⟨f, t, bs, fl, bv⟩ := s
      have e0 : w.cell? ⟨g, off + kn * 4, none⟩ = some (.int .i64 f) := hcells 0 _ (by omega) rfl
      have e1 : w.cell? ⟨g, off + kn * 4 + 1, none⟩ = some (.int .i64 t) := hcells 1 _ (by omega) rfl
      have e2 : w.cell? ⟨g, off + kn * 4 + 2, none⟩ = some bv := hcells 2 _ (by omega) rfl
      have e3 : w.cell? ⟨g, off + kn * 4 + 3, none⟩ = some (.bool fl) := hcells 3 _ (by omega) rfl
      simp only at hby hbl2
      obtain ⟨ab, cb, rfl⟩ := hby.shape
      have Hby := Lib.hid hby
      have Hbl2 := Lib.hid hbl2
      have Hi := Lib.hid hi
      have hkn2 : (kn : Int) < (ss.length : Int) := by omega
      have hplt := H.out.head.lt
      clear hcells hby hbl2 hi hroom his hk hk' hfr
      go_enter Try.func12, Try.ntmps12
      go_wp2_with fail
      refine His.out.mono ?_
      rintro e w1 ⟨rfl, rfl⟩
      have hn2 := H.out.keep (Keep.refl [] w).drew (by simp)
      go_wp2_with fail
      refine wp_region_split 27 (fun w' => w'.cell? ⟨p, 0, none⟩ = some (.slice (some ⟨g, off, none⟩) ss.length cw) ∧ w'.cell? ⟨g, off + kn * 4, none⟩ = some (.int .i64 f) ∧ w'.cell? ⟨g, off + kn * 4 + 1, none⟩ = some (.int .i64 t) ∧ w'.cell? ⟨g, off + kn * 4 + 2, none⟩ = some (.slice ab bs.length cb) ∧ w'.cell? ⟨g, off + kn * 4 + 3, none⟩ = some (.bool fl)) (by kernel_rfl) rfl (by kernel_rfl) ⟨c0, e0, e1, e2, e3⟩ ?_
      intro hHeld
      simp only [List.take_succ_cons, List.take_zero]
      refine wpAnyH_take (i := 0) (v := ?_) rfl (by kernel_rfl) (by kernel_rfl) (by kernel_rfl) (fun _ _ _ h => h) (Or.inl ⟨by rfl, by (intro w hSw; (try dsimp only at hSw); go_simp) <;> with_reducible rfl⟩) (by assumption) ?_
      (try simp only [Act.put, List.setIfInBounds_toArray, List.set_cons_zero, List.set_cons_succ])
      refine wpAnyH_take (i := 1) (v := ?_) rfl (by kernel_rfl) (by kernel_rfl) (by kernel_rfl) (fun _ _ _ h => h) (Or.inl ⟨by rfl, by (intro w hSw; (try dsimp only at hSw); go_simp) <;> with_reducible rfl⟩) (by assumption) ?_
      (try simp only [Act.put, List.setIfInBounds_toArray, List.set_cons_zero, List.set_cons_succ])
      refine wpAnyH_take (i := 2) (v := ?_) rfl (by kernel_rfl) (by kernel_rfl) (by kernel_rfl) (fun _ _ _ h => h) (Or.inl ⟨by rfl, by (intro w hSw; (try dsimp only at hSw); go_simp) <;> with_reducible rfl⟩) (by assumption) ?_
      (try simp only [Act.put, List.setIfInBounds_toArray, List.set_cons_zero, List.set_cons_succ])
      refine wpAnyH_take (i := 3) (v := ?_) rfl (by kernel_rfl) (by kernel_rfl) (by kernel_rfl) (fun _ _ _ h => h) (Or.inl ⟨by rfl, by (intro w hSw; (try dsimp only at hSw); go_simp) <;> with_reducible rfl⟩) (by assumption) ?_
      (try simp only [Act.put, List.setIfInBounds_toArray, List.set_cons_zero, List.set_cons_succ])
      refine wpAnyH_take (i := 4) (v := ?_) rfl (by kernel_rfl) (by kernel_rfl) (by kernel_rfl) (fun _ _ _ h => h) (Or.inl ⟨by rfl, by (intro w hSw; (try dsimp only at hSw); go_simp) <;> with_reducible rfl⟩) (by assumption) ?_
      (try simp only [Act.put, List.setIfInBounds_toArray, List.set_cons_zero, List.set_cons_succ])
      refine wpAnyH_take (i := 5) (v := ?_) rfl (by kernel_rfl) (by kernel_rfl) (by kernel_rfl) (fun _ _ _ h => h) (Or.inl ⟨by rfl, by (intro w hSw; (try dsimp only at hSw); go_simp) <;> with_reducible rfl⟩) (by assumption) ?_
      (try simp only [Act.put, List.setIfInBounds_toArray, List.set_cons_zero, List.set_cons_succ])
      refine wpAnyH_take (i := 6) (v := ?_) rfl (by kernel_rfl) (by kernel_rfl) (by kernel_rfl) (fun _ _ _ h => h) (Or.inl ⟨by rfl, by (intro w hSw; (try dsimp only at hSw); go_simp) <;> with_reducible rfl⟩) (by assumption) ?_
      (try simp only [Act.put, List.setIfInBounds_toArray, List.set_cons_zero, List.set_cons_succ])
      refine wpAnyH_take (i := 7) (v := ?_) rfl (by kernel_rfl) (by kernel_rfl) (by kernel_rfl) (fun _ _ _ h => h) (Or.inl ⟨by rfl, by (intro w hSw; (try dsimp only at hSw); go_simp) <;> with_reducible rfl⟩) (by assumption) ?_
      (try simp only [Act.put, List.setIfInBounds_toArray, List.set_cons_zero, List.set_cons_succ])
      refine wpAnyH_take (i := 8) (v := ?_) rfl (by kernel_rfl) (by kernel_rfl) (by kernel_rfl) (fun _ _ _ h => h) (Or.inl ⟨by rfl, by (intro w hSw; (try dsimp only at hSw); go_simp) <;> with_reducible rfl⟩) (by assumption) ?_
      (try simp only [Act.put, List.setIfInBounds_toArray, List.set_cons_zero, List.set_cons_succ])
      refine wpAnyH_take (i := 9) (v := ?_) rfl (by kernel_rfl) (by kernel_rfl) (by kernel_rfl) (fun _ _ _ h => h) (Or.inl ⟨by rfl, by (intro w hSw; (try dsimp only at hSw); go_simp) <;> with_reducible rfl⟩) (by assumption) ?_
      (try simp only [Act.put, List.setIfInBounds_toArray, List.set_cons_zero, List.set_cons_succ])
      refine wpAnyH_take (i := 10) (v := ?_) rfl (by kernel_rfl) (by kernel_rfl) (by kernel_rfl) (fun _ _ _ h => h) (Or.inl ⟨by rfl, by (intro w hSw; (try dsimp only at hSw); go_simp) <;> with_reducible rfl⟩) (by assumption) ?_
      (try simp only [Act.put, List.setIfInBounds_toArray, List.set_cons_zero, List.set_cons_succ])
      refine wpAnyH_take (i := 11) (v := ?_) rfl (by kernel_rfl) (by kernel_rfl) (by kernel_rfl) (fun _ _ _ h => h) (Or.inl ⟨by rfl, by (intro w hSw; (try dsimp only at hSw); go_simp) <;> with_reducible rfl⟩) (by assumption) ?_
      (try simp only [Act.put, List.setIfInBounds_toArray, List.set_cons_zero, List.set_cons_succ])
      refine wpAnyH_take (i := 12) (v := ?_) rfl (by kernel_rfl) (by kernel_rfl) (by kernel_rfl) (fun _ _ _ h => h) (Or.inl ⟨by rfl, by (intro w hSw; (try dsimp only at hSw); go_simp) <;> with_reducible rfl⟩) (by assumption) ?_
      (try simp only [Act.put, List.setIfInBounds_toArray, List.set_cons_zero, List.set_cons_succ])
      refine wpAnyH_take (i := 14) (v := ?_) rfl (by kernel_rfl) (by kernel_rfl) (by kernel_rfl) (fun _ _ _ h => h) (Or.inl ⟨by rfl, by (intro w hSw; (try dsimp only at hSw); go_simp) <;> with_reducible rfl⟩) (by assumption) ?_
      (try simp only [Act.put, List.setIfInBounds_toArray, List.set_cons_zero, List.set_cons_succ])
      refine wpAnyH_take (i := 15) (v := ?_) rfl (by kernel_rfl) (by kernel_rfl) (by kernel_rfl) (fun _ _ _ h => h) (Or.inl ⟨by rfl, by (intro w hSw; (try dsimp only at hSw); go_simp) <;> with_reducible rfl⟩) (by assumption) ?_
      (try simp only [Act.put, List.setIfInBounds_toArray, List.set_cons_zero, List.set_cons_succ])
      refine wpAnyH_take (i := 16) (v := ?_) rfl (by kernel_rfl) (by kernel_rfl) (by kernel_rfl) (fun _ _ _ h => h) (Or.inl ⟨by rfl, by (intro w hSw; (try dsimp only at hSw); go_simp) <;> with_reducible rfl⟩) (by assumption) ?_
      (try simp only [Act.put, List.setIfInBounds_toArray, List.set_cons_zero, List.set_cons_succ])
      refine wpAnyH_take (i := 17) (v := ?_) rfl (by kernel_rfl) (by kernel_rfl) (by kernel_rfl) (fun _ _ _ h => h) (Or.inl ⟨by rfl, by (intro w hSw; (try dsimp only at hSw); go_simp) <;> with_reducible rfl⟩) (by assumption) ?_
      (try simp only [Act.put, List.setIfInBounds_toArray, List.set_cons_zero, List.set_cons_succ])
      refine wpAnyH_take (i := 18) (v := ?_) rfl (by kernel_rfl) (by kernel_rfl) (by kernel_rfl) (fun _ _ _ h => h) (Or.inl ⟨by rfl, by (intro w hSw; (try dsimp only at hSw); go_simp) <;> with_reducible rfl⟩) (by assumption) ?_
      (try simp only [Act.put, List.setIfInBounds_toArray, List.set_cons_zero, List.set_cons_succ])
      refine wpAnyH_take (i := 19) (v := ?_) rfl (by kernel_rfl) (by kernel_rfl) (by kernel_rfl) (fun _ _ _ h => h) (Or.inl ⟨by rfl, by (intro w hSw; (try dsimp only at hSw); go_simp) <;> with_reducible rfl⟩) (by assumption) ?_
      (try simp only [Act.put, List.setIfInBounds_toArray, List.set_cons_zero, List.set_cons_succ])
      refine wpAnyH_take (i := 20) (v := ?_) rfl (by kernel_rfl) (by kernel_rfl) (by kernel_rfl) (fun _ _ _ h => h) (Or.inl ⟨by rfl, by (intro w hSw; (try dsimp only at hSw); go_simp) <;> with_reducible rfl⟩) (by assumption) ?_
      (try simp only [Act.put, List.setIfInBounds_toArray, List.set_cons_zero, List.set_cons_succ])
      refine wpAnyH_take (i := 21) (v := ?_) rfl (by kernel_rfl) (by kernel_rfl) (by kernel_rfl) (fun _ _ _ h => h) (Or.inl ⟨by rfl, by (intro w hSw; (try dsimp only at hSw); go_simp) <;> with_reducible rfl⟩) (by assumption) ?_
      (try simp only [Act.put, List.setIfInBounds_toArray, List.set_cons_zero, List.set_cons_succ])
      refine wpAnyH_ready (rs := [13]) (by kernel_rfl) (by simp) ?_
      refine AllReadyH.cons rfl (fun K hK => ?_) AllReadyH.nil
      go_simp
      go_at_call 23
      refine (own_spec (Hby.out.keep0 (Keep.refl _ _).drew) (by have := Hbl2.out; omega)).mono ?_
      rintro e w3 ⟨bv, rfl, ho, hk3⟩
      have hn3 := hn2.keep hk3 (by simp)
      obtain ⟨a9, c9, rfl⟩ := OwnsAt.shape ho
      go_wp2_with fail
      refine hK.out _ _ ?_ (fun hHeld => ?_)
      · exact ⟨hn3.head.cell 0, (hk3.cell (p := ⟨g, off + kn * 4, none⟩) hg2 (by simp)).trans e0, (hk3.cell (p := ⟨g, off + kn * 4 + 1, none⟩) hg2 (by simp)).trans e1, (hk3.cell (p := ⟨g, off + kn * 4 + 2, none⟩) hg2 (by simp)).trans e2, (hk3.cell (p := ⟨g, off + kn * 4 + 3, none⟩) hg2 (by simp)).trans e3⟩
      clear hK K
      (try simp only [Act.put, List.setIfInBounds_toArray, List.set_cons_zero, List.set_cons_succ])
      refine wpAnyH_take (i := 22) (v := ?_) rfl (by kernel_rfl) (by kernel_rfl) (by kernel_rfl) (fun _ _ _ h => h) (Or.inl ⟨by rfl, by (intro w hSw; (try dsimp only at hSw); go_simp) <;> with_reducible rfl⟩) (by assumption) ?_
      (try simp only [Act.put, List.setIfInBounds_toArray, List.set_cons_zero, List.set_cons_succ])
      refine wpAnyH_ready (rs := [23]) (by kernel_rfl) (by simp) ?_
      refine AllReadyH.cons rfl (fun K hK => ?_) AllReadyH.nil
      go_simp
      refine hK.out _ _ ?_ (fun hHeld => ?_)
      · have ka := (Keep.refl [] w3).alloc (.cells #[.int .i64 f, .int .i64 t, .slice a9 bs.length c9, .bool fl] 54)
        obtain ⟨q0, q1, q2, q3, q4⟩ := hHeld
        exact ⟨(ka.cell (World.block_lt_of_cell? _ _ q0) (by simp)).trans q0, (ka.cell (World.block_lt_of_cell? _ _ q1) (by simp)).trans q1, (ka.cell (World.block_lt_of_cell? _ _ q2) (by simp)).trans q2, (ka.cell (World.block_lt_of_cell? _ _ q3) (by simp)).trans q3, (ka.cell (World.block_lt_of_cell? _ _ q4) (by simp)).trans q4⟩
      clear hK K
      (try simp only [Act.put, List.setIfInBounds_toArray, List.set_cons_zero, List.set_cons_succ])
      refine wpAnyH_ready (rs := [24]) (by kernel_rfl) (by simp) ?_
      refine AllReadyH.cons rfl (fun K hK => ?_) AllReadyH.nil
      refine step_append_old rfl (.tmp 21) (.tmp 40) rfl Try.way49 B g off cw ss.length (ss.flatMap PS.c4) (by simp [Act.eval]) (hn3.rows.keep ((Keep.refl [] _).alloc _) (by simp)) (.slice (some ⟨w3.heap.size, 0, none⟩) 1 1) 1 [.int .i64 f, .int .i64 t, .slice a9 bs.length c9, .bool fl] (by simp [Act.eval]) (src_row 4 rfl _ rfl) (by simp [Value.oneCell']) (by unfold maxLen; have := Hroom.out; omega) (by have := Hroom.out; omega) (by have := hk3.size; simp at this; simp; omega) ?_
      intro v' w4 hown4 hk4 hat4 hold4
      have hol : ∀ (j : Nat) (u : Value), j < 4 → (PS.c4 ⟨f, t, bs, fl, .slice ab bs.length cb⟩)[j]? = some u → w4.cell? ⟨g, off + kn * 4 + j, none⟩ = some u := fun j u hj hu => by
        rw [Nat.add_assoc]
        exact hold4 _ u ((flat_at PS.c4_len ss kn _ j Hi.out hj).trans hu)
      have hp4 : p ∉ ownBlocks (.slice (some ⟨g, off, none⟩) ss.length cw) := (fun hx => hn3.rows.ne_blk hn3.head (by decide) (mem_own.1 hx))
      have c5 : w4.cell? ⟨p, 0, none⟩ = some (.slice (some ⟨g, off, none⟩) ss.length cw) := ((hn3.head.alloc _).keep hk4 hp4).cell 0
      have f5 : w4.frozen? ⟨p, 0, none⟩ = false := ((hn3.head.alloc _).keep hk4 hp4).frozen 0
      obtain ⟨a7, c7', rfl⟩ := hown4.shape
      refine hK.out _ _ ?_ (fun hHeld => ?_)
      · exact ⟨c5, hol 0 _ (by omega) rfl, hol 1 _ (by omega) rfl, hol 2 _ (by omega) rfl, hol 3 _ (by omega) rfl⟩
      clear hK K hol hold4
      (try simp only [Act.put, List.setIfInBounds_toArray, List.set_cons_zero, List.set_cons_succ])
      refine wpAnyH_take (i := 25) (v := ?_) rfl (by kernel_rfl) (by kernel_rfl) (by kernel_rfl) (fun _ _ _ h => h) (Or.inl ⟨by rfl, by (intro w hSw; (try dsimp only at hSw); go_simp) <;> with_reducible rfl⟩) (by assumption) ?_
      (try simp only [Act.put, List.setIfInBounds_toArray, List.set_cons_zero, List.set_cons_succ])
      refine wpAnyH_take (i := 26) (v := ?_) rfl (by kernel_rfl) (by kernel_rfl) (by kernel_rfl) (fun _ _ _ h => h) (Or.inl ⟨by rfl, by (intro w hSw; (try dsimp only at hSw); go_simp) <;> with_reducible rfl⟩) (by assumption) ?_
      (try simp only [Act.put, List.setIfInBounds_toArray, List.set_cons_zero, List.set_cons_succ])

      refine wpAnyH_done (by kernel_rfl) ?_ _
      obtain ⟨g1, g2, g3⟩ := NetIn.push (s := ⟨f, t, bs, fl, .slice a9 bs.length c9⟩) hn2 hB (hk3.alloc (.cells #[.int .i64 f, .int .i64 t, .slice a9 bs.length c9, .bool fl] 54)) (OwnsAt.keep ho ((Keep.refl [] _).alloc _) (by simp)) hk4 (by simpa [PS.c4] using hown4) (by
        rcases hat4 with h | h
        · exact Or.inl h
        · exact Or.inr ⟨_, h, by simp⟩)
      have Hfin : Hid (DupPost B p (netFoot p (.slice (some ⟨g, off, none⟩) ss.length cw) ss) w ss (kn : Int) (.returned (.bool true)) (w4.setCell ⟨p, 0, none⟩ (.slice a7 (ss.length + 1) c7'))) := by
        refine Lib.hid ?_
        unfold DupPost
        rw [if_pos Hc.out]
        exact ⟨⟨f, t, bs, fl, .slice ab bs.length cb⟩, ⟨f, t, bs, fl, .slice a9 bs.length c9⟩, Hi.out, rfl, rfl, _, ⟨_, g1, rfl⟩, g2.of_drew, fun x hx => g3 x hx⟩
      clear g1 g2 g3 hn3 hn2 hk3 hk4 hown4 hat4 ho
      show Oper.wp _ _ _ _ _ _
      go_simp
      go_wp2
      go_ret
      exact Hfin.out
    · have ht : decide ((10000 : Int) ≤ (ss.length : Int)) = true := by simp; omega
      have Hc := Lib.hid (show ¬ (isK (kn : Int) ss.length = true ∧ ss.length < 10000) from fun h => hroom h.2)
      clear hroom his hk hk' hkn
      go_enter Try.func12, Try.ntmps12
      go_wp2_with fail
      refine His.out.mono ?_
      rintro e w1 ⟨rfl, rfl⟩
      go_wp2
      go_ret
      unfold DupPost
      rw [if_neg Hc.out]
      exact ⟨rfl, rfl⟩
  · have hk' : isK k ss.length = false := by simpa using hk
    rw [hk'] at his
    have His := Lib.hid his
    have Hc := Lib.hid (show ¬ (isK k ss.length = true ∧ ss.length < 10000) from fun h => hk h.1)
    clear hk hk' his
    go_enter Try.func12, Try.ntmps12
    go_wp2_with fail
    refine His.out.mono ?_
    rintro e w1 ⟨rfl, rfl⟩
    go_wp2
    go_ret
    unfold DupPost
    rw [if_neg Hc.out]
    exact ⟨rfl, rfl⟩
end Go.Proofs.Ytolhcikgodaecaa
