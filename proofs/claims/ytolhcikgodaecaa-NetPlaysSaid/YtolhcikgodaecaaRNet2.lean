/- The reference net: Send, Dup. -/
import Derived.Test.YtolhcikgodaecaaRows
import Derived.WalkKit
import Derived.WalkSpells
import Derived.WalkLawsBesides
import Derived.RegionTactic
import Derived.ChangeAlike
import Derived.BigQuiet
import Derived.Deep.QuietTactic
import Derived.StillTailTactics
import Derived.IntWalk
import Derived.Handy
import Derived.Lib.Hide
import Derived.Deep.AppendLies
import Derived.Deep.RegionWith
import Derived.Deep.RegionLaw
import Derived.Test.YtolhcikgodaecaaBase
import Derived.Test.YtolhcikgodaecaaTail
import Derived.Test.YtolhcikgodaecaaArgs
import Derived.Test.YtolhcikgodaecaaAppend
import Derived.Test.YtolhcikgodaecaaOffs
import Derived.Test.YtolhcikgodaecaaStructs
import Derived.Test.YtolhcikgodaecaaNetObj
import Derived.Test.YtolhcikgodaecaaNetObj2
import Derived.Test.YtolhcikgodaecaaNetSend
import Derived.Test.YtolhcikgodaecaaNetWay
import Derived.Test.YtolhcikgodaecaaNetDel
import Derived.Test.YtolhcikgodaecaaNetSmall
import Derived.Test.YtolhcikgodaecaaSplit
import Derived.Test.YtolhcikgodaecaaNetSmall
import Derived.Test.YtolhcikgodaecaaNetFlip
import Derived.Test.YtolhcikgodaecaaNetDup
import Derived.Deep.CutRange
import Derived.Deep.DeepCutAuto
import Derived.BigRegion
import Derived.Test.YtolhcikgodaecaaRNet
namespace Go.Proofs.Ytolhcikgodaecaa
open Go.RowKit
def RSendPost (B p : Nat) (F : List Nat) (w : World) (ss ps : List PS) (e : Ending) (w' : World) : Prop :=
  ∃ k ss', k = room ss.length ps.length ∧ ss'.map dat = (ps.take k).map (fun s => (s.f, s.t, s.bs, false)) ∧ RNPost B p F w (.int .i64 k) (ss ++ ss') e w'
set_option maxHeartbeats 40000000 in
set_option maxRecDepth 100000 in
theorem sendR_spec {w : World} {B p : Nat} {F : List Nat} {ss ps : List PS} {v : Value} (h : RNAt w B p F ss) (hB : B ≤ w.heap.size) (hsep : ∀ w', Keep F w w' → ParcelsOf w' v ps) (hvb : ps ≠ [] → ∀ x, v.ownBlock = some x → x ∉ F ∧ x < w.heap.size) (hl : ss.length ≤ 10000) (hpl : ps.length ≤ 100000) (hbl : ∀ s ∈ ps, s.bs.length ≤ 1000000) :
    Calls Try.prog 15 #[.pointer (some ⟨p, 0, none⟩), v] w (RSendPost B p F w ss ps) := by
  obtain ⟨av, cv, rfl⟩ : ∃ a c, v = .slice a ps.length c := by obtain ⟨a, c, h, _⟩ := hsep w (Keep.refl _ _); exact ⟨a, c, h⟩
  have Hsep := Lib.hid hsep
  have Hvb := Lib.hid hvb
  have Hbl0 := Lib.hid hbl
  have Hl := Lib.hid hl
  have hplI : (ps.length : Int) ≤ 100000 := by omega
  clear hsep hbl hl hvb
  go_enter Try.func15, Try.ntmps15
  go_wp2_with fail
  go_loopw [5] (fun v5 wr => ∃ (i : Nat) (ss' : List PS) (F' : List Nat), i ≤ ps.length ∧ v5 = .int .i64 i ∧ ss'.map dat = (ps.take i).map (fun s => (s.f, s.t, s.bs, false)) ∧ ss.length + i ≤ 10000 ∧ RNAt wr B p F' (ss ++ ss') ∧ Keep F w wr ∧ ∀ x ∈ F', x ∈ F ∨ w.heap.size ≤ x) (fun v _ => ps.length - (intOf v).toNat)
  case atStart => exact ⟨0, [], F, by omega, rfl, by simp, by have := Hl.out; omega, by simpa using h, Keep.refl _ _, fun x hx => Or.inl hx⟩
  case round =>
    clear h
    obtain ⟨i, ss', F', hi, rfl, hd, hn, hat, hk, hf⟩ := hrel
    have hsl : ss'.length = i := by have := congrArg List.length hd; simpa [Nat.min_eq_left hi] using this
    obtain ⟨R, hR⟩ : ∃ R, R = ss ++ ss' := ⟨_, rfl⟩
    rw [← hR] at hat
    obtain ⟨vw, hat, rfl⟩ := hat
    obtain ⟨aw, cw, rfl⟩ := hat.rows.shape
    have c0 : wr.cell? ⟨p, 0, none⟩ = some (.slice aw R.length cw) := hat.head.cell 0
    have f0' := hat.head.frozen 0
    have hlen : R.length = ss.length + i := by rw [hR, List.length_append, hsl]
    by_cases hlt : i < ps.length
    · have hltI : (i : Int) < (ps.length : Int) := by omega
      by_cases hfull : 10000 ≤ R.length
      · have hfI : (10000 : Int) ≤ (R.length : Int) := by omega
        have hroom : room ss.length ps.length = i := by unfold room; omega
        have Hfin := Lib.hid (show RSendPost B p F w ss ps (.returned (.int .i64 i)) wr from ⟨i, ss', hroom.symm, hd, rfl, _, ⟨_, hR ▸ hat, hR ▸ rfl⟩, hk, hf⟩)
        clear hat hk hf hd hroom hlen hfull hsl hR
        go_wp2
        go_ret
        exact Hfin.out
      · have hfI : ¬ (10000 : Int) ≤ (R.length : Int) := by omega
        obtain ⟨s, hs⟩ : ∃ s, ps[i]? = some s := ⟨_, List.getElem?_eq_getElem hlt⟩
        have hgi : ps[i] = s := by rw [List.getElem?_eq_getElem hlt] at hs; exact Option.some.inj hs
        obtain ⟨a', c', hva, hcells⟩ := Hsep.out _ hk
        cases hva
        obtain ⟨b, off, rfl, hbb, e0, e1, e2, e3⟩ := hcells i s hs
        obtain ⟨sa, sc, hsv⟩ := e3.shape
        rw [hsv] at e2 e3
        have hbl := Hbl0.out s (List.mem_of_getElem? hs)
        have hpl := hat.head.lt
        have hBr : B ≤ wr.heap.size := by have := hk.size; omega
        have HC : Hid (∀ wx, Keep [] wr wx → wx.cell? ⟨p, 0, none⟩ = some (.slice aw R.length cw) ∧ wx.cell? ⟨b, off + i * 3, none⟩ = some (.int .i64 s.f) ∧ wx.cell? ⟨b, off + i * 3 + 1, none⟩ = some (.int .i64 s.t) ∧ wx.cell? ⟨b, off + i * 3 + 2, none⟩ = some (.slice sa s.bs.length sc)) := Lib.hid (fun wx kx => ⟨(kx.cell (p := ⟨p, 0, none⟩) hpl (by simp)).trans c0, (kx.cell (p := ⟨b, off + i * 3, none⟩) hbb (by simp)).trans e0, (kx.cell (p := ⟨b, off + i * 3 + 1, none⟩) hbb (by simp)).trans e1, (kx.cell (p := ⟨b, off + i * 3 + 2, none⟩) hbb (by simp)).trans e2⟩)
        have hnb : b ∉ ownBlocks (.slice aw R.length cw) := fun hx => by
          have hfb := hf b (by simp only [netFoot, List.mem_cons, List.mem_append]; exact Or.inr (Or.inl hx))
          have h1 := Hvb.out (by intro h0; rw [h0] at hlt; simp at hlt) b rfl
          rcases hfb with h | h
          · exact h1.1 h
          · omega
        have HC2 : Hid (∀ w1 w2, Keep [] wr w1 → Keep (ownBlocks (.slice aw R.length cw)) w1 w2 → w2.cell? ⟨p, 0, none⟩ = some (.slice aw R.length cw) → w2.cell? ⟨p, 0, none⟩ = some (.slice aw R.length cw) ∧ w2.cell? ⟨b, off + i * 3, none⟩ = some (.int .i64 s.f) ∧ w2.cell? ⟨b, off + i * 3 + 1, none⟩ = some (.int .i64 s.t) ∧ w2.cell? ⟨b, off + i * 3 + 2, none⟩ = some (.slice sa s.bs.length sc)) := Lib.hid (fun w1 w2 k1 k2 hc => by
          have hb1 : b < w1.heap.size := Nat.lt_of_lt_of_le hbb k1.size
          exact ⟨hc, (k2.cell (p := ⟨b, off + i * 3, none⟩) hb1 hnb).trans ((k1.cell (p := ⟨b, off + i * 3, none⟩) hbb (by simp)).trans e0), (k2.cell (p := ⟨b, off + i * 3 + 1, none⟩) hb1 hnb).trans ((k1.cell (p := ⟨b, off + i * 3 + 1, none⟩) hbb (by simp)).trans e1), (k2.cell (p := ⟨b, off + i * 3 + 2, none⟩) hb1 hnb).trans ((k1.cell (p := ⟨b, off + i * 3 + 2, none⟩) hbb (by simp)).trans e2)⟩)
        have Hat := Lib.hid hat
        have Hk := Lib.hid hk
        have Hf := Lib.hid hf
        have Hd := Lib.hid hd
        have Hgi := Lib.hid hgi
        have Hby := Lib.hid e3
        have Hbl := Lib.hid hbl
        have Hsl := Lib.hid (show R.length < 10000 ∧ R.length = ss.length + i by omega)
        clear hat hk hf hd hgi e3 hbl hs hcells hlen hfull hsl hnb hsv
        have HR := Lib.hid hR
        clear hR
        go_upto_region 6 with fail
        refine wp_region_split 14 (fun w' => w'.cell? ⟨p, 0, none⟩ = some (.slice aw R.length cw) ∧ w'.cell? ⟨b, off + i * 3, none⟩ = some (.int .i64 s.f) ∧ w'.cell? ⟨b, off + i * 3 + 1, none⟩ = some (.int .i64 s.t) ∧ w'.cell? ⟨b, off + i * 3 + 2, none⟩ = some (.slice sa s.bs.length sc)) (by kernel_rfl) rfl (by kernel_rfl) ⟨c0, e0, e1, e2⟩ ?_
        intro hHeld
        simp only [List.take_succ_cons, List.take_zero]
        refine wpAnyH_take (i := 0) (v := ?_) rfl (by kernel_rfl) (by kernel_rfl) (by kernel_rfl) (fun _ _ _ h => h) (Or.inl ⟨by rfl, by (intro w hSw; (try dsimp only at hSw); go_simp) <;> with_reducible rfl⟩) (by assumption) ?_
        (try simp only [Act.put, List.setIfInBounds_toArray, List.set_cons_zero, List.set_cons_succ])
        refine wpAnyH_take (i := 1) (v := ?_) rfl (by kernel_rfl) (by kernel_rfl) (by kernel_rfl) (fun _ _ _ h => h) (Or.inl ⟨by rfl, by (intro w hSw; (try dsimp only at hSw); go_simp) <;> with_reducible rfl⟩) (by assumption) ?_
        (try simp only [Act.put, List.setIfInBounds_toArray, List.set_cons_zero, List.set_cons_succ])
        refine wpAnyH_take (i := 2) (v := ?_) rfl (by kernel_rfl) (by kernel_rfl) (by kernel_rfl) (fun _ _ _ h => h) (Or.inl ⟨by rfl, by (intro w hSw; (try dsimp only at hSw); go_simp) <;> with_reducible rfl⟩) (by assumption) ?_
        (try simp only [Act.put, List.setIfInBounds_toArray, List.set_cons_zero, List.set_cons_succ])
        refine wpAnyH_take (i := 3) (v := ?_) rfl (by kernel_rfl) (by kernel_rfl) (by kernel_rfl) (fun _ _ _ h => h) (Or.inl ⟨by rfl, by (intro w hSw; (try dsimp only at hSw); go_simp) <;> with_reducible rfl⟩) (by assumption) ?_
        (try simp only [Act.put, List.setIfInBounds_toArray, List.set_cons_zero, List.set_cons_succ])
        refine wpAnyH_take (i := 4) (v := ?_) rfl (by kernel_rfl) (by kernel_rfl) (by kernel_rfl) (fun _ _ _ h => h) (Or.inl ⟨by rfl, by (intro w hSw; (try dsimp only at hSw); go_simp) <;> with_reducible rfl⟩) (by assumption) ?_
        (try simp only [Act.put, List.setIfInBounds_toArray, List.set_cons_zero, List.set_cons_succ])
        refine wpAnyH_take (i := 5) (v := ?_) rfl (by kernel_rfl) (by kernel_rfl) (by kernel_rfl) (fun _ _ _ h => h) (Or.inl ⟨by rfl, by (intro w hSw; (try dsimp only at hSw); go_simp) <;> with_reducible rfl⟩) (by assumption) ?_
        (try simp only [Act.put, List.setIfInBounds_toArray, List.set_cons_zero, List.set_cons_succ])
        refine wpAnyH_take (i := 6) (v := ?_) rfl (by kernel_rfl) (by kernel_rfl) (by kernel_rfl) (fun _ _ _ h => h) (Or.inl ⟨by rfl, by (intro w hSw; (try dsimp only at hSw); go_simp) <;> with_reducible rfl⟩) (by assumption) ?_
        (try simp only [Act.put, List.setIfInBounds_toArray, List.set_cons_zero, List.set_cons_succ])
        refine wpAnyH_take (i := 7) (v := ?_) rfl (by kernel_rfl) (by kernel_rfl) (by kernel_rfl) (fun _ _ _ h => h) (Or.inl ⟨by rfl, by (intro w hSw; (try dsimp only at hSw); go_simp) <;> with_reducible rfl⟩) (by assumption) ?_
        (try simp only [Act.put, List.setIfInBounds_toArray, List.set_cons_zero, List.set_cons_succ])
        refine wpAnyH_take (i := 8) (v := ?_) rfl (by kernel_rfl) (by kernel_rfl) (by kernel_rfl) (fun _ _ _ h => h) (Or.inl ⟨by rfl, by (intro w hSw; (try dsimp only at hSw); go_simp) <;> with_reducible rfl⟩) (by assumption) ?_
        (try simp only [Act.put, List.setIfInBounds_toArray, List.set_cons_zero, List.set_cons_succ])
        refine wpAnyH_ready (rs := [9]) (by kernel_rfl) (by simp) ?_
        refine AllReadyH.cons rfl (fun K hK => ?_) AllReadyH.nil
        go_simp
        go_at_call 26
        refine (parcelR_spec (Hby.out.keep0 (Keep.refl _ _).drew) (by have := Hbl.out; omega)).mono ?_
        rintro e w3 ⟨bv, rfl, ho, hk3⟩
        have hn3 := Hat.out.keep ((Keep.refl [] _).drew.trans hk3 (by simp)) (by simp)
        have HC3 := HC.out _ ((Keep.refl [] _).drew.trans hk3 (by simp))
        have hsz3 := hk3.size
        obtain ⟨a9, c9, rfl⟩ := OwnsAt.shape ho
        go_wp2_with fail
        refine hK.out _ _ ?_ (fun hHeld => ?_)
        · exact HC3
        clear hK K
        (try simp only [Act.put, List.setIfInBounds_toArray, List.set_cons_zero, List.set_cons_succ])
        refine wpAnyH_ready (rs := [10]) (by kernel_rfl) (by simp) ?_
        refine AllReadyH.cons rfl (fun K hK => ?_) AllReadyH.nil
        go_simp
        have HC4 := HC.out _ (((Keep.refl [] _).drew.trans hk3 (by simp)).alloc (.cells #[.int .i64 s.f, .int .i64 s.t, .slice a9 s.bs.length c9] 29))
        refine hK.out _ _ ?_ (fun hHeld => ?_)
        · exact HC4
        clear hK K
        (try simp only [Act.put, List.setIfInBounds_toArray, List.set_cons_zero, List.set_cons_succ])
        refine wpAnyH_ready (rs := [11]) (by kernel_rfl) (by simp) ?_
        refine AllReadyH.cons rfl (fun K hK => ?_) AllReadyH.nil
        refine step_append_off rfl (.tmp 23) (.tmp 29) rfl Try.pcs32 B (.slice aw R.length cw) R.length (R.flatMap PS.c3) (by simp [Act.eval]) (hn3.rows.keep ((Keep.refl [] _).alloc _) (by simp)) (.slice (some ⟨w3.heap.size, 0, none⟩) 1 1) 1 [.int .i64 s.f, .int .i64 s.t, .slice a9 s.bs.length c9] (by simp [Act.eval]) (src_row 3 rfl _ rfl) (by simp [Value.oneCell']) (by unfold maxLen; have := Hsl.out; omega) (by have := Hsl.out; omega) (by simp at hsz3; simp; omega) ?_
        intro v' w4 hown4 hk4 hat4
        have hp4 : p ∉ ownBlocks (.slice aw R.length cw) := (fun hx => hn3.rows.ne_blk hn3.head (by decide) (mem_own.1 hx))
        have hd4 := (hn3.head.alloc (.cells #[.int .i64 s.f, .int .i64 s.t, .slice a9 s.bs.length c9] 29)).keep hk4 hp4
        have x0 : w4.cell? ⟨p, 0, none⟩ = some (.slice aw R.length cw) := hd4.cell 0
        have f0 : w4.frozen? ⟨p, 0, none⟩ = false := hd4.frozen 0
        have hsh := hown4.shape
        have HC5 := HC2.out _ _ (((Keep.refl [] _).drew.trans hk3 (by simp)).alloc (.cells #[.int .i64 s.f, .int .i64 s.t, .slice a9 s.bs.length c9] 29)) hk4 x0
        refine hK.out _ _ ?_ (fun hHeld => ?_)
        · exact HC5
        clear hK K
        obtain ⟨a7, c7', rfl⟩ := hsh
        (try simp only [Act.put, List.setIfInBounds_toArray, List.set_cons_zero, List.set_cons_succ])
        refine wpAnyH_take (i := 12) (v := ?_) rfl (by kernel_rfl) (by kernel_rfl) (by kernel_rfl) (fun _ _ _ h => h) (Or.inl ⟨by rfl, by (intro w hSw; (try dsimp only at hSw); go_simp) <;> with_reducible rfl⟩) (by assumption) ?_
        (try simp only [Act.put, List.setIfInBounds_toArray, List.set_cons_zero, List.set_cons_succ])
        refine wpAnyH_take (i := 13) (v := ?_) rfl (by kernel_rfl) (by kernel_rfl) (by kernel_rfl) (fun _ _ _ h => h) (Or.inl ⟨by rfl, by (intro w hSw; (try dsimp only at hSw); go_simp) <;> with_reducible rfl⟩) (by assumption) ?_
        (try simp only [Act.put, List.setIfInBounds_toArray, List.set_cons_zero, List.set_cons_succ])
        refine wpAnyH_done (by kernel_rfl) ?_ _
        obtain ⟨g1, g2, g3⟩ := RNIn.push (s := ⟨s.f, s.t, s.bs, false, .slice a9 s.bs.length c9⟩) Hat.out hBr (((Keep.refl [] _).drew.trans hk3 (by simp)).alloc (.cells #[.int .i64 s.f, .int .i64 s.t, .slice a9 s.bs.length c9] 29)) (OwnsAt.keep (OwnsAt.mono ho (by simp)) ((Keep.refl [] _).alloc _) (by simp)) hk4 (by simpa [PS.c3] using hown4) (hat4.imp id fun h => ⟨_, h, Nat.le_refl _⟩)
        have hRR : R ++ [(⟨s.f, s.t, s.bs, false, .slice a9 s.bs.length c9⟩ : PS)] = ss ++ (ss' ++ [⟨s.f, s.t, s.bs, false, .slice a9 s.bs.length c9⟩]) := by rw [HR.out, List.append_assoc]
        rw [hRR] at g1 g3
        have Hfin := Lib.hid (And.intro g1 (And.intro ((Hk.out).trans g2 (fun x hx => Hf.out x hx)) g3))
        have hszr := Hk.out.size
        clear g1 g2 g3 hn3 HC3 HC4 HC5 hk3 hk4 hown4 hat4 ho hd4 HC HC2
        show Oper.wp _ _ _ _ _ _
        go_simp
        go_wp2
        go_roundw
        case rel =>
          refine ⟨i + 1, ss' ++ [⟨s.f, s.t, s.bs, false, .slice a9 s.bs.length c9⟩], _, by omega, by go_num, ?_, by have := Hsl.out; omega, ⟨_, Hfin.out.1, rfl⟩, Hfin.out.2.1, fun x hx => ?_⟩
          · rw [List.map_append, Hd.out, List.take_succ_eq_append_getElem hlt, List.map_append, Hgi.out]
            rfl
          · rcases Hfin.out.2.2 x hx with h | h
            · exact Hf.out x h
            · exact Or.inr (by omega)
        case measure => simp [intOf]; omega
    · obtain rfl : i = ps.length := by omega
      rw [List.take_length] at hd
      have hroom : room ss.length ps.length = ps.length := by unfold room; omega
      have Hfin := Lib.hid (show RSendPost B p F w ss ps (.returned (.int .i64 (ps.length : Nat))) wr from ⟨ps.length, ss', hroom.symm, by rw [List.take_length]; exact hd, rfl, _, ⟨_, hR ▸ hat, hR ▸ rfl⟩, hk, hf⟩)
      clear hat hk hf hd hroom hlen hsl hR
      go_wp2
      go_ret
      exact Hfin.out
end Go.Proofs.Ytolhcikgodaecaa
