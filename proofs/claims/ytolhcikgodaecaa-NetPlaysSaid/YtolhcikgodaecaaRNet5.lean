/- The reference net: Dup, Gone. -/
import Derived.Test.YtolhcikgodaecaaRows
import Derived.WalkKit
import Derived.WalkSpells
import Derived.WalkLawsBesides
import Derived.RegionTactic
import Derived.ChangeAlike
import Derived.BigQuiet
import Derived.Deep.QuietTactic
import Derived.StillTailTactics
import Derived.IntWalk
import Derived.Handy
import Derived.Lib.Hide
import Derived.Deep.AppendLies
import Derived.Deep.RegionWith
import Derived.Deep.RegionLaw
import Derived.Test.YtolhcikgodaecaaBase
import Derived.Test.YtolhcikgodaecaaTail
import Derived.Test.YtolhcikgodaecaaArgs
import Derived.Test.YtolhcikgodaecaaAppend
import Derived.Test.YtolhcikgodaecaaOffs
import Derived.Test.YtolhcikgodaecaaStructs
import Derived.Test.YtolhcikgodaecaaNetObj
import Derived.Test.YtolhcikgodaecaaNetObj2
import Derived.Test.YtolhcikgodaecaaNetSend
import Derived.Test.YtolhcikgodaecaaNetWay
import Derived.Test.YtolhcikgodaecaaNetDel
import Derived.Test.YtolhcikgodaecaaNetSmall
import Derived.Test.YtolhcikgodaecaaSplit
import Derived.Test.YtolhcikgodaecaaNetSmall
import Derived.Test.YtolhcikgodaecaaNetFlip
import Derived.Test.YtolhcikgodaecaaNetDup
import Derived.Deep.CutRange
import Derived.Deep.DeepCutAuto
import Derived.BigRegion
import Derived.Test.YtolhcikgodaecaaRNet
import Derived.Test.YtolhcikgodaecaaRNet2
import Derived.Test.YtolhcikgodaecaaRNet3
import Derived.Test.YtolhcikgodaecaaRNet4
namespace Go.Proofs.Ytolhcikgodaecaa
open Go.RowKit
set_option maxHeartbeats 16000000 in
set_option maxRecDepth 100000 in
theorem dupR_spec {w : World} {B p : Nat} {F : List Nat} {ss : List PS} (k : Int) (h : RNAt w B p F ss) (hB : B ≤ w.heap.size) (hl : ss.length ≤ 10000) (hbl : ∀ s ∈ ss, s.bs.length ≤ 1000000) :
    Calls Try.prog 19 #[.pointer (some ⟨p, 0, none⟩), .int .i64 k] w (RDupPost B p F w ss k) := by
  obtain ⟨vw, h, rfl⟩ := h
  obtain ⟨aw, cw, rfl⟩ := h.rows.shape
  have c0 : w.cell? ⟨p, 0, none⟩ = some (.slice aw ss.length cw) := h.head.cell 0
  have hl2 : (ss.length : Int) ≤ 10000 := by omega
  by_cases hk : 0 ≤ k ∧ k < ss.length
  · obtain ⟨kn, rfl⟩ := Int.eq_ofNat_of_zero_le hk.1
    have hkn : kn < ss.length := by omega
    have hkn3 : ¬ ((ss.length : Int) ≤ (kn : Int)) := by omega
    have hkn2 : (kn : Int) < (ss.length : Int) := by omega
    by_cases hfull : 10000 ≤ ss.length
    · have hfI : (10000 : Int) ≤ (ss.length : Int) := by omega
      have Hc := Lib.hid (show ¬ (isK (kn : Int) ss.length = true ∧ ss.length < 10000) from fun h => by omega)
      clear h hk hfull hl hkn
      go_enter Try.func19, Try.ntmps19
      go_wp2
      go_ret
      unfold RDupPost
      rw [if_neg Hc.out]
      exact ⟨rfl, rfl⟩
    · have hfI : ¬ (10000 : Int) ≤ (ss.length : Int) := by omega
      have Hc := Lib.hid (show isK (kn : Int) ss.length = true ∧ ss.length < 10000 from ⟨by unfold isK; simp; omega, by omega⟩)
      obtain ⟨s, hs⟩ : ∃ s, ss[kn]? = some s := ⟨_, List.getElem?_eq_getElem hkn⟩
      obtain ⟨g, off, rfl, hg1, hg2, hcells, hcap, hfr⟩ := h.rows.rowAt PS.c3_len hs hkn
      have hob := h.bytes s (List.mem_of_getElem? hs)
      have hbl2 := hbl s (List.mem_of_getElem? hs)
      obtain ⟨sa, sc, hsv⟩ := OwnsAt.shape hob
      have e0 : w.cell? ⟨g, off + kn * 3, none⟩ = some (.int .i64 s.f) := hcells 0 _ (by omega) rfl
      have e1 : w.cell? ⟨g, off + kn * 3 + 1, none⟩ = some (.int .i64 s.t) := hcells 1 _ (by omega) rfl
      have e2 : w.cell? ⟨g, off + kn * 3 + 2, none⟩ = some s.bv := hcells 2 _ (by omega) rfl
      rw [hsv] at e2
      have hby := bytes_of_off hob
      rw [hsv] at hby
      have hpl := h.head.lt
      have HC : Hid (∀ wx, Keep [] w wx → wx.cell? ⟨p, 0, none⟩ = some (.slice (some ⟨g, off, none⟩) ss.length cw) ∧ wx.cell? ⟨g, off + kn * 3, none⟩ = some (.int .i64 s.f) ∧ wx.cell? ⟨g, off + kn * 3 + 1, none⟩ = some (.int .i64 s.t) ∧ wx.cell? ⟨g, off + kn * 3 + 2, none⟩ = some (.slice sa s.bs.length sc)) := Lib.hid (fun wx kx => ⟨(kx.cell (p := ⟨p, 0, none⟩) hpl (by simp)).trans c0, (kx.cell (p := ⟨g, off + kn * 3, none⟩) hg2 (by simp)).trans e0, (kx.cell (p := ⟨g, off + kn * 3 + 1, none⟩) hg2 (by simp)).trans e1, (kx.cell (p := ⟨g, off + kn * 3 + 2, none⟩) hg2 (by simp)).trans e2⟩)
      have Hat := Lib.hid h
      have Hby := Lib.hid hby
      have Hbl := Lib.hid hbl2
      have Hi := Lib.hid hs
      have Hsv := Lib.hid hsv
      clear h hk hfull hbl hs hcells hfr hob hbl2 hsv hby
      go_enter Try.func19, Try.ntmps19
      go_upto_region 3 with fail
      refine wp_region_split 17 (fun w' => w'.cell? ⟨p, 0, none⟩ = some (.slice (some ⟨g, off, none⟩) ss.length cw) ∧ w'.cell? ⟨g, off + kn * 3, none⟩ = some (.int .i64 s.f) ∧ w'.cell? ⟨g, off + kn * 3 + 1, none⟩ = some (.int .i64 s.t) ∧ w'.cell? ⟨g, off + kn * 3 + 2, none⟩ = some (.slice sa s.bs.length sc)) (by kernel_rfl) rfl (by kernel_rfl) ⟨c0, e0, e1, e2⟩ ?_
      intro hHeld
      simp only [List.take_succ_cons, List.take_zero]
      refine wpAnyH_take (i := 0) (v := ?_) rfl (by kernel_rfl) (by kernel_rfl) (by kernel_rfl) (fun _ _ _ h => h) (Or.inl ⟨by rfl, by (intro w hSw; (try dsimp only at hSw); go_simp) <;> with_reducible rfl⟩) (by assumption) ?_
      (try simp only [Act.put, List.setIfInBounds_toArray, List.set_cons_succ])
      refine wpAnyH_take (i := 1) (v := ?_) rfl (by kernel_rfl) (by kernel_rfl) (by kernel_rfl) (fun _ _ _ h => h) (Or.inl ⟨by rfl, by (intro w hSw; (try dsimp only at hSw); go_simp) <;> with_reducible rfl⟩) (by assumption) ?_
      (try simp only [Act.put, List.setIfInBounds_toArray, List.set_cons_succ])
      refine wpAnyH_take (i := 2) (v := ?_) rfl (by kernel_rfl) (by kernel_rfl) (by kernel_rfl) (fun _ _ _ h => h) (Or.inl ⟨by rfl, by (intro w hSw; (try dsimp only at hSw); go_simp) <;> with_reducible rfl⟩) (by assumption) ?_
      (try simp only [Act.put, List.setIfInBounds_toArray, List.set_cons_succ])
      refine wpAnyH_take (i := 3) (v := ?_) rfl (by kernel_rfl) (by kernel_rfl) (by kernel_rfl) (fun _ _ _ h => h) (Or.inl ⟨by rfl, by (intro w hSw; (try dsimp only at hSw); go_simp) <;> with_reducible rfl⟩) (by assumption) ?_
      (try simp only [Act.put, List.setIfInBounds_toArray, List.set_cons_succ])
      refine wpAnyH_take (i := 4) (v := ?_) rfl (by kernel_rfl) (by kernel_rfl) (by kernel_rfl) (fun _ _ _ h => h) (Or.inl ⟨by rfl, by (intro w hSw; (try dsimp only at hSw); go_simp) <;> with_reducible rfl⟩) (by assumption) ?_
      (try simp only [Act.put, List.setIfInBounds_toArray, List.set_cons_succ])
      refine wpAnyH_take (i := 5) (v := ?_) rfl (by kernel_rfl) (by kernel_rfl) (by kernel_rfl) (fun _ _ _ h => h) (Or.inl ⟨by rfl, by (intro w hSw; (try dsimp only at hSw); go_simp) <;> with_reducible rfl⟩) (by assumption) ?_
      (try simp only [Act.put, List.setIfInBounds_toArray, List.set_cons_succ])
      refine wpAnyH_take (i := 6) (v := ?_) rfl (by kernel_rfl) (by kernel_rfl) (by kernel_rfl) (fun _ _ _ h => h) (Or.inl ⟨by rfl, by (intro w hSw; (try dsimp only at hSw); go_simp) <;> with_reducible rfl⟩) (by assumption) ?_
      (try simp only [Act.put, List.setIfInBounds_toArray, List.set_cons_succ])
      refine wpAnyH_take (i := 7) (v := ?_) rfl (by kernel_rfl) (by kernel_rfl) (by kernel_rfl) (fun _ _ _ h => h) (Or.inl ⟨by rfl, by (intro w hSw; (try dsimp only at hSw); go_simp) <;> with_reducible rfl⟩) (by assumption) ?_
      (try simp only [Act.put, List.setIfInBounds_toArray, List.set_cons_succ])
      refine wpAnyH_take (i := 8) (v := ?_) rfl (by kernel_rfl) (by kernel_rfl) (by kernel_rfl) (fun _ _ _ h => h) (Or.inl ⟨by rfl, by (intro w hSw; (try dsimp only at hSw); go_simp) <;> with_reducible rfl⟩) (by assumption) ?_
      (try simp only [Act.put, List.setIfInBounds_toArray, List.set_cons_succ])
      refine wpAnyH_take (i := 9) (v := ?_) rfl (by kernel_rfl) (by kernel_rfl) (by kernel_rfl) (fun _ _ _ h => h) (Or.inl ⟨by rfl, by (intro w hSw; (try dsimp only at hSw); go_simp) <;> with_reducible rfl⟩) (by assumption) ?_
      (try simp only [Act.put, List.setIfInBounds_toArray, List.set_cons_succ])
      refine wpAnyH_take (i := 10) (v := ?_) rfl (by kernel_rfl) (by kernel_rfl) (by kernel_rfl) (fun _ _ _ h => h) (Or.inl ⟨by rfl, by (intro w hSw; (try dsimp only at hSw); go_simp) <;> with_reducible rfl⟩) (by assumption) ?_
      (try simp only [Act.put, List.setIfInBounds_toArray, List.set_cons_succ])
      refine wpAnyH_take (i := 11) (v := ?_) rfl (by kernel_rfl) (by kernel_rfl) (by kernel_rfl) (fun _ _ _ h => h) (Or.inl ⟨by rfl, by (intro w hSw; (try dsimp only at hSw); go_simp) <;> with_reducible rfl⟩) (by assumption) ?_
      (try simp only [Act.put, List.setIfInBounds_toArray, List.set_cons_succ])
      refine wpAnyH_ready (rs := [12]) (by kernel_rfl) (by simp) ?_
      refine AllReadyH.cons rfl (fun K hK => ?_) AllReadyH.nil
      go_simp
      go_at_call 26
      refine (parcelR_spec (Hby.out.keep0 (Keep.refl _ _).drew) (by have := Hbl.out; omega)).mono ?_
      rintro e w3 ⟨bv, rfl, ho, hk3⟩
      have hn3 := Hat.out.keep ((Keep.refl [] _).drew.trans hk3 (by simp)) (by simp)
      have HC3 := HC.out _ ((Keep.refl [] _).drew.trans hk3 (by simp))
      have hsz3 := hk3.size
      obtain ⟨a9, c9, rfl⟩ := OwnsAt.shape ho
      go_wp2_with fail
      refine hK.out _ _ ?_ (fun hHeld => ?_)
      · exact HC3
      clear hK K
      (try simp only [Act.put, List.setIfInBounds_toArray, List.set_cons_succ])
      refine wpAnyH_ready (rs := [13]) (by kernel_rfl) (by simp) ?_
      refine AllReadyH.cons rfl (fun K hK => ?_) AllReadyH.nil
      go_simp
      have HC4 := HC.out _ (((Keep.refl [] _).drew.trans hk3 (by simp)).alloc (.cells #[.int .i64 s.f, .int .i64 s.t, .slice a9 s.bs.length c9] 29))
      refine hK.out _ _ ?_ (fun hHeld => ?_)
      · exact HC4
      clear hK K
      (try simp only [Act.put, List.setIfInBounds_toArray, List.set_cons_succ])
      refine wpAnyH_ready (rs := [14]) (by kernel_rfl) (by simp) ?_
      refine AllReadyH.cons rfl (fun K hK => ?_) AllReadyH.nil
      refine step_append_old rfl (.tmp 28) (.tmp 37) rfl Try.pcs32 B g off cw ss.length (ss.flatMap PS.c3) (by simp [Act.eval]) (hn3.rows.keep ((Keep.refl [] _).alloc _) (by simp)) (.slice (some ⟨w3.heap.size, 0, none⟩) 1 1) 1 [.int .i64 s.f, .int .i64 s.t, .slice a9 s.bs.length c9] (by simp [Act.eval]) (src_row 3 rfl _ rfl) (by simp [Value.oneCell']) (by unfold maxLen; omega) (by omega) (by simp at hsz3; simp; omega) ?_
      intro v' w4 hown4 hk4 hat4 hold4
      have hol : ∀ (j : Nat) (u : Value), j < 3 → (PS.c3 s)[j]? = some u → w4.cell? ⟨g, off + kn * 3 + j, none⟩ = some u := fun j u hj hu => by
        rw [Nat.add_assoc]
        exact hold4 _ u ((flat_at PS.c3_len ss kn _ j Hi.out hj).trans hu)
      have hp4 : p ∉ ownBlocks (.slice (some ⟨g, off, none⟩) ss.length cw) := (fun hx => hn3.rows.ne_blk hn3.head (by decide) (mem_own.1 hx))
      have hk4' : Keep (ownBlocks (.slice (some ⟨g, off, none⟩) ss.length cw)) _ w4 := hk4
      have hd4 := (hn3.head.alloc (.cells #[.int .i64 s.f, .int .i64 s.t, .slice a9 s.bs.length c9] 29)).keep hk4' hp4
      have x0 : w4.cell? ⟨p, 0, none⟩ = some (.slice (some ⟨g, off, none⟩) ss.length cw) := hd4.cell 0
      have f0 : w4.frozen? ⟨p, 0, none⟩ = false := hd4.frozen 0
      have hsh := hown4.shape
      have h2 := hol 2 _ (by omega) rfl
      rw [Hsv.out] at h2
      refine hK.out _ _ ?_ (fun hHeld => ?_)
      · exact ⟨x0, hol 0 _ (by omega) rfl, hol 1 _ (by omega) rfl, h2⟩
      clear hK K
      obtain ⟨a7, c7', rfl⟩ := hsh
      (try simp only [Act.put, List.setIfInBounds_toArray, List.set_cons_succ])
      refine wpAnyH_take (i := 15) (v := ?_) rfl (by kernel_rfl) (by kernel_rfl) (by kernel_rfl) (fun _ _ _ h => h) (Or.inl ⟨by rfl, by (intro w hSw; (try dsimp only at hSw); go_simp) <;> with_reducible rfl⟩) (by assumption) ?_
      (try simp only [Act.put, List.setIfInBounds_toArray, List.set_cons_succ])
      refine wpAnyH_take (i := 16) (v := ?_) rfl (by kernel_rfl) (by kernel_rfl) (by kernel_rfl) (fun _ _ _ h => h) (Or.inl ⟨by rfl, by (intro w hSw; (try dsimp only at hSw); go_simp) <;> with_reducible rfl⟩) (by assumption) ?_
      (try simp only [Act.put, List.setIfInBounds_toArray, List.set_cons_succ])
      refine wpAnyH_done (by kernel_rfl) ?_ _
      obtain ⟨g1, g2, g3⟩ := RNIn.push (s := ⟨s.f, s.t, s.bs, false, .slice a9 s.bs.length c9⟩) Hat.out hB (((Keep.refl [] _).drew.trans hk3 (by simp)).alloc (.cells #[.int .i64 s.f, .int .i64 s.t, .slice a9 s.bs.length c9] 29)) (OwnsAt.keep (OwnsAt.mono ho (by simp)) ((Keep.refl [] _).alloc _) (by simp)) hk4' (by simpa [PS.c3] using hown4) (by
        rcases hat4 with h | h
        · exact Or.inl h
        · exact Or.inr ⟨_, h, Nat.le_refl _⟩)
      have Hfin := Lib.hid (And.intro g1 (And.intro g2 g3))
      clear g1 g2 g3 hn3 HC3 HC4 hk3 hk4 hk4' hown4 hat4 ho hd4 HC hol hold4 h2
      show Oper.wp _ _ _ _ _ _
      go_simp
      go_wp2
      go_ret
      unfold RDupPost
      rw [if_pos Hc.out]
      exact ⟨s, ⟨s.f, s.t, s.bs, false, .slice a9 s.bs.length c9⟩, Hi.out, rfl, rfl, _, ⟨_, Hfin.out.1, rfl⟩, Hfin.out.2.1, Hfin.out.2.2⟩
  · have Hc := Lib.hid (show ¬ (isK k ss.length = true ∧ ss.length < 10000) from fun h => by
      have := h.1
      unfold isK at this
      simp at this
      omega)
    by_cases h0 : k < 0
    · clear h hk
      go_enter Try.func19, Try.ntmps19
      go_wp2
      go_ret
      unfold RDupPost
      rw [if_neg Hc.out]
      exact ⟨rfl, rfl⟩
    · have h1 : (ss.length : Int) ≤ k := by omega
      clear h hk
      go_enter Try.func19, Try.ntmps19
      go_wp2
      go_ret
      unfold RDupPost
      rw [if_neg Hc.out]
      exact ⟨rfl, rfl⟩
/-! ### Gone -/
/-- is a parcel from or to one of them? -/
def goneB (ns : List Int) (s : PS) : Bool := ns.any (fun n => n == s.f) || ns.any (fun n => n == s.t)
def keepP (ns : List Int) (l : List PS) : List PS := l.filter fun s => !goneB ns s
theorem keepP_take {ns : List Int} {l : List PS} {j : Nat} {x : PS} (h : l[j]? = some x) : keepP ns (l.take (j + 1)) = keepP ns (l.take j) ++ if goneB ns x then [] else [x] := by
  have hj : j < l.length := by
    rcases Nat.lt_or_ge j l.length with h' | h'
    · exact h'
    · rw [List.getElem?_eq_none h'] at h; cases h
  have hx : l[j] = x := by rw [List.getElem?_eq_getElem hj] at h; exact Option.some.inj h
  unfold keepP
  rw [List.take_succ_eq_append_getElem hj, List.filter_append, hx]
  congr 1
  cases hg : goneB ns x <;> simp [hg]
set_option maxHeartbeats 4000000 in
theorem inR_spec {w : World} {v : Value} {ns : List Int} (n : Int) (h : IntsOf w v ns) (hl : ns.length ≤ 1000000) : Calls Try.prog 30 #[v, .int .i64 n] w fun e w' => e = .returned (.bool (ns.any fun m => m == n)) ∧ w = w' := by
  obtain ⟨a, c, rfl⟩ := h.shape
  have H := Lib.hid h
  have hlI : (ns.length : Int) ≤ 1000000 := by omega
  clear h hl
  go_enter Try.func30, Try.ntmps30
  go_wp2_with fail
  go_loopw [5] (fun v5 wr => ∃ i : Nat, i ≤ ns.length ∧ v5 = .int .i64 i ∧ (∀ (j : Nat) (m : Int), j < i → ns[j]? = some m → m ≠ n) ∧ wr = w) (fun v _ => ns.length - (intOf v).toNat)
  case atStart => exact ⟨0, by omega, rfl, by omega, rfl⟩
  case round =>
    obtain ⟨i, hi, rfl, hno, rfl⟩ := hrel
    by_cases hlt : i < ns.length
    · obtain ⟨b, off, rfl, hb, hcell⟩ := H.out.at_ hlt
      have e0 := hcell i _ (List.getElem?_eq_getElem hlt)
      have hx : ns[i]? = some ns[i] := List.getElem?_eq_getElem hlt
      generalize ns[i] = m at *
      have hltI : (i : Int) < (ns.length : Int) := by omega
      by_cases hm : m = n
      · have hany : (ns.any fun m => m == n) = true := List.any_eq_true.2 ⟨m, List.mem_of_getElem? hx, by simpa using hm⟩
        have Hany := Lib.hid hany
        have hb2 : (m == n) = true := by simpa using hm
        clear hcell hx hany hno hm
        go_wp2
        go_ret
        exact ⟨by rw [Hany.out]; rfl, rfl⟩
      · have hb2 : (m == n) = false := by simpa using hm
        have hno2 : ∀ (j : Nat) (y : Int), j < i + 1 → ns[j]? = some y → y ≠ n := fun j y hj hy => by
          by_cases hji : j = i
          · subst hji
            rw [hx] at hy
            cases hy
            exact hm
          · exact hno j y (by omega) hy
        have Hno := Lib.hid hno2
        clear hcell hx hno hno2 hm
        go_wp2
        go_roundw
        case rel => exact ⟨i + 1, by omega, by go_num, Hno.out, by first | rfl | trivial⟩
        case measure => simp [intOf]; omega
    · obtain rfl : i = ns.length := by omega
      have hany : (ns.any fun m => m == n) = false := by
        rw [List.any_eq_false]
        intro m hm
        obtain ⟨j, hj, rfl⟩ := List.mem_iff_getElem.1 hm
        simpa using hno j _ hj (List.getElem?_eq_getElem hj)
      have Hany := Lib.hid hany
      clear hno hany
      go_wp2
      go_ret
      exact ⟨by rw [Hany.out]; rfl, rfl⟩
def RGonePost (B p : Nat) (F : List Nat) (w : World) (ss : List PS) (ns : List Int) (e : Ending) (w' : World) : Prop :=
  RNPost B p F w (.int .i64 ((ss.length : Int) - (keepP ns ss).length)) (keepP ns ss) e w'
set_option maxHeartbeats 16000000 in
set_option maxRecDepth 100000 in
theorem goneR_spec {w : World} {B p : Nat} {F : List Nat} {ss : List PS} {v : Value} {ns : List Int} (h : RNAt w B p F ss) (hB : B ≤ w.heap.size) (hv : IntsOf w v ns) (hn : ns.length ≤ 1000000) (hl : ss.length ≤ 10000) :
    Calls Try.prog 22 #[.pointer (some ⟨p, 0, none⟩), v] w (RGonePost B p F w ss ns) := by
  obtain ⟨vw, h, rfl⟩ := h
  obtain ⟨aw, cw, rfl⟩ := h.rows.shape
  obtain ⟨va, vc, rfl⟩ := hv.shape
  have H := Lib.hid h
  have Hv := Lib.hid hv
  have hlI : (ss.length : Int) ≤ 10000 := by omega
  clear h hv
  go_enter Try.func22, Try.ntmps22
  go_wp2_with fail
  go_loopw [5, 6, 7, 8] (fun v5 v6 _ _ wr => ∃ i : Nat, i ≤ ss.length ∧ v6 = .int .i64 i ∧ OwnsAt wr w.heap.size 29 3 v5 (keepP ns (ss.take i)).length ((keepP ns (ss.take i)).flatMap PS.c3) ∧ Keep [] w wr) (fun _ v _ _ _ => ss.length - (intOf v).toNat)
  case atStart => exact ⟨0, by omega, rfl, OwnsAt.nil _ _ _ _, Keep.refl _ _⟩
  case round =>
    obtain ⟨i, hi, rfl, ho, hk⟩ := hrel
    have hat := H.out.keep hk (by simp)
    have c0 : wr.cell? ⟨p, 0, none⟩ = some (.slice aw ss.length cw) := hat.head.cell 0
    obtain ⟨a5, c5, rfl⟩ := ho.shape
    have hkl : (keepP ns (ss.take i)).length ≤ i := by
      unfold keepP
      have := List.length_filter_le (fun s => !goneB ns s) (ss.take i)
      simp at this ⊢
      omega
    by_cases hlt : i < ss.length
    · obtain ⟨s, hs⟩ : ∃ s, ss[i]? = some s := ⟨_, List.getElem?_eq_getElem hlt⟩
      obtain ⟨g, off, rfl, _, hg2, hcells, hcap, hfr⟩ := hat.rows.rowAt PS.c3_len hs hlt
      obtain ⟨sa, sc, hsv⟩ := OwnsAt.shape (hat.bytes s (List.mem_of_getElem? hs))
      have e0 : wr.cell? ⟨g, off + i * 3, none⟩ = some (.int .i64 s.f) := hcells 0 _ (by omega) rfl
      have e1 : wr.cell? ⟨g, off + i * 3 + 1, none⟩ = some (.int .i64 s.t) := hcells 1 _ (by omega) rfl
      have e2 : wr.cell? ⟨g, off + i * 3 + 2, none⟩ = some s.bv := hcells 2 _ (by omega) rfl
      rw [hsv] at e2
      have htk := keepP_take (ns := ns) hs
      have hi1 := Lib.hid (inR_spec s.f (Hv.out.keep0 hk) hn)
      have hi2 := Lib.hid (inR_spec s.t (Hv.out.keep0 hk) hn)
      have hltI : (i : Int) < (ss.length : Int) := by omega
      have Htk := Lib.hid htk
      have Ho := Lib.hid ho
      have Hk := Lib.hid hk
      have Hsv := Lib.hid hsv
      have hszr := hk.size
      have hgb : goneB ns s = ((ns.any fun n => n == s.f) || (ns.any fun n => n == s.t)) := rfl
      clear hcells htk ho hk hat hs hfr hsv
      cases hA : (ns.any fun n => n == s.f) with
      | true =>
        rw [hA] at hi1 hgb
        rw [hgb] at Htk
        clear hgb hA
        generalize (ns.any fun n => n == s.t) = bt at hi2
        have hown5 : OwnsAt wr w.heap.size 29 3 (.slice a5 (keepP ns (ss.take i)).length c5) (keepP ns (ss.take (i + 1))).length ((keepP ns (ss.take (i + 1))).flatMap PS.c3) := by
          rw [Htk.out]
          simpa using Ho.out
        have Hrel := Lib.hid hown5
        clear hown5
        go_wp2_with fail
        refine hi1.out.mono ?_
        rintro e w1 ⟨rfl, rfl⟩
        go_wp2_with fail
        refine hi2.out.mono ?_
        rintro e w1 ⟨rfl, rfl⟩
        clear hi1 hi2
        go_wp2
        go_roundw
        case rel => exact ⟨i + 1, by omega, by go_num, Hrel.out, Hk.out⟩
        case measure => simp [intOf]; omega
      | false =>
        rw [hA] at hi1 hgb
        cases hT : (ns.any fun n => n == s.t) with
        | true =>
          rw [hT] at hi2 hgb
          rw [hgb] at Htk
          clear hgb hA hT
          have hown5 : OwnsAt wr w.heap.size 29 3 (.slice a5 (keepP ns (ss.take i)).length c5) (keepP ns (ss.take (i + 1))).length ((keepP ns (ss.take (i + 1))).flatMap PS.c3) := by
            rw [Htk.out]
            simpa using Ho.out
          have Hrel := Lib.hid hown5
          clear hown5
          go_wp2_with fail
          refine hi1.out.mono ?_
          rintro e w1 ⟨rfl, rfl⟩
          go_wp2_with fail
          refine hi2.out.mono ?_
          rintro e w1 ⟨rfl, rfl⟩
          clear hi1 hi2
          go_wp2
          go_roundw
          case rel => exact ⟨i + 1, by omega, by go_num, Hrel.out, Hk.out⟩
          case measure => simp [intOf]; omega
        | false =>
          rw [hT] at hi2 hgb
          rw [hgb] at Htk
          clear hgb hA hT
          have hown6 := Ho.out.keep ((Keep.refl [] wr).alloc (.cells #[.int .i64 s.f, .int .i64 s.t, .slice sa s.bs.length sc] 29)) (by simp)
          go_wp2_with fail
          refine hi1.out.mono ?_
          rintro e w1 ⟨rfl, rfl⟩
          go_wp2_with fail
          refine hi2.out.mono ?_
          rintro e w1 ⟨rfl, rfl⟩
          clear hi1 hi2
          go_wp2_with (at_builtin; refine wpList_append_off rfl _ _ rfl Try.pcs32 w.heap.size _ (keepP ns (ss.take i)).length _ rfl hown6 _ 1 _ rfl (src_row 3 rfl _ rfl) (by simp [Value.oneCell']) (by unfold maxLen; omega) (by omega) (by simp; omega) ?_)
          intro v' w4 hown4 hk4 hat4
          have hk44 : Keep [] w w4 := (Hk.out.alloc _).trans hk4 (fun x hx => Or.inr (hown6.lt x (mem_own.1 hx)).1)
          have hown5 : OwnsAt w4 w.heap.size 29 3 v' (keepP ns (ss.take (i + 1))).length ((keepP ns (ss.take (i + 1))).flatMap PS.c3) := by
            rw [Htk.out]
            simpa [PS.c3, Hsv.out] using hown4
          have Hrel := Lib.hid (And.intro hown5 hk44)
          obtain ⟨a7, c7', rfl⟩ := hown4.shape
          clear hown4 hown5 hk44 hk4 hat4 hown6
          go_wp2
          go_roundw
          case rel => exact ⟨i + 1, by omega, by go_num, Hrel.out.1, Hrel.out.2⟩
          case measure => simp [intOf]; omega
    · obtain rfl : i = ss.length := by omega
      rw [List.take_length] at ho hkl
      rw [List.take_length]
      have f0 := hat.head.frozen 0
      obtain ⟨t1, t2, t3⟩ := RNIn.less (l := keepP ns ss) H.out List.filter_sublist hk (OwnsAt.mono ho hB) (fun x hx => (ho.lt x hx).1)
      have hw1 : IntKind.i64.wrap ((ss.length : Int) - ((keepP ns ss).length : Int)) = (ss.length : Int) - (keepP ns ss).length := IntWalk.i64_in _ (by omega)
      have Hfin := Lib.hid (show RGonePost B p (netFoot p (.slice aw ss.length cw) ss) w ss ns (.returned (.int .i64 ((ss.length : Int) - (keepP ns ss).length))) _ from ⟨rfl, _, ⟨_, t1, rfl⟩, t2, t3⟩)
      clear ho hk hat t1 t2 t3
      go_wp2
      go_ret
      exact Hfin.out
end Go.Proofs.Ytolhcikgodaecaa
