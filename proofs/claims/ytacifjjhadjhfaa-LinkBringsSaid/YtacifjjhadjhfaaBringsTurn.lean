/- LinkBrings: a turn of the net. -/
import Derived.Test.YtacifjjhadjhfaaRows
import Derived.WalkKit
import Derived.WalkSpells
import Derived.WalkLawsBesides
import Derived.RegionTactic
import Derived.ChangeAlike
import Derived.BigQuiet
import Derived.Deep.QuietTactic
import Derived.StillTailTactics
import Derived.IntWalk
import Derived.Handy
import Derived.Lib.Hide
import Derived.Deep.AppendLies
import Derived.Deep.RegionWith
import Derived.Test.YtacifjjhadjhfaaBase
import Derived.Test.YtacifjjhadjhfaaTail
import Derived.Test.YtacifjjhadjhfaaArgs
import Derived.Test.YtacifjjhadjhfaaAppend
import Derived.Deep.RegionLaw
import Derived.Test.YtacifjjhadjhfaaOffs
import Derived.Test.YtacifjjhadjhfaaStructs
import Derived.Test.YtacifjjhadjhfaaSplit
import Derived.Maps.OwnSet
import Derived.Maps.Views
import Derived.Test.YtacifjjhadjhfaaLinkBytes
import Derived.Test.YtacifjjhadjhfaaLinkObj
import Derived.Test.YtacifjjhadjhfaaLinkSend
import Derived.Test.YtacifjjhadjhfaaLinkDue
import Derived.Test.YtacifjjhadjhfaaLinkFrame
import Derived.Test.YtacifjjhadjhfaaLinkOut
import Derived.Test.YtacifjjhadjhfaaLinkOut2
import Derived.Test.YtacifjjhadjhfaaLinkOne
import Derived.Test.YtacifjjhadjhfaaLinkLive
import Derived.Test.YtacifjjhadjhfaaLinkAck
import Derived.Test.YtacifjjhadjhfaaLinkAck2
import Derived.Test.YtacifjjhadjhfaaLinkGot
import Derived.Test.YtacifjjhadjhfaaLinkGot2
import Derived.Test.YtacifjjhadjhfaaLinkGot3
import Derived.Test.YtacifjjhadjhfaaLinkInn
import Derived.Test.YtacifjjhadjhfaaLinkX2
import Derived.Deep.CutRange
import Derived.Deep.DeepCutAuto
import Derived.BigRegion
import Derived.Laws.BytesArg
import Derived.Test.YtacifjjhadjhfaaBringsObj
import Derived.Test.YtacifjjhadjhfaaBringsLoads
import Derived.Test.YtacifjjhadjhfaaBringsIn
namespace Go.Proofs.Ytacifjjhadjhfaa
open Go.RowKit
theorem PairIn.more {X Y : List Nat} {w0 w w' : World} {g pa pb : Nat} {vw : Value} {u : Nat → Value} {a b : LK} {fs : List FR} {now : Int} {o : Nat → List BV} (h : PairIn X w0 w g pa pb vw u a b fs now o) (k : Keep [] w w') (hY : ∀ x ∈ Y, w.heap.size ≤ x ∧ x < w'.heap.size) : PairIn (Y ++ X) w0 w' g pa pb vw u a b fs now o :=
  h.link (KX.of0 k) (h.tw.grow k (by simp) (fun x hx => Or.inr (hY x hx))) (fun x hx => List.mem_append_right _ hx)
def kNum (k : Int) : Int := if k < 0 then -(k + 1) else k
def kIn (k : Int) (n : Nat) : Nat := (kNum k).toNat % n
theorem fr_one {X : List Nat} {w0 w : World} {l : List FR} (k : Keep [] w0 w) (h : ∀ s ∈ l, ByAt X w0 w ⟨s.bs, s.bv⟩) : ∀ u ∈ l.flatMap FR.c, u.oneCell' = true := by
  intro u hu
  rw [List.mem_flatMap] at hu
  obtain ⟨s, hs, hu⟩ := hu
  obtain ⟨a, c, hv⟩ : ∃ a c, s.bv = .slice a s.bs.length c := ((h s hs).of k).shape
  simp only [FR.c, List.mem_cons, List.not_mem_nil, or_false] at hu
  rcases hu with rfl | rfl | rfl | rfl | rfl | rfl
  · rfl
  · rfl
  · rfl
  · rfl
  · rfl
  · rw [hv]; rfl
theorem src_of2 {w : World} {B : Nat} {e : TypeId} {size : Nat} {g off n cap : Nat} {xs : List Value} (h : OwnsAt w B e size (.slice (some ⟨g, off, none⟩) n cap) n xs) {k : Nat} (hk : k ≤ n) (c : Nat) :
    SrcOf w (.slice (some ⟨g, off + k * size, none⟩) (n - k) c) size (n - k) (xs.drop (k * size)) := by
  have hl := h.1
  refine ⟨_, _, rfl, by rw [List.length_drop, hl, Nat.sub_mul], fun hne => ⟨_, rfl, fun j u hu => ?_⟩⟩
  rw [add_none, Nat.add_assoc]
  have hn : 0 < n := by
    rcases Nat.eq_zero_or_pos n with h0 | h0
    · subst h0; simp at hl; subst hl; simp at hne
    · exact h0
  obtain ⟨g', off', cap', hv, _, _, _, _, h5⟩ := h.form hn
  injection hv with e1 _ _
  injection e1 with e1
  injection e1 with e1 e2
  subst e1 e2
  exact h5 _ u (by rw [← List.getElem?_drop]; exact hu)
theorem kNum_ok {k : Int} (h : -9223372036854775808 ≤ k ∧ k ≤ 9223372036854775807) : 0 ≤ kNum k ∧ kNum k ≤ 9223372036854775807 := by unfold kNum; split <;> omega
def turn_in0_post (w0 : World) (g pa pb : Nat) (a b : LK) (fs : List FR) (now k : Int) (o : Nat → List BV) (bs : List UInt8) (v : Value) (e : Ending) (w' : World) : Prop := e = .returned (.bool true) ∧ ∃ s bv X' vw' u' os, fs[kIn k fs.length]? = some s ∧ os.map BV.bs = (inR (ackd a s.ack) s.seq s.bs bv).2.2.map LD.bs ∧ PairIn X' w0 w' g pa pb vw' u' (inQ a s.seq s.ack s.bs bv) b (fs.eraseIdx (kIn k fs.length)) now (fun j => if j = 0 then o 0 ++ os else o j)
set_option maxHeartbeats 16000000 in
set_option maxRecDepth 100000 in
theorem turn_in0 {X : List Nat} {w0 w : World} {g pa pb : Nat} {vw : Value} {u : Nat → Value} {a b : LK} {fs : List FR} {now : Int} {o : Nat → List BV} {way k : Int} {bs : List UInt8} {v : Value}
    (h : PairIn X w0 w g pa pb vw u a b fs now o) (hv : ByAt X w0 w ⟨bs, v⟩) (hk : -9223372036854775808 ≤ k ∧ k ≤ 9223372036854775807) (hfl : fs.length ≤ 100000) (hway : way = 4) (hne : 0 < fs.length) {s : FR} (hsA : fs[kIn k fs.length]? = some s) (hu : 0 ≤ a.upto ∧ a.upto ≤ 1000000000) (hsq : s.seq ≤ 9223372036854775807) (hkl : a.kept.length ≤ 1000) (hol : a.open_.length ≤ 1000) (hi : inOk a s.fr s.to s.life s.seq s.ack s.bs = true) (hto : s.to = 0) (hlo : (o 0).length ≤ 200000) (hlr : ∀ bv, (inR (ackd a s.ack) s.seq s.bs bv).2.2.length ≤ 1000) :
    Calls Try.prog 15 #[.pointer (some ⟨g, 0, none⟩), .agg #[.int .i64 way, .int .i64 k, v]] w (turn_in0_post w0 g pa pb a b fs now k o bs v) := by
  obtain ⟨av, cv, rfl⟩ : ∃ av cv, v = .slice av bs.length cv := (hv.of h.out).shape
  obtain ⟨aw, cw, rfl⟩ := h.way.shape
  have kA : Keep [] w (w.alloc (.cells #[.int .i64 way, .int .i64 k, .slice av bs.length cv] 54)) := (Keep.refl _ _).alloc _
  have bA : Blk (w.alloc (.cells #[.int .i64 way, .int .i64 k, .slice av bs.length cv] 54)) w.heap.size 54 [.int .i64 way, .int .i64 k, .slice av bs.length cv] := Blk.new' _ _ _ _ rfl
  have h2 := h.more (Y := [w.heap.size]) kA (by simp)
  have hv2 := (hv.kx (KX.of0 (X := X) kA)).sub (Y := [w.heap.size] ++ X) (fun x hx => List.mem_append_right _ hx)
  have H2 := Lib.hid (And.intro h2 (And.intro hv2 bA))
  have hflI : (fs.length : Int) ≤ 100000 := by omega
  have Hfl := Lib.hid hfl
  have hkk := kNum_ok hk
  have hgt : w.heap.size ∈ [w.heap.size] ++ X := by simp
  generalize hXX : [w.heap.size] ++ X = XX at *
  have t0 : (way == 0) = false := by rw [hway]; rfl
  have t1 : (way == 1) = false := by rw [hway]; rfl
  have t2 : (way == 2) = false := by rw [hway]; rfl
  have t3 : (way == 3) = false := by rw [hway]; rfl
  have t4 : (way == 4) = true := by simpa using hway
  have Hne := Lib.hid hne
  have HsA := Lib.hid hsA
  have HA := Lib.hid (And.intro hu (And.intro hsq (And.intro hkl (And.intro hol (And.intro hi (And.intro hto (And.intro hlo hlr)))))))
  clear hne hsA hu hsq hkl hol hi hto hlo hlr
  clear h h2 hv hv2 bA kA hXX hfl hway
  go_enter Try.func15, Try.ntmps15
  go_upto_region 1 with fail
  generalize hwA : w.alloc (.cells #[.int .i64 way, .int .i64 k, .slice av bs.length cv] 54) = wA at *
  generalize hgA : w.heap.size = gA at *
  clear hwA hgA
  have x1 : wA.cell? ⟨gA, 1, none⟩ = some (.int .i64 k) := H2.out.2.2.cell 1
  go_upto_if 12 with fail
  clear x1
  go_cut [5] from 13 to 15 (fun v5 wx => v5 = .int .i64 (kNum k) ∧ wx = wA)
  case first =>
    by_cases hneg : k < 0
    · have e1 : IntKind.i64.wrap (k + 1) = k + 1 := IntWalk.i64_in _ (by omega)
      have e2 : IntKind.i64.wrap (-(k + 1)) = -(k + 1) := IntWalk.i64_in _ (by omega)
      have e3 : kNum k = -(k + 1) := by unfold kNum; rw [if_pos hneg]
      clear hkk
      go_wp2
      go_meet
      case rel => exact ⟨by rw [e3], rfl⟩
    · have e3 : kNum k = k := by unfold kNum; rw [if_neg hneg]
      clear hkk
      go_wp2
      go_meet
      case rel => exact ⟨by rw [e3], rfl⟩
  case rest =>
    obtain ⟨rfl, rfl⟩ := hcut
    clear hk
    have xw : wc.cell? ⟨g, 2, none⟩ = some (.slice aw fs.length cw) := H2.out.1.head.cell 2
    go_upto_if 21 with fail
    go_cut [5] from 21 to 28 (fun v5 wx => (∃ j : Int, v5 = .int .i64 j ∧ (0 < fs.length → j = (kIn k fs.length : Nat))) ∧ wx = wc)
    case first =>
      have hkin := Lib.hid (show kIn k fs.length = (kNum k).toNat % fs.length from rfl)
      generalize kNum k = kk at *
      obtain ⟨kn, rfl⟩ := Int.eq_ofNat_of_zero_le hkk.1
      have hm : (kn : Int).tmod (fs.length : Int) = ((kn % fs.length : Nat) : Int) := by rw [Int.tmod_eq_emod_of_nonneg (by omega)]; rfl
      obtain ⟨r, hr⟩ : ∃ r, r = kn % fs.length := ⟨_, rfl⟩
      rw [← hr] at hm
      have Hr : Hid ((kn : Int) % (fs.length : Int) = (r : Int)) := Lib.hid (by rw [hr]; rfl)
      have hkin2 : Hid (kIn k fs.length = r) := Lib.hid (by rw [hkin.out, hr]; simp)
      by_cases hlen : 0 < fs.length
      · have hlenI : (0 : Int) < (fs.length : Int) := by omega
        have hne : ((fs.length : Int) == 0) = false := by simp only [beq_eq_false_iff_ne, ne_eq]; omega
        have hmod : r < fs.length := by rw [hr]; exact Nat.mod_lt kn hlen
        have hmw : IntKind.i64.wrap ((kn : Int).tmod (fs.length : Int)) = (r : Int) := by rw [hm]; exact IntWalk.i64_in _ (by omega)
        clear hm hmod hr
        go_wp2
        go_meet
        case rel => exact ⟨⟨_, rfl, fun _ => by rw [hkin2.out]; first | exact Hr.out | rfl⟩, rfl⟩
      · have hlenI : ¬ (0 : Int) < (fs.length : Int) := by omega
        clear hm hr
        go_wp2
        all_goals (go_meet; case rel => exact ⟨⟨_, rfl, fun h => absurd h hlen⟩, rfl⟩)
    case rest =>
      rename_i wp hcut1
      obtain ⟨⟨j, rfl, hj⟩, rfl⟩ := hcut
      clear hkk xw
      have Hj := Lib.hid hj
      clear hj
      have x0 : wc.cell? ⟨gA, 0, none⟩ = some (.int .i64 way) := H2.out.2.2.cell 0
      have hne := Hne.out
      obtain ⟨jn, hjn⟩ : ∃ jn, jn = kIn k fs.length := ⟨_, rfl⟩
      obtain rfl : j = (jn : Int) := by rw [hjn]; exact Hj.out hne
      have hjlt : jn < fs.length := by rw [hjn]; exact Nat.mod_lt _ hne
      have Hjn := Lib.hid hjn
      obtain ⟨n, hn⟩ : ∃ n, fs.length = n + 1 := ⟨fs.length - 1, by omega⟩
      obtain ⟨gw, offw, cw', hvw, hcap, hmx, _, hgw, _⟩ := H2.out.1.way.form hne
      injection hvw with e1 _ e3
      subst e1 e3
      generalize wc = wq at *
      have xw : wq.cell? ⟨g, 2, none⟩ = some (.slice (some ⟨gw, offw, none⟩) (n + 1) cw) := by rw [← hn]; exact H2.out.1.head.cell 2
      have Hrows : Hid (OwnsAt wq w0.heap.size 46 6 (.slice (some ⟨gw, offw, none⟩) (n + 1) cw) (n + 1) (fs.flatMap FR.c)) := Lib.hid (by rw [← hn]; exact H2.out.1.way)
      have Hn := Lib.hid hn
      have hjn2 : jn ≤ n := by omega
      have hkn2 : (jn : Int) < (n : Int) + 1 := by omega
      have hn2 : (n : Int) ≤ 100000 := by omega
      have hl0 : ((n : Int) + 1 == 0) = false := by simp only [beq_eq_false_iff_ne, ne_eq]; omega
      have hwr : IntKind.i64.wrap ((jn : Int) + 1) = ((jn + 1 : Nat) : Int) := by rw [IntWalk.i64_in _ (by omega)]; rfl
      have hcap : n + 1 ≤ cw := by omega
      have hknc : jn + 1 ≤ cw := by omega
      have hlg : ¬ ((n : Int) + 1 ≤ (jn : Int)) := by omega
      have hmx2 : cw ≤ 9223372036854775807 := by unfold maxLen at hmx; omega
      have Hmx := Lib.hid hmx2
      clear hmx hmx2 hjlt hjn hn hflI hgw Hj hne
      obtain ⟨s, hs⟩ : ∃ s, fs[jn]? = some s := ⟨_, List.getElem?_eq_getElem (by have := Hn.out; omega)⟩
      obtain ⟨gx, offx, hgx, _, hgx2, hcells, _, _⟩ := Hrows.out.rowAt FR.c_len hs (by omega)
      injection hgx with hgx
      injection hgx with hgx1 hgx3
      subst hgx1 hgx3
      have hfs := H2.out.1.frs s (List.mem_of_getElem? hs)
      have Hs := Lib.hid hs
      obtain ⟨f0, f1, f2, f3, f4, fbs, fbv⟩ := s
      obtain ⟨ab, cb, hfbv⟩ : ∃ ab cb, fbv = .slice ab fbs.length cb := (hfs.of H2.out.1.out).shape
      subst hfbv
      have e0 : wq.cell? ⟨gw, offw + jn * 6, none⟩ = some (.int .i64 f0) := hcells 0 _ (by omega) rfl
      have e1 : wq.cell? ⟨gw, offw + jn * 6 + 1, none⟩ = some (.int .i64 f1) := hcells 1 _ (by omega) rfl
      have e2 : wq.cell? ⟨gw, offw + jn * 6 + 2, none⟩ = some (.int .i64 f2) := hcells 2 _ (by omega) rfl
      have e3 : wq.cell? ⟨gw, offw + jn * 6 + 3, none⟩ = some (.int .i64 f3) := hcells 3 _ (by omega) rfl
      have e4 : wq.cell? ⟨gw, offw + jn * 6 + 4, none⟩ = some (.int .i64 f4) := hcells 4 _ (by omega) rfl
      have e5 : wq.cell? ⟨gw, offw + jn * 6 + 5, none⟩ = some (.slice ab fbs.length cb) := hcells 5 _ (by omega) rfl
      have Hfs := Lib.hid hfs
      clear hcells hs hfs hgx2
      have kF : Keep [] wq (wq.alloc (.cells #[.int .i64 f0, .int .i64 f1, .int .i64 f2, .int .i64 f3, .int .i64 f4, .slice ab fbs.length cb] 46)) := (Keep.refl _ _).alloc _
      have bF : Blk (wq.alloc (.cells #[.int .i64 f0, .int .i64 f1, .int .i64 f2, .int .i64 f3, .int .i64 f4, .slice ab fbs.length cb] 46)) wq.heap.size 46 [.int .i64 f0, .int .i64 f1, .int .i64 f2, .int .i64 f3, .int .i64 f4, .slice ab fbs.length cb] := Blk.new' _ _ _ _ rfl
      have hF := H2.out.1.more (Y := [wq.heap.size]) kF (by simp)
      have hrF := Hrows.out.keep kF (by simp)
      have HF := Lib.hid (And.intro bF (And.intro (Hfs.out.kx (KX.of0 (X := XX) kF)) hrF))
      have H := Lib.hid hF
      clear kF bF hF hrF H2 Hrows
      go_upto_region 22 with fail
      clear e0 e1 e2 e3 e4 e5 xw
      generalize wq.alloc (.cells #[.int .i64 f0, .int .i64 f1, .int .i64 f2, .int .i64 f3, .int .i64 f4, .slice ab fbs.length cb] 46) = wF at *
      generalize wq.heap.size = gF at *
      have Hrows := Lib.hid HF.out.2.2
      have xw : wF.cell? ⟨g, 2, none⟩ = some (.slice (some ⟨gw, offw, none⟩) (n + 1) cw) := by rw [← Hn.out]; exact H.out.head.cell 2
      go_upto_region 22 with fail
      go_cut [7] from 175 to 182 (fun v6 wx => OwnsAt wx w0.heap.size 46 6 v6 (n - jn) ((fs.drop (jn + 1)).flatMap FR.c) ∧ Keep [] wF wx ∧ ∀ x, v6.ownBlock = some x → wF.heap.size ≤ x)
      case first =>
        have hsz0 := H.out.out.size
        by_cases hc : cw = jn + 1
        · have hnk : n = jn := by omega
          have Hdrop : Hid (fs.drop (jn + 1) = []) := Lib.hid (List.drop_of_length_le (by have := Hn.out; omega))
          have hsrc : ∀ a c, SrcOf wF (.slice a 0 c) 6 0 ([] : List Value) := fun a c => ⟨a, c, rfl, rfl, fun h => absurd rfl h⟩
          subst hc
          subst hnk
          go_wp2_with (at_builtin; refine wpList_append_off rfl _ _ rfl Try.frs36 w0.heap.size (.slice none 0 0) 0 [] rfl (OwnsAt.nil _ _ _ _) _ 0 _ rfl (hsrc _ _) (by simp) (by unfold maxLen; omega) (by omega) hsz0 ?_)
          intro v6 w6 h6 k6 hb6
          go_wp2
          go_meet
          case rel => exact ⟨by rw [Hdrop.out, Nat.sub_self]; simpa using h6, k6, fun y hy => by
            rcases hb6 with h | h
            · rw [h] at hy; cases hy
            · rw [h] at hy; cases hy; exact Nat.le_refl _⟩
        · have hsrc := src_of2 Hrows.out (show jn + 1 ≤ n + 1 by omega) (cw - (jn + 1))
          rw [flat_drop FR.c_len, show n + 1 - (jn + 1) = n - jn by omega] at hsrc
          have Hsrc := Lib.hid hsrc
          clear hsrc
          go_wp2_with (at_builtin; refine wpList_append_off rfl _ _ rfl Try.frs36 w0.heap.size (.slice none 0 0) 0 [] rfl (OwnsAt.nil _ _ _ _) _ (n - jn) _ rfl Hsrc.out (fr_one H.out.out (fun t ht => H.out.frs t (List.mem_of_mem_drop ht))) (by unfold maxLen; omega) (by omega) hsz0 ?_)
          intro v6 w6 h6 k6 hb6
          go_wp2
          go_meet
          case rel => exact ⟨by simpa using h6, k6, fun y hy => by
            rcases hb6 with h | h
            · rw [h] at hy; cases hy
            · rw [h] at hy; cases hy; exact Nat.le_refl _⟩
      case rest =>
        obtain ⟨h6, k6, hb6⟩ := hcut
        generalize wc = wr at *
        have hpre := (Hrows.out.keep k6 (by simp)).cutAt (show jn ≤ n + 1 by omega)
        rw [flat_take FR.c_len] at hpre
        have Hc := Lib.hid (H.out.keep0 k6)
        have Hpre := Lib.hid hpre
        have H6 := Lib.hid h6
        have K6 := Lib.hid k6
        have Hb6 := Lib.hid hb6
        have xw2 : wr.cell? ⟨g, 2, none⟩ = some (.slice (some ⟨gw, offw, none⟩) (n + 1) cw) := by rw [← Hn.out]; exact Hc.out.head.cell 2
        have hszc := Hc.out.out.size
        obtain ⟨a6, c6, rfl⟩ := h6.shape
        clear h6 k6 hpre xw hb6
        go_wp2_with (at_builtin; refine wpList_append_off rfl _ _ rfl Try.frs36 w0.heap.size (.slice none 0 0) 0 [] rfl (OwnsAt.nil _ _ _ _) _ jn _ rfl (src_own2 Hpre.out) (fr_one Hc.out.out (fun t ht => Hc.out.frs t (List.mem_of_mem_take ht))) (by unfold maxLen; omega) (by omega) hszc ?_)
        intro v5 w5 h5 k5 hb5
        have h5 : OwnsAt w5 w0.heap.size 46 6 v5 jn ((fs.take jn).flatMap FR.c) := by simpa using h5
        have k5' : Keep [] wr w5 := k5
        have H6' := Lib.hid (H6.out.keep k5' (by simp))
        have hb5' : ∀ y, v5.ownBlock = some y → wr.heap.size ≤ y := fun y hy => by
          rcases hb5 with h | h
          · rw [h] at hy; cases hy
          · rw [h] at hy; cases hy; exact Nat.le_refl _
        have hsz5 : w0.heap.size ≤ w5.heap.size := Nat.le_trans hszc k5'.size
        have H5 := Lib.hid h5
        have K5 := Lib.hid k5'
        have Hb5 := Lib.hid hb5'
        have H55 := Lib.hid (Hc.out.keep0 k5')
        obtain ⟨a5, c5, rfl⟩ := h5.shape
        clear h5 k5 k5' hb5 hb5' H6 Hpre
        go_wp2_with (at_builtin; refine wpList_append_off rfl _ _ rfl Try.frs36 w0.heap.size (.slice a5 jn c5) jn _ rfl H5.out _ (n - jn) _ rfl (src_own2 H6'.out) (fr_one H55.out.out (fun t ht => H55.out.frs t (List.mem_of_mem_drop ht))) (by unfold maxLen; omega) (by omega) hsz5 ?_)
        intro v7 w7 h7 k7 hb7
        have hb7' : ∀ y ∈ ownBlocks v7, wr.heap.size ≤ y := fun y hy => by
          have hy := mem_own.1 hy
          rcases hb7 with h | h
          · rw [h] at hy; exact Hb5.out y hy
          · rw [h] at hy; cases hy; exact K5.out.size
        have hflat : (fs.take jn).flatMap FR.c ++ (fs.drop (jn + 1)).flatMap FR.c = (fs.eraseIdx jn).flatMap FR.c := by
          rw [← List.flatMap_append, List.eraseIdx_eq_take_drop_succ]
        have hel : (fs.eraseIdx jn).length = n := by rw [List.length_eraseIdx_of_lt (by have := Hn.out; omega)]; have := Hn.out; omega
        rw [hflat] at h7
        have h7 : OwnsAt w7 w0.heap.size 46 6 v7 n ((fs.eraseIdx jn).flatMap FR.c) := by
          first
            | exact h7
            | (rw [show jn + (n - jn) = n by omega] at h7; exact h7)
        have k7A : Keep [] wr w7 := K5.out.trans k7 (fun y hy => Or.inr (Hb5.out y (mem_own.1 hy)))
        have hrow := Hc.out.ways (v' := v7) (fs' := fs.eraseIdx jn) ((Keep.refl _ _).trans k7A (by simp)) (by rw [hel]; exact h7) (Or.inr hb7') (fun s hs => Hc.out.frs s (List.mem_of_mem_eraseIdx hs))
        have hg7 := Hc.out.head.keep k7A (by simp)
        have xf : w7.frozen? ⟨g, 2, none⟩ = false := hg7.frozen 2
        have xw3 : w7.cell? ⟨g, 2, none⟩ = some (.slice (some ⟨gw, offw, none⟩) (n + 1) cw) := by rw [← Hn.out]; exact hg7.cell 2
        have HR := Lib.hid hrow
        have K7 := Lib.hid (K6.out.trans k7A (by simp))
        obtain ⟨a7, c7, rfl⟩ := h7.shape
        clear h7 k7 hb7 hb7' hflat hel hrow hg7 k7A K6 K5 H5 H6' Hb5 Hb6 Hc H55
        have hg7 := H.out.head.keep K7.out (by simp)
        have b7 := HF.out.1.keep K7.out (by simp)
        have hne8 : gF ≠ g := fun e => Blk.ne_ b7 hg7 (by decide) e
        have b8 := b7.far (p := ⟨g, 2, none⟩) hne8 (.slice a7 n c7)
        have hby8 := ((HF.out.2.1.kx (KX.of0 K7.out)).blk hg7 (by decide) ((Keep.refl [g] w7).setCell (p := ⟨g, 2, none⟩) (by simp) (.slice a7 n c7))).sub (Y := ownBlocks (.slice a7 n c7) ++ ([gF] ++ XX)) (fun x hx => by simp [hx])
        have H8 := Lib.hid (And.intro b8 hby8)
        clear hg7 b7 b8 hby8 hne8
        go_upto_region 24 with fail
        clear xw3 xf
        generalize w7.setCell ⟨g, 2, none⟩ (.slice a7 n c7) = w8 at *
        have y0 : w8.cell? ⟨gF, 0, none⟩ = some (.int .i64 f0) := H8.out.1.cell 0
        have y1 : w8.cell? ⟨gF, 1, none⟩ = some (.int .i64 f1) := H8.out.1.cell 1
        have y2 : w8.cell? ⟨gF, 2, none⟩ = some (.int .i64 f2) := H8.out.1.cell 2
        have y3 : w8.cell? ⟨gF, 3, none⟩ = some (.int .i64 f3) := H8.out.1.cell 3
        have y4 : w8.cell? ⟨gF, 4, none⟩ = some (.int .i64 f4) := H8.out.1.cell 4
        have y5 : w8.cell? ⟨gF, 5, none⟩ = some (.slice ab fbs.length cb) := H8.out.1.cell 5
        have hse : s = ⟨f0, f1, f2, f3, f4, fbs, .slice ab fbs.length cb⟩ := by
          have h9 := HsA.out
          rw [← Hjn.out, Hs.out] at h9
          injection h9 with h9
          exact h9.symm
        have hsp := HA.out
        subst hse
        have hs9 := Lib.hid (pin_spec0 HR.out H8.out.2 hsp.1 hsp.2.1 hsp.2.2.1 hsp.2.2.2.1 hsp.2.2.2.2.1 hsp.2.2.2.2.2.1 hsp.2.2.2.2.2.2.1 hsp.2.2.2.2.2.2.2)
        have HsB := Lib.hid HsA.out
        clear hsp HA H8 HR HsA
        go_wp2_with fail
        refine hs9.out.mono ?_
        rintro e w9 ⟨rfl, bv, X9, u9, os, hos, hP⟩
        have Hos := Lib.hid hos
        have HP := Lib.hid hP
        clear hos hP hs9 y0 y1 y2 y3 y4 y5
        go_wp2_with fail
        go_ret
        unfold turn_in0_post
        exact ⟨rfl, _, bv, _, _, _, os, HsB.out, Hos.out, by rw [← Hjn.out]; exact HP.out⟩

def turn_in1_post (w0 : World) (g pa pb : Nat) (a b : LK) (fs : List FR) (now k : Int) (o : Nat → List BV) (bs : List UInt8) (v : Value) (e : Ending) (w' : World) : Prop := e = .returned (.bool true) ∧ ∃ s bv X' vw' u' os, fs[kIn k fs.length]? = some s ∧ os.map BV.bs = (inR (ackd b s.ack) s.seq s.bs bv).2.2.map LD.bs ∧ PairIn X' w0 w' g pa pb vw' u' a (inQ b s.seq s.ack s.bs bv) (fs.eraseIdx (kIn k fs.length)) now (fun j => if j = 1 then o 1 ++ os else o j)
set_option maxHeartbeats 16000000 in
set_option maxRecDepth 100000 in
theorem turn_in1 {X : List Nat} {w0 w : World} {g pa pb : Nat} {vw : Value} {u : Nat → Value} {a b : LK} {fs : List FR} {now : Int} {o : Nat → List BV} {way k : Int} {bs : List UInt8} {v : Value}
    (h : PairIn X w0 w g pa pb vw u a b fs now o) (hv : ByAt X w0 w ⟨bs, v⟩) (hk : -9223372036854775808 ≤ k ∧ k ≤ 9223372036854775807) (hfl : fs.length ≤ 100000) (hway : way = 4) (hne : 0 < fs.length) {s : FR} (hsA : fs[kIn k fs.length]? = some s) (hu : 0 ≤ b.upto ∧ b.upto ≤ 1000000000) (hsq : s.seq ≤ 9223372036854775807) (hkl : b.kept.length ≤ 1000) (hol : b.open_.length ≤ 1000) (hi : inOk b s.fr s.to s.life s.seq s.ack s.bs = true) (hto : s.to ≠ 0) (hlo : (o 1).length ≤ 200000) (hlr : ∀ bv, (inR (ackd b s.ack) s.seq s.bs bv).2.2.length ≤ 1000) :
    Calls Try.prog 15 #[.pointer (some ⟨g, 0, none⟩), .agg #[.int .i64 way, .int .i64 k, v]] w (turn_in1_post w0 g pa pb a b fs now k o bs v) := by
  obtain ⟨av, cv, rfl⟩ : ∃ av cv, v = .slice av bs.length cv := (hv.of h.out).shape
  obtain ⟨aw, cw, rfl⟩ := h.way.shape
  have kA : Keep [] w (w.alloc (.cells #[.int .i64 way, .int .i64 k, .slice av bs.length cv] 54)) := (Keep.refl _ _).alloc _
  have bA : Blk (w.alloc (.cells #[.int .i64 way, .int .i64 k, .slice av bs.length cv] 54)) w.heap.size 54 [.int .i64 way, .int .i64 k, .slice av bs.length cv] := Blk.new' _ _ _ _ rfl
  have h2 := h.more (Y := [w.heap.size]) kA (by simp)
  have hv2 := (hv.kx (KX.of0 (X := X) kA)).sub (Y := [w.heap.size] ++ X) (fun x hx => List.mem_append_right _ hx)
  have H2 := Lib.hid (And.intro h2 (And.intro hv2 bA))
  have hflI : (fs.length : Int) ≤ 100000 := by omega
  have Hfl := Lib.hid hfl
  have hkk := kNum_ok hk
  have hgt : w.heap.size ∈ [w.heap.size] ++ X := by simp
  generalize hXX : [w.heap.size] ++ X = XX at *
  have t0 : (way == 0) = false := by rw [hway]; rfl
  have t1 : (way == 1) = false := by rw [hway]; rfl
  have t2 : (way == 2) = false := by rw [hway]; rfl
  have t3 : (way == 3) = false := by rw [hway]; rfl
  have t4 : (way == 4) = true := by simpa using hway
  have Hne := Lib.hid hne
  have HsA := Lib.hid hsA
  have HA := Lib.hid (And.intro hu (And.intro hsq (And.intro hkl (And.intro hol (And.intro hi (And.intro hto (And.intro hlo hlr)))))))
  clear hne hsA hu hsq hkl hol hi hto hlo hlr
  clear h h2 hv hv2 bA kA hXX hfl hway
  go_enter Try.func15, Try.ntmps15
  go_upto_region 1 with fail
  generalize hwA : w.alloc (.cells #[.int .i64 way, .int .i64 k, .slice av bs.length cv] 54) = wA at *
  generalize hgA : w.heap.size = gA at *
  clear hwA hgA
  have x1 : wA.cell? ⟨gA, 1, none⟩ = some (.int .i64 k) := H2.out.2.2.cell 1
  go_upto_if 12 with fail
  clear x1
  go_cut [5] from 13 to 15 (fun v5 wx => v5 = .int .i64 (kNum k) ∧ wx = wA)
  case first =>
    by_cases hneg : k < 0
    · have e1 : IntKind.i64.wrap (k + 1) = k + 1 := IntWalk.i64_in _ (by omega)
      have e2 : IntKind.i64.wrap (-(k + 1)) = -(k + 1) := IntWalk.i64_in _ (by omega)
      have e3 : kNum k = -(k + 1) := by unfold kNum; rw [if_pos hneg]
      clear hkk
      go_wp2
      go_meet
      case rel => exact ⟨by rw [e3], rfl⟩
    · have e3 : kNum k = k := by unfold kNum; rw [if_neg hneg]
      clear hkk
      go_wp2
      go_meet
      case rel => exact ⟨by rw [e3], rfl⟩
  case rest =>
    obtain ⟨rfl, rfl⟩ := hcut
    clear hk
    have xw : wc.cell? ⟨g, 2, none⟩ = some (.slice aw fs.length cw) := H2.out.1.head.cell 2
    go_upto_if 21 with fail
    go_cut [5] from 21 to 28 (fun v5 wx => (∃ j : Int, v5 = .int .i64 j ∧ (0 < fs.length → j = (kIn k fs.length : Nat))) ∧ wx = wc)
    case first =>
      have hkin := Lib.hid (show kIn k fs.length = (kNum k).toNat % fs.length from rfl)
      generalize kNum k = kk at *
      obtain ⟨kn, rfl⟩ := Int.eq_ofNat_of_zero_le hkk.1
      have hm : (kn : Int).tmod (fs.length : Int) = ((kn % fs.length : Nat) : Int) := by rw [Int.tmod_eq_emod_of_nonneg (by omega)]; rfl
      obtain ⟨r, hr⟩ : ∃ r, r = kn % fs.length := ⟨_, rfl⟩
      rw [← hr] at hm
      have Hr : Hid ((kn : Int) % (fs.length : Int) = (r : Int)) := Lib.hid (by rw [hr]; rfl)
      have hkin2 : Hid (kIn k fs.length = r) := Lib.hid (by rw [hkin.out, hr]; simp)
      by_cases hlen : 0 < fs.length
      · have hlenI : (0 : Int) < (fs.length : Int) := by omega
        have hne : ((fs.length : Int) == 0) = false := by simp only [beq_eq_false_iff_ne, ne_eq]; omega
        have hmod : r < fs.length := by rw [hr]; exact Nat.mod_lt kn hlen
        have hmw : IntKind.i64.wrap ((kn : Int).tmod (fs.length : Int)) = (r : Int) := by rw [hm]; exact IntWalk.i64_in _ (by omega)
        clear hm hmod hr
        go_wp2
        go_meet
        case rel => exact ⟨⟨_, rfl, fun _ => by rw [hkin2.out]; first | exact Hr.out | rfl⟩, rfl⟩
      · have hlenI : ¬ (0 : Int) < (fs.length : Int) := by omega
        clear hm hr
        go_wp2
        all_goals (go_meet; case rel => exact ⟨⟨_, rfl, fun h => absurd h hlen⟩, rfl⟩)
    case rest =>
      rename_i wp hcut1
      obtain ⟨⟨j, rfl, hj⟩, rfl⟩ := hcut
      clear hkk xw
      have Hj := Lib.hid hj
      clear hj
      have x0 : wc.cell? ⟨gA, 0, none⟩ = some (.int .i64 way) := H2.out.2.2.cell 0
      have hne := Hne.out
      obtain ⟨jn, hjn⟩ : ∃ jn, jn = kIn k fs.length := ⟨_, rfl⟩
      obtain rfl : j = (jn : Int) := by rw [hjn]; exact Hj.out hne
      have hjlt : jn < fs.length := by rw [hjn]; exact Nat.mod_lt _ hne
      have Hjn := Lib.hid hjn
      obtain ⟨n, hn⟩ : ∃ n, fs.length = n + 1 := ⟨fs.length - 1, by omega⟩
      obtain ⟨gw, offw, cw', hvw, hcap, hmx, _, hgw, _⟩ := H2.out.1.way.form hne
      injection hvw with e1 _ e3
      subst e1 e3
      generalize wc = wq at *
      have xw : wq.cell? ⟨g, 2, none⟩ = some (.slice (some ⟨gw, offw, none⟩) (n + 1) cw) := by rw [← hn]; exact H2.out.1.head.cell 2
      have Hrows : Hid (OwnsAt wq w0.heap.size 46 6 (.slice (some ⟨gw, offw, none⟩) (n + 1) cw) (n + 1) (fs.flatMap FR.c)) := Lib.hid (by rw [← hn]; exact H2.out.1.way)
      have Hn := Lib.hid hn
      have hjn2 : jn ≤ n := by omega
      have hkn2 : (jn : Int) < (n : Int) + 1 := by omega
      have hn2 : (n : Int) ≤ 100000 := by omega
      have hl0 : ((n : Int) + 1 == 0) = false := by simp only [beq_eq_false_iff_ne, ne_eq]; omega
      have hwr : IntKind.i64.wrap ((jn : Int) + 1) = ((jn + 1 : Nat) : Int) := by rw [IntWalk.i64_in _ (by omega)]; rfl
      have hcap : n + 1 ≤ cw := by omega
      have hknc : jn + 1 ≤ cw := by omega
      have hlg : ¬ ((n : Int) + 1 ≤ (jn : Int)) := by omega
      have hmx2 : cw ≤ 9223372036854775807 := by unfold maxLen at hmx; omega
      have Hmx := Lib.hid hmx2
      clear hmx hmx2 hjlt hjn hn hflI hgw Hj hne
      obtain ⟨s, hs⟩ : ∃ s, fs[jn]? = some s := ⟨_, List.getElem?_eq_getElem (by have := Hn.out; omega)⟩
      obtain ⟨gx, offx, hgx, _, hgx2, hcells, _, _⟩ := Hrows.out.rowAt FR.c_len hs (by omega)
      injection hgx with hgx
      injection hgx with hgx1 hgx3
      subst hgx1 hgx3
      have hfs := H2.out.1.frs s (List.mem_of_getElem? hs)
      have Hs := Lib.hid hs
      obtain ⟨f0, f1, f2, f3, f4, fbs, fbv⟩ := s
      obtain ⟨ab, cb, hfbv⟩ : ∃ ab cb, fbv = .slice ab fbs.length cb := (hfs.of H2.out.1.out).shape
      subst hfbv
      have e0 : wq.cell? ⟨gw, offw + jn * 6, none⟩ = some (.int .i64 f0) := hcells 0 _ (by omega) rfl
      have e1 : wq.cell? ⟨gw, offw + jn * 6 + 1, none⟩ = some (.int .i64 f1) := hcells 1 _ (by omega) rfl
      have e2 : wq.cell? ⟨gw, offw + jn * 6 + 2, none⟩ = some (.int .i64 f2) := hcells 2 _ (by omega) rfl
      have e3 : wq.cell? ⟨gw, offw + jn * 6 + 3, none⟩ = some (.int .i64 f3) := hcells 3 _ (by omega) rfl
      have e4 : wq.cell? ⟨gw, offw + jn * 6 + 4, none⟩ = some (.int .i64 f4) := hcells 4 _ (by omega) rfl
      have e5 : wq.cell? ⟨gw, offw + jn * 6 + 5, none⟩ = some (.slice ab fbs.length cb) := hcells 5 _ (by omega) rfl
      have Hfs := Lib.hid hfs
      clear hcells hs hfs hgx2
      have kF : Keep [] wq (wq.alloc (.cells #[.int .i64 f0, .int .i64 f1, .int .i64 f2, .int .i64 f3, .int .i64 f4, .slice ab fbs.length cb] 46)) := (Keep.refl _ _).alloc _
      have bF : Blk (wq.alloc (.cells #[.int .i64 f0, .int .i64 f1, .int .i64 f2, .int .i64 f3, .int .i64 f4, .slice ab fbs.length cb] 46)) wq.heap.size 46 [.int .i64 f0, .int .i64 f1, .int .i64 f2, .int .i64 f3, .int .i64 f4, .slice ab fbs.length cb] := Blk.new' _ _ _ _ rfl
      have hF := H2.out.1.more (Y := [wq.heap.size]) kF (by simp)
      have hrF := Hrows.out.keep kF (by simp)
      have HF := Lib.hid (And.intro bF (And.intro (Hfs.out.kx (KX.of0 (X := XX) kF)) hrF))
      have H := Lib.hid hF
      clear kF bF hF hrF H2 Hrows
      go_upto_region 22 with fail
      clear e0 e1 e2 e3 e4 e5 xw
      generalize wq.alloc (.cells #[.int .i64 f0, .int .i64 f1, .int .i64 f2, .int .i64 f3, .int .i64 f4, .slice ab fbs.length cb] 46) = wF at *
      generalize wq.heap.size = gF at *
      have Hrows := Lib.hid HF.out.2.2
      have xw : wF.cell? ⟨g, 2, none⟩ = some (.slice (some ⟨gw, offw, none⟩) (n + 1) cw) := by rw [← Hn.out]; exact H.out.head.cell 2
      go_upto_region 22 with fail
      go_cut [7] from 175 to 182 (fun v6 wx => OwnsAt wx w0.heap.size 46 6 v6 (n - jn) ((fs.drop (jn + 1)).flatMap FR.c) ∧ Keep [] wF wx ∧ ∀ x, v6.ownBlock = some x → wF.heap.size ≤ x)
      case first =>
        have hsz0 := H.out.out.size
        by_cases hc : cw = jn + 1
        · have hnk : n = jn := by omega
          have Hdrop : Hid (fs.drop (jn + 1) = []) := Lib.hid (List.drop_of_length_le (by have := Hn.out; omega))
          have hsrc : ∀ a c, SrcOf wF (.slice a 0 c) 6 0 ([] : List Value) := fun a c => ⟨a, c, rfl, rfl, fun h => absurd rfl h⟩
          subst hc
          subst hnk
          go_wp2_with (at_builtin; refine wpList_append_off rfl _ _ rfl Try.frs36 w0.heap.size (.slice none 0 0) 0 [] rfl (OwnsAt.nil _ _ _ _) _ 0 _ rfl (hsrc _ _) (by simp) (by unfold maxLen; omega) (by omega) hsz0 ?_)
          intro v6 w6 h6 k6 hb6
          go_wp2
          go_meet
          case rel => exact ⟨by rw [Hdrop.out, Nat.sub_self]; simpa using h6, k6, fun y hy => by
            rcases hb6 with h | h
            · rw [h] at hy; cases hy
            · rw [h] at hy; cases hy; exact Nat.le_refl _⟩
        · have hsrc := src_of2 Hrows.out (show jn + 1 ≤ n + 1 by omega) (cw - (jn + 1))
          rw [flat_drop FR.c_len, show n + 1 - (jn + 1) = n - jn by omega] at hsrc
          have Hsrc := Lib.hid hsrc
          clear hsrc
          go_wp2_with (at_builtin; refine wpList_append_off rfl _ _ rfl Try.frs36 w0.heap.size (.slice none 0 0) 0 [] rfl (OwnsAt.nil _ _ _ _) _ (n - jn) _ rfl Hsrc.out (fr_one H.out.out (fun t ht => H.out.frs t (List.mem_of_mem_drop ht))) (by unfold maxLen; omega) (by omega) hsz0 ?_)
          intro v6 w6 h6 k6 hb6
          go_wp2
          go_meet
          case rel => exact ⟨by simpa using h6, k6, fun y hy => by
            rcases hb6 with h | h
            · rw [h] at hy; cases hy
            · rw [h] at hy; cases hy; exact Nat.le_refl _⟩
      case rest =>
        obtain ⟨h6, k6, hb6⟩ := hcut
        generalize wc = wr at *
        have hpre := (Hrows.out.keep k6 (by simp)).cutAt (show jn ≤ n + 1 by omega)
        rw [flat_take FR.c_len] at hpre
        have Hc := Lib.hid (H.out.keep0 k6)
        have Hpre := Lib.hid hpre
        have H6 := Lib.hid h6
        have K6 := Lib.hid k6
        have Hb6 := Lib.hid hb6
        have xw2 : wr.cell? ⟨g, 2, none⟩ = some (.slice (some ⟨gw, offw, none⟩) (n + 1) cw) := by rw [← Hn.out]; exact Hc.out.head.cell 2
        have hszc := Hc.out.out.size
        obtain ⟨a6, c6, rfl⟩ := h6.shape
        clear h6 k6 hpre xw hb6
        go_wp2_with (at_builtin; refine wpList_append_off rfl _ _ rfl Try.frs36 w0.heap.size (.slice none 0 0) 0 [] rfl (OwnsAt.nil _ _ _ _) _ jn _ rfl (src_own2 Hpre.out) (fr_one Hc.out.out (fun t ht => Hc.out.frs t (List.mem_of_mem_take ht))) (by unfold maxLen; omega) (by omega) hszc ?_)
        intro v5 w5 h5 k5 hb5
        have h5 : OwnsAt w5 w0.heap.size 46 6 v5 jn ((fs.take jn).flatMap FR.c) := by simpa using h5
        have k5' : Keep [] wr w5 := k5
        have H6' := Lib.hid (H6.out.keep k5' (by simp))
        have hb5' : ∀ y, v5.ownBlock = some y → wr.heap.size ≤ y := fun y hy => by
          rcases hb5 with h | h
          · rw [h] at hy; cases hy
          · rw [h] at hy; cases hy; exact Nat.le_refl _
        have hsz5 : w0.heap.size ≤ w5.heap.size := Nat.le_trans hszc k5'.size
        have H5 := Lib.hid h5
        have K5 := Lib.hid k5'
        have Hb5 := Lib.hid hb5'
        have H55 := Lib.hid (Hc.out.keep0 k5')
        obtain ⟨a5, c5, rfl⟩ := h5.shape
        clear h5 k5 k5' hb5 hb5' H6 Hpre
        go_wp2_with (at_builtin; refine wpList_append_off rfl _ _ rfl Try.frs36 w0.heap.size (.slice a5 jn c5) jn _ rfl H5.out _ (n - jn) _ rfl (src_own2 H6'.out) (fr_one H55.out.out (fun t ht => H55.out.frs t (List.mem_of_mem_drop ht))) (by unfold maxLen; omega) (by omega) hsz5 ?_)
        intro v7 w7 h7 k7 hb7
        have hb7' : ∀ y ∈ ownBlocks v7, wr.heap.size ≤ y := fun y hy => by
          have hy := mem_own.1 hy
          rcases hb7 with h | h
          · rw [h] at hy; exact Hb5.out y hy
          · rw [h] at hy; cases hy; exact K5.out.size
        have hflat : (fs.take jn).flatMap FR.c ++ (fs.drop (jn + 1)).flatMap FR.c = (fs.eraseIdx jn).flatMap FR.c := by
          rw [← List.flatMap_append, List.eraseIdx_eq_take_drop_succ]
        have hel : (fs.eraseIdx jn).length = n := by rw [List.length_eraseIdx_of_lt (by have := Hn.out; omega)]; have := Hn.out; omega
        rw [hflat] at h7
        have h7 : OwnsAt w7 w0.heap.size 46 6 v7 n ((fs.eraseIdx jn).flatMap FR.c) := by
          first
            | exact h7
            | (rw [show jn + (n - jn) = n by omega] at h7; exact h7)
        have k7A : Keep [] wr w7 := K5.out.trans k7 (fun y hy => Or.inr (Hb5.out y (mem_own.1 hy)))
        have hrow := Hc.out.ways (v' := v7) (fs' := fs.eraseIdx jn) ((Keep.refl _ _).trans k7A (by simp)) (by rw [hel]; exact h7) (Or.inr hb7') (fun s hs => Hc.out.frs s (List.mem_of_mem_eraseIdx hs))
        have hg7 := Hc.out.head.keep k7A (by simp)
        have xf : w7.frozen? ⟨g, 2, none⟩ = false := hg7.frozen 2
        have xw3 : w7.cell? ⟨g, 2, none⟩ = some (.slice (some ⟨gw, offw, none⟩) (n + 1) cw) := by rw [← Hn.out]; exact hg7.cell 2
        have HR := Lib.hid hrow
        have K7 := Lib.hid (K6.out.trans k7A (by simp))
        obtain ⟨a7, c7, rfl⟩ := h7.shape
        clear h7 k7 hb7 hb7' hflat hel hrow hg7 k7A K6 K5 H5 H6' Hb5 Hb6 Hc H55
        have hg7 := H.out.head.keep K7.out (by simp)
        have b7 := HF.out.1.keep K7.out (by simp)
        have hne8 : gF ≠ g := fun e => Blk.ne_ b7 hg7 (by decide) e
        have b8 := b7.far (p := ⟨g, 2, none⟩) hne8 (.slice a7 n c7)
        have hby8 := ((HF.out.2.1.kx (KX.of0 K7.out)).blk hg7 (by decide) ((Keep.refl [g] w7).setCell (p := ⟨g, 2, none⟩) (by simp) (.slice a7 n c7))).sub (Y := ownBlocks (.slice a7 n c7) ++ ([gF] ++ XX)) (fun x hx => by simp [hx])
        have H8 := Lib.hid (And.intro b8 hby8)
        clear hg7 b7 b8 hby8 hne8
        go_upto_region 24 with fail
        clear xw3 xf
        generalize w7.setCell ⟨g, 2, none⟩ (.slice a7 n c7) = w8 at *
        have y0 : w8.cell? ⟨gF, 0, none⟩ = some (.int .i64 f0) := H8.out.1.cell 0
        have y1 : w8.cell? ⟨gF, 1, none⟩ = some (.int .i64 f1) := H8.out.1.cell 1
        have y2 : w8.cell? ⟨gF, 2, none⟩ = some (.int .i64 f2) := H8.out.1.cell 2
        have y3 : w8.cell? ⟨gF, 3, none⟩ = some (.int .i64 f3) := H8.out.1.cell 3
        have y4 : w8.cell? ⟨gF, 4, none⟩ = some (.int .i64 f4) := H8.out.1.cell 4
        have y5 : w8.cell? ⟨gF, 5, none⟩ = some (.slice ab fbs.length cb) := H8.out.1.cell 5
        have hse : s = ⟨f0, f1, f2, f3, f4, fbs, .slice ab fbs.length cb⟩ := by
          have h9 := HsA.out
          rw [← Hjn.out, Hs.out] at h9
          injection h9 with h9
          exact h9.symm
        have hsp := HA.out
        subst hse
        have hs9 := Lib.hid (pin_spec1 HR.out H8.out.2 hsp.1 hsp.2.1 hsp.2.2.1 hsp.2.2.2.1 hsp.2.2.2.2.1 hsp.2.2.2.2.2.1 hsp.2.2.2.2.2.2.1 hsp.2.2.2.2.2.2.2)
        have HsB := Lib.hid HsA.out
        clear hsp HA H8 HR HsA
        go_wp2_with fail
        refine hs9.out.mono ?_
        rintro e w9 ⟨rfl, bv, X9, u9, os, hos, hP⟩
        have Hos := Lib.hid hos
        have HP := Lib.hid hP
        clear hos hP hs9 y0 y1 y2 y3 y4 y5
        go_wp2_with fail
        go_ret
        unfold turn_in1_post
        exact ⟨rfl, _, bv, _, _, _, os, HsB.out, Hos.out, by rw [← Hjn.out]; exact HP.out⟩

def turn_dup_post (w0 : World) (g pa pb : Nat) (a b : LK) (fs : List FR) (now k : Int) (o : Nat → List BV) (bs : List UInt8) (v : Value) (e : Ending) (w' : World) : Prop := e = .returned (.bool true) ∧ ∃ s X' vw' u', fs[kIn k fs.length]? = some s ∧ PairIn X' w0 w' g pa pb vw' u' a b (fs ++ [s]) now o
set_option maxHeartbeats 16000000 in
set_option maxRecDepth 100000 in
theorem turn_dup {X : List Nat} {w0 w : World} {g pa pb : Nat} {vw : Value} {u : Nat → Value} {a b : LK} {fs : List FR} {now : Int} {o : Nat → List BV} {way k : Int} {bs : List UInt8} {v : Value}
    (h : PairIn X w0 w g pa pb vw u a b fs now o) (hv : ByAt X w0 w ⟨bs, v⟩) (hk : -9223372036854775808 ≤ k ∧ k ≤ 9223372036854775807) (hfl : fs.length ≤ 100000) (hway : way ≠ 0 ∧ way ≠ 1 ∧ way ≠ 2 ∧ way ≠ 3 ∧ way ≠ 4 ∧ way ≠ 5) (hne : 0 < fs.length) :
    Calls Try.prog 15 #[.pointer (some ⟨g, 0, none⟩), .agg #[.int .i64 way, .int .i64 k, v]] w (turn_dup_post w0 g pa pb a b fs now k o bs v) := by
  obtain ⟨av, cv, rfl⟩ : ∃ av cv, v = .slice av bs.length cv := (hv.of h.out).shape
  obtain ⟨aw, cw, rfl⟩ := h.way.shape
  have kA : Keep [] w (w.alloc (.cells #[.int .i64 way, .int .i64 k, .slice av bs.length cv] 54)) := (Keep.refl _ _).alloc _
  have bA : Blk (w.alloc (.cells #[.int .i64 way, .int .i64 k, .slice av bs.length cv] 54)) w.heap.size 54 [.int .i64 way, .int .i64 k, .slice av bs.length cv] := Blk.new' _ _ _ _ rfl
  have h2 := h.more (Y := [w.heap.size]) kA (by simp)
  have hv2 := (hv.kx (KX.of0 (X := X) kA)).sub (Y := [w.heap.size] ++ X) (fun x hx => List.mem_append_right _ hx)
  have H2 := Lib.hid (And.intro h2 (And.intro hv2 bA))
  have hflI : (fs.length : Int) ≤ 100000 := by omega
  have Hfl := Lib.hid hfl
  have hkk := kNum_ok hk
  have hgt : w.heap.size ∈ [w.heap.size] ++ X := by simp
  generalize hXX : [w.heap.size] ++ X = XX at *
  have t0 : (way == 0) = false := by simp only [beq_eq_false_iff_ne, ne_eq]; omega
  have t1 : (way == 1) = false := by simp only [beq_eq_false_iff_ne, ne_eq]; omega
  have t2 : (way == 2) = false := by simp only [beq_eq_false_iff_ne, ne_eq]; omega
  have t3 : (way == 3) = false := by simp only [beq_eq_false_iff_ne, ne_eq]; omega
  have t4 : (way == 4) = false := by simp only [beq_eq_false_iff_ne, ne_eq]; omega
  have t5 : (way == 5) = false := by simp only [beq_eq_false_iff_ne, ne_eq]; omega
  have Hne := Lib.hid hne
  clear hne
  clear h h2 hv hv2 bA kA hXX hfl hway
  go_enter Try.func15, Try.ntmps15
  go_upto_region 1 with fail
  generalize hwA : w.alloc (.cells #[.int .i64 way, .int .i64 k, .slice av bs.length cv] 54) = wA at *
  generalize hgA : w.heap.size = gA at *
  clear hwA hgA
  have x1 : wA.cell? ⟨gA, 1, none⟩ = some (.int .i64 k) := H2.out.2.2.cell 1
  go_upto_if 12 with fail
  clear x1
  go_cut [5] from 13 to 15 (fun v5 wx => v5 = .int .i64 (kNum k) ∧ wx = wA)
  case first =>
    by_cases hneg : k < 0
    · have e1 : IntKind.i64.wrap (k + 1) = k + 1 := IntWalk.i64_in _ (by omega)
      have e2 : IntKind.i64.wrap (-(k + 1)) = -(k + 1) := IntWalk.i64_in _ (by omega)
      have e3 : kNum k = -(k + 1) := by unfold kNum; rw [if_pos hneg]
      clear hkk
      go_wp2
      go_meet
      case rel => exact ⟨by rw [e3], rfl⟩
    · have e3 : kNum k = k := by unfold kNum; rw [if_neg hneg]
      clear hkk
      go_wp2
      go_meet
      case rel => exact ⟨by rw [e3], rfl⟩
  case rest =>
    obtain ⟨rfl, rfl⟩ := hcut
    clear hk
    have xw : wc.cell? ⟨g, 2, none⟩ = some (.slice aw fs.length cw) := H2.out.1.head.cell 2
    go_upto_if 21 with fail
    go_cut [5] from 21 to 28 (fun v5 wx => (∃ j : Int, v5 = .int .i64 j ∧ (0 < fs.length → j = (kIn k fs.length : Nat))) ∧ wx = wc)
    case first =>
      have hkin := Lib.hid (show kIn k fs.length = (kNum k).toNat % fs.length from rfl)
      generalize kNum k = kk at *
      obtain ⟨kn, rfl⟩ := Int.eq_ofNat_of_zero_le hkk.1
      have hm : (kn : Int).tmod (fs.length : Int) = ((kn % fs.length : Nat) : Int) := by rw [Int.tmod_eq_emod_of_nonneg (by omega)]; rfl
      obtain ⟨r, hr⟩ : ∃ r, r = kn % fs.length := ⟨_, rfl⟩
      rw [← hr] at hm
      have Hr : Hid ((kn : Int) % (fs.length : Int) = (r : Int)) := Lib.hid (by rw [hr]; rfl)
      have hkin2 : Hid (kIn k fs.length = r) := Lib.hid (by rw [hkin.out, hr]; simp)
      by_cases hlen : 0 < fs.length
      · have hlenI : (0 : Int) < (fs.length : Int) := by omega
        have hne : ((fs.length : Int) == 0) = false := by simp only [beq_eq_false_iff_ne, ne_eq]; omega
        have hmod : r < fs.length := by rw [hr]; exact Nat.mod_lt kn hlen
        have hmw : IntKind.i64.wrap ((kn : Int).tmod (fs.length : Int)) = (r : Int) := by rw [hm]; exact IntWalk.i64_in _ (by omega)
        clear hm hmod hr
        go_wp2
        go_meet
        case rel => exact ⟨⟨_, rfl, fun _ => by rw [hkin2.out]; first | exact Hr.out | rfl⟩, rfl⟩
      · have hlenI : ¬ (0 : Int) < (fs.length : Int) := by omega
        clear hm hr
        go_wp2
        all_goals (go_meet; case rel => exact ⟨⟨_, rfl, fun h => absurd h hlen⟩, rfl⟩)
    case rest =>
      rename_i wp hcut1
      obtain ⟨⟨j, rfl, hj⟩, rfl⟩ := hcut
      clear hkk xw
      have Hj := Lib.hid hj
      clear hj
      have x0 : wc.cell? ⟨gA, 0, none⟩ = some (.int .i64 way) := H2.out.2.2.cell 0
      have hne := Hne.out
      obtain ⟨jn, hjn⟩ : ∃ jn, jn = kIn k fs.length := ⟨_, rfl⟩
      obtain rfl : j = (jn : Int) := by rw [hjn]; exact Hj.out hne
      have hjlt : jn < fs.length := by rw [hjn]; exact Nat.mod_lt _ hne
      have Hjn := Lib.hid hjn
      obtain ⟨n, hn⟩ : ∃ n, fs.length = n + 1 := ⟨fs.length - 1, by omega⟩
      obtain ⟨gw, offw, cw', hvw, hcap, hmx, _, hgw, _⟩ := H2.out.1.way.form hne
      injection hvw with e1 _ e3
      subst e1 e3
      generalize wc = wq at *
      have xw : wq.cell? ⟨g, 2, none⟩ = some (.slice (some ⟨gw, offw, none⟩) (n + 1) cw) := by rw [← hn]; exact H2.out.1.head.cell 2
      have Hrows : Hid (OwnsAt wq w0.heap.size 46 6 (.slice (some ⟨gw, offw, none⟩) (n + 1) cw) (n + 1) (fs.flatMap FR.c)) := Lib.hid (by rw [← hn]; exact H2.out.1.way)
      have Hn := Lib.hid hn
      have hjn2 : jn ≤ n := by omega
      have hkn2 : (jn : Int) < (n : Int) + 1 := by omega
      have hn2 : (n : Int) ≤ 100000 := by omega
      have hl0 : ((n : Int) + 1 == 0) = false := by simp only [beq_eq_false_iff_ne, ne_eq]; omega
      have hwr : IntKind.i64.wrap ((jn : Int) + 1) = ((jn + 1 : Nat) : Int) := by rw [IntWalk.i64_in _ (by omega)]; rfl
      have hcap : n + 1 ≤ cw := by omega
      have hknc : jn + 1 ≤ cw := by omega
      have hlg : ¬ ((n : Int) + 1 ≤ (jn : Int)) := by omega
      have hmx2 : cw ≤ 9223372036854775807 := by unfold maxLen at hmx; omega
      have Hmx := Lib.hid hmx2
      clear hmx hmx2 hjlt hjn hn hflI hgw Hj hne
      obtain ⟨s, hs⟩ : ∃ s, fs[jn]? = some s := ⟨_, List.getElem?_eq_getElem (by have := Hn.out; omega)⟩
      obtain ⟨gx, offx, hgx, _, hgx2, hcells, _, _⟩ := Hrows.out.rowAt FR.c_len hs (by omega)
      injection hgx with hgx
      injection hgx with hgx1 hgx3
      subst hgx1 hgx3
      have hfs := H2.out.1.frs s (List.mem_of_getElem? hs)
      have Hs := Lib.hid hs
      obtain ⟨f0, f1, f2, f3, f4, fbs, fbv⟩ := s
      obtain ⟨ab, cb, hfbv⟩ : ∃ ab cb, fbv = .slice ab fbs.length cb := (hfs.of H2.out.1.out).shape
      subst hfbv
      have e0 : wq.cell? ⟨gw, offw + jn * 6, none⟩ = some (.int .i64 f0) := hcells 0 _ (by omega) rfl
      have e1 : wq.cell? ⟨gw, offw + jn * 6 + 1, none⟩ = some (.int .i64 f1) := hcells 1 _ (by omega) rfl
      have e2 : wq.cell? ⟨gw, offw + jn * 6 + 2, none⟩ = some (.int .i64 f2) := hcells 2 _ (by omega) rfl
      have e3 : wq.cell? ⟨gw, offw + jn * 6 + 3, none⟩ = some (.int .i64 f3) := hcells 3 _ (by omega) rfl
      have e4 : wq.cell? ⟨gw, offw + jn * 6 + 4, none⟩ = some (.int .i64 f4) := hcells 4 _ (by omega) rfl
      have e5 : wq.cell? ⟨gw, offw + jn * 6 + 5, none⟩ = some (.slice ab fbs.length cb) := hcells 5 _ (by omega) rfl
      have Hfs := Lib.hid hfs
      clear hcells hs hfs hgx2
      have hgwlt := World.block_lt_of_cell? _ _ e0
      have hslt := World.block_lt_of_cell? _ _ xw
      have H := Lib.hid H2.out.1
      clear H2
      go_upto_region 6 with fail
      clear x0
      refine wp_region_split 16 (fun w' => w'.cell? ⟨g, 2, none⟩ = some (.slice (some ⟨gw, offw, none⟩) (n + 1) cw) ∧ w'.cell? ⟨gw, offw + jn * 6, none⟩ = some (.int .i64 f0) ∧ w'.cell? ⟨gw, offw + jn * 6 + 1, none⟩ = some (.int .i64 f1) ∧ w'.cell? ⟨gw, offw + jn * 6 + 2, none⟩ = some (.int .i64 f2) ∧ w'.cell? ⟨gw, offw + jn * 6 + 3, none⟩ = some (.int .i64 f3) ∧ w'.cell? ⟨gw, offw + jn * 6 + 4, none⟩ = some (.int .i64 f4) ∧ w'.cell? ⟨gw, offw + jn * 6 + 5, none⟩ = some (.slice ab fbs.length cb)) (by kernel_rfl) rfl (by kernel_rfl) ⟨xw, e0, e1, e2, e3, e4, e5⟩ ?_
      intro hHeld
      simp only [List.take_succ_cons, List.take_zero]
      refine wpAnyH_take (i := 0) (v := ?_) rfl (by kernel_rfl) (by kernel_rfl) (by kernel_rfl) (fun _ _ _ h => h) (Or.inl ⟨by rfl, by (intro w hSw; (try dsimp only at hSw); go_simp) <;> with_reducible rfl⟩) (by assumption) ?_
      (try simp only [List.getElem_toArray, List.getElem_cons_succ, List.getElem_cons_zero, Act.put, List.setIfInBounds_toArray, List.set_cons_zero, List.set_cons_succ])
      refine wpAnyH_take (i := 1) (v := ?_) rfl (by kernel_rfl) (by kernel_rfl) (by kernel_rfl) (fun _ _ _ h => h) (Or.inl ⟨by rfl, by (intro w hSw; (try dsimp only at hSw); go_simp) <;> with_reducible rfl⟩) (by assumption) ?_
      (try simp only [List.getElem_toArray, List.getElem_cons_succ, List.getElem_cons_zero, Act.put, List.setIfInBounds_toArray, List.set_cons_zero, List.set_cons_succ])
      refine wpAnyH_take (i := 2) (v := ?_) rfl (by kernel_rfl) (by kernel_rfl) (by kernel_rfl) (fun _ _ _ h => h) (Or.inl ⟨by rfl, by (intro w hSw; (try dsimp only at hSw); go_simp) <;> with_reducible rfl⟩) (by assumption) ?_
      (try simp only [List.getElem_toArray, List.getElem_cons_succ, List.getElem_cons_zero, Act.put, List.setIfInBounds_toArray, List.set_cons_zero, List.set_cons_succ])
      refine wpAnyH_take (i := 3) (v := ?_) rfl (by kernel_rfl) (by kernel_rfl) (by kernel_rfl) (fun _ _ _ h => h) (Or.inl ⟨by rfl, by (intro w hSw; (try dsimp only at hSw); go_simp) <;> with_reducible rfl⟩) (by assumption) ?_
      (try simp only [List.getElem_toArray, List.getElem_cons_succ, List.getElem_cons_zero, Act.put, List.setIfInBounds_toArray, List.set_cons_zero, List.set_cons_succ])
      refine wpAnyH_take (i := 4) (v := ?_) rfl (by kernel_rfl) (by kernel_rfl) (by kernel_rfl) (fun _ _ _ h => h) (Or.inl ⟨by rfl, by (intro w hSw; (try dsimp only at hSw); go_simp) <;> with_reducible rfl⟩) (by assumption) ?_
      (try simp only [List.getElem_toArray, List.getElem_cons_succ, List.getElem_cons_zero, Act.put, List.setIfInBounds_toArray, List.set_cons_zero, List.set_cons_succ])
      refine wpAnyH_take (i := 5) (v := ?_) rfl (by kernel_rfl) (by kernel_rfl) (by kernel_rfl) (fun _ _ _ h => h) (Or.inl ⟨by rfl, by (intro w hSw; (try dsimp only at hSw); go_simp) <;> with_reducible rfl⟩) (by assumption) ?_
      (try simp only [List.getElem_toArray, List.getElem_cons_succ, List.getElem_cons_zero, Act.put, List.setIfInBounds_toArray, List.set_cons_zero, List.set_cons_succ])
      refine wpAnyH_take (i := 6) (v := ?_) rfl (by kernel_rfl) (by kernel_rfl) (by kernel_rfl) (fun _ _ _ h => h) (Or.inl ⟨by rfl, by (intro w hSw; (try dsimp only at hSw); go_simp) <;> with_reducible rfl⟩) (by assumption) ?_
      (try simp only [List.getElem_toArray, List.getElem_cons_succ, List.getElem_cons_zero, Act.put, List.setIfInBounds_toArray, List.set_cons_zero, List.set_cons_succ])
      refine wpAnyH_take (i := 7) (v := ?_) rfl (by kernel_rfl) (by kernel_rfl) (by kernel_rfl) (fun _ _ _ h => h) (Or.inl ⟨by rfl, by (intro w hSw; (try dsimp only at hSw); go_simp) <;> with_reducible rfl⟩) (by assumption) ?_
      (try simp only [List.getElem_toArray, List.getElem_cons_succ, List.getElem_cons_zero, Act.put, List.setIfInBounds_toArray, List.set_cons_zero, List.set_cons_succ])
      refine wpAnyH_take (i := 8) (v := ?_) rfl (by kernel_rfl) (by kernel_rfl) (by kernel_rfl) (fun _ _ _ h => h) (Or.inl ⟨by rfl, by (intro w hSw; (try dsimp only at hSw); go_simp) <;> with_reducible rfl⟩) (by assumption) ?_
      (try simp only [List.getElem_toArray, List.getElem_cons_succ, List.getElem_cons_zero, Act.put, List.setIfInBounds_toArray, List.set_cons_zero, List.set_cons_succ])
      refine wpAnyH_take (i := 9) (v := ?_) rfl (by kernel_rfl) (by kernel_rfl) (by kernel_rfl) (fun _ _ _ h => h) (Or.inl ⟨by rfl, by (intro w hSw; (try dsimp only at hSw); go_simp) <;> with_reducible rfl⟩) (by assumption) ?_
      (try simp only [List.getElem_toArray, List.getElem_cons_succ, List.getElem_cons_zero, Act.put, List.setIfInBounds_toArray, List.set_cons_zero, List.set_cons_succ])
      refine wpAnyH_take (i := 10) (v := ?_) rfl (by kernel_rfl) (by kernel_rfl) (by kernel_rfl) (fun _ _ _ h => h) (Or.inl ⟨by rfl, by (intro w hSw; (try dsimp only at hSw); go_simp) <;> with_reducible rfl⟩) (by assumption) ?_
      (try simp only [List.getElem_toArray, List.getElem_cons_succ, List.getElem_cons_zero, Act.put, List.setIfInBounds_toArray, List.set_cons_zero, List.set_cons_succ])
      refine wpAnyH_take (i := 11) (v := ?_) rfl (by kernel_rfl) (by kernel_rfl) (by kernel_rfl) (fun _ _ _ h => h) (Or.inl ⟨by rfl, by (intro w hSw; (try dsimp only at hSw); go_simp) <;> with_reducible rfl⟩) (by assumption) ?_
      (try simp only [List.getElem_toArray, List.getElem_cons_succ, List.getElem_cons_zero, Act.put, List.setIfInBounds_toArray, List.set_cons_zero, List.set_cons_succ])
      refine wpAnyH_ready (rs := [12]) (by kernel_rfl) (by simp) ?_
      refine AllReadyH.cons rfl (fun K hK => ?_) AllReadyH.nil
      go_simp
      have k1 : Keep [] wq (wq.drew.alloc (.cells #[.int .i64 f0, .int .i64 f1, .int .i64 f2, .int .i64 f3, .int .i64 f4, .slice ab fbs.length cb] 46)) := (Keep.refl [] wq).drew.alloc _
      have h7 := H.out.keep0 k1
      have hS1 : (wq.drew.alloc (.cells #[.int .i64 f0, .int .i64 f1, .int .i64 f2, .int .i64 f3, .int .i64 f4, .slice ab fbs.length cb] 46)).cell? ⟨g, 2, none⟩ = some (.slice (some ⟨gw, offw, none⟩) (n + 1) cw) ∧ (wq.drew.alloc (.cells #[.int .i64 f0, .int .i64 f1, .int .i64 f2, .int .i64 f3, .int .i64 f4, .slice ab fbs.length cb] 46)).cell? ⟨gw, offw + jn * 6, none⟩ = some (.int .i64 f0) ∧ (wq.drew.alloc (.cells #[.int .i64 f0, .int .i64 f1, .int .i64 f2, .int .i64 f3, .int .i64 f4, .slice ab fbs.length cb] 46)).cell? ⟨gw, offw + jn * 6 + 1, none⟩ = some (.int .i64 f1) ∧ (wq.drew.alloc (.cells #[.int .i64 f0, .int .i64 f1, .int .i64 f2, .int .i64 f3, .int .i64 f4, .slice ab fbs.length cb] 46)).cell? ⟨gw, offw + jn * 6 + 2, none⟩ = some (.int .i64 f2) ∧ (wq.drew.alloc (.cells #[.int .i64 f0, .int .i64 f1, .int .i64 f2, .int .i64 f3, .int .i64 f4, .slice ab fbs.length cb] 46)).cell? ⟨gw, offw + jn * 6 + 3, none⟩ = some (.int .i64 f3) ∧ (wq.drew.alloc (.cells #[.int .i64 f0, .int .i64 f1, .int .i64 f2, .int .i64 f3, .int .i64 f4, .slice ab fbs.length cb] 46)).cell? ⟨gw, offw + jn * 6 + 4, none⟩ = some (.int .i64 f4) ∧ (wq.drew.alloc (.cells #[.int .i64 f0, .int .i64 f1, .int .i64 f2, .int .i64 f3, .int .i64 f4, .slice ab fbs.length cb] 46)).cell? ⟨gw, offw + jn * 6 + 5, none⟩ = some (.slice ab fbs.length cb) :=
        ⟨(k1.cell (p := ⟨g, 2, none⟩) hslt (by simp)).trans xw, (k1.cell (p := ⟨gw, offw + jn * 6, none⟩) hgwlt (by simp)).trans e0, (k1.cell (p := ⟨gw, offw + jn * 6 + 1, none⟩) hgwlt (by simp)).trans e1, (k1.cell (p := ⟨gw, offw + jn * 6 + 2, none⟩) hgwlt (by simp)).trans e2, (k1.cell (p := ⟨gw, offw + jn * 6 + 3, none⟩) hgwlt (by simp)).trans e3, (k1.cell (p := ⟨gw, offw + jn * 6 + 4, none⟩) hgwlt (by simp)).trans e4, (k1.cell (p := ⟨gw, offw + jn * 6 + 5, none⟩) hgwlt (by simp)).trans e5⟩
      refine hK.out _ _ hS1 (fun hHeld => ?_)
      clear hK K
      (try simp only [List.getElem_toArray, List.getElem_cons_succ, List.getElem_cons_zero, Act.put, List.setIfInBounds_toArray, List.set_cons_zero, List.set_cons_succ])
      refine wpAnyH_ready (rs := [13]) (by kernel_rfl) (by simp) ?_
      refine AllReadyH.cons (o := { dst := some 42, op := .call { callee := .builtin .append, args := #[.tmp 33, .tmp 41], argTypes := #[36, 36] }, type := 36, pos := "law.go:179", after := #[{ on := 4, ground := .data }, { on := 12, ground := .data }], guard := none }) rfl (fun K hK => ?_) AllReadyH.nil
      refine step_append_old rfl (.tmp 33) (.tmp 41) rfl Try.frs36 w0.heap.size gw offw cw (n + 1) (fs.flatMap FR.c) (by simp [Act.eval]) (Hrows.out.keep k1 (by simp)) (.slice (some ⟨wq.drew.heap.size, 0, none⟩) 1 1) 1 [.int .i64 f0, .int .i64 f1, .int .i64 f2, .int .i64 f3, .int .i64 f4, .slice ab fbs.length cb] (by simp [Act.eval]) (src_row 6 rfl _ rfl) (by simp [Value.oneCell']) (by unfold maxLen; omega) (by omega) h7.out.size ?_
      intro v' w4 hown4 hk4 hat4 hold4
      have hol : ∀ (j : Nat) (u : Value), j < 6 → (FR.c ⟨f0, f1, f2, f3, f4, fbs, .slice ab fbs.length cb⟩)[j]? = some u → w4.cell? ⟨gw, offw + jn * 6 + j, none⟩ = some u := fun j u hj hu => by
        rw [Nat.add_assoc]
        exact hold4 _ u ((flat_at FR.c_len fs jn _ j Hs.out hj).trans hu)
      have hk4' : Keep (ownBlocks (.slice (some ⟨gw, offw, none⟩) fs.length cw)) wq w4 := ((Keep.refl _ _).trans k1 (by simp)).trans hk4 (fun x hx => Or.inl hx)
      have hrow := H.out.ways (v' := v') (fs' := fs ++ [⟨f0, f1, f2, f3, f4, fbs, .slice ab fbs.length cb⟩]) hk4' (by rw [List.length_append, List.flatMap_append, Hn.out]; exact hown4) (by
        rcases hat4 with h | h
        · exact Or.inl h
        · exact Or.inr (fun x hx => by have := mem_own.1 hx; rw [h] at this; injection this with this; rw [← this]; simp)) (fun s hs => by
        rcases List.mem_append.1 hs with hs | hs
        · exact H.out.frs s hs
        · obtain rfl : s = ⟨f0, f1, f2, f3, f4, fbs, .slice ab fbs.length cb⟩ := by simpa using hs
          exact Hfs.out)
      have hg4 := H.out.head.keep hk4' (fun hx => OwnsAt.ne_blk H.out.way H.out.head (by decide) (mem_own.1 hx))
      have xw4 : w4.cell? ⟨g, 2, none⟩ = some (.slice (some ⟨gw, offw, none⟩) (n + 1) cw) := by rw [← Hn.out]; exact hg4.cell 2
      have yf : w4.frozen? ⟨g, 2, none⟩ = false := hg4.frozen 2
      obtain ⟨a7, c7, rfl⟩ := hown4.shape
      refine hK.out _ _ ⟨xw4, hol 0 _ (by omega) rfl, hol 1 _ (by omega) rfl, hol 2 _ (by omega) rfl, hol 3 _ (by omega) rfl, hol 4 _ (by omega) rfl, hol 5 _ (by omega) rfl⟩ (fun hHeld => ?_)
      clear hK K
      (try simp only [List.getElem_toArray, List.getElem_cons_succ, List.getElem_cons_zero, Act.put, List.setIfInBounds_toArray, List.set_cons_zero, List.set_cons_succ])
      refine wpAnyH_take (i := 14) (v := ?_) rfl (by kernel_rfl) (by kernel_rfl) (by kernel_rfl) (fun _ _ _ h => h) (Or.inl ⟨by rfl, by (intro w hSw; (try dsimp only at hSw); go_simp) <;> with_reducible rfl⟩) (by assumption) ?_
      (try simp only [List.getElem_toArray, List.getElem_cons_succ, List.getElem_cons_zero, Act.put, List.setIfInBounds_toArray, List.set_cons_zero, List.set_cons_succ])
      refine wpAnyH_take (i := 15) (v := ?_) rfl (by kernel_rfl) (by kernel_rfl) (by kernel_rfl) (fun _ _ _ h => h) (Or.inl ⟨by rfl, by (intro w hSw; (try dsimp only at hSw); go_simp) <;> with_reducible rfl⟩) (by assumption) ?_
      (try simp only [List.getElem_toArray, List.getElem_cons_succ, List.getElem_cons_zero, Act.put, List.setIfInBounds_toArray, List.set_cons_zero, List.set_cons_succ])
      have HR := Lib.hid hrow
      clear hrow hown4 hk4 hat4 hg4 hol hold4 hk4' h7 k1 hS1 xw e0 e1 e2 e3 e4 e5
      refine wpAnyH_done (by kernel_rfl) ?_ _
      show Oper.wp _ _ _ _ _ _
      go_simp
      clear hHeld
      go_wp2_with fail
      go_ret
      unfold turn_dup_post
      exact ⟨rfl, _, _, _, _, by rw [← Hjn.out]; exact Hs.out, HR.out⟩

def turn_drop_post (w0 : World) (g pa pb : Nat) (a b : LK) (fs : List FR) (now k : Int) (o : Nat → List BV) (bs : List UInt8) (v : Value) (e : Ending) (w' : World) : Prop := e = .returned (.bool true) ∧ ∃ X' vw' u', PairIn X' w0 w' g pa pb vw' u' a b (fs.eraseIdx (kIn k fs.length)) now o
set_option maxHeartbeats 16000000 in
set_option maxRecDepth 100000 in
theorem turn_drop {X : List Nat} {w0 w : World} {g pa pb : Nat} {vw : Value} {u : Nat → Value} {a b : LK} {fs : List FR} {now : Int} {o : Nat → List BV} {way k : Int} {bs : List UInt8} {v : Value}
    (h : PairIn X w0 w g pa pb vw u a b fs now o) (hv : ByAt X w0 w ⟨bs, v⟩) (hk : -9223372036854775808 ≤ k ∧ k ≤ 9223372036854775807) (hfl : fs.length ≤ 100000) (hway : way = 5) (hne : 0 < fs.length) :
    Calls Try.prog 15 #[.pointer (some ⟨g, 0, none⟩), .agg #[.int .i64 way, .int .i64 k, v]] w (turn_drop_post w0 g pa pb a b fs now k o bs v) := by
  obtain ⟨av, cv, rfl⟩ : ∃ av cv, v = .slice av bs.length cv := (hv.of h.out).shape
  obtain ⟨aw, cw, rfl⟩ := h.way.shape
  have kA : Keep [] w (w.alloc (.cells #[.int .i64 way, .int .i64 k, .slice av bs.length cv] 54)) := (Keep.refl _ _).alloc _
  have bA : Blk (w.alloc (.cells #[.int .i64 way, .int .i64 k, .slice av bs.length cv] 54)) w.heap.size 54 [.int .i64 way, .int .i64 k, .slice av bs.length cv] := Blk.new' _ _ _ _ rfl
  have h2 := h.more (Y := [w.heap.size]) kA (by simp)
  have hv2 := (hv.kx (KX.of0 (X := X) kA)).sub (Y := [w.heap.size] ++ X) (fun x hx => List.mem_append_right _ hx)
  have H2 := Lib.hid (And.intro h2 (And.intro hv2 bA))
  have hflI : (fs.length : Int) ≤ 100000 := by omega
  have Hfl := Lib.hid hfl
  have hkk := kNum_ok hk
  have hgt : w.heap.size ∈ [w.heap.size] ++ X := by simp
  generalize hXX : [w.heap.size] ++ X = XX at *
  have t0 : (way == 0) = false := by rw [hway]; rfl
  have t1 : (way == 1) = false := by rw [hway]; rfl
  have t2 : (way == 2) = false := by rw [hway]; rfl
  have t3 : (way == 3) = false := by rw [hway]; rfl
  have t4 : (way == 4) = false := by rw [hway]; rfl
  have t5 : (way == 5) = true := by simpa using hway
  have Hne := Lib.hid hne
  clear hne
  clear h h2 hv hv2 bA kA hXX hfl hway
  go_enter Try.func15, Try.ntmps15
  go_upto_region 1 with fail
  generalize hwA : w.alloc (.cells #[.int .i64 way, .int .i64 k, .slice av bs.length cv] 54) = wA at *
  generalize hgA : w.heap.size = gA at *
  clear hwA hgA
  have x1 : wA.cell? ⟨gA, 1, none⟩ = some (.int .i64 k) := H2.out.2.2.cell 1
  go_upto_if 12 with fail
  clear x1
  go_cut [5] from 13 to 15 (fun v5 wx => v5 = .int .i64 (kNum k) ∧ wx = wA)
  case first =>
    by_cases hneg : k < 0
    · have e1 : IntKind.i64.wrap (k + 1) = k + 1 := IntWalk.i64_in _ (by omega)
      have e2 : IntKind.i64.wrap (-(k + 1)) = -(k + 1) := IntWalk.i64_in _ (by omega)
      have e3 : kNum k = -(k + 1) := by unfold kNum; rw [if_pos hneg]
      clear hkk
      go_wp2
      go_meet
      case rel => exact ⟨by rw [e3], rfl⟩
    · have e3 : kNum k = k := by unfold kNum; rw [if_neg hneg]
      clear hkk
      go_wp2
      go_meet
      case rel => exact ⟨by rw [e3], rfl⟩
  case rest =>
    obtain ⟨rfl, rfl⟩ := hcut
    clear hk
    have xw : wc.cell? ⟨g, 2, none⟩ = some (.slice aw fs.length cw) := H2.out.1.head.cell 2
    go_upto_if 21 with fail
    go_cut [5] from 21 to 28 (fun v5 wx => (∃ j : Int, v5 = .int .i64 j ∧ (0 < fs.length → j = (kIn k fs.length : Nat))) ∧ wx = wc)
    case first =>
      have hkin := Lib.hid (show kIn k fs.length = (kNum k).toNat % fs.length from rfl)
      generalize kNum k = kk at *
      obtain ⟨kn, rfl⟩ := Int.eq_ofNat_of_zero_le hkk.1
      have hm : (kn : Int).tmod (fs.length : Int) = ((kn % fs.length : Nat) : Int) := by rw [Int.tmod_eq_emod_of_nonneg (by omega)]; rfl
      obtain ⟨r, hr⟩ : ∃ r, r = kn % fs.length := ⟨_, rfl⟩
      rw [← hr] at hm
      have Hr : Hid ((kn : Int) % (fs.length : Int) = (r : Int)) := Lib.hid (by rw [hr]; rfl)
      have hkin2 : Hid (kIn k fs.length = r) := Lib.hid (by rw [hkin.out, hr]; simp)
      by_cases hlen : 0 < fs.length
      · have hlenI : (0 : Int) < (fs.length : Int) := by omega
        have hne : ((fs.length : Int) == 0) = false := by simp only [beq_eq_false_iff_ne, ne_eq]; omega
        have hmod : r < fs.length := by rw [hr]; exact Nat.mod_lt kn hlen
        have hmw : IntKind.i64.wrap ((kn : Int).tmod (fs.length : Int)) = (r : Int) := by rw [hm]; exact IntWalk.i64_in _ (by omega)
        clear hm hmod hr
        go_wp2
        go_meet
        case rel => exact ⟨⟨_, rfl, fun _ => by rw [hkin2.out]; first | exact Hr.out | rfl⟩, rfl⟩
      · have hlenI : ¬ (0 : Int) < (fs.length : Int) := by omega
        clear hm hr
        go_wp2
        all_goals (go_meet; case rel => exact ⟨⟨_, rfl, fun h => absurd h hlen⟩, rfl⟩)
    case rest =>
      rename_i wp hcut1
      obtain ⟨⟨j, rfl, hj⟩, rfl⟩ := hcut
      clear hkk xw
      have Hj := Lib.hid hj
      clear hj
      have x0 : wc.cell? ⟨gA, 0, none⟩ = some (.int .i64 way) := H2.out.2.2.cell 0
      have hne := Hne.out
      obtain ⟨jn, hjn⟩ : ∃ jn, jn = kIn k fs.length := ⟨_, rfl⟩
      obtain rfl : j = (jn : Int) := by rw [hjn]; exact Hj.out hne
      have hjlt : jn < fs.length := by rw [hjn]; exact Nat.mod_lt _ hne
      have Hjn := Lib.hid hjn
      obtain ⟨n, hn⟩ : ∃ n, fs.length = n + 1 := ⟨fs.length - 1, by omega⟩
      obtain ⟨gw, offw, cw', hvw, hcap, hmx, _, hgw, _⟩ := H2.out.1.way.form hne
      injection hvw with e1 _ e3
      subst e1 e3
      generalize wc = wq at *
      have xw : wq.cell? ⟨g, 2, none⟩ = some (.slice (some ⟨gw, offw, none⟩) (n + 1) cw) := by rw [← hn]; exact H2.out.1.head.cell 2
      have Hrows : Hid (OwnsAt wq w0.heap.size 46 6 (.slice (some ⟨gw, offw, none⟩) (n + 1) cw) (n + 1) (fs.flatMap FR.c)) := Lib.hid (by rw [← hn]; exact H2.out.1.way)
      have Hn := Lib.hid hn
      have hjn2 : jn ≤ n := by omega
      have hkn2 : (jn : Int) < (n : Int) + 1 := by omega
      have hn2 : (n : Int) ≤ 100000 := by omega
      have hl0 : ((n : Int) + 1 == 0) = false := by simp only [beq_eq_false_iff_ne, ne_eq]; omega
      have hwr : IntKind.i64.wrap ((jn : Int) + 1) = ((jn + 1 : Nat) : Int) := by rw [IntWalk.i64_in _ (by omega)]; rfl
      have hcap : n + 1 ≤ cw := by omega
      have hknc : jn + 1 ≤ cw := by omega
      have hlg : ¬ ((n : Int) + 1 ≤ (jn : Int)) := by omega
      have hmx2 : cw ≤ 9223372036854775807 := by unfold maxLen at hmx; omega
      have Hmx := Lib.hid hmx2
      clear hmx hmx2 hjlt hjn hn hflI hgw Hj hne
      have H := Lib.hid H2.out.1
      clear H2
      go_upto_region 26 with fail
      go_cut [8] from 202 to 209 (fun v6 wx => OwnsAt wx w0.heap.size 46 6 v6 (n - jn) ((fs.drop (jn + 1)).flatMap FR.c) ∧ Keep [] wq wx ∧ ∀ x, v6.ownBlock = some x → wq.heap.size ≤ x)
      case first =>
        have hsz0 := H.out.out.size
        by_cases hc : cw = jn + 1
        · have hnk : n = jn := by omega
          have Hdrop : Hid (fs.drop (jn + 1) = []) := Lib.hid (List.drop_of_length_le (by have := Hn.out; omega))
          have hsrc : ∀ a c, SrcOf wq (.slice a 0 c) 6 0 ([] : List Value) := fun a c => ⟨a, c, rfl, rfl, fun h => absurd rfl h⟩
          subst hc
          subst hnk
          go_wp2_with (at_builtin; refine wpList_append_off rfl _ _ rfl Try.frs36 w0.heap.size (.slice none 0 0) 0 [] rfl (OwnsAt.nil _ _ _ _) _ 0 _ rfl (hsrc _ _) (by simp) (by unfold maxLen; omega) (by omega) hsz0 ?_)
          intro v6 w6 h6 k6 hb6
          go_wp2
          go_meet
          case rel => exact ⟨by rw [Hdrop.out, Nat.sub_self]; simpa using h6, k6, fun y hy => by
            rcases hb6 with h | h
            · rw [h] at hy; cases hy
            · rw [h] at hy; cases hy; exact Nat.le_refl _⟩
        · have hsrc := src_of2 Hrows.out (show jn + 1 ≤ n + 1 by omega) (cw - (jn + 1))
          rw [flat_drop FR.c_len, show n + 1 - (jn + 1) = n - jn by omega] at hsrc
          have Hsrc := Lib.hid hsrc
          clear hsrc
          go_wp2_with (at_builtin; refine wpList_append_off rfl _ _ rfl Try.frs36 w0.heap.size (.slice none 0 0) 0 [] rfl (OwnsAt.nil _ _ _ _) _ (n - jn) _ rfl Hsrc.out (fr_one H.out.out (fun t ht => H.out.frs t (List.mem_of_mem_drop ht))) (by unfold maxLen; omega) (by omega) hsz0 ?_)
          intro v6 w6 h6 k6 hb6
          go_wp2
          go_meet
          case rel => exact ⟨by simpa using h6, k6, fun y hy => by
            rcases hb6 with h | h
            · rw [h] at hy; cases hy
            · rw [h] at hy; cases hy; exact Nat.le_refl _⟩
      case rest =>
        obtain ⟨h6, k6, hb6⟩ := hcut
        generalize wc = wr at *
        have hpre := (Hrows.out.keep k6 (by simp)).cutAt (show jn ≤ n + 1 by omega)
        rw [flat_take FR.c_len] at hpre
        have Hc := Lib.hid (H.out.keep0 k6)
        have Hpre := Lib.hid hpre
        have H6 := Lib.hid h6
        have K6 := Lib.hid k6
        have Hb6 := Lib.hid hb6
        have xw2 : wr.cell? ⟨g, 2, none⟩ = some (.slice (some ⟨gw, offw, none⟩) (n + 1) cw) := by rw [← Hn.out]; exact Hc.out.head.cell 2
        have hszc := Hc.out.out.size
        obtain ⟨a6, c6, rfl⟩ := h6.shape
        clear h6 k6 hpre xw hb6
        go_wp2_with (at_builtin; refine wpList_append_off rfl _ _ rfl Try.frs36 w0.heap.size (.slice none 0 0) 0 [] rfl (OwnsAt.nil _ _ _ _) _ jn _ rfl (src_own2 Hpre.out) (fr_one Hc.out.out (fun t ht => Hc.out.frs t (List.mem_of_mem_take ht))) (by unfold maxLen; omega) (by omega) hszc ?_)
        intro v5 w5 h5 k5 hb5
        have h5 : OwnsAt w5 w0.heap.size 46 6 v5 jn ((fs.take jn).flatMap FR.c) := by simpa using h5
        have k5' : Keep [] wr w5 := k5
        have H6' := Lib.hid (H6.out.keep k5' (by simp))
        have hb5' : ∀ y, v5.ownBlock = some y → wr.heap.size ≤ y := fun y hy => by
          rcases hb5 with h | h
          · rw [h] at hy; cases hy
          · rw [h] at hy; cases hy; exact Nat.le_refl _
        have hsz5 : w0.heap.size ≤ w5.heap.size := Nat.le_trans hszc k5'.size
        have H5 := Lib.hid h5
        have K5 := Lib.hid k5'
        have Hb5 := Lib.hid hb5'
        have H55 := Lib.hid (Hc.out.keep0 k5')
        obtain ⟨a5, c5, rfl⟩ := h5.shape
        clear h5 k5 k5' hb5 hb5' H6 Hpre
        go_wp2_with (at_builtin; refine wpList_append_off rfl _ _ rfl Try.frs36 w0.heap.size (.slice a5 jn c5) jn _ rfl H5.out _ (n - jn) _ rfl (src_own2 H6'.out) (fr_one H55.out.out (fun t ht => H55.out.frs t (List.mem_of_mem_drop ht))) (by unfold maxLen; omega) (by omega) hsz5 ?_)
        intro v7 w7 h7 k7 hb7
        have hb7' : ∀ y ∈ ownBlocks v7, wr.heap.size ≤ y := fun y hy => by
          have hy := mem_own.1 hy
          rcases hb7 with h | h
          · rw [h] at hy; exact Hb5.out y hy
          · rw [h] at hy; cases hy; exact K5.out.size
        have hflat : (fs.take jn).flatMap FR.c ++ (fs.drop (jn + 1)).flatMap FR.c = (fs.eraseIdx jn).flatMap FR.c := by
          rw [← List.flatMap_append, List.eraseIdx_eq_take_drop_succ]
        have hel : (fs.eraseIdx jn).length = n := by rw [List.length_eraseIdx_of_lt (by have := Hn.out; omega)]; have := Hn.out; omega
        rw [hflat] at h7
        have h7 : OwnsAt w7 w0.heap.size 46 6 v7 n ((fs.eraseIdx jn).flatMap FR.c) := by
          first
            | exact h7
            | (rw [show jn + (n - jn) = n by omega] at h7; exact h7)
        have k7A : Keep [] wr w7 := K5.out.trans k7 (fun y hy => Or.inr (Hb5.out y (mem_own.1 hy)))
        have hrow := Hc.out.ways (v' := v7) (fs' := fs.eraseIdx jn) ((Keep.refl _ _).trans k7A (by simp)) (by rw [hel]; exact h7) (Or.inr hb7') (fun s hs => Hc.out.frs s (List.mem_of_mem_eraseIdx hs))
        have hg7 := Hc.out.head.keep k7A (by simp)
        have xf : w7.frozen? ⟨g, 2, none⟩ = false := hg7.frozen 2
        have xw3 : w7.cell? ⟨g, 2, none⟩ = some (.slice (some ⟨gw, offw, none⟩) (n + 1) cw) := by rw [← Hn.out]; exact hg7.cell 2
        have HR := Lib.hid hrow
        have K7 := Lib.hid (K6.out.trans k7A (by simp))
        obtain ⟨a7, c7, rfl⟩ := h7.shape
        clear h7 k7 hb7 hb7' hflat hel hrow hg7 k7A K6 K5 H5 H6' Hb5 Hb6 Hc H55
        go_wp2_with fail
        go_ret
        unfold turn_drop_post
        exact ⟨rfl, _, _, _, by rw [← Hjn.out]; exact HR.out⟩

def turn_none_post (w0 : World) (g pa pb : Nat) (a b : LK) (fs : List FR) (now k : Int) (o : Nat → List BV) (bs : List UInt8) (v : Value) (e : Ending) (w' : World) : Prop := e = .returned (.bool true) ∧ ∃ X' vw' u', PairIn X' w0 w' g pa pb vw' u' a b fs now o
set_option maxHeartbeats 16000000 in
set_option maxRecDepth 100000 in
theorem turn_none {X : List Nat} {w0 w : World} {g pa pb : Nat} {vw : Value} {u : Nat → Value} {a b : LK} {fs : List FR} {now : Int} {o : Nat → List BV} {way k : Int} {bs : List UInt8} {v : Value}
    (h : PairIn X w0 w g pa pb vw u a b fs now o) (hv : ByAt X w0 w ⟨bs, v⟩) (hk : -9223372036854775808 ≤ k ∧ k ≤ 9223372036854775807) (hfl : fs.length ≤ 100000) (hway : way ≠ 0 ∧ way ≠ 1 ∧ way ≠ 2 ∧ way ≠ 3) (hnil : fs = []) :
    Calls Try.prog 15 #[.pointer (some ⟨g, 0, none⟩), .agg #[.int .i64 way, .int .i64 k, v]] w (turn_none_post w0 g pa pb a b fs now k o bs v) := by
  obtain ⟨av, cv, rfl⟩ : ∃ av cv, v = .slice av bs.length cv := (hv.of h.out).shape
  obtain ⟨aw, cw, rfl⟩ := h.way.shape
  have kA : Keep [] w (w.alloc (.cells #[.int .i64 way, .int .i64 k, .slice av bs.length cv] 54)) := (Keep.refl _ _).alloc _
  have bA : Blk (w.alloc (.cells #[.int .i64 way, .int .i64 k, .slice av bs.length cv] 54)) w.heap.size 54 [.int .i64 way, .int .i64 k, .slice av bs.length cv] := Blk.new' _ _ _ _ rfl
  have h2 := h.more (Y := [w.heap.size]) kA (by simp)
  have hv2 := (hv.kx (KX.of0 (X := X) kA)).sub (Y := [w.heap.size] ++ X) (fun x hx => List.mem_append_right _ hx)
  have H2 := Lib.hid (And.intro h2 (And.intro hv2 bA))
  have hflI : (fs.length : Int) ≤ 100000 := by omega
  have Hfl := Lib.hid hfl
  have hkk := kNum_ok hk
  have hgt : w.heap.size ∈ [w.heap.size] ++ X := by simp
  generalize hXX : [w.heap.size] ++ X = XX at *
  have t0 : (way == 0) = false := by simp only [beq_eq_false_iff_ne, ne_eq]; omega
  have t1 : (way == 1) = false := by simp only [beq_eq_false_iff_ne, ne_eq]; omega
  have t2 : (way == 2) = false := by simp only [beq_eq_false_iff_ne, ne_eq]; omega
  have t3 : (way == 3) = false := by simp only [beq_eq_false_iff_ne, ne_eq]; omega
  have Hnil := Lib.hid hnil
  clear hnil
  clear h h2 hv hv2 bA kA hXX hfl hway
  go_enter Try.func15, Try.ntmps15
  go_upto_region 1 with fail
  generalize hwA : w.alloc (.cells #[.int .i64 way, .int .i64 k, .slice av bs.length cv] 54) = wA at *
  generalize hgA : w.heap.size = gA at *
  clear hwA hgA
  have x1 : wA.cell? ⟨gA, 1, none⟩ = some (.int .i64 k) := H2.out.2.2.cell 1
  go_upto_if 12 with fail
  clear x1
  go_cut [5] from 13 to 15 (fun v5 wx => v5 = .int .i64 (kNum k) ∧ wx = wA)
  case first =>
    by_cases hneg : k < 0
    · have e1 : IntKind.i64.wrap (k + 1) = k + 1 := IntWalk.i64_in _ (by omega)
      have e2 : IntKind.i64.wrap (-(k + 1)) = -(k + 1) := IntWalk.i64_in _ (by omega)
      have e3 : kNum k = -(k + 1) := by unfold kNum; rw [if_pos hneg]
      clear hkk
      go_wp2
      go_meet
      case rel => exact ⟨by rw [e3], rfl⟩
    · have e3 : kNum k = k := by unfold kNum; rw [if_neg hneg]
      clear hkk
      go_wp2
      go_meet
      case rel => exact ⟨by rw [e3], rfl⟩
  case rest =>
    obtain ⟨rfl, rfl⟩ := hcut
    clear hk
    have xw : wc.cell? ⟨g, 2, none⟩ = some (.slice aw fs.length cw) := H2.out.1.head.cell 2
    go_upto_if 21 with fail
    go_cut [5] from 21 to 28 (fun v5 wx => (∃ j : Int, v5 = .int .i64 j ∧ (0 < fs.length → j = (kIn k fs.length : Nat))) ∧ wx = wc)
    case first =>
      have hkin := Lib.hid (show kIn k fs.length = (kNum k).toNat % fs.length from rfl)
      generalize kNum k = kk at *
      obtain ⟨kn, rfl⟩ := Int.eq_ofNat_of_zero_le hkk.1
      have hm : (kn : Int).tmod (fs.length : Int) = ((kn % fs.length : Nat) : Int) := by rw [Int.tmod_eq_emod_of_nonneg (by omega)]; rfl
      obtain ⟨r, hr⟩ : ∃ r, r = kn % fs.length := ⟨_, rfl⟩
      rw [← hr] at hm
      have Hr : Hid ((kn : Int) % (fs.length : Int) = (r : Int)) := Lib.hid (by rw [hr]; rfl)
      have hkin2 : Hid (kIn k fs.length = r) := Lib.hid (by rw [hkin.out, hr]; simp)
      by_cases hlen : 0 < fs.length
      · have hlenI : (0 : Int) < (fs.length : Int) := by omega
        have hne : ((fs.length : Int) == 0) = false := by simp only [beq_eq_false_iff_ne, ne_eq]; omega
        have hmod : r < fs.length := by rw [hr]; exact Nat.mod_lt kn hlen
        have hmw : IntKind.i64.wrap ((kn : Int).tmod (fs.length : Int)) = (r : Int) := by rw [hm]; exact IntWalk.i64_in _ (by omega)
        clear hm hmod hr
        go_wp2
        go_meet
        case rel => exact ⟨⟨_, rfl, fun _ => by rw [hkin2.out]; first | exact Hr.out | rfl⟩, rfl⟩
      · have hlenI : ¬ (0 : Int) < (fs.length : Int) := by omega
        clear hm hr
        go_wp2
        all_goals (go_meet; case rel => exact ⟨⟨_, rfl, fun h => absurd h hlen⟩, rfl⟩)
    case rest =>
      rename_i wp hcut1
      obtain ⟨⟨j, rfl, hj⟩, rfl⟩ := hcut
      clear hkk xw
      have Hj := Lib.hid hj
      clear hj
      have x0 : wc.cell? ⟨gA, 0, none⟩ = some (.int .i64 way) := H2.out.2.2.cell 0
      have xw : wc.cell? ⟨g, 2, none⟩ = some (.slice aw fs.length cw) := H2.out.1.head.cell 2
      have hl0 : ((fs.length : Int) == 0) = true := by rw [Hnil.out]; rfl
      have Hfin := Lib.hid H2.out.1
      clear H2
      go_wp2_with fail
      go_ret
      unfold turn_none_post
      exact ⟨rfl, _, _, _, Hfin.out⟩

def turn_out0_post (w0 : World) (g pa pb : Nat) (a b : LK) (fs : List FR) (now k : Int) (o : Nat → List BV) (bs : List UInt8) (v : Value) (e : Ending) (w' : World) : Prop := e = .returned (.bool true) ∧ ∃ X' vw' u' fs2, fs2.map frd = outF a now ∧ PairIn X' w0 w' g pa pb vw' u' (outL a now) b (fs ++ fs2) (now + 1) o
set_option maxHeartbeats 16000000 in
set_option maxRecDepth 100000 in
theorem turn_out0 {X : List Nat} {w0 w : World} {g pa pb : Nat} {vw : Value} {u : Nat → Value} {a b : LK} {fs : List FR} {now : Int} {o : Nat → List BV} {way k : Int} {bs : List UInt8} {v : Value}
    (h : PairIn X w0 w g pa pb vw u a b fs now o) (hv : ByAt X w0 w ⟨bs, v⟩) (hk : -9223372036854775808 ≤ k ∧ k ≤ 9223372036854775807) (hfl : fs.length ≤ 100000) (hway : way = 2) (hok : OkL a) (hnow : 0 ≤ now ∧ now ≤ 1000000) (hof : (outF a now).length ≤ 100000) :
    Calls Try.prog 15 #[.pointer (some ⟨g, 0, none⟩), .agg #[.int .i64 way, .int .i64 k, v]] w (turn_out0_post w0 g pa pb a b fs now k o bs v) := by
  obtain ⟨av, cv, rfl⟩ : ∃ av cv, v = .slice av bs.length cv := (hv.of h.out).shape
  obtain ⟨aw, cw, rfl⟩ := h.way.shape
  have kA : Keep [] w (w.alloc (.cells #[.int .i64 way, .int .i64 k, .slice av bs.length cv] 54)) := (Keep.refl _ _).alloc _
  have bA : Blk (w.alloc (.cells #[.int .i64 way, .int .i64 k, .slice av bs.length cv] 54)) w.heap.size 54 [.int .i64 way, .int .i64 k, .slice av bs.length cv] := Blk.new' _ _ _ _ rfl
  have h2 := h.more (Y := [w.heap.size]) kA (by simp)
  have hv2 := (hv.kx (KX.of0 (X := X) kA)).sub (Y := [w.heap.size] ++ X) (fun x hx => List.mem_append_right _ hx)
  have H2 := Lib.hid (And.intro h2 (And.intro hv2 bA))
  have hflI : (fs.length : Int) ≤ 100000 := by omega
  have Hfl := Lib.hid hfl
  have hkk := kNum_ok hk
  have hgt : w.heap.size ∈ [w.heap.size] ++ X := by simp
  generalize hXX : [w.heap.size] ++ X = XX at *
  have t0 : (way == 0) = false := by rw [hway]; rfl
  have t1 : (way == 1) = false := by rw [hway]; rfl
  have t2 : (way == 2) = true := by simpa using hway
  clear h h2 hv hv2 bA kA hXX hfl hway
  go_enter Try.func15, Try.ntmps15
  go_upto_region 1 with fail
  generalize hwA : w.alloc (.cells #[.int .i64 way, .int .i64 k, .slice av bs.length cv] 54) = wA at *
  generalize hgA : w.heap.size = gA at *
  clear hwA hgA
  have x1 : wA.cell? ⟨gA, 1, none⟩ = some (.int .i64 k) := H2.out.2.2.cell 1
  go_upto_if 12 with fail
  clear x1
  go_cut [5] from 13 to 15 (fun v5 wx => v5 = .int .i64 (kNum k) ∧ wx = wA)
  case first =>
    by_cases hneg : k < 0
    · have e1 : IntKind.i64.wrap (k + 1) = k + 1 := IntWalk.i64_in _ (by omega)
      have e2 : IntKind.i64.wrap (-(k + 1)) = -(k + 1) := IntWalk.i64_in _ (by omega)
      have e3 : kNum k = -(k + 1) := by unfold kNum; rw [if_pos hneg]
      clear hkk
      go_wp2
      go_meet
      case rel => exact ⟨by rw [e3], rfl⟩
    · have e3 : kNum k = k := by unfold kNum; rw [if_neg hneg]
      clear hkk
      go_wp2
      go_meet
      case rel => exact ⟨by rw [e3], rfl⟩
  case rest =>
    obtain ⟨rfl, rfl⟩ := hcut
    clear hk
    have xw : wc.cell? ⟨g, 2, none⟩ = some (.slice aw fs.length cw) := H2.out.1.head.cell 2
    go_upto_if 21 with fail
    go_cut [5] from 21 to 28 (fun v5 wx => (∃ j : Int, v5 = .int .i64 j ∧ (0 < fs.length → j = (kIn k fs.length : Nat))) ∧ wx = wc)
    case first =>
      have hkin := Lib.hid (show kIn k fs.length = (kNum k).toNat % fs.length from rfl)
      generalize kNum k = kk at *
      obtain ⟨kn, rfl⟩ := Int.eq_ofNat_of_zero_le hkk.1
      have hm : (kn : Int).tmod (fs.length : Int) = ((kn % fs.length : Nat) : Int) := by rw [Int.tmod_eq_emod_of_nonneg (by omega)]; rfl
      obtain ⟨r, hr⟩ : ∃ r, r = kn % fs.length := ⟨_, rfl⟩
      rw [← hr] at hm
      have Hr : Hid ((kn : Int) % (fs.length : Int) = (r : Int)) := Lib.hid (by rw [hr]; rfl)
      have hkin2 : Hid (kIn k fs.length = r) := Lib.hid (by rw [hkin.out, hr]; simp)
      by_cases hlen : 0 < fs.length
      · have hlenI : (0 : Int) < (fs.length : Int) := by omega
        have hne : ((fs.length : Int) == 0) = false := by simp only [beq_eq_false_iff_ne, ne_eq]; omega
        have hmod : r < fs.length := by rw [hr]; exact Nat.mod_lt kn hlen
        have hmw : IntKind.i64.wrap ((kn : Int).tmod (fs.length : Int)) = (r : Int) := by rw [hm]; exact IntWalk.i64_in _ (by omega)
        clear hm hmod hr
        go_wp2
        go_meet
        case rel => exact ⟨⟨_, rfl, fun _ => by rw [hkin2.out]; first | exact Hr.out | rfl⟩, rfl⟩
      · have hlenI : ¬ (0 : Int) < (fs.length : Int) := by omega
        clear hm hr
        go_wp2
        all_goals (go_meet; case rel => exact ⟨⟨_, rfl, fun h => absurd h hlen⟩, rfl⟩)
    case rest =>
      rename_i wp hcut1
      obtain ⟨⟨j, rfl, hj⟩, rfl⟩ := hcut
      clear hkk xw
      have Hj := Lib.hid hj
      clear hj
      have x0 : wc.cell? ⟨gA, 0, none⟩ = some (.int .i64 way) := H2.out.2.2.cell 0
      have xw : wc.cell? ⟨g, 2, none⟩ = some (.slice aw fs.length cw) := H2.out.1.head.cell 2
      have xg : wc.cell? ⟨g, 0, none⟩ = some (.pointer (some ⟨pa, 0, none⟩)) := H2.out.1.head.cell 0
      have xn : wc.cell? ⟨g, 3, none⟩ = some (.int .i64 now) := H2.out.1.head.cell 3
      have hs := Lib.hid (tw_out now (H2.out.1.tw.keep0 (Keep.refl [] wc).drew) hok (by omega))
      have Hnow := Lib.hid hnow
      have Hof := Lib.hid hof
      clear hok hof hnow
      go_upto_region 14 with fail
      clear x0
      refine wp_region_split 17 (fun w' => w'.cell? ⟨g, 2, none⟩ = some (.slice aw fs.length cw) ∧ w'.cell? ⟨g, 0, none⟩ = some (.pointer (some ⟨pa, 0, none⟩)) ∧ w'.cell? ⟨g, 3, none⟩ = some (.int .i64 now)) (by kernel_rfl) rfl (by kernel_rfl) ⟨xw, xg, xn⟩ ?_
      clear xw xg xn
      intro hHeld
      simp only [List.take_succ_cons, List.take_zero]
      refine wpAnyH_take (i := 0) (v := ?_) rfl (by kernel_rfl) (by kernel_rfl) (by kernel_rfl) (fun _ _ _ h => h) (Or.inl ⟨by rfl, by (intro w hSw; (try dsimp only at hSw); go_simp) <;> with_reducible rfl⟩) (by assumption) ?_
      (try simp only [List.getElem_toArray, List.getElem_cons_succ, List.getElem_cons_zero, Act.put, List.setIfInBounds_toArray, List.set_cons_zero, List.set_cons_succ])
      refine wpAnyH_take (i := 1) (v := ?_) rfl (by kernel_rfl) (by kernel_rfl) (by kernel_rfl) (fun _ _ _ h => h) (Or.inl ⟨by rfl, by (intro w hSw; (try dsimp only at hSw); go_simp) <;> with_reducible rfl⟩) (by assumption) ?_
      (try simp only [List.getElem_toArray, List.getElem_cons_succ, List.getElem_cons_zero, Act.put, List.setIfInBounds_toArray, List.set_cons_zero, List.set_cons_succ])
      refine wpAnyH_take (i := 2) (v := ?_) rfl (by kernel_rfl) (by kernel_rfl) (by kernel_rfl) (fun _ _ _ h => h) (Or.inl ⟨by rfl, by (intro w hSw; (try dsimp only at hSw); go_simp) <;> with_reducible rfl⟩) (by assumption) ?_
      (try simp only [List.getElem_toArray, List.getElem_cons_succ, List.getElem_cons_zero, Act.put, List.setIfInBounds_toArray, List.set_cons_zero, List.set_cons_succ])
      refine wpAnyH_take (i := 3) (v := ?_) rfl (by kernel_rfl) (by kernel_rfl) (by kernel_rfl) (fun _ _ _ h => h) (Or.inl ⟨by rfl, by (intro w hSw; (try dsimp only at hSw); go_simp) <;> with_reducible rfl⟩) (by assumption) ?_
      (try simp only [List.getElem_toArray, List.getElem_cons_succ, List.getElem_cons_zero, Act.put, List.setIfInBounds_toArray, List.set_cons_zero, List.set_cons_succ])
      refine wpAnyH_take (i := 4) (v := ?_) rfl (by kernel_rfl) (by kernel_rfl) (by kernel_rfl) (fun _ _ _ h => h) (Or.inl ⟨by rfl, by (intro w hSw; (try dsimp only at hSw); go_simp) <;> with_reducible rfl⟩) (by assumption) ?_
      (try simp only [List.getElem_toArray, List.getElem_cons_succ, List.getElem_cons_zero, Act.put, List.setIfInBounds_toArray, List.set_cons_zero, List.set_cons_succ])
      refine wpAnyH_take (i := 5) (v := ?_) rfl (by kernel_rfl) (by kernel_rfl) (by kernel_rfl) (fun _ _ _ h => h) (Or.inl ⟨by rfl, by (intro w hSw; (try dsimp only at hSw); go_simp) <;> with_reducible rfl⟩) (by assumption) ?_
      (try simp only [List.getElem_toArray, List.getElem_cons_succ, List.getElem_cons_zero, Act.put, List.setIfInBounds_toArray, List.set_cons_zero, List.set_cons_succ])
      refine wpAnyH_take (i := 6) (v := ?_) rfl (by kernel_rfl) (by kernel_rfl) (by kernel_rfl) (fun _ _ _ h => h) (Or.inl ⟨by rfl, by (intro w hSw; (try dsimp only at hSw); go_simp) <;> with_reducible rfl⟩) (by assumption) ?_
      (try simp only [List.getElem_toArray, List.getElem_cons_succ, List.getElem_cons_zero, Act.put, List.setIfInBounds_toArray, List.set_cons_zero, List.set_cons_succ])
      refine wpAnyH_take (i := 7) (v := ?_) rfl (by kernel_rfl) (by kernel_rfl) (by kernel_rfl) (fun _ _ _ h => h) (Or.inl ⟨by rfl, by (intro w hSw; (try dsimp only at hSw); go_simp) <;> with_reducible rfl⟩) (by assumption) ?_
      (try simp only [List.getElem_toArray, List.getElem_cons_succ, List.getElem_cons_zero, Act.put, List.setIfInBounds_toArray, List.set_cons_zero, List.set_cons_succ])
      refine wpAnyH_take (i := 8) (v := ?_) rfl (by kernel_rfl) (by kernel_rfl) (by kernel_rfl) (fun _ _ _ h => h) (Or.inl ⟨by rfl, by (intro w hSw; (try dsimp only at hSw); go_simp) <;> with_reducible rfl⟩) (by assumption) ?_
      (try simp only [List.getElem_toArray, List.getElem_cons_succ, List.getElem_cons_zero, Act.put, List.setIfInBounds_toArray, List.set_cons_zero, List.set_cons_succ])
      refine wpAnyH_take (i := 9) (v := ?_) rfl (by kernel_rfl) (by kernel_rfl) (by kernel_rfl) (fun _ _ _ h => h) (Or.inl ⟨by rfl, by (intro w hSw; (try dsimp only at hSw); go_simp) <;> with_reducible rfl⟩) (by assumption) ?_
      (try simp only [List.getElem_toArray, List.getElem_cons_succ, List.getElem_cons_zero, Act.put, List.setIfInBounds_toArray, List.set_cons_zero, List.set_cons_succ])
      refine wpAnyH_take (i := 10) (v := ?_) rfl (by kernel_rfl) (by kernel_rfl) (by kernel_rfl) (fun _ _ _ h => h) (Or.inl ⟨by rfl, by (intro w hSw; (try dsimp only at hSw); go_simp) <;> with_reducible rfl⟩) (by assumption) ?_
      (try simp only [List.getElem_toArray, List.getElem_cons_succ, List.getElem_cons_zero, Act.put, List.setIfInBounds_toArray, List.set_cons_zero, List.set_cons_succ])
      refine wpAnyH_take (i := 11) (v := ?_) rfl (by kernel_rfl) (by kernel_rfl) (by kernel_rfl) (fun _ _ _ h => h) (Or.inl ⟨by rfl, by (intro w hSw; (try dsimp only at hSw); go_simp) <;> with_reducible rfl⟩) (by assumption) ?_
      (try simp only [List.getElem_toArray, List.getElem_cons_succ, List.getElem_cons_zero, Act.put, List.setIfInBounds_toArray, List.set_cons_zero, List.set_cons_succ])
      refine wpAnyH_take (i := 12) (v := ?_) rfl (by kernel_rfl) (by kernel_rfl) (by kernel_rfl) (fun _ _ _ h => h) (Or.inl ⟨by rfl, by (intro w hSw; (try dsimp only at hSw); go_simp) <;> with_reducible rfl⟩) (by assumption) ?_
      (try simp only [List.getElem_toArray, List.getElem_cons_succ, List.getElem_cons_zero, Act.put, List.setIfInBounds_toArray, List.set_cons_zero, List.set_cons_succ])
      refine wpAnyH_ready (rs := [13]) (by kernel_rfl) (by simp) ?_
      refine AllReadyH.cons rfl (fun K hK => ?_) AllReadyH.nil
      go_simp
      go_at_call 12
      refine hs.out.mono ?_
      rintro e w6 ⟨vr, fs2, rfl, hfd, hfi, htw, hkx⟩
      obtain ⟨ar, cr, rfl⟩ := hfi.rows.shape
      have h6 := (H2.out.1.keep0 (Keep.refl [] wc).drew).link hkx (htw.sub (Y := frBlocks fs2 ++ XX) (fun x hx => List.mem_append_right _ hx)) (fun x hx => List.mem_append_right _ hx)
      have xw : w6.cell? ⟨g, 2, none⟩ = some (.slice aw fs.length cw) := h6.head.cell 2
      have xg : w6.cell? ⟨g, 0, none⟩ = some (.pointer (some ⟨pa, 0, none⟩)) := h6.head.cell 0
      have xn : w6.cell? ⟨g, 3, none⟩ = some (.int .i64 now) := h6.head.cell 3
      have hby : ∀ s ∈ fs2, ByAt (frBlocks fs2 ++ XX) w0 w6 ⟨s.bs, s.bv⟩ := fun s hs => Or.inl ⟨OwnsAt.mono (hfi.bytes s hs) (Nat.zero_le _), fun x hx => List.mem_append_left _ (mem_frBlocks.2 ⟨s, hs, mem_own.1 hx⟩)⟩
      have hl2 : fs2.length ≤ 100000 := by have h9 := congrArg List.length hfd; rw [List.length_map] at h9; have := Hof.out; omega
      have H6 := Lib.hid (And.intro h6 (And.intro hfi hby))
      have Hfd := Lib.hid hfd
      have Hl2 := Lib.hid hl2
      clear h6 hfi hby htw hkx hfd hs hl2
      go_wp2_with fail
      refine hK.out _ _ ⟨xw, xg, xn⟩ (fun hHeld => ?_)
      clear hK K xw xg xn
      (try simp only [List.getElem_toArray, List.getElem_cons_succ, List.getElem_cons_zero, Act.put, List.setIfInBounds_toArray, List.set_cons_zero, List.set_cons_succ])
      refine wpAnyH_ready (rs := [14]) (by kernel_rfl) (by simp) ?_
      refine AllReadyH.cons (o := { dst := some 119, op := .call { callee := .builtin .append, args := #[.tmp 109, .tmp 118], argTypes := #[36, 36] }, type := 36, pos := "law.go:164", after := #[{ on := 4, ground := .data }, { on := 13, ground := .data }, { on := 13, ground := .chain }], guard := none }) rfl (fun K hK => ?_) AllReadyH.nil
      refine step_append_off rfl (.tmp 109) (.tmp 118) rfl Try.frs36 w0.heap.size (.slice aw fs.length cw) fs.length (fs.flatMap FR.c) (by simp [Act.eval]) H6.out.1.way (.slice ar fs2.length cr) fs2.length (fs2.flatMap FR.c) (by simp [Act.eval]) (src_own2 H6.out.2.1.rows) (fr_one H6.out.1.out H6.out.2.2) (by unfold maxLen; have := Hfl.out; have := Hl2.out; omega) (by have := Hfl.out; have := Hl2.out; omega) H6.out.1.out.size ?_
      intro v' w4 hown4 hk4 hat4
      have hrow := H6.out.1.ways (v' := v') (fs' := fs ++ fs2) hk4 (by rw [List.length_append, List.flatMap_append]; exact hown4) (by
        rcases hat4 with h | h
        · exact Or.inl h
        · exact Or.inr (fun x hx => by have := mem_own.1 hx; rw [h] at this; injection this with this; rw [← this]; exact Nat.le_refl _)) (fun s hs => by
        rcases List.mem_append.1 hs with hs | hs
        · exact H6.out.1.frs s hs
        · exact H6.out.2.2 s hs)
      have hg4 := H6.out.1.head.keep hk4 (fun hx => OwnsAt.ne_blk H6.out.1.way H6.out.1.head (by decide) (mem_own.1 hx))
      have xw : w4.cell? ⟨g, 2, none⟩ = some (.slice aw fs.length cw) := hg4.cell 2
      have xg : w4.cell? ⟨g, 0, none⟩ = some (.pointer (some ⟨pa, 0, none⟩)) := hg4.cell 0
      have xn : w4.cell? ⟨g, 3, none⟩ = some (.int .i64 now) := hg4.cell 3
      have yf : w4.frozen? ⟨g, 2, none⟩ = false := hg4.frozen 2
      obtain ⟨a7, c7, rfl⟩ := hown4.shape
      refine hK.out _ _ ⟨xw, xg, xn⟩ (fun hHeld => ?_)
      clear hK K
      (try simp only [List.getElem_toArray, List.getElem_cons_succ, List.getElem_cons_zero, Act.put, List.setIfInBounds_toArray, List.set_cons_zero, List.set_cons_succ])
      refine wpAnyH_take (i := 15) (v := ?_) rfl (by kernel_rfl) (by kernel_rfl) (by kernel_rfl) (fun _ _ _ h => h) (Or.inl ⟨by rfl, by (intro w hSw; (try dsimp only at hSw); go_simp) <;> with_reducible rfl⟩) (by assumption) ?_
      (try simp only [List.getElem_toArray, List.getElem_cons_succ, List.getElem_cons_zero, Act.put, List.setIfInBounds_toArray, List.set_cons_zero, List.set_cons_succ])
      refine wpAnyH_take (i := 16) (v := ?_) rfl (by kernel_rfl) (by kernel_rfl) (by kernel_rfl) (fun _ _ _ h => h) (Or.inl ⟨by rfl, by (intro w hSw; (try dsimp only at hSw); go_simp) <;> with_reducible rfl⟩) (by assumption) ?_
      (try simp only [List.getElem_toArray, List.getElem_cons_succ, List.getElem_cons_zero, Act.put, List.setIfInBounds_toArray, List.set_cons_zero, List.set_cons_succ])
      have HR := Lib.hid hrow
      clear hrow hown4 hk4 hat4 hg4 xg xn
      refine wpAnyH_done (by kernel_rfl) ?_ _
      show Oper.wp _ _ _ _ _ _
      go_simp
      clear hHeld
      go_upto_region 15 with fail
      clear xw yf
      generalize w4.setCell ⟨g, 2, none⟩ (.slice a7 (fs.length + fs2.length) c7) = w5 at *
      have xn : w5.cell? ⟨g, 3, none⟩ = some (.int .i64 now) := HR.out.head.cell 3
      have yf : w5.frozen? ⟨g, 3, none⟩ = false := HR.out.head.frozen 3
      have hwr : IntKind.i64.wrap (now + 1) = now + 1 := IntWalk.i64_in _ (by have := Hnow.out; omega)
      have Hfin := Lib.hid (HR.out.hour (now + 1))
      clear HR
      go_wp2_with fail
      go_ret
      unfold turn_out0_post
      exact ⟨rfl, _, _, _, fs2, Hfd.out, Hfin.out⟩

def turn_out1_post (w0 : World) (g pa pb : Nat) (a b : LK) (fs : List FR) (now k : Int) (o : Nat → List BV) (bs : List UInt8) (v : Value) (e : Ending) (w' : World) : Prop := e = .returned (.bool true) ∧ ∃ X' vw' u' fs2, fs2.map frd = outF b now ∧ PairIn X' w0 w' g pa pb vw' u' a (outL b now) (fs ++ fs2) (now + 1) o
set_option maxHeartbeats 16000000 in
set_option maxRecDepth 100000 in
theorem turn_out1 {X : List Nat} {w0 w : World} {g pa pb : Nat} {vw : Value} {u : Nat → Value} {a b : LK} {fs : List FR} {now : Int} {o : Nat → List BV} {way k : Int} {bs : List UInt8} {v : Value}
    (h : PairIn X w0 w g pa pb vw u a b fs now o) (hv : ByAt X w0 w ⟨bs, v⟩) (hk : -9223372036854775808 ≤ k ∧ k ≤ 9223372036854775807) (hfl : fs.length ≤ 100000) (hway : way = 3) (hok : OkL b) (hnow : 0 ≤ now ∧ now ≤ 1000000) (hof : (outF b now).length ≤ 100000) :
    Calls Try.prog 15 #[.pointer (some ⟨g, 0, none⟩), .agg #[.int .i64 way, .int .i64 k, v]] w (turn_out1_post w0 g pa pb a b fs now k o bs v) := by
  obtain ⟨av, cv, rfl⟩ : ∃ av cv, v = .slice av bs.length cv := (hv.of h.out).shape
  obtain ⟨aw, cw, rfl⟩ := h.way.shape
  have kA : Keep [] w (w.alloc (.cells #[.int .i64 way, .int .i64 k, .slice av bs.length cv] 54)) := (Keep.refl _ _).alloc _
  have bA : Blk (w.alloc (.cells #[.int .i64 way, .int .i64 k, .slice av bs.length cv] 54)) w.heap.size 54 [.int .i64 way, .int .i64 k, .slice av bs.length cv] := Blk.new' _ _ _ _ rfl
  have h2 := h.more (Y := [w.heap.size]) kA (by simp)
  have hv2 := (hv.kx (KX.of0 (X := X) kA)).sub (Y := [w.heap.size] ++ X) (fun x hx => List.mem_append_right _ hx)
  have H2 := Lib.hid (And.intro h2 (And.intro hv2 bA))
  have hflI : (fs.length : Int) ≤ 100000 := by omega
  have Hfl := Lib.hid hfl
  have hkk := kNum_ok hk
  have hgt : w.heap.size ∈ [w.heap.size] ++ X := by simp
  generalize hXX : [w.heap.size] ++ X = XX at *
  have t0 : (way == 0) = false := by rw [hway]; rfl
  have t1 : (way == 1) = false := by rw [hway]; rfl
  have t2 : (way == 2) = false := by rw [hway]; rfl
  have t3 : (way == 3) = true := by simpa using hway
  clear h h2 hv hv2 bA kA hXX hfl hway
  go_enter Try.func15, Try.ntmps15
  go_upto_region 1 with fail
  generalize hwA : w.alloc (.cells #[.int .i64 way, .int .i64 k, .slice av bs.length cv] 54) = wA at *
  generalize hgA : w.heap.size = gA at *
  clear hwA hgA
  have x1 : wA.cell? ⟨gA, 1, none⟩ = some (.int .i64 k) := H2.out.2.2.cell 1
  go_upto_if 12 with fail
  clear x1
  go_cut [5] from 13 to 15 (fun v5 wx => v5 = .int .i64 (kNum k) ∧ wx = wA)
  case first =>
    by_cases hneg : k < 0
    · have e1 : IntKind.i64.wrap (k + 1) = k + 1 := IntWalk.i64_in _ (by omega)
      have e2 : IntKind.i64.wrap (-(k + 1)) = -(k + 1) := IntWalk.i64_in _ (by omega)
      have e3 : kNum k = -(k + 1) := by unfold kNum; rw [if_pos hneg]
      clear hkk
      go_wp2
      go_meet
      case rel => exact ⟨by rw [e3], rfl⟩
    · have e3 : kNum k = k := by unfold kNum; rw [if_neg hneg]
      clear hkk
      go_wp2
      go_meet
      case rel => exact ⟨by rw [e3], rfl⟩
  case rest =>
    obtain ⟨rfl, rfl⟩ := hcut
    clear hk
    have xw : wc.cell? ⟨g, 2, none⟩ = some (.slice aw fs.length cw) := H2.out.1.head.cell 2
    go_upto_if 21 with fail
    go_cut [5] from 21 to 28 (fun v5 wx => (∃ j : Int, v5 = .int .i64 j ∧ (0 < fs.length → j = (kIn k fs.length : Nat))) ∧ wx = wc)
    case first =>
      have hkin := Lib.hid (show kIn k fs.length = (kNum k).toNat % fs.length from rfl)
      generalize kNum k = kk at *
      obtain ⟨kn, rfl⟩ := Int.eq_ofNat_of_zero_le hkk.1
      have hm : (kn : Int).tmod (fs.length : Int) = ((kn % fs.length : Nat) : Int) := by rw [Int.tmod_eq_emod_of_nonneg (by omega)]; rfl
      obtain ⟨r, hr⟩ : ∃ r, r = kn % fs.length := ⟨_, rfl⟩
      rw [← hr] at hm
      have Hr : Hid ((kn : Int) % (fs.length : Int) = (r : Int)) := Lib.hid (by rw [hr]; rfl)
      have hkin2 : Hid (kIn k fs.length = r) := Lib.hid (by rw [hkin.out, hr]; simp)
      by_cases hlen : 0 < fs.length
      · have hlenI : (0 : Int) < (fs.length : Int) := by omega
        have hne : ((fs.length : Int) == 0) = false := by simp only [beq_eq_false_iff_ne, ne_eq]; omega
        have hmod : r < fs.length := by rw [hr]; exact Nat.mod_lt kn hlen
        have hmw : IntKind.i64.wrap ((kn : Int).tmod (fs.length : Int)) = (r : Int) := by rw [hm]; exact IntWalk.i64_in _ (by omega)
        clear hm hmod hr
        go_wp2
        go_meet
        case rel => exact ⟨⟨_, rfl, fun _ => by rw [hkin2.out]; first | exact Hr.out | rfl⟩, rfl⟩
      · have hlenI : ¬ (0 : Int) < (fs.length : Int) := by omega
        clear hm hr
        go_wp2
        all_goals (go_meet; case rel => exact ⟨⟨_, rfl, fun h => absurd h hlen⟩, rfl⟩)
    case rest =>
      rename_i wp hcut1
      obtain ⟨⟨j, rfl, hj⟩, rfl⟩ := hcut
      clear hkk xw
      have Hj := Lib.hid hj
      clear hj
      have x0 : wc.cell? ⟨gA, 0, none⟩ = some (.int .i64 way) := H2.out.2.2.cell 0
      have xw : wc.cell? ⟨g, 2, none⟩ = some (.slice aw fs.length cw) := H2.out.1.head.cell 2
      have xg : wc.cell? ⟨g, 1, none⟩ = some (.pointer (some ⟨pb, 0, none⟩)) := H2.out.1.head.cell 1
      have xn : wc.cell? ⟨g, 3, none⟩ = some (.int .i64 now) := H2.out.1.head.cell 3
      have hs := Lib.hid (tw_out now (H2.out.1.tw.swap.keep0 (Keep.refl [] wc).drew) hok (by omega))
      have Hnow := Lib.hid hnow
      have Hof := Lib.hid hof
      clear hok hof hnow
      go_upto_region 17 with fail
      clear x0
      refine wp_region_split 17 (fun w' => w'.cell? ⟨g, 2, none⟩ = some (.slice aw fs.length cw) ∧ w'.cell? ⟨g, 1, none⟩ = some (.pointer (some ⟨pb, 0, none⟩)) ∧ w'.cell? ⟨g, 3, none⟩ = some (.int .i64 now)) (by kernel_rfl) rfl (by kernel_rfl) ⟨xw, xg, xn⟩ ?_
      clear xw xg xn
      intro hHeld
      simp only [List.take_succ_cons, List.take_zero]
      refine wpAnyH_take (i := 0) (v := ?_) rfl (by kernel_rfl) (by kernel_rfl) (by kernel_rfl) (fun _ _ _ h => h) (Or.inl ⟨by rfl, by (intro w hSw; (try dsimp only at hSw); go_simp) <;> with_reducible rfl⟩) (by assumption) ?_
      (try simp only [List.getElem_toArray, List.getElem_cons_succ, List.getElem_cons_zero, Act.put, List.setIfInBounds_toArray, List.set_cons_zero, List.set_cons_succ])
      refine wpAnyH_take (i := 1) (v := ?_) rfl (by kernel_rfl) (by kernel_rfl) (by kernel_rfl) (fun _ _ _ h => h) (Or.inl ⟨by rfl, by (intro w hSw; (try dsimp only at hSw); go_simp) <;> with_reducible rfl⟩) (by assumption) ?_
      (try simp only [List.getElem_toArray, List.getElem_cons_succ, List.getElem_cons_zero, Act.put, List.setIfInBounds_toArray, List.set_cons_zero, List.set_cons_succ])
      refine wpAnyH_take (i := 2) (v := ?_) rfl (by kernel_rfl) (by kernel_rfl) (by kernel_rfl) (fun _ _ _ h => h) (Or.inl ⟨by rfl, by (intro w hSw; (try dsimp only at hSw); go_simp) <;> with_reducible rfl⟩) (by assumption) ?_
      (try simp only [List.getElem_toArray, List.getElem_cons_succ, List.getElem_cons_zero, Act.put, List.setIfInBounds_toArray, List.set_cons_zero, List.set_cons_succ])
      refine wpAnyH_take (i := 3) (v := ?_) rfl (by kernel_rfl) (by kernel_rfl) (by kernel_rfl) (fun _ _ _ h => h) (Or.inl ⟨by rfl, by (intro w hSw; (try dsimp only at hSw); go_simp) <;> with_reducible rfl⟩) (by assumption) ?_
      (try simp only [List.getElem_toArray, List.getElem_cons_succ, List.getElem_cons_zero, Act.put, List.setIfInBounds_toArray, List.set_cons_zero, List.set_cons_succ])
      refine wpAnyH_take (i := 4) (v := ?_) rfl (by kernel_rfl) (by kernel_rfl) (by kernel_rfl) (fun _ _ _ h => h) (Or.inl ⟨by rfl, by (intro w hSw; (try dsimp only at hSw); go_simp) <;> with_reducible rfl⟩) (by assumption) ?_
      (try simp only [List.getElem_toArray, List.getElem_cons_succ, List.getElem_cons_zero, Act.put, List.setIfInBounds_toArray, List.set_cons_zero, List.set_cons_succ])
      refine wpAnyH_take (i := 5) (v := ?_) rfl (by kernel_rfl) (by kernel_rfl) (by kernel_rfl) (fun _ _ _ h => h) (Or.inl ⟨by rfl, by (intro w hSw; (try dsimp only at hSw); go_simp) <;> with_reducible rfl⟩) (by assumption) ?_
      (try simp only [List.getElem_toArray, List.getElem_cons_succ, List.getElem_cons_zero, Act.put, List.setIfInBounds_toArray, List.set_cons_zero, List.set_cons_succ])
      refine wpAnyH_take (i := 6) (v := ?_) rfl (by kernel_rfl) (by kernel_rfl) (by kernel_rfl) (fun _ _ _ h => h) (Or.inl ⟨by rfl, by (intro w hSw; (try dsimp only at hSw); go_simp) <;> with_reducible rfl⟩) (by assumption) ?_
      (try simp only [List.getElem_toArray, List.getElem_cons_succ, List.getElem_cons_zero, Act.put, List.setIfInBounds_toArray, List.set_cons_zero, List.set_cons_succ])
      refine wpAnyH_take (i := 7) (v := ?_) rfl (by kernel_rfl) (by kernel_rfl) (by kernel_rfl) (fun _ _ _ h => h) (Or.inl ⟨by rfl, by (intro w hSw; (try dsimp only at hSw); go_simp) <;> with_reducible rfl⟩) (by assumption) ?_
      (try simp only [List.getElem_toArray, List.getElem_cons_succ, List.getElem_cons_zero, Act.put, List.setIfInBounds_toArray, List.set_cons_zero, List.set_cons_succ])
      refine wpAnyH_take (i := 8) (v := ?_) rfl (by kernel_rfl) (by kernel_rfl) (by kernel_rfl) (fun _ _ _ h => h) (Or.inl ⟨by rfl, by (intro w hSw; (try dsimp only at hSw); go_simp) <;> with_reducible rfl⟩) (by assumption) ?_
      (try simp only [List.getElem_toArray, List.getElem_cons_succ, List.getElem_cons_zero, Act.put, List.setIfInBounds_toArray, List.set_cons_zero, List.set_cons_succ])
      refine wpAnyH_take (i := 9) (v := ?_) rfl (by kernel_rfl) (by kernel_rfl) (by kernel_rfl) (fun _ _ _ h => h) (Or.inl ⟨by rfl, by (intro w hSw; (try dsimp only at hSw); go_simp) <;> with_reducible rfl⟩) (by assumption) ?_
      (try simp only [List.getElem_toArray, List.getElem_cons_succ, List.getElem_cons_zero, Act.put, List.setIfInBounds_toArray, List.set_cons_zero, List.set_cons_succ])
      refine wpAnyH_take (i := 10) (v := ?_) rfl (by kernel_rfl) (by kernel_rfl) (by kernel_rfl) (fun _ _ _ h => h) (Or.inl ⟨by rfl, by (intro w hSw; (try dsimp only at hSw); go_simp) <;> with_reducible rfl⟩) (by assumption) ?_
      (try simp only [List.getElem_toArray, List.getElem_cons_succ, List.getElem_cons_zero, Act.put, List.setIfInBounds_toArray, List.set_cons_zero, List.set_cons_succ])
      refine wpAnyH_take (i := 11) (v := ?_) rfl (by kernel_rfl) (by kernel_rfl) (by kernel_rfl) (fun _ _ _ h => h) (Or.inl ⟨by rfl, by (intro w hSw; (try dsimp only at hSw); go_simp) <;> with_reducible rfl⟩) (by assumption) ?_
      (try simp only [List.getElem_toArray, List.getElem_cons_succ, List.getElem_cons_zero, Act.put, List.setIfInBounds_toArray, List.set_cons_zero, List.set_cons_succ])
      refine wpAnyH_take (i := 12) (v := ?_) rfl (by kernel_rfl) (by kernel_rfl) (by kernel_rfl) (fun _ _ _ h => h) (Or.inl ⟨by rfl, by (intro w hSw; (try dsimp only at hSw); go_simp) <;> with_reducible rfl⟩) (by assumption) ?_
      (try simp only [List.getElem_toArray, List.getElem_cons_succ, List.getElem_cons_zero, Act.put, List.setIfInBounds_toArray, List.set_cons_zero, List.set_cons_succ])
      refine wpAnyH_ready (rs := [13]) (by kernel_rfl) (by simp) ?_
      refine AllReadyH.cons rfl (fun K hK => ?_) AllReadyH.nil
      go_simp
      go_at_call 12
      refine hs.out.mono ?_
      rintro e w6 ⟨vr, fs2, rfl, hfd, hfi, htw, hkx⟩
      obtain ⟨ar, cr, rfl⟩ := hfi.rows.shape
      have h6 := (H2.out.1.keep0 (Keep.refl [] wc).drew).link hkx (htw.sub (Y := frBlocks fs2 ++ XX) (fun x hx => List.mem_append_right _ hx)).swap (fun x hx => List.mem_append_right _ hx)
      have xw : w6.cell? ⟨g, 2, none⟩ = some (.slice aw fs.length cw) := h6.head.cell 2
      have xg : w6.cell? ⟨g, 1, none⟩ = some (.pointer (some ⟨pb, 0, none⟩)) := h6.head.cell 1
      have xn : w6.cell? ⟨g, 3, none⟩ = some (.int .i64 now) := h6.head.cell 3
      have hby : ∀ s ∈ fs2, ByAt (frBlocks fs2 ++ XX) w0 w6 ⟨s.bs, s.bv⟩ := fun s hs => Or.inl ⟨OwnsAt.mono (hfi.bytes s hs) (Nat.zero_le _), fun x hx => List.mem_append_left _ (mem_frBlocks.2 ⟨s, hs, mem_own.1 hx⟩)⟩
      have hl2 : fs2.length ≤ 100000 := by have h9 := congrArg List.length hfd; rw [List.length_map] at h9; have := Hof.out; omega
      have H6 := Lib.hid (And.intro h6 (And.intro hfi hby))
      have Hfd := Lib.hid hfd
      have Hl2 := Lib.hid hl2
      clear h6 hfi hby htw hkx hfd hs hl2
      go_wp2_with fail
      refine hK.out _ _ ⟨xw, xg, xn⟩ (fun hHeld => ?_)
      clear hK K xw xg xn
      (try simp only [List.getElem_toArray, List.getElem_cons_succ, List.getElem_cons_zero, Act.put, List.setIfInBounds_toArray, List.set_cons_zero, List.set_cons_succ])
      refine wpAnyH_ready (rs := [14]) (by kernel_rfl) (by simp) ?_
      refine AllReadyH.cons (o := { dst := some 147, op := .call { callee := .builtin .append, args := #[.tmp 137, .tmp 146], argTypes := #[36, 36] }, type := 36, pos := "law.go:167", after := #[{ on := 4, ground := .data }, { on := 13, ground := .data }, { on := 13, ground := .chain }], guard := none }) rfl (fun K hK => ?_) AllReadyH.nil
      refine step_append_off rfl (.tmp 137) (.tmp 146) rfl Try.frs36 w0.heap.size (.slice aw fs.length cw) fs.length (fs.flatMap FR.c) (by simp [Act.eval]) H6.out.1.way (.slice ar fs2.length cr) fs2.length (fs2.flatMap FR.c) (by simp [Act.eval]) (src_own2 H6.out.2.1.rows) (fr_one H6.out.1.out H6.out.2.2) (by unfold maxLen; have := Hfl.out; have := Hl2.out; omega) (by have := Hfl.out; have := Hl2.out; omega) H6.out.1.out.size ?_
      intro v' w4 hown4 hk4 hat4
      have hrow := H6.out.1.ways (v' := v') (fs' := fs ++ fs2) hk4 (by rw [List.length_append, List.flatMap_append]; exact hown4) (by
        rcases hat4 with h | h
        · exact Or.inl h
        · exact Or.inr (fun x hx => by have := mem_own.1 hx; rw [h] at this; injection this with this; rw [← this]; exact Nat.le_refl _)) (fun s hs => by
        rcases List.mem_append.1 hs with hs | hs
        · exact H6.out.1.frs s hs
        · exact H6.out.2.2 s hs)
      have hg4 := H6.out.1.head.keep hk4 (fun hx => OwnsAt.ne_blk H6.out.1.way H6.out.1.head (by decide) (mem_own.1 hx))
      have xw : w4.cell? ⟨g, 2, none⟩ = some (.slice aw fs.length cw) := hg4.cell 2
      have xg : w4.cell? ⟨g, 1, none⟩ = some (.pointer (some ⟨pb, 0, none⟩)) := hg4.cell 1
      have xn : w4.cell? ⟨g, 3, none⟩ = some (.int .i64 now) := hg4.cell 3
      have yf : w4.frozen? ⟨g, 2, none⟩ = false := hg4.frozen 2
      obtain ⟨a7, c7, rfl⟩ := hown4.shape
      refine hK.out _ _ ⟨xw, xg, xn⟩ (fun hHeld => ?_)
      clear hK K
      (try simp only [List.getElem_toArray, List.getElem_cons_succ, List.getElem_cons_zero, Act.put, List.setIfInBounds_toArray, List.set_cons_zero, List.set_cons_succ])
      refine wpAnyH_take (i := 15) (v := ?_) rfl (by kernel_rfl) (by kernel_rfl) (by kernel_rfl) (fun _ _ _ h => h) (Or.inl ⟨by rfl, by (intro w hSw; (try dsimp only at hSw); go_simp) <;> with_reducible rfl⟩) (by assumption) ?_
      (try simp only [List.getElem_toArray, List.getElem_cons_succ, List.getElem_cons_zero, Act.put, List.setIfInBounds_toArray, List.set_cons_zero, List.set_cons_succ])
      refine wpAnyH_take (i := 16) (v := ?_) rfl (by kernel_rfl) (by kernel_rfl) (by kernel_rfl) (fun _ _ _ h => h) (Or.inl ⟨by rfl, by (intro w hSw; (try dsimp only at hSw); go_simp) <;> with_reducible rfl⟩) (by assumption) ?_
      (try simp only [List.getElem_toArray, List.getElem_cons_succ, List.getElem_cons_zero, Act.put, List.setIfInBounds_toArray, List.set_cons_zero, List.set_cons_succ])
      have HR := Lib.hid hrow
      clear hrow hown4 hk4 hat4 hg4 xg xn
      refine wpAnyH_done (by kernel_rfl) ?_ _
      show Oper.wp _ _ _ _ _ _
      go_simp
      clear hHeld
      go_upto_region 18 with fail
      clear xw yf
      generalize w4.setCell ⟨g, 2, none⟩ (.slice a7 (fs.length + fs2.length) c7) = w5 at *
      have xn : w5.cell? ⟨g, 3, none⟩ = some (.int .i64 now) := HR.out.head.cell 3
      have yf : w5.frozen? ⟨g, 3, none⟩ = false := HR.out.head.frozen 3
      have hwr : IntKind.i64.wrap (now + 1) = now + 1 := IntWalk.i64_in _ (by have := Hnow.out; omega)
      have Hfin := Lib.hid (HR.out.hour (now + 1))
      clear HR
      go_wp2_with fail
      go_ret
      unfold turn_out1_post
      exact ⟨rfl, _, _, _, fs2, Hfd.out, Hfin.out⟩

def turn_send0_post (w0 : World) (g pa pb : Nat) (a b : LK) (fs : List FR) (now k : Int) (o : Nat → List BV) (bs : List UInt8) (v : Value) (e : Ending) (w' : World) : Prop := e = .returned (.bool true) ∧ ∃ q2 X' vw' u', SentC a bs q2 ∧ PairIn X' w0 w' g pa pb vw' u' q2 b fs now (if sendC a bs = 0 then (fun j => if j = 3 then o 3 ++ [⟨bs, v⟩] else o j) else o)
set_option maxHeartbeats 16000000 in
set_option maxRecDepth 100000 in
theorem turn_send0 {X : List Nat} {w0 w : World} {g pa pb : Nat} {vw : Value} {u : Nat → Value} {a b : LK} {fs : List FR} {now : Int} {o : Nat → List BV} {way k : Int} {bs : List UInt8} {v : Value}
    (h : PairIn X w0 w g pa pb vw u a b fs now o) (hv : ByAt X w0 w ⟨bs, v⟩) (hk : -9223372036854775808 ≤ k ∧ k ≤ 9223372036854775807) (hfl : fs.length ≤ 100000) (hway : way = 0) (hok : OkL a) (hbl : bs.length ≤ 1000000) (hlo : (o 3).length ≤ 200000) :
    Calls Try.prog 15 #[.pointer (some ⟨g, 0, none⟩), .agg #[.int .i64 way, .int .i64 k, v]] w (turn_send0_post w0 g pa pb a b fs now k o bs v) := by
  obtain ⟨av, cv, rfl⟩ : ∃ av cv, v = .slice av bs.length cv := (hv.of h.out).shape
  obtain ⟨aw, cw, rfl⟩ := h.way.shape
  have kA : Keep [] w (w.alloc (.cells #[.int .i64 way, .int .i64 k, .slice av bs.length cv] 54)) := (Keep.refl _ _).alloc _
  have bA : Blk (w.alloc (.cells #[.int .i64 way, .int .i64 k, .slice av bs.length cv] 54)) w.heap.size 54 [.int .i64 way, .int .i64 k, .slice av bs.length cv] := Blk.new' _ _ _ _ rfl
  have h2 := h.more (Y := [w.heap.size]) kA (by simp)
  have hv2 := (hv.kx (KX.of0 (X := X) kA)).sub (Y := [w.heap.size] ++ X) (fun x hx => List.mem_append_right _ hx)
  have H2 := Lib.hid (And.intro h2 (And.intro hv2 bA))
  have hflI : (fs.length : Int) ≤ 100000 := by omega
  have Hfl := Lib.hid hfl
  have hkk := kNum_ok hk
  have hgt : w.heap.size ∈ [w.heap.size] ++ X := by simp
  generalize hXX : [w.heap.size] ++ X = XX at *
  have t0 : (way == 0) = true := by simpa using hway
  clear h h2 hv hv2 bA kA hXX hfl hway
  go_enter Try.func15, Try.ntmps15
  go_upto_region 1 with fail
  generalize hwA : w.alloc (.cells #[.int .i64 way, .int .i64 k, .slice av bs.length cv] 54) = wA at *
  generalize hgA : w.heap.size = gA at *
  clear hwA hgA
  have x1 : wA.cell? ⟨gA, 1, none⟩ = some (.int .i64 k) := H2.out.2.2.cell 1
  go_upto_if 12 with fail
  clear x1
  go_cut [5] from 13 to 15 (fun v5 wx => v5 = .int .i64 (kNum k) ∧ wx = wA)
  case first =>
    by_cases hneg : k < 0
    · have e1 : IntKind.i64.wrap (k + 1) = k + 1 := IntWalk.i64_in _ (by omega)
      have e2 : IntKind.i64.wrap (-(k + 1)) = -(k + 1) := IntWalk.i64_in _ (by omega)
      have e3 : kNum k = -(k + 1) := by unfold kNum; rw [if_pos hneg]
      clear hkk
      go_wp2
      go_meet
      case rel => exact ⟨by rw [e3], rfl⟩
    · have e3 : kNum k = k := by unfold kNum; rw [if_neg hneg]
      clear hkk
      go_wp2
      go_meet
      case rel => exact ⟨by rw [e3], rfl⟩
  case rest =>
    obtain ⟨rfl, rfl⟩ := hcut
    clear hk
    have xw : wc.cell? ⟨g, 2, none⟩ = some (.slice aw fs.length cw) := H2.out.1.head.cell 2
    go_upto_if 21 with fail
    go_cut [5] from 21 to 28 (fun v5 wx => (∃ j : Int, v5 = .int .i64 j ∧ (0 < fs.length → j = (kIn k fs.length : Nat))) ∧ wx = wc)
    case first =>
      have hkin := Lib.hid (show kIn k fs.length = (kNum k).toNat % fs.length from rfl)
      generalize kNum k = kk at *
      obtain ⟨kn, rfl⟩ := Int.eq_ofNat_of_zero_le hkk.1
      have hm : (kn : Int).tmod (fs.length : Int) = ((kn % fs.length : Nat) : Int) := by rw [Int.tmod_eq_emod_of_nonneg (by omega)]; rfl
      obtain ⟨r, hr⟩ : ∃ r, r = kn % fs.length := ⟨_, rfl⟩
      rw [← hr] at hm
      have Hr : Hid ((kn : Int) % (fs.length : Int) = (r : Int)) := Lib.hid (by rw [hr]; rfl)
      have hkin2 : Hid (kIn k fs.length = r) := Lib.hid (by rw [hkin.out, hr]; simp)
      by_cases hlen : 0 < fs.length
      · have hlenI : (0 : Int) < (fs.length : Int) := by omega
        have hne : ((fs.length : Int) == 0) = false := by simp only [beq_eq_false_iff_ne, ne_eq]; omega
        have hmod : r < fs.length := by rw [hr]; exact Nat.mod_lt kn hlen
        have hmw : IntKind.i64.wrap ((kn : Int).tmod (fs.length : Int)) = (r : Int) := by rw [hm]; exact IntWalk.i64_in _ (by omega)
        clear hm hmod hr
        go_wp2
        go_meet
        case rel => exact ⟨⟨_, rfl, fun _ => by rw [hkin2.out]; first | exact Hr.out | rfl⟩, rfl⟩
      · have hlenI : ¬ (0 : Int) < (fs.length : Int) := by omega
        clear hm hr
        go_wp2
        all_goals (go_meet; case rel => exact ⟨⟨_, rfl, fun h => absurd h hlen⟩, rfl⟩)
    case rest =>
      rename_i wp hcut1
      obtain ⟨⟨j, rfl, hj⟩, rfl⟩ := hcut
      clear hkk xw
      have Hj := Lib.hid hj
      clear hj
      have x0 : wc.cell? ⟨gA, 0, none⟩ = some (.int .i64 way) := H2.out.2.2.cell 0
      have xg : wc.cell? ⟨g, 0, none⟩ = some (.pointer (some ⟨pa, 0, none⟩)) := H2.out.1.head.cell 0
      have x2 : wc.cell? ⟨gA, 2, none⟩ = some (.slice av bs.length cv) := H2.out.2.2.cell 2
      have hs := Lib.hid (tw_send (bs := bs) (v := .slice av bs.length cv) (H2.out.1.tw.keep0 (Keep.refl [] wc).drew) (fun w' k => ((H2.out.2.1.kx (KX.of0 (X := XX) (Keep.refl [] wc).drew)).kx k).of (k.out (H2.out.1.out.trans (Keep.refl [] wc).drew (by simp)))) hok (by omega))
      have hCb : 0 ≤ sendC a bs ∧ sendC a bs ≤ 1000 := by unfold sendC; repeat' split
                                                          all_goals omega
      have hbl' := Lib.hid hbl
      clear hbl hok
      go_upto_region 8 with fail
      clear x0
      go_region_held3 (fun w' => w'.cell? ⟨g, 0, none⟩ = some (.pointer (some ⟨pa, 0, none⟩)) ∧ w'.cell? ⟨gA, 2, none⟩ = some (.slice av bs.length cv))
        (first | exact ⟨by assumption, by assumption⟩ | go_keep)
        (first
          | (go_at_call 11; refine hs.out.mono ?_; rintro e w6 ⟨q2, rfl, hst, htw, hkx⟩; have y0 : w6.cell? ⟨g, 0, none⟩ = some (.pointer (some ⟨pa, 0, none⟩)) := (hkx.blk H2.out.1.head H2.out.1.gX).cell 0; have y2 : w6.cell? ⟨gA, 2, none⟩ = some (.slice av bs.length cv) := (hkx.blk H2.out.2.2 hgt).cell 2)
          | (go_at_call 19; go_must (refine (num_spec _ _ hCb).mono ?_; rintro e y1 ⟨rfl, rfl⟩)))
      have h6 := (H2.out.1.keep0 (Keep.refl [] wc).drew).link hkx htw (fun _ h => h)
      have hby6 := (H2.out.2.1.kx (KX.of0 (X := XX) (Keep.refl [] wc).drew)).kx hkx
      have hnew := (h6.rows 3 (by omega)).rows
      obtain ⟨a0, c0, hu0⟩ := hnew.shape
      have yc : w6.cell? ⟨g, 7, none⟩ = some (.slice a0 (o 3).length c0) := by rw [← hu0]; exact h6.head.cell 7
      have b6 := hkx.blk H2.out.2.2 hgt
      have Hst := Lib.hid hst
      have H6 := Lib.hid (And.intro h6 (And.intro hby6 b6))
      have Hu0 := Lib.hid hu0
      have Hlo := Lib.hid hlo
      clear hst htw hkx h6 hby6 hnew hu0 hlo xg x2 y0 hs b6 H2
      by_cases hC0 : sendC a bs = 0
      · have hb0 : (sendC a bs == 0) = true := by simpa using hC0
        have HC := Lib.hid hC0
        generalize hCe : sendC a bs = C at *
        have HCe := Lib.hid hCe
        clear hC0 hCb hCe
        go_upto_region 9 with fail
        refine wp_region_split 13 (fun w' => w'.cell? ⟨g, 7, none⟩ = some (.slice a0 (o 3).length c0) ∧ w'.cell? ⟨gA, 2, none⟩ = some (.slice av bs.length cv)) (by kernel_rfl) rfl (by kernel_rfl) ⟨yc, y2⟩ ?_
        clear yc y2
        intro hHeld
        simp only [List.take_succ_cons, List.take_zero]
        refine wpAnyH_take (i := 0) (v := ?_) rfl (by kernel_rfl) (by kernel_rfl) (by kernel_rfl) (fun _ _ _ h => h) (Or.inl ⟨by rfl, by (intro w hSw; (try dsimp only at hSw); go_simp) <;> with_reducible rfl⟩) (by assumption) ?_
        (try simp only [List.getElem_toArray, List.getElem_cons_succ, List.getElem_cons_zero, Act.put, List.setIfInBounds_toArray, List.set_cons_zero, List.set_cons_succ])
        refine wpAnyH_take (i := 1) (v := ?_) rfl (by kernel_rfl) (by kernel_rfl) (by kernel_rfl) (fun _ _ _ h => h) (Or.inl ⟨by rfl, by (intro w hSw; (try dsimp only at hSw); go_simp) <;> with_reducible rfl⟩) (by assumption) ?_
        (try simp only [List.getElem_toArray, List.getElem_cons_succ, List.getElem_cons_zero, Act.put, List.setIfInBounds_toArray, List.set_cons_zero, List.set_cons_succ])
        refine wpAnyH_take (i := 2) (v := ?_) rfl (by kernel_rfl) (by kernel_rfl) (by kernel_rfl) (fun _ _ _ h => h) (Or.inl ⟨by rfl, by (intro w hSw; (try dsimp only at hSw); go_simp) <;> with_reducible rfl⟩) (by assumption) ?_
        (try simp only [List.getElem_toArray, List.getElem_cons_succ, List.getElem_cons_zero, Act.put, List.setIfInBounds_toArray, List.set_cons_zero, List.set_cons_succ])
        refine wpAnyH_take (i := 3) (v := ?_) rfl (by kernel_rfl) (by kernel_rfl) (by kernel_rfl) (fun _ _ _ h => h) (Or.inl ⟨by rfl, by (intro w hSw; (try dsimp only at hSw); go_simp) <;> with_reducible rfl⟩) (by assumption) ?_
        (try simp only [List.getElem_toArray, List.getElem_cons_succ, List.getElem_cons_zero, Act.put, List.setIfInBounds_toArray, List.set_cons_zero, List.set_cons_succ])
        refine wpAnyH_take (i := 4) (v := ?_) rfl (by kernel_rfl) (by kernel_rfl) (by kernel_rfl) (fun _ _ _ h => h) (Or.inl ⟨by rfl, by (intro w hSw; (try dsimp only at hSw); go_simp) <;> with_reducible rfl⟩) (by assumption) ?_
        (try simp only [List.getElem_toArray, List.getElem_cons_succ, List.getElem_cons_zero, Act.put, List.setIfInBounds_toArray, List.set_cons_zero, List.set_cons_succ])
        refine wpAnyH_take (i := 5) (v := ?_) rfl (by kernel_rfl) (by kernel_rfl) (by kernel_rfl) (fun _ _ _ h => h) (Or.inl ⟨by rfl, by (intro w hSw; (try dsimp only at hSw); go_simp) <;> with_reducible rfl⟩) (by assumption) ?_
        (try simp only [List.getElem_toArray, List.getElem_cons_succ, List.getElem_cons_zero, Act.put, List.setIfInBounds_toArray, List.set_cons_zero, List.set_cons_succ])
        refine wpAnyH_take (i := 6) (v := ?_) rfl (by kernel_rfl) (by kernel_rfl) (by kernel_rfl) (fun _ _ _ h => h) (Or.inl ⟨by rfl, by (intro w hSw; (try dsimp only at hSw); go_simp) <;> with_reducible rfl⟩) (by assumption) ?_
        (try simp only [List.getElem_toArray, List.getElem_cons_succ, List.getElem_cons_zero, Act.put, List.setIfInBounds_toArray, List.set_cons_zero, List.set_cons_succ])
        refine wpAnyH_take (i := 7) (v := ?_) rfl (by kernel_rfl) (by kernel_rfl) (by kernel_rfl) (fun _ _ _ h => h) (Or.inl ⟨by rfl, by (intro w hSw; (try dsimp only at hSw); go_simp) <;> with_reducible rfl⟩) (by assumption) ?_
        (try simp only [List.getElem_toArray, List.getElem_cons_succ, List.getElem_cons_zero, Act.put, List.setIfInBounds_toArray, List.set_cons_zero, List.set_cons_succ])
        refine wpAnyH_take (i := 10) (v := ?_) rfl (by kernel_rfl) (by kernel_rfl) (by kernel_rfl) (fun _ _ _ h => h) (Or.inl ⟨by rfl, by (intro w hSw; (try dsimp only at hSw); go_simp) <;> with_reducible rfl⟩) (by assumption) ?_
        (try simp only [List.getElem_toArray, List.getElem_cons_succ, List.getElem_cons_zero, Act.put, List.setIfInBounds_toArray, List.set_cons_zero, List.set_cons_succ])
        refine wpAnyH_take (i := 11) (v := ?_) rfl (by kernel_rfl) (by kernel_rfl) (by kernel_rfl) (fun _ _ _ h => h) (Or.inl ⟨by rfl, by (intro w hSw; (try dsimp only at hSw); go_simp) <;> with_reducible rfl⟩) (by assumption) ?_
        (try simp only [List.getElem_toArray, List.getElem_cons_succ, List.getElem_cons_zero, Act.put, List.setIfInBounds_toArray, List.set_cons_zero, List.set_cons_succ])
        refine wpAnyH_ready (rs := [8]) (by kernel_rfl) (by simp) ?_
        refine AllReadyH.cons rfl (fun K hK => ?_) AllReadyH.nil
        go_simp
        have k1 : Keep [] w6 (w6.drew.alloc (.cells #[.slice av bs.length cv] 35)) := (Keep.refl [] w6).drew.alloc _
        have h7 := H6.out.1.keep0 k1
        have b7 := H6.out.2.2.keep k1 (by simp)
        have yc : (w6.drew.alloc (.cells #[.slice av bs.length cv] 35)).cell? ⟨g, 7, none⟩ = some (.slice a0 (o 3).length c0) := by rw [← Hu0.out]; exact h7.head.cell 7
        have y2 : (w6.drew.alloc (.cells #[.slice av bs.length cv] 35)).cell? ⟨gA, 2, none⟩ = some (.slice av bs.length cv) := b7.cell 2
        refine hK.out _ _ ⟨yc, y2⟩ (fun hHeld => ?_)
        clear hK K yc y2
        (try simp only [List.getElem_toArray, List.getElem_cons_succ, List.getElem_cons_zero, Act.put, List.setIfInBounds_toArray, List.set_cons_zero, List.set_cons_succ])
        refine wpAnyH_ready (rs := [9]) (by kernel_rfl) (by simp) ?_
        refine AllReadyH.cons (o := { dst := some 69, op := .call { callee := .builtin .append, args := #[.tmp 65, .tmp 68], argTypes := #[42, 42] }, type := 42, pos := "law.go:157", after := #[{ on := 5, ground := .data }, { on := 8, ground := .data }], guard := none }) rfl (fun K hK => ?_) AllReadyH.nil
        refine step_append_off rfl (.tmp 65) (.tmp 68) rfl Try.bss42 w0.heap.size (.slice a0 (o 3).length c0) (o 3).length ((o 3).map BV.bv) (by simp [Act.eval]) (by rw [← Hu0.out]; exact (h7.rows 3 (by omega)).rows) (.slice (some ⟨w6.drew.heap.size, 0, none⟩) 1 1) 1 [.slice av bs.length cv] (by simp [Act.eval]) (src_row 1 rfl _ rfl) (by simp [Value.oneCell']) (by unfold maxLen; have := Hlo.out; omega) (by have := Hlo.out; omega) h7.out.size ?_
        intro v' w4 hown4 hk4 hat4
        have hk4' : Keep (ownBlocks (u 3)) w6 w4 := by rw [Hu0.out]; exact ((Keep.refl _ _).trans k1 (by simp)).trans hk4 (fun x hx => Or.inl hx)
        have hrow := H6.out.1.row (i := 3) (v' := v') (os' := o 3 ++ [⟨bs, .slice av bs.length cv⟩]) (by omega) hk4' (by rw [List.length_append, List.map_append]; exact hown4) (by
          rcases hat4 with h | h
          · exact Or.inl (by rw [Hu0.out]; exact h)
          · exact Or.inr (fun x hx => by have := mem_own.1 hx; rw [h] at this; injection this with this; rw [← this]; simp)) (fun s hs => by
          rcases List.mem_append.1 hs with hs | hs
          · exact (H6.out.1.rows 3 (by omega)).bytes s hs
          · obtain rfl : s = ⟨bs, .slice av bs.length cv⟩ := by simpa using hs
            exact H6.out.2.1)
        have hg4 := H6.out.1.head.keep hk4' (fun hx => OwnsAt.ne_blk (H6.out.1.rows 3 (by omega)).rows H6.out.1.head (by decide) (mem_own.1 hx))
        have yc : w4.cell? ⟨g, 7, none⟩ = some (.slice a0 (o 3).length c0) := by rw [← Hu0.out]; exact hg4.cell 7
        have y2 : w4.cell? ⟨gA, 2, none⟩ = some (.slice av bs.length cv) := (H6.out.2.2.keep hk4' (fun hx => OwnsAt.ne_blk (H6.out.1.rows 3 (by omega)).rows H6.out.2.2 (by decide) (mem_own.1 hx))).cell 2
        have yf : w4.frozen? ⟨g, 7, none⟩ = false := hg4.frozen 7
        obtain ⟨a7, c7, rfl⟩ := hown4.shape
        refine hK.out _ _ ⟨yc, y2⟩ (fun hHeld => ?_)
        clear hK K
        (try simp only [List.getElem_toArray, List.getElem_cons_succ, List.getElem_cons_zero, Act.put, List.setIfInBounds_toArray, List.set_cons_zero, List.set_cons_succ])
        refine wpAnyH_take (i := 12) (v := ?_) rfl (by kernel_rfl) (by kernel_rfl) (by kernel_rfl) (fun _ _ _ h => h) (Or.inl ⟨by rfl, by (intro w hSw; (try dsimp only at hSw); go_simp) <;> with_reducible rfl⟩) (by assumption) ?_
        (try simp only [List.getElem_toArray, List.getElem_cons_succ, List.getElem_cons_zero, Act.put, List.setIfInBounds_toArray, List.set_cons_zero, List.set_cons_succ])
        have Hfin := Lib.hid hrow
        clear hrow hown4 hk4 hat4 hk4' hg4 h7 b7 k1 y2
        refine wpAnyH_done (by kernel_rfl) ?_ _
        show Oper.wp _ _ _ _ _ _
        go_simp
        clear hHeld
        go_wp2_with fail
        go_ret
        unfold turn_send0_post
        exact ⟨rfl, q2, _, _, _, Hst.out, by rw [HCe.out, if_pos HC.out]; exact Hfin.out⟩
      · have hb0 : (sendC a bs == 0) = false := by simpa using hC0
        have HC := Lib.hid hC0
        have Hfin := Lib.hid H6.out.1
        generalize hCe : sendC a bs = C at *
        have HCe := Lib.hid hCe
        clear hC0 hCb yc y2 hCe
        go_wp2_with fail
        go_ret
        unfold turn_send0_post
        exact ⟨rfl, q2, _, _, _, Hst.out, by rw [HCe.out, if_neg HC.out]; exact Hfin.out⟩

def turn_send1_post (w0 : World) (g pa pb : Nat) (a b : LK) (fs : List FR) (now k : Int) (o : Nat → List BV) (bs : List UInt8) (v : Value) (e : Ending) (w' : World) : Prop := e = .returned (.bool true) ∧ ∃ q2 X' vw' u', SentC b bs q2 ∧ PairIn X' w0 w' g pa pb vw' u' a q2 fs now (if sendC b bs = 0 then (fun j => if j = 2 then o 2 ++ [⟨bs, v⟩] else o j) else o)
set_option maxHeartbeats 16000000 in
set_option maxRecDepth 100000 in
theorem turn_send1 {X : List Nat} {w0 w : World} {g pa pb : Nat} {vw : Value} {u : Nat → Value} {a b : LK} {fs : List FR} {now : Int} {o : Nat → List BV} {way k : Int} {bs : List UInt8} {v : Value}
    (h : PairIn X w0 w g pa pb vw u a b fs now o) (hv : ByAt X w0 w ⟨bs, v⟩) (hk : -9223372036854775808 ≤ k ∧ k ≤ 9223372036854775807) (hfl : fs.length ≤ 100000) (hway : way = 1) (hok : OkL b) (hbl : bs.length ≤ 1000000) (hlo : (o 2).length ≤ 200000) :
    Calls Try.prog 15 #[.pointer (some ⟨g, 0, none⟩), .agg #[.int .i64 way, .int .i64 k, v]] w (turn_send1_post w0 g pa pb a b fs now k o bs v) := by
  obtain ⟨av, cv, rfl⟩ : ∃ av cv, v = .slice av bs.length cv := (hv.of h.out).shape
  obtain ⟨aw, cw, rfl⟩ := h.way.shape
  have kA : Keep [] w (w.alloc (.cells #[.int .i64 way, .int .i64 k, .slice av bs.length cv] 54)) := (Keep.refl _ _).alloc _
  have bA : Blk (w.alloc (.cells #[.int .i64 way, .int .i64 k, .slice av bs.length cv] 54)) w.heap.size 54 [.int .i64 way, .int .i64 k, .slice av bs.length cv] := Blk.new' _ _ _ _ rfl
  have h2 := h.more (Y := [w.heap.size]) kA (by simp)
  have hv2 := (hv.kx (KX.of0 (X := X) kA)).sub (Y := [w.heap.size] ++ X) (fun x hx => List.mem_append_right _ hx)
  have H2 := Lib.hid (And.intro h2 (And.intro hv2 bA))
  have hflI : (fs.length : Int) ≤ 100000 := by omega
  have Hfl := Lib.hid hfl
  have hkk := kNum_ok hk
  have hgt : w.heap.size ∈ [w.heap.size] ++ X := by simp
  generalize hXX : [w.heap.size] ++ X = XX at *
  have t0 : (way == 0) = false := by rw [hway]; rfl
  have t1 : (way == 1) = true := by simpa using hway
  clear h h2 hv hv2 bA kA hXX hfl hway
  go_enter Try.func15, Try.ntmps15
  go_upto_region 1 with fail
  generalize hwA : w.alloc (.cells #[.int .i64 way, .int .i64 k, .slice av bs.length cv] 54) = wA at *
  generalize hgA : w.heap.size = gA at *
  clear hwA hgA
  have x1 : wA.cell? ⟨gA, 1, none⟩ = some (.int .i64 k) := H2.out.2.2.cell 1
  go_upto_if 12 with fail
  clear x1
  go_cut [5] from 13 to 15 (fun v5 wx => v5 = .int .i64 (kNum k) ∧ wx = wA)
  case first =>
    by_cases hneg : k < 0
    · have e1 : IntKind.i64.wrap (k + 1) = k + 1 := IntWalk.i64_in _ (by omega)
      have e2 : IntKind.i64.wrap (-(k + 1)) = -(k + 1) := IntWalk.i64_in _ (by omega)
      have e3 : kNum k = -(k + 1) := by unfold kNum; rw [if_pos hneg]
      clear hkk
      go_wp2
      go_meet
      case rel => exact ⟨by rw [e3], rfl⟩
    · have e3 : kNum k = k := by unfold kNum; rw [if_neg hneg]
      clear hkk
      go_wp2
      go_meet
      case rel => exact ⟨by rw [e3], rfl⟩
  case rest =>
    obtain ⟨rfl, rfl⟩ := hcut
    clear hk
    have xw : wc.cell? ⟨g, 2, none⟩ = some (.slice aw fs.length cw) := H2.out.1.head.cell 2
    go_upto_if 21 with fail
    go_cut [5] from 21 to 28 (fun v5 wx => (∃ j : Int, v5 = .int .i64 j ∧ (0 < fs.length → j = (kIn k fs.length : Nat))) ∧ wx = wc)
    case first =>
      have hkin := Lib.hid (show kIn k fs.length = (kNum k).toNat % fs.length from rfl)
      generalize kNum k = kk at *
      obtain ⟨kn, rfl⟩ := Int.eq_ofNat_of_zero_le hkk.1
      have hm : (kn : Int).tmod (fs.length : Int) = ((kn % fs.length : Nat) : Int) := by rw [Int.tmod_eq_emod_of_nonneg (by omega)]; rfl
      obtain ⟨r, hr⟩ : ∃ r, r = kn % fs.length := ⟨_, rfl⟩
      rw [← hr] at hm
      have Hr : Hid ((kn : Int) % (fs.length : Int) = (r : Int)) := Lib.hid (by rw [hr]; rfl)
      have hkin2 : Hid (kIn k fs.length = r) := Lib.hid (by rw [hkin.out, hr]; simp)
      by_cases hlen : 0 < fs.length
      · have hlenI : (0 : Int) < (fs.length : Int) := by omega
        have hne : ((fs.length : Int) == 0) = false := by simp only [beq_eq_false_iff_ne, ne_eq]; omega
        have hmod : r < fs.length := by rw [hr]; exact Nat.mod_lt kn hlen
        have hmw : IntKind.i64.wrap ((kn : Int).tmod (fs.length : Int)) = (r : Int) := by rw [hm]; exact IntWalk.i64_in _ (by omega)
        clear hm hmod hr
        go_wp2
        go_meet
        case rel => exact ⟨⟨_, rfl, fun _ => by rw [hkin2.out]; first | exact Hr.out | rfl⟩, rfl⟩
      · have hlenI : ¬ (0 : Int) < (fs.length : Int) := by omega
        clear hm hr
        go_wp2
        all_goals (go_meet; case rel => exact ⟨⟨_, rfl, fun h => absurd h hlen⟩, rfl⟩)
    case rest =>
      rename_i wp hcut1
      obtain ⟨⟨j, rfl, hj⟩, rfl⟩ := hcut
      clear hkk xw
      have Hj := Lib.hid hj
      clear hj
      have x0 : wc.cell? ⟨gA, 0, none⟩ = some (.int .i64 way) := H2.out.2.2.cell 0
      have xg : wc.cell? ⟨g, 1, none⟩ = some (.pointer (some ⟨pb, 0, none⟩)) := H2.out.1.head.cell 1
      have x2 : wc.cell? ⟨gA, 2, none⟩ = some (.slice av bs.length cv) := H2.out.2.2.cell 2
      have hs := Lib.hid (tw_send (bs := bs) (v := .slice av bs.length cv) (H2.out.1.tw.swap.keep0 (Keep.refl [] wc).drew) (fun w' k => ((H2.out.2.1.kx (KX.of0 (X := XX) (Keep.refl [] wc).drew)).kx k).of (k.out (H2.out.1.out.trans (Keep.refl [] wc).drew (by simp)))) hok (by omega))
      have hCb : 0 ≤ sendC b bs ∧ sendC b bs ≤ 1000 := by unfold sendC; repeat' split
                                                          all_goals omega
      have hbl' := Lib.hid hbl
      clear hbl hok
      go_upto_region 11 with fail
      clear x0
      go_region_held3 (fun w' => w'.cell? ⟨g, 1, none⟩ = some (.pointer (some ⟨pb, 0, none⟩)) ∧ w'.cell? ⟨gA, 2, none⟩ = some (.slice av bs.length cv))
        (first | exact ⟨by assumption, by assumption⟩ | go_keep)
        (first
          | (go_at_call 11; refine hs.out.mono ?_; rintro e w6 ⟨q2, rfl, hst, htw, hkx⟩; have y0 : w6.cell? ⟨g, 1, none⟩ = some (.pointer (some ⟨pb, 0, none⟩)) := (hkx.blk H2.out.1.head H2.out.1.gX).cell 1; have y2 : w6.cell? ⟨gA, 2, none⟩ = some (.slice av bs.length cv) := (hkx.blk H2.out.2.2 hgt).cell 2)
          | (go_at_call 19; go_must (refine (num_spec _ _ hCb).mono ?_; rintro e y1 ⟨rfl, rfl⟩)))
      have h6 := (H2.out.1.keep0 (Keep.refl [] wc).drew).link hkx htw.swap (fun _ h => h)
      have hby6 := (H2.out.2.1.kx (KX.of0 (X := XX) (Keep.refl [] wc).drew)).kx hkx
      have hnew := (h6.rows 2 (by omega)).rows
      obtain ⟨a0, c0, hu0⟩ := hnew.shape
      have yc : w6.cell? ⟨g, 6, none⟩ = some (.slice a0 (o 2).length c0) := by rw [← hu0]; exact h6.head.cell 6
      have b6 := hkx.blk H2.out.2.2 hgt
      have Hst := Lib.hid hst
      have H6 := Lib.hid (And.intro h6 (And.intro hby6 b6))
      have Hu0 := Lib.hid hu0
      have Hlo := Lib.hid hlo
      clear hst htw hkx h6 hby6 hnew hu0 hlo xg x2 y0 hs b6 H2
      by_cases hC0 : sendC b bs = 0
      · have hb0 : (sendC b bs == 0) = true := by simpa using hC0
        have HC := Lib.hid hC0
        generalize hCe : sendC b bs = C at *
        have HCe := Lib.hid hCe
        clear hC0 hCb hCe
        go_upto_region 12 with fail
        refine wp_region_split 13 (fun w' => w'.cell? ⟨g, 6, none⟩ = some (.slice a0 (o 2).length c0) ∧ w'.cell? ⟨gA, 2, none⟩ = some (.slice av bs.length cv)) (by kernel_rfl) rfl (by kernel_rfl) ⟨yc, y2⟩ ?_
        clear yc y2
        intro hHeld
        simp only [List.take_succ_cons, List.take_zero]
        refine wpAnyH_take (i := 0) (v := ?_) rfl (by kernel_rfl) (by kernel_rfl) (by kernel_rfl) (fun _ _ _ h => h) (Or.inl ⟨by rfl, by (intro w hSw; (try dsimp only at hSw); go_simp) <;> with_reducible rfl⟩) (by assumption) ?_
        (try simp only [List.getElem_toArray, List.getElem_cons_succ, List.getElem_cons_zero, Act.put, List.setIfInBounds_toArray, List.set_cons_zero, List.set_cons_succ])
        refine wpAnyH_take (i := 1) (v := ?_) rfl (by kernel_rfl) (by kernel_rfl) (by kernel_rfl) (fun _ _ _ h => h) (Or.inl ⟨by rfl, by (intro w hSw; (try dsimp only at hSw); go_simp) <;> with_reducible rfl⟩) (by assumption) ?_
        (try simp only [List.getElem_toArray, List.getElem_cons_succ, List.getElem_cons_zero, Act.put, List.setIfInBounds_toArray, List.set_cons_zero, List.set_cons_succ])
        refine wpAnyH_take (i := 2) (v := ?_) rfl (by kernel_rfl) (by kernel_rfl) (by kernel_rfl) (fun _ _ _ h => h) (Or.inl ⟨by rfl, by (intro w hSw; (try dsimp only at hSw); go_simp) <;> with_reducible rfl⟩) (by assumption) ?_
        (try simp only [List.getElem_toArray, List.getElem_cons_succ, List.getElem_cons_zero, Act.put, List.setIfInBounds_toArray, List.set_cons_zero, List.set_cons_succ])
        refine wpAnyH_take (i := 3) (v := ?_) rfl (by kernel_rfl) (by kernel_rfl) (by kernel_rfl) (fun _ _ _ h => h) (Or.inl ⟨by rfl, by (intro w hSw; (try dsimp only at hSw); go_simp) <;> with_reducible rfl⟩) (by assumption) ?_
        (try simp only [List.getElem_toArray, List.getElem_cons_succ, List.getElem_cons_zero, Act.put, List.setIfInBounds_toArray, List.set_cons_zero, List.set_cons_succ])
        refine wpAnyH_take (i := 4) (v := ?_) rfl (by kernel_rfl) (by kernel_rfl) (by kernel_rfl) (fun _ _ _ h => h) (Or.inl ⟨by rfl, by (intro w hSw; (try dsimp only at hSw); go_simp) <;> with_reducible rfl⟩) (by assumption) ?_
        (try simp only [List.getElem_toArray, List.getElem_cons_succ, List.getElem_cons_zero, Act.put, List.setIfInBounds_toArray, List.set_cons_zero, List.set_cons_succ])
        refine wpAnyH_take (i := 5) (v := ?_) rfl (by kernel_rfl) (by kernel_rfl) (by kernel_rfl) (fun _ _ _ h => h) (Or.inl ⟨by rfl, by (intro w hSw; (try dsimp only at hSw); go_simp) <;> with_reducible rfl⟩) (by assumption) ?_
        (try simp only [List.getElem_toArray, List.getElem_cons_succ, List.getElem_cons_zero, Act.put, List.setIfInBounds_toArray, List.set_cons_zero, List.set_cons_succ])
        refine wpAnyH_take (i := 6) (v := ?_) rfl (by kernel_rfl) (by kernel_rfl) (by kernel_rfl) (fun _ _ _ h => h) (Or.inl ⟨by rfl, by (intro w hSw; (try dsimp only at hSw); go_simp) <;> with_reducible rfl⟩) (by assumption) ?_
        (try simp only [List.getElem_toArray, List.getElem_cons_succ, List.getElem_cons_zero, Act.put, List.setIfInBounds_toArray, List.set_cons_zero, List.set_cons_succ])
        refine wpAnyH_take (i := 7) (v := ?_) rfl (by kernel_rfl) (by kernel_rfl) (by kernel_rfl) (fun _ _ _ h => h) (Or.inl ⟨by rfl, by (intro w hSw; (try dsimp only at hSw); go_simp) <;> with_reducible rfl⟩) (by assumption) ?_
        (try simp only [List.getElem_toArray, List.getElem_cons_succ, List.getElem_cons_zero, Act.put, List.setIfInBounds_toArray, List.set_cons_zero, List.set_cons_succ])
        refine wpAnyH_take (i := 10) (v := ?_) rfl (by kernel_rfl) (by kernel_rfl) (by kernel_rfl) (fun _ _ _ h => h) (Or.inl ⟨by rfl, by (intro w hSw; (try dsimp only at hSw); go_simp) <;> with_reducible rfl⟩) (by assumption) ?_
        (try simp only [List.getElem_toArray, List.getElem_cons_succ, List.getElem_cons_zero, Act.put, List.setIfInBounds_toArray, List.set_cons_zero, List.set_cons_succ])
        refine wpAnyH_take (i := 11) (v := ?_) rfl (by kernel_rfl) (by kernel_rfl) (by kernel_rfl) (fun _ _ _ h => h) (Or.inl ⟨by rfl, by (intro w hSw; (try dsimp only at hSw); go_simp) <;> with_reducible rfl⟩) (by assumption) ?_
        (try simp only [List.getElem_toArray, List.getElem_cons_succ, List.getElem_cons_zero, Act.put, List.setIfInBounds_toArray, List.set_cons_zero, List.set_cons_succ])
        refine wpAnyH_ready (rs := [8]) (by kernel_rfl) (by simp) ?_
        refine AllReadyH.cons rfl (fun K hK => ?_) AllReadyH.nil
        go_simp
        have k1 : Keep [] w6 (w6.drew.alloc (.cells #[.slice av bs.length cv] 35)) := (Keep.refl [] w6).drew.alloc _
        have h7 := H6.out.1.keep0 k1
        have b7 := H6.out.2.2.keep k1 (by simp)
        have yc : (w6.drew.alloc (.cells #[.slice av bs.length cv] 35)).cell? ⟨g, 6, none⟩ = some (.slice a0 (o 2).length c0) := by rw [← Hu0.out]; exact h7.head.cell 6
        have y2 : (w6.drew.alloc (.cells #[.slice av bs.length cv] 35)).cell? ⟨gA, 2, none⟩ = some (.slice av bs.length cv) := b7.cell 2
        refine hK.out _ _ ⟨yc, y2⟩ (fun hHeld => ?_)
        clear hK K yc y2
        (try simp only [List.getElem_toArray, List.getElem_cons_succ, List.getElem_cons_zero, Act.put, List.setIfInBounds_toArray, List.set_cons_zero, List.set_cons_succ])
        refine wpAnyH_ready (rs := [9]) (by kernel_rfl) (by simp) ?_
        refine AllReadyH.cons (o := { dst := some 97, op := .call { callee := .builtin .append, args := #[.tmp 93, .tmp 96], argTypes := #[42, 42] }, type := 42, pos := "law.go:161", after := #[{ on := 5, ground := .data }, { on := 8, ground := .data }], guard := none }) rfl (fun K hK => ?_) AllReadyH.nil
        refine step_append_off rfl (.tmp 93) (.tmp 96) rfl Try.bss42 w0.heap.size (.slice a0 (o 2).length c0) (o 2).length ((o 2).map BV.bv) (by simp [Act.eval]) (by rw [← Hu0.out]; exact (h7.rows 2 (by omega)).rows) (.slice (some ⟨w6.drew.heap.size, 0, none⟩) 1 1) 1 [.slice av bs.length cv] (by simp [Act.eval]) (src_row 1 rfl _ rfl) (by simp [Value.oneCell']) (by unfold maxLen; have := Hlo.out; omega) (by have := Hlo.out; omega) h7.out.size ?_
        intro v' w4 hown4 hk4 hat4
        have hk4' : Keep (ownBlocks (u 2)) w6 w4 := by rw [Hu0.out]; exact ((Keep.refl _ _).trans k1 (by simp)).trans hk4 (fun x hx => Or.inl hx)
        have hrow := H6.out.1.row (i := 2) (v' := v') (os' := o 2 ++ [⟨bs, .slice av bs.length cv⟩]) (by omega) hk4' (by rw [List.length_append, List.map_append]; exact hown4) (by
          rcases hat4 with h | h
          · exact Or.inl (by rw [Hu0.out]; exact h)
          · exact Or.inr (fun x hx => by have := mem_own.1 hx; rw [h] at this; injection this with this; rw [← this]; simp)) (fun s hs => by
          rcases List.mem_append.1 hs with hs | hs
          · exact (H6.out.1.rows 2 (by omega)).bytes s hs
          · obtain rfl : s = ⟨bs, .slice av bs.length cv⟩ := by simpa using hs
            exact H6.out.2.1)
        have hg4 := H6.out.1.head.keep hk4' (fun hx => OwnsAt.ne_blk (H6.out.1.rows 2 (by omega)).rows H6.out.1.head (by decide) (mem_own.1 hx))
        have yc : w4.cell? ⟨g, 6, none⟩ = some (.slice a0 (o 2).length c0) := by rw [← Hu0.out]; exact hg4.cell 6
        have y2 : w4.cell? ⟨gA, 2, none⟩ = some (.slice av bs.length cv) := (H6.out.2.2.keep hk4' (fun hx => OwnsAt.ne_blk (H6.out.1.rows 2 (by omega)).rows H6.out.2.2 (by decide) (mem_own.1 hx))).cell 2
        have yf : w4.frozen? ⟨g, 6, none⟩ = false := hg4.frozen 6
        obtain ⟨a7, c7, rfl⟩ := hown4.shape
        refine hK.out _ _ ⟨yc, y2⟩ (fun hHeld => ?_)
        clear hK K
        (try simp only [List.getElem_toArray, List.getElem_cons_succ, List.getElem_cons_zero, Act.put, List.setIfInBounds_toArray, List.set_cons_zero, List.set_cons_succ])
        refine wpAnyH_take (i := 12) (v := ?_) rfl (by kernel_rfl) (by kernel_rfl) (by kernel_rfl) (fun _ _ _ h => h) (Or.inl ⟨by rfl, by (intro w hSw; (try dsimp only at hSw); go_simp) <;> with_reducible rfl⟩) (by assumption) ?_
        (try simp only [List.getElem_toArray, List.getElem_cons_succ, List.getElem_cons_zero, Act.put, List.setIfInBounds_toArray, List.set_cons_zero, List.set_cons_succ])
        have Hfin := Lib.hid hrow
        clear hrow hown4 hk4 hat4 hk4' hg4 h7 b7 k1 y2
        refine wpAnyH_done (by kernel_rfl) ?_ _
        show Oper.wp _ _ _ _ _ _
        go_simp
        clear hHeld
        go_wp2_with fail
        go_ret
        unfold turn_send1_post
        exact ⟨rfl, q2, _, _, _, Hst.out, by rw [HCe.out, if_pos HC.out]; exact Hfin.out⟩
      · have hb0 : (sendC b bs == 0) = false := by simpa using hC0
        have HC := Lib.hid hC0
        have Hfin := Lib.hid H6.out.1
        generalize hCe : sendC b bs = C at *
        have HCe := Lib.hid hCe
        clear hC0 hCb yc y2 hCe
        go_wp2_with fail
        go_ret
        unfold turn_send1_post
        exact ⟨rfl, q2, _, _, _, Hst.out, by rw [HCe.out, if_neg HC.out]; exact Hfin.out⟩

end Go.Proofs.Ytacifjjhadjhfaa
