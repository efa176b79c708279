/- The law RingPlays, walked. -/
import Derived.Test.YtkeaekckblpfjaaRows
import Derived.Test.YtkeaekckblpfjaaBase
import Derived.WalkKit
import Derived.WalkSpells
import Derived.WalkLawsBesides
import Derived.RegionTactic
import Derived.ChangeAlike
import Derived.BigQuiet
import Derived.Deep.QuietTactic
import Derived.StillTailTactics
import Derived.IntWalk
import Derived.Handy
import Derived.Lib.Hide
import Derived.Test.YtkeaekckblpfjaaTail
import Derived.Test.YtkeaekckblpfjaaRing
import Derived.Test.YtkeaekckblpfjaaGrown
import Derived.Test.YtkeaekckblpfjaaSizes
import Derived.Test.YtkeaekckblpfjaaArgs
import Derived.Test.YtkeaekckblpfjaaAppend
import Derived.Deep.AppendLies
namespace Go.Proofs.Ytkeaekckblpfjaa
open Go.RowKit




theorem Try.ints29 : SliceTy Try.prog 29 3 (.int .i64 0) 1 8 := ⟨Try.underlying29, by kernel_rfl, rfl, by decide⟩
theorem IntRows.at3 {w : World} {v : Value} {xss : List (List Int)} (h : IntRows w v 3 xss) {k : Nat} (hk : k < xss.length) :
    ∃ b off c x0 x1 x2, v = .slice (some ⟨b, off, none⟩) xss.length c ∧ xss[k] = [x0, x1, x2] ∧ w.cell? ⟨b, off + k * 3, none⟩ = some (.int .i64 x0) ∧ w.cell? ⟨b, off + k * 3 + 1, none⟩ = some (.int .i64 x1) ∧ w.cell? ⟨b, off + k * 3 + 2, none⟩ = some (.int .i64 x2) := by
  obtain ⟨a, c, hv, h⟩ := h
  obtain ⟨b, off, rfl, _, hc⟩ := h (by intro h; simp at h; subst h; simp at hk)
  have h1 := hc k (xss[k].map (.int .i64)) (by rw [List.getElem?_map, List.getElem?_eq_getElem hk]; rfl)
  obtain ⟨hl, hcell⟩ := h1
  simp at hl
  match hx : xss[k], hl with
  | [x0, x1, x2], _ =>
    rw [hx] at hcell
    exact ⟨b, off, c, x0, x1, x2, by simpa using hv, rfl, hcell 0 _ rfl, hcell 1 _ rfl, hcell 2 _ rfl⟩
theorem own_shape {w : World} {B : Nat} {e : TypeId} {size n : Nat} {v : Value} {xs : List Value} (h : w.ownsRow B e size v n xs) : ∃ a c, v = .slice a n c := by
  rcases h.2 with ⟨rfl, hn⟩ | ⟨g, cap, cur, rfl, _⟩
  · subst hn; exact ⟨none, 0, rfl⟩
  · exact ⟨_, _, rfl⟩
theorem get_spec_at {w : World} {p b : Nat} {l : List Int} (i x : Int) (h : RingAt 62 w p b l) (hx : ringGet l i = x) :
    Calls Try.prog 17 #[.pointer (some ⟨p, 0, none⟩), .int .i64 i] w fun e w' => e = .returned (.int .i64 x) ∧ ∃ n, w' = w.drewN n := hx ▸ get_spec i h
theorem RingAt.far {T : TypeId} {w : World} {p b : Nat} {l : List Int} (h : RingAt T w p b l) {q : Addr} (hp : p ≠ q.block) (hb : b ≠ q.block) (u : Value) : RingAt T (w.setCell q u) p b l := ⟨h.head.far hp u, h.body.far hb u, h.p2⟩
set_option maxHeartbeats 1000000 in
set_option maxRecDepth 100000 in
theorem ringPlays_any (size : Int) (v1 v2 : Value) (ys : List Int) (xss : List (List Int)) (w : World) (h1 : IntsOf w v1 ys) (h2 : IntRows w v2 3 xss) (H3 : ∀ xs ∈ xss, ∀ x ∈ xs, (Lit.int .i64 x).wf = true) :
    Calls Try.prog 4 #[.int .i64 size, v1, v2] w fun e w' => e = .returned (.bool true) ∧ Keep [] w w' := by
  have H1 := Lib.hid h1
  have H2 := Lib.hid h2
  obtain ⟨a1, c1, hv1, _⟩ := h1
  obtain ⟨a2, c2, hv2, _⟩ := h2
  simp only [List.length_map] at hv2
  subst hv1 hv2
  by_cases hin : (xss.length : Int) ≤ 200 ∧ (ys.length : Int) ≤ 300 ∧ size ≤ 5000
  · obtain ⟨i1, i2, i3⟩ := hin
    have d1 : decide ((200 : Int) < xss.length) = false := by simp; omega
    have d2 : decide ((300 : Int) < ys.length) = false := by simp; omega
    have d3 : decide ((5000 : Int) < size) = false := by simp; omega
    go_enter Try.func4, Try.ntmps4
    go_wp2_with fail
    refine (alive14 _).mono ?_
    rintro e w1 ⟨rfl, hk1⟩
    have hs1 := SrcOf.of_ints (H1.out.keep0 hk1)
    have Hs1 := Lib.hid hs1
    clear hs1
    go_wp2_with (at_builtin; refine wpList_append_src rfl _ _ rfl Try.ints29 w1.heap.size _ 0 [] rfl (World.ownsRow_nil _ _ _ _) _ _ _ rfl Hs1.out (by simp [Value.oneCell']) (by unfold maxLen; omega) (by omega) (Nat.le_refl _) ?_)
    intro v' w2 hown hk2 hblk
    clear d1 d2 d3 Hs1
    obtain ⟨a, cap, rfl⟩ := own_shape hown
    have hk3 : Keep [] w w2 := hk1.trans hk2 (by simp [ownBlocks, Value.ownBlock])
    have hown2 : ∀ g, (Value.slice a ys.length cap).ownBlock = some g → w.heap.size ≤ g ∧ g < w2.heap.size := by
      intro g hg
      have := hown.lt g hg
      have := hk1.size
      omega
    have hys : ys.length ≤ 100000 := by omega
    have Hown2 := Lib.hid hown2
    clear hk1 hk2 hblk hown2
    go_wp2_with fail
    refine (new_spec _ _ _ ys (ints_of_own hown) hys).mono ?_
    rintro e w3 ⟨pr, br, rfl, hpr, hbr, hr, hk4⟩
    have hownr := ownsRow_keep hown hk4 (by simp)
    go_wp2_with fail
    refine (new_spec _ _ _ ys (ints_of_own hownr) hys).mono ?_
    rintro e w4 ⟨po, bo, rfl, hpo, hbo, ho, hk5⟩
    have hownr2 := ownsRow_keep hownr hk5 (by simp)
    have hr2 := hr.keep hk5 (by simp) (by simp)
    have hk6 : Keep [] w w4 := (hk3.trans hk4 (by simp)).trans hk5 (by simp)
    have hbb : br < bo := by have := hr.body.lt; omega
    have hww : w2.heap.size ≤ bo ∧ w2.heap.size ≤ po := by have := hk4.size; omega
    have hw2 : w.heap.size ≤ w2.heap.size := hk3.size
    clear hown hownr hr hk4 hk5 hk3
    go_wp2_with fail
    go_loopw [11] (fun v wr => ∃ (k : Nat) (zs : List Int), k ≤ ys.length ∧ v = .int .i64 k ∧ zs.length = ys.length ∧ wr.ownsRow w1.heap.size 3 1 (.slice a ys.length cap) ys.length (zs.map (.int .i64)) ∧
        RingAt 62 wr pr br (ringNew size ys) ∧ RingAt 62 wr po bo (ringNew size ys) ∧ Keep [] w wr) (fun v _ => ys.length - (intOf v).toNat)
    case atStart => exact ⟨0, ys, by omega, rfl, rfl, hownr2, hr2, ho, hk6⟩
    case round =>
      clear hownr2 hr2 ho hk6
      obtain ⟨k, zs, hk, rfl, hzs, hown, hr, ho, hkeep⟩ := hrel
      by_cases hky : k < ys.length
      · obtain ⟨g, cap', hform, _, hglt⟩ := hown.form (by omega)
        injection hform with ha _ hcap
        subst ha hcap
        have hg2 := Hown2.out g rfl
        obtain ⟨z, hz⟩ : ∃ z, zs[k]? = some z := ⟨_, List.getElem?_eq_getElem (show k < zs.length by omega)⟩
        have hcell : wr.cell? ⟨g, k, none⟩ = some (.int .i64 z) := by
          rw [hown.cellAt k (by omega)]
          simp [List.getElem?_map, hz]
        clear hz
        have hfr := hown.frozenAt k
        go_wp2
        have hown' := (hown.stored k (.int .i64 (wrap64 (z + 1)))).1
        rw [← List.map_set] at hown'
        go_roundw
        case rel =>
          exact ⟨k + 1, _, by omega, by go_num, by simpa using hzs, hown', hr.far (by show pr ≠ g; omega) (by show br ≠ g; omega) _, ho.far (by show po ≠ g; omega) (by show bo ≠ g; omega) _, hkeep.setCell (Or.inr (by show w.heap.size ≤ g; omega)) _⟩
        case measure => simp [intOf]; omega
      · have hsrc1 := H1.out.keep0 hkeep
        have Hsrc1 := Lib.hid hsrc1
        clear hsrc1
        go_wp2_with fail
        refine (rnew_spec _ _ _ ys Hsrc1.out hys).mono ?_
        rintro e w5 ⟨pm, bm, rfl, hpm, hbm, hm, hk5⟩
        have hr3 := hr.keep hk5 (by simp) (by simp)
        have ho3 := ho.keep hk5 (by simp) (by simp)
        have hk6 : Keep [] w w5 := hkeep.trans hk5 (by simp)
        have hbm1 : br < bm := by have := hr.body.lt; omega
        have hbm2 : bo < bm := by have := ho.body.lt; omega
        have hwo : w.heap.size ≤ br := by omega
        clear hr ho hown hk5 hkeep Hsrc1
        go_wp2_with fail
        go_loopw [9, 12, 13] (fun r m v wr => ∃ (k : Nat) (l lo : List Int) (p b pm bm : Nat), k ≤ xss.length ∧ r = .pointer (some ⟨p, 0, none⟩) ∧ m = .pointer (some ⟨pm, 0, none⟩) ∧ v = .int .i64 k ∧
            RingAt 62 wr p b l ∧ RingAt 62 wr po bo lo ∧ RingAt 36 wr pm bm l ∧ b ≠ bo ∧ b ≠ bm ∧ bo ≠ bm ∧ w.heap.size ≤ b ∧ w.heap.size ≤ bm ∧ Keep [] w wr) (fun _ _ v _ => xss.length - (intOf v).toNat)
        case atStart => exact ⟨0, _, _, pr, br, pm, bm, by omega, rfl, rfl, rfl, hr3, ho3, hm, by omega, by omega, by omega, hwo, by omega, hk6⟩
        case round =>
          clear hr3 ho3 hm hk6 hbm1 hbm2 hpm hbm
          obtain ⟨n, l, lo, p, b, pm, bm, hn, rfl, rfl, rfl, hr, ho, hm, n1, n2, n3, n4, n5, hkeep⟩ := hrel
          by_cases hnx : n < xss.length
          · obtain ⟨b2, off, c, x0, x1, x2, hv, hx, e0, e1, e2⟩ := (H2.out.keep hkeep).at3 hnx
            obtain ⟨rfl, rfl⟩ : a2 = some ⟨b2, off, none⟩ ∧ c2 = c := by simpa using hv
            have bnd := (H3 _ (List.getElem_mem hnx))
            rw [hx] at bnd
            simp only [List.mem_cons, List.not_mem_nil, or_false, forall_eq_or_imp, forall_eq] at bnd
            have bn1 := bounds_i64 bnd.2.1
            have bn2 := bounds_i64 bnd.2.2
            clear bnd hv hx
            go_wp2_with fail
            have hA := Blk.new wr 34 [Value.int IntKind.i64 x0, Value.int IntKind.i64 x1, Value.int IntKind.i64 x2]
            have hsA : (wr.alloc (Obj.cells #[Value.int IntKind.i64 x0, Value.int IntKind.i64 x1, Value.int IntKind.i64 x2] 34)).heap.size = wr.heap.size + 1 := by simp
            obtain ⟨G, hG⟩ : ∃ G, G = wr.heap.size := ⟨_, rfl⟩
            have g1 := hr.body.lt
            have g2 := ho.body.lt
            have g3 := hm.body.lt
            have hkA := hkeep.alloc (Obj.cells #[Value.int IntKind.i64 x0, Value.int IntKind.i64 x1, Value.int IntKind.i64 x2] 34)
            refine (put_spec _ _ (ho.alloc _)).mono ?_
            rintro e w6 ⟨rfl, ho6, hk6⟩
            have hr6 := (hr.alloc (Obj.cells #[Value.int IntKind.i64 x0, Value.int IntKind.i64 x1, Value.int IntKind.i64 x2] 34)).keep hk6 (by have := hr.head.ne_ ho.body (by decide); simpa using this) (by simpa using n1)
            have hm6 := (hm.alloc (Obj.cells #[Value.int IntKind.i64 x0, Value.int IntKind.i64 x1, Value.int IntKind.i64 x2] 34)).keep hk6 (by have := hm.head.ne_ ho.body (by decide); simpa using this) (by simpa using n3.symm)
            have hA6 := hA.keep hk6 (by simp; omega)
            have hk7 : Keep [] w w6 := hkA.trans hk6 (by simp; omega)
            have hs6 : wr.heap.size + 1 ≤ w6.heap.size := by have := hk6.size; omega
            clear hsA hA hkA hk6 hkeep ho hr hm e0 e1 e2
            rw [← hG] at hA6 hs6 g1 g2 g3
            rw [← hG]
            have f0 : w6.cell? ⟨G, 0, none⟩ = some (.int .i64 x0) := hA6.cell 0
            have f1 : w6.cell? ⟨G, 1, none⟩ = some (.int .i64 x1) := hA6.cell 1
            have f2 : w6.cell? ⟨G, 2, none⟩ = some (.int .i64 x2) := hA6.cell 2
            have HG := Lib.hid hG
            clear hG
            by_cases hx0 : x0 = 0
            · subst hx0
              go_wp2_with fail
              refine (put_spec _ _ hr6).mono ?_
              rintro e w7 ⟨rfl, hr7, hk8⟩
              have hm7 := hm6.keep hk8 (by have := hm6.head.ne_ hr6.body (by decide); simpa using this) (by simpa using n2.symm)
              have ho7 := ho6.keep hk8 (by have := ho6.head.ne_ hr6.body (by decide); simpa using this) (by simpa using n1.symm)
              have hA7 := hA6.keep hk8 (by simp; omega)
              have hk9 : Keep [] w w7 := hk7.trans hk8 (by simpa using n4)
              clear hm6 ho6 hr6 hA6 hk8 hk7 f0 f1 f2 hs6
              have f1 : w7.cell? ⟨G, 1, none⟩ = some (.int .i64 x1) := hA7.cell 1
              have f2 : w7.cell? ⟨G, 2, none⟩ = some (.int .i64 x2) := hA7.cell 2
              go_wp2_with fail
              refine (rput_spec _ _ hm7).mono ?_
              rintro e w8 ⟨rfl, hm8, hk8⟩
              have hr8 := hr7.keep hk8 (by have := hr7.head.ne_ hm7.body (by decide); simpa using this) (by simpa using n2)
              have ho8 := ho7.keep hk8 (by have := ho7.head.ne_ hm7.body (by decide); simpa using this) (by simpa using n3)
              have hA8 := hA7.keep hk8 (by simp; omega)
              have hk10 : Keep [] w w8 := hk9.trans hk8 (by simpa using n5)
              clear hm7 ho7 hr7 hA7 hk8 hk9 f1 f2
              have f1 : w8.cell? ⟨G, 1, none⟩ = some (.int .i64 x1) := hA8.cell 1
              have f3 := hm8.cell
              go_wp2_with fail
              go_quiet (first | (go_at_call 15; exact Calls.quiet_of (size_spec (hr8.drewN _))) | (go_at_call 17; exact Calls.quiet_of (get_spec _ (hr8.drewN _))) | (go_at_call 22; exact Calls.quiet_of (rget_spec _ (hm8.drewN _))))
              go_wp2
              go_roundw
              case rel => exact ⟨n + 1, _, _, p, b, pm, bm, by omega, rfl, rfl, by go_num, hr8.drewN _, ho8.drewN _, hm8.drewN _, n1, n2, n3, n4, n5, hk10.drewN _⟩
              case measure => simp [intOf]; omega
            · have d0 : (x0 == 0) = false := by simpa using hx0
              clear hx0
              by_cases hx1 : x0 = 1
              · subst hx1
                clear d0
                have f3 := hm6.cell
                by_cases hbig : 10000 < (l.length : Int)
                · go_wp2
                  go_ret
                  exact ⟨rfl, hk7⟩
                · go_wp2_with fail
                  refine (grown_spec _ _ hr6 bn1 bn2).mono ?_
                  rintro e w7 ⟨p', b', rfl, hp', hb', hr7, hk8⟩
                  have hm7 := hm6.keep hk8 (by simp) (by simp)
                  have ho7 := ho6.keep hk8 (by simp) (by simp)
                  have hq7 := hr6.keep hk8 (by simp) (by simp)
                  have hA7 := hA6.keep hk8 (by simp)
                  have hk9 : Keep [] w w7 := hk7.trans hk8 (by simp)
                  have hs7 := hk8.size
                  have m1 : b' ≠ bo := by have := ho6.body.lt; omega
                  have m2 : b' ≠ b := by have := hr6.body.lt; omega
                  have m4 : w.heap.size ≤ b' := by have := hk7.size; omega
                  have m5 : b' < w7.heap.size := hr7.body.lt
                  clear hm6 ho6 hr6 hA6 hk8 hk7 f0 f1 f2 f3 hs6 hp' hb'
                  have f1 : w7.cell? ⟨G, 1, none⟩ = some (.int .i64 x1) := hA7.cell 1
                  have f2 : w7.cell? ⟨G, 2, none⟩ = some (.int .i64 x2) := hA7.cell 2
                  go_wp2_with fail
                  refine (rgrown_spec _ _ hm7 bn1 bn2).mono ?_
                  rintro e w8 ⟨pm', bm', rfl, hpm', hbm', hm8, hk8⟩
                  have hr8 := hr7.keep hk8 (by simp) (by simp)
                  have ho8 := ho7.keep hk8 (by simp) (by simp)
                  have hq8 := hq7.keep hk8 (by simp) (by simp)
                  have hA8 := hA7.keep hk8 (by simp)
                  have hk10 : Keep [] w w8 := hk9.trans hk8 (by simp)
                  have m6 : b' ≠ bm' := by omega
                  have m7 : bo ≠ bm' := by have := ho7.body.lt; omega
                  have m8 : w.heap.size ≤ bm' := by have := hk9.size; omega
                  have m9 : bm' ≠ b := by have := hq7.body.lt; omega
                  clear hm7 ho7 hr7 hq7 hA7 hk8 hk9 f1 f2 hpm' hbm' m5 hs7
                  have f1 : w8.cell? ⟨G, 1, none⟩ = some (.int .i64 x1) := hA8.cell 1
                  go_wp2_with fail
                  refine (put_spec _ _ hq8).mono ?_
                  rintro e w9 ⟨rfl, hq9, hk8⟩
                  have hr9 := hr8.keep hk8 (by have := hr8.head.ne_ hq8.body (by decide); simpa using this) (by simpa using m2)
                  have hm9 := hm8.keep hk8 (by have := hm8.head.ne_ hq8.body (by decide); simpa using this) (by simpa using m9)
                  have ho9 := ho8.keep hk8 (by have := ho8.head.ne_ hq8.body (by decide); simpa using this) (by simpa using n1.symm)
                  have hA9 := hA8.keep hk8 (by simp; omega)
                  have hk11 : Keep [] w w9 := hk10.trans hk8 (by simpa using n4)
                  clear hm8 ho8 hr8 hq8 hA8 hk8 hk10 f1
                  have f1 : w9.cell? ⟨G, 1, none⟩ = some (.int .i64 x1) := hA9.cell 1
                  have f3 := hm9.cell
                  go_wp2_with fail
                  go_quiet (first | (go_at_call 15; exact Calls.quiet_of (size_spec (hr9.drewN _))) | (go_at_call 17; exact Calls.quiet_of (get_spec _ (hr9.drewN _))) | (go_at_call 22; exact Calls.quiet_of (rget_spec _ (hm9.drewN _))))
                  go_wp2
                  go_roundw
                  case rel => exact ⟨n + 1, _, _, p', b', pm', bm', by omega, rfl, rfl, by go_num, hr9.drewN _, ho9.drewN _, hm9.drewN _, m1, m6, m7, m4, m8, hk11.drewN _⟩
                  case measure => simp [intOf]; omega
              · have d1 : (x0 == 1) = false := by simpa using hx1
                have f3 := hm6.cell
                clear hx1
                go_wp2_with fail
                go_quiet (first | (go_at_call 15; exact Calls.quiet_of (size_spec (hr6.drewN _))) | (go_at_call 17; exact Calls.quiet_of (get_spec _ (hr6.drewN _))) | (go_at_call 22; exact Calls.quiet_of (rget_spec _ (hm6.drewN _))))
                go_wp2
                go_roundw
                case rel => exact ⟨n + 1, _, _, p, b, pm, bm, by omega, rfl, rfl, by go_num, hr6.drewN _, ho6.drewN _, hm6.drewN _, n1, n2, n3, n4, n5, hk7.drewN _⟩
                case measure => simp [intOf]; omega
          · have hlp : (l.length : Int) ≤ 65537 := by have := hr.p2.le; omega
            go_wp2_with fail
            go_loopw [16] (fun v wr => ∃ (j : Nat), j ≤ l.length ∧ v = .int .i64 j ∧ RingAt 62 wr p b l ∧ RingAt 36 wr pm bm l ∧ Keep [] w wr) (fun v _ => l.length - (intOf v).toNat)
            case atStart => exact ⟨0, by omega, rfl, hr, hm, hkeep⟩
            case round =>
              clear hr hm hkeep ho
              obtain ⟨j, hj, rfl, hr, hm, hkeep⟩ := hrel
              have f3 := hm.cell
              by_cases hjl : j < l.length
              · have hidx : ringIdx (j : Int) l.length = j := by
                  unfold ringIdx
                  rw [Int.emod_eq_of_lt (by omega) (by omega)]
                  omega
                have hget : ringGet l j = l[j] := by
                  simp [ringGet, hidx, List.getElem?_eq_getElem hjl]
                have f4 : wr.cell? ⟨bm, j, none⟩ = some (.int .i64 l[j]) := by
                  rw [hm.body.cell]
                  simp [List.getElem?_map, List.getElem?_eq_getElem hjl]
                have Hget := Lib.hid hget
                clear hget hidx
                go_wp2_with fail
                go_quiet ((go_at_call 17; exact Calls.quiet_of (get_spec_at j l[j] (hr.drewN _) Hget.out)))
                go_wp2
                go_roundw
                case rel => exact ⟨j + 1, by omega, by go_num, hr.drewN _, hm.drewN _, hkeep.drewN _⟩
                case measure => simp [intOf]; omega
              · go_wp2
                go_ret
                exact ⟨rfl, hkeep⟩
  · go_enter Try.func4, Try.ntmps4
    go_wp2_with fail
    refine (alive14 _).mono ?_
    rintro e w1 ⟨rfl, hk1⟩
    go_wp2
    all_goals (go_ret; exact ⟨rfl, hk1⟩)
theorem walk_ringPlays {H : Type} {enc : TypeId × Value → H} (W : World) {size : Int} {v1 v2 : Value} {d1 d2 : DataW H} {p1 p2 : List MemPlace} {base : Nat} (_ : (Lit.int .i64 size).wf = true)
    (o1 : Value.okWide Try.prog W .any base 29 v1) (h1 : DataW.Trod enc Try.prog W 0 (fun _ => true) true 29 v1 d1 p1)
    (o2 : Value.okWide Try.prog W .any base 30 v2) (h2 : DataW.Trod enc Try.prog W 0 (fun _ => true) true 30 v2 d2 p2) :
    Calls Try.prog 4 #[.int .i64 size, v1, v2] W fun e w' => e = .returned (.bool true) ∧ Below W.heap.size W w' := by
  obtain ⟨ys, hys, _⟩ := ints_open Try.underlying29 Try.underlying3 (by kernel_rfl) o1 h1
  obtain ⟨xss, hxs, hx⟩ := intRows_open Try.underlying30 Try.underlying34 (by kernel_rfl) (by kernel_rfl) (by decide) o2 h2
  exact (ringPlays_any size v1 v2 ys xss W hys hxs (fun xs h => (hx xs h).2)).mono fun _ _ ⟨he, hk⟩ => ⟨he, hk.to_below⟩
end Go.Proofs.Ytkeaekckblpfjaa
