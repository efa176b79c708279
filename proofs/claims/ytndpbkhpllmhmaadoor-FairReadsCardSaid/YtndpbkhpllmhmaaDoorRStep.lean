/- The reference: a step's line, the walk. -/
import Derived.Test.YtndpbkhpllmhmaaDoorRows
import Derived.WalkKit
import Derived.WalkSpells
import Derived.WalkLawsBesides
import Derived.RegionTactic
import Derived.ChangeAlike
import Derived.BigQuiet
import Derived.Deep.QuietTactic
import Derived.StillTailTactics
import Derived.IntWalk
import Derived.Handy
import Derived.Lib.Hide
import Derived.Deep.AppendLies
import Derived.Deep.RegionWith
import Derived.Test.YtndpbkhpllmhmaaDoorBase
import Derived.Test.YtndpbkhpllmhmaaDoorTail
import Derived.Test.YtndpbkhpllmhmaaDoorArgs
import Derived.Test.YtndpbkhpllmhmaaDoorAppend
import Derived.Test.YtndpbkhpllmhmaaDoorOffs
import Derived.Test.YtndpbkhpllmhmaaDoorStructs
import Derived.Test.YtndpbkhpllmhmaaDoorShelf
import Derived.Carry
import Derived.Deep.RegionHeld3
import Derived.BigRegion
import Derived.Maps.OwnSet
import Derived.Maps.Views
import Derived.Maps.StringElems
import Derived.Test.YtndpbkhpllmhmaaDoorMaps2
import Derived.Test.YtndpbkhpllmhmaaDoorFWords
import Derived.Test.YtndpbkhpllmhmaaDoorFEnv
import Derived.Test.YtndpbkhpllmhmaaDoorFPlain
import Derived.Test.YtndpbkhpllmhmaaDoorRNum
import Derived.Test.YtndpbkhpllmhmaaDoorRSplit
import Derived.Test.YtndpbkhpllmhmaaDoorRNum
import Derived.Test.YtndpbkhpllmhmaaDoorRStepPlain
import Derived.Test.YtndpbkhpllmhmaaDoorFRead2
namespace Go.Proofs.YtndpbkhpllmhmaaDoor
open Go.RowKit
theorem pieces_count (c : UInt8) (l : BS) {p : BS} {ps : List BS} (h : pieces c l = p :: ps) : ps.length ≤ l.length := by
  have h1 := glue_pieces c l
  rw [h, glue_cons] at h1
  have h2 : ∀ qs : List BS, qs.length ≤ (qs.flatMap fun q => c :: q).length := by
    intro qs
    induction qs with
    | nil => simp
    | cons q r ih =>
      simp only [List.flatMap_cons, List.length_append, List.length_cons]
      omega
  have h3 := congrArg List.length h1
  rw [List.length_append] at h3
  have := h2 ps
  omega
set_option maxHeartbeats 6400000 in
set_option maxRecDepth 100000 in
theorem rstep_spec (w : World) (bs : BS) (hl : bs.length ≤ 20000) : Calls Tryd.prog 51 #[.string (strB bs)] w (RStepPost bs w) := by
  have HL := Lib.hid hl
  clear hl
  go_enter Tryd.func51, Tryd.ntmps51
  go_wp2_with fail
  have hb0 : Blk (w.alloc (.cells #[.int .i64 0, .int .i64 0, .int .i64 0, .int .i64 0] 38)) w.heap.size 38 (stC ⟨0, 0, 0, 0⟩) := Blk.new' _ _ _ _ rfl
  have hk0 : Keep [] w (w.alloc (.cells #[.int .i64 0, .int .i64 0, .int .i64 0, .int .i64 0] 38)) := (Keep.refl _ _).alloc _
  have B0 := Lib.hid (And.intro hb0 (And.intro hk0 (Nat.le_refl w.heap.size)))
  clear hb0 hk0
  generalize w.alloc (.cells #[.int .i64 0, .int .i64 0, .int .i64 0, .int .i64 0] 38) = w1 at *
  generalize hgR : w.heap.size = gR at *
  refine (rsplit_spec _ bs HL.out).mono ?_
  rintro e w2 ⟨hk2, v, rfl, hs⟩
  cases hp : pieces 32 bs with
  | nil => exact absurd hp (pieces_ne 32 bs)
  | cons w0 args =>
    rw [hp] at hs
    have HS := Lib.hid hs
    obtain ⟨a, c, rfl, hcell⟩ := hs
    obtain ⟨b, off, rfl, hbl, hc⟩ := hcell 0 w0 rfl
    have HP := Lib.hid (show stepC bs = stepP (w0 :: args) by unfold stepC; rw [hp])
    have hal : args.length ≤ 20000 := by have := pieces_count 32 bs hp; have := HL.out; omega
    have hpl : ∀ x ∈ args, x.length ≤ 1000000 := fun x hx => by have := pieces_len (c := 32) (l := bs) (p := x) (by rw [hp]; simp [hx]); have := HL.out; omega
    have HK := Lib.hid (And.intro (B0.out.1.keep hk2 (by simp)) (And.intro (B0.out.2.1.trans hk2 (by simp)) (And.intro hal hpl)))
    have Hsz := Lib.hid (show gR < w2.heap.size from (B0.out.1.keep hk2 (by simp)).lt)
    clear hp hk2 hcell hc hbl hal B0 hpl
    go_wp2_with fail
    go_loopw [5, 6, 7, 8, 9, 10, 11] (fun v5 _ _ _ _ _ _ wr => ∃ k : Nat, 1 ≤ k ∧ k ≤ 8 ∧ v5 = .int .i64 k ∧ Keep [] w2 wr ∧ ∀ j : Int, 1 ≤ j → j < k → ¬ (w0 = wordL j ∧ args.length = (fL j).length)) (fun v _ _ _ _ _ _ _ => 8 - (intOf v).toNat)
    case atStart => exact ⟨1, by omega, by omega, rfl, Keep.refl _ _, fun j h1 h2 => by omega⟩
    case round =>
      obtain ⟨k, hk1, hk8, rfl, hk, hmiss⟩ := hrel
      have hki1 : (1 : Int) ≤ (k : Int) := by omega
      have hki8 : (k : Int) ≤ 8 := by omega
      by_cases hk7 : k ≤ 7
      · have hki7 : (k : Int) ≤ 7 := by omega
        have cw : wr.cell? ⟨b, off, none⟩ = some (.string (strB w0)) := strs_cell HS.out hk (i := 0) rfl
        have hai : (args.length : Int) ≤ 20000 := by have := HK.out.2.2.1; omega
        have ef : (strB (fL k)).size = (fL k).length := strB_size _
        have hfl : ((fL k).length : Int) ≤ 2 := by have := fL_len k; omega
        have hwrap : IntKind.i64.wrap (((fL k).length : Int) + 1) = ((fL k).length : Int) + 1 := IntWalk.i64_in _ (by omega)
        have Hk := Lib.hid (And.intro hk (And.intro hk1 (And.intro hk7 hmiss)))
        clear hk hk1 hk8 hk7 hmiss
        by_cases hw : w0 = wordL k
        · by_cases hlen : args.length = (fL k).length
          · subst hw
            have hle : ((args.length : Int) + 1 == ((fL k).length : Int) + 1) = true := by rw [hlen]; exact beq_self_eq_true _
            have hlI : (args.length : Int) = ((fL k).length : Int) := by omega
            have Hl := Lib.hid hlen
            have Hst := Lib.hid (show fillK ⟨k, 0, 0, 0⟩ ((fL k).drop 0) (args.drop 0) = stepC bs by rw [HP.out, hit_step ⟨hki1, hki7⟩ hlen]; rfl)
            clear hlen hle
            go_wp2_with fail
            refine (word_spec _ k).mono ?_
            rintro e w' ⟨rfl, rfl⟩
            go_upto_region 8 with fail
            have hb0 : Blk (wr.alloc (.cells #[.int .i64 k, .int .i64 0, .int .i64 0, .int .i64 0] 38)) wr.heap.size 38 (stC ⟨k, 0, 0, 0⟩) := Blk.new' _ _ _ _ rfl
            have hk0 : Keep [] w2 (wr.alloc (.cells #[.int .i64 k, .int .i64 0, .int .i64 0, .int .i64 0] 38)) := Hk.out.1.alloc _
            have HB := Lib.hid (And.intro hb0 (And.intro hk0 Hk.out.1.size))
            clear hb0 hk0 cw
            generalize wr.alloc (.cells #[.int .i64 k, .int .i64 0, .int .i64 0, .int .i64 0] 38) = wA at *
            generalize wr.heap.size = gC at *
            go_wp2_with fail
            go_loopw [9, 10, 11] (fun v9 _ _ wx => ∃ (j : Nat) (h : ST), j ≤ (fL k).length ∧ v9 = .int .i64 j ∧ Blk wx gC 38 (stC h) ∧ Keep [] w2 wx ∧ fillK h ((fL k).drop j) (args.drop j) = stepC bs) (fun v _ _ _ => (fL k).length - (intOf v).toNat)
            case atStart => exact ⟨0, ⟨k, 0, 0, 0⟩, by omega, rfl, HB.out.1, HB.out.2.1, Hst.out⟩
            case round =>
              obtain ⟨j, h, hjl, rfl, hbj, hkj, hfill⟩ := hrel
              have B := Lib.hid (And.intro hbj hkj)
              clear hbj hkj
              by_cases hlj : j < (fL k).length
              · have hljI : (j : Int) < ((fL k).length : Int) := by omega
                have hjI : (j : Int) ≤ 2 := by omega
                have hwj : IntKind.i64.wrap ((j : Int) + 1) = (j : Int) + 1 := IntWalk.i64_in _ (by omega)
                obtain ⟨x, hx⟩ : ∃ x : UInt8, (fL k)[j]? = some x := ⟨_, List.getElem?_eq_getElem hlj⟩
                obtain ⟨y, hy⟩ : ∃ y : BS, args[j]? = some y := ⟨_, List.getElem?_eq_getElem (by rw [Hl.out]; exact hlj)⟩
                have hget : ∀ h, ((strB (fL k))[j]'h) = x := fun h => by rw [strB_get]; exact (List.getElem?_eq_some_iff.1 hx).2
                have cy : wr.cell? ⟨b, off + (j + 1), none⟩ = some (.string (strB y)) := strs_cell HS.out B.out.2 (i := j + 1) (by simpa using hy)
                have hxm := fL_mem (List.mem_of_getElem? hx)
                rw [fill_step hx hy] at hfill
                have X := Lib.hid (And.intro hfill (And.intro hlj (HK.out.2.2.2 y (List.mem_of_getElem? hy))))
                clear hx hy hfill hlj hjl
                go_wp2_with fail
                refine (readInt_spec _ y X.out.2.2).mono ?_
                rintro e w5 ⟨he, rfl⟩
                cases hri : readInt y with
                | none =>
                  rw [hri] at he
                  obtain rfl := he
                  have Hno := Lib.hid (show stepC bs = none by have := X.out.1; rw [hri] at this; exact this.symm)
                  have hbk := HK.out.1.keep B.out.2 (by simp)
                  have hk := B.out.2
                  have z0 : wr.cell? ⟨gR, 0, none⟩ = some (.int .i64 0) := hbk.cell 0
                  have z1 : wr.cell? ⟨gR, 1, none⟩ = some (.int .i64 0) := hbk.cell 1
                  have z2 : wr.cell? ⟨gR, 2, none⟩ = some (.int .i64 0) := hbk.cell 2
                  have z3 : wr.cell? ⟨gR, 3, none⟩ = some (.int .i64 0) := hbk.cell 3
                  have zf : ∀ i, wr.frozen? ⟨gR, i, none⟩ = false := fun i => hbk.frozen i
                  have hb := set4 hbk (.int .i64 0) (.int .i64 0) (.int .i64 0) (.int .i64 0)
                  have d0 := hb.cell 0
                  have d1 := hb.cell 1
                  have d2 := hb.cell 2
                  have d3 := hb.cell 3
                  have hk4 := (HK.out.2.1.trans hk (by simp)).trans (keep4 (w := wr) (g := gR) (.int .i64 0) (.int .i64 0) (.int .i64 0) (.int .i64 0)) (fun x hx => Or.inr (by rw [show x = gR by simpa using hx]; omega))
                  have D := Lib.hid (And.intro d0 (And.intro d1 (And.intro d2 (And.intro d3 hk4))))
                  clear hk hbk hb d0 d1 d2 d3 hk4
                  go_wp2
                  obtain ⟨d0, d1, d2, d3, hk⟩ := D.out
                  exact bodyPost_ret (v := .tuple #[.agg #[(.int .i64 0), (.int .i64 0), (.int .i64 0), (.int .i64 0)], .bool false]) (by simp [results, Tryd.results51, go_sem, d0, d1, d2, d3]) rfl ⟨hk, Or.inr ⟨Hno.out, ⟨0, 0, 0, 0⟩, rfl⟩⟩
                | some n =>
                  rw [hri] at he
                  obtain rfl := he
                  have Hf := Lib.hid (show fillK (putF h x n) ((fL k).drop (j + 1)) (args.drop (j + 1)) = stepC bs by have := X.out.1; rw [hri] at this; exact this)
                  clear hri
                  rcases hxm with rfl | rfl | rfl
                  · have cg : ∃ u, wr.cell? ⟨gC, 1, none⟩ = some u := ⟨_, B.out.1.cell 1⟩
                    obtain ⟨u, cg⟩ := cg
                    have cf : wr.frozen? ⟨gC, 1, none⟩ = false := B.out.1.frozen 1
                    have hb2 : Blk (wr.setCell ⟨gC, 1, none⟩ (.int .i64 n)) gC 38 (stC (putF h 110 n)) := by
                      rw [putF_cells]
                      exact B.out.1.set_ 1 _
                    have hk2 : Keep [] w2 (wr.setCell ⟨gC, 1, none⟩ (.int .i64 n)) := B.out.2.setCell (Or.inr HB.out.2.2) _
                    have B2 := Lib.hid (And.intro hb2 hk2)
                    clear hb2 hk2 cy
                    go_wp2_with fail
                    go_roundw
                    case rel => exact ⟨j + 1, putF h 110 n, by have := X.out.2.1; omega, by go_num, B2.out.1, B2.out.2, Hf.out⟩
                    case measure => simp [intOf]; have := X.out.2.1; omega
                  · have cg : ∃ u, wr.cell? ⟨gC, 2, none⟩ = some u := ⟨_, B.out.1.cell 2⟩
                    obtain ⟨u, cg⟩ := cg
                    have cf : wr.frozen? ⟨gC, 2, none⟩ = false := B.out.1.frozen 2
                    have hb2 : Blk (wr.setCell ⟨gC, 2, none⟩ (.int .i64 n)) gC 38 (stC (putF h 107 n)) := by
                      rw [putF_cells]
                      exact B.out.1.set_ 2 _
                    have hk2 : Keep [] w2 (wr.setCell ⟨gC, 2, none⟩ (.int .i64 n)) := B.out.2.setCell (Or.inr HB.out.2.2) _
                    have B2 := Lib.hid (And.intro hb2 hk2)
                    clear hb2 hk2 cy
                    go_wp2_with fail
                    go_roundw
                    case rel => exact ⟨j + 1, putF h 107 n, by have := X.out.2.1; omega, by go_num, B2.out.1, B2.out.2, Hf.out⟩
                    case measure => simp [intOf]; have := X.out.2.1; omega
                  · have cg : ∃ u, wr.cell? ⟨gC, 3, none⟩ = some u := ⟨_, B.out.1.cell 3⟩
                    obtain ⟨u, cg⟩ := cg
                    have cf : wr.frozen? ⟨gC, 3, none⟩ = false := B.out.1.frozen 3
                    have hb2 : Blk (wr.setCell ⟨gC, 3, none⟩ (.int .i64 n)) gC 38 (stC (putF h 98 n)) := by
                      rw [putF_cells]
                      exact B.out.1.set_ 3 _
                    have hk2 : Keep [] w2 (wr.setCell ⟨gC, 3, none⟩ (.int .i64 n)) := B.out.2.setCell (Or.inr HB.out.2.2) _
                    have B2 := Lib.hid (And.intro hb2 hk2)
                    clear hb2 hk2 cy
                    go_wp2_with fail
                    go_roundw
                    case rel => exact ⟨j + 1, putF h 98 n, by have := X.out.2.1; omega, by go_num, B2.out.1, B2.out.2, Hf.out⟩
                    case measure => simp [intOf]; have := X.out.2.1; omega
              · obtain rfl : j = (fL k).length := by omega
                have hres : stepC bs = some h := by
                  rw [← hfill, List.drop_eq_nil_of_le (Nat.le_refl _)]
                  unfold fillK
                  rfl
                have Hres := Lib.hid hres
                have x0 : wr.cell? ⟨gC, 0, none⟩ = some (.int .i64 h.kind) := B.out.1.cell 0
                have x1 : wr.cell? ⟨gC, 1, none⟩ = some (.int .i64 h.node) := B.out.1.cell 1
                have x2 : wr.cell? ⟨gC, 2, none⟩ = some (.int .i64 h.k) := B.out.1.cell 2
                have x3 : wr.cell? ⟨gC, 3, none⟩ = some (.int .i64 h.bit) := B.out.1.cell 3
                have hbk := HK.out.1.keep B.out.2 (by simp)
                have hk := B.out.2
                have z0 : wr.cell? ⟨gR, 0, none⟩ = some (.int .i64 0) := hbk.cell 0
                have z1 : wr.cell? ⟨gR, 1, none⟩ = some (.int .i64 0) := hbk.cell 1
                have z2 : wr.cell? ⟨gR, 2, none⟩ = some (.int .i64 0) := hbk.cell 2
                have z3 : wr.cell? ⟨gR, 3, none⟩ = some (.int .i64 0) := hbk.cell 3
                have zf : ∀ i, wr.frozen? ⟨gR, i, none⟩ = false := fun i => hbk.frozen i
                have hb := set4 hbk (.int .i64 h.kind) (.int .i64 h.node) (.int .i64 h.k) (.int .i64 h.bit)
                have d0 := hb.cell 0
                have d1 := hb.cell 1
                have d2 := hb.cell 2
                have d3 := hb.cell 3
                have hk4 := (HK.out.2.1.trans hk (by simp)).trans (keep4 (w := wr) (g := gR) (.int .i64 h.kind) (.int .i64 h.node) (.int .i64 h.k) (.int .i64 h.bit)) (fun x hx => Or.inr (by rw [show x = gR by simpa using hx]; omega))
                have D := Lib.hid (And.intro d0 (And.intro d1 (And.intro d2 (And.intro d3 hk4))))
                clear hk hbk hb d0 d1 d2 d3 hk4
                go_wp2
                obtain ⟨d0, d1, d2, d3, hk⟩ := D.out
                exact bodyPost_ret (v := .tuple #[.agg #[(.int .i64 h.kind), (.int .i64 h.node), (.int .i64 h.k), (.int .i64 h.bit)], .bool true]) (by simp [results, Tryd.results51, go_sem, d0, d1, d2, d3]) rfl ⟨hk, Or.inl ⟨h, Hres.out, rfl⟩⟩
          · have hle : ((args.length : Int) + 1 == ((fL k).length : Int) + 1) = false := by simp; omega
            have hlI : ¬ (args.length : Int) = ((fL k).length : Int) := by omega
            subst hw
            have Hl := Lib.hid hlen
            clear hlen
            go_wp2_with fail
            refine (word_spec _ k).mono ?_
            rintro e w' ⟨rfl, rfl⟩
            go_wp2_with fail
            go_roundw
            case rel =>
              refine ⟨k + 1, by omega, by have := Hk.out.2.2.1; omega, by go_num, Hk.out.1, fun j h1 h2 => ?_⟩
              by_cases e : j = k
              · subst e
                exact fun h => Hl.out h.2
              · exact Hk.out.2.2.2 j h1 (by omega)
            case measure => simp [intOf]; omega
        · have hwb : ((strB w0).toList == (strB (wordL k)).toList) = false := by
            rw [strB_toList, strB_toList]
            simpa using hw
          have hwn : ¬ (strB w0).toList = (strB (wordL k)).toList := by rw [strB_toList, strB_toList]; exact hw
          have Hw := Lib.hid hw
          clear hw
          go_wp2_with fail
          refine (word_spec _ k).mono ?_
          rintro e w' ⟨rfl, rfl⟩
          go_wp2_with fail
          go_roundw
          case rel =>
            refine ⟨k + 1, by omega, by have := Hk.out.2.2.1; omega, by go_num, Hk.out.1, fun j h1 h2 => ?_⟩
            by_cases e : j = k
            · subst e
              exact fun h => Hw.out h.1
            · exact Hk.out.2.2.2 j h1 (by omega)
          case measure => simp [intOf]; omega
      · have hki7 : 7 < (k : Int) := by omega
        have Hno := Lib.hid (show stepC bs = none by rw [HP.out]; exact miss_step fun j h1 h2 => hmiss j h1 (by omega))
        have hbk := HK.out.1.keep hk (by simp)
        have z0 : wr.cell? ⟨gR, 0, none⟩ = some (.int .i64 0) := hbk.cell 0
        have z1 : wr.cell? ⟨gR, 1, none⟩ = some (.int .i64 0) := hbk.cell 1
        have z2 : wr.cell? ⟨gR, 2, none⟩ = some (.int .i64 0) := hbk.cell 2
        have z3 : wr.cell? ⟨gR, 3, none⟩ = some (.int .i64 0) := hbk.cell 3
        have zf : ∀ i, wr.frozen? ⟨gR, i, none⟩ = false := fun i => hbk.frozen i
        have hb := set4 hbk (.int .i64 0) (.int .i64 0) (.int .i64 0) (.int .i64 0)
        have d0 := hb.cell 0
        have d1 := hb.cell 1
        have d2 := hb.cell 2
        have d3 := hb.cell 3
        have hk4 := (HK.out.2.1.trans hk (by simp)).trans (keep4 (w := wr) (g := gR) (.int .i64 0) (.int .i64 0) (.int .i64 0) (.int .i64 0)) (fun x hx => Or.inr (by rw [show x = gR by simpa using hx]; omega))
        have D := Lib.hid (And.intro d0 (And.intro d1 (And.intro d2 (And.intro d3 hk4))))
        clear hk hk1 hk8 hk7 hmiss hbk hb d0 d1 d2 d3 hk4
        go_wp2
        obtain ⟨d0, d1, d2, d3, hk⟩ := D.out
        exact bodyPost_ret (v := .tuple #[.agg #[.int .i64 0, .int .i64 0, .int .i64 0, .int .i64 0], .bool false]) (by simp [results, Tryd.results51, go_sem, d0, d1, d2, d3]) rfl ⟨hk, Or.inr ⟨Hno.out, ⟨0, 0, 0, 0⟩, rfl⟩⟩
end Go.Proofs.YtndpbkhpllmhmaaDoor
