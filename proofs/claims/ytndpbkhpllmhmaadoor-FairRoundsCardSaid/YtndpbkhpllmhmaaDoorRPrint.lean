/- The reference: the text of a script. -/
import Derived.Test.YtndpbkhpllmhmaaDoorRows
import Derived.WalkKit
import Derived.WalkSpells
import Derived.WalkLawsBesides
import Derived.RegionTactic
import Derived.ChangeAlike
import Derived.BigQuiet
import Derived.Deep.QuietTactic
import Derived.StillTailTactics
import Derived.IntWalk
import Derived.Handy
import Derived.Lib.Hide
import Derived.Deep.AppendLies
import Derived.Deep.RegionWith
import Derived.Test.YtndpbkhpllmhmaaDoorBase
import Derived.Test.YtndpbkhpllmhmaaDoorTail
import Derived.Test.YtndpbkhpllmhmaaDoorArgs
import Derived.Test.YtndpbkhpllmhmaaDoorAppend
import Derived.Test.YtndpbkhpllmhmaaDoorOffs
import Derived.Test.YtndpbkhpllmhmaaDoorStructs
import Derived.Test.YtndpbkhpllmhmaaDoorShelf
import Derived.Carry
import Derived.Deep.RegionHeld3
import Derived.BigRegion
import Derived.Maps.OwnSet
import Derived.Maps.Views
import Derived.Maps.StringElems
import Derived.Test.YtndpbkhpllmhmaaDoorMaps2
import Derived.Test.YtndpbkhpllmhmaaDoorFWords
import Derived.Test.YtndpbkhpllmhmaaDoorFEnv
import Derived.Test.YtndpbkhpllmhmaaDoorFPlain
import Derived.Test.YtndpbkhpllmhmaaDoorRNum
import Derived.Test.YtndpbkhpllmhmaaDoorRWord
namespace Go.Proofs.YtndpbkhpllmhmaaDoor
open Go.RowKit
def lineK (s : ST) (k : Nat) : BS := wordL s.kind ++ ((fL s.kind).take k).flatMap fun c => 32 :: Lib.itoa (getF s c)
def clearK (s : ST) (k : Nat) : ST := ((fL s.kind).take k).foldl (setF s) ⟨s.kind, 0, 0, 0⟩
theorem take_snoc {α : Type} {l : List α} {k : Nat} {x : α} (h : l[k]? = some x) : l.take (k + 1) = l.take k ++ [x] := by rw [List.take_add_one, h]; rfl
theorem lineK_succ {s : ST} {k : Nat} {c : UInt8} (h : (fL s.kind)[k]? = some c) : strB (lineK s k) ++ (⟨#[32]⟩ : ByteArray) ++ itoaB (getF s c) = strB (lineK s (k + 1)) := by
  rw [show (⟨#[32]⟩ : ByteArray) = strB [32] from rfl, itoaB, strB_app, strB_app]
  unfold lineK
  rw [take_snoc h]
  congr 1
  simp
theorem clearK_succ {s : ST} {k : Nat} {c : UInt8} (h : (fL s.kind)[k]? = some c) : clearK s (k + 1) = setF s (clearK s k) c := by
  unfold clearK
  rw [take_snoc h, List.foldl_append]
  rfl
theorem getF_in {s : ST} (h : s.In) (c : UInt8) : In64 (getF s c) := by
  unfold getF
  split
  · exact h.node
  · split
    · exact h.k
    · exact h.bit
theorem lineK_len {s : ST} (h : s.In) (k : Nat) : (lineK s k).length ≤ 51 := by
  unfold lineK
  have h1 := word_len s.kind
  have h2 := fL_len s.kind
  have h3 : ∀ l : BS, (l.flatMap fun c => 32 :: Lib.itoa (getF s c)).length ≤ l.length * 22 := by
    intro l
    induction l with
    | nil => simp
    | cons c r ih =>
      have h4 := getF_in h c
      have h5 := Lib.itoa_length_le (getF s c) h4.1 h4.2
      simp only [List.flatMap_cons, List.length_append, List.length_cons]
      omega
  have h6 := h3 ((fL s.kind).take k)
  rw [List.length_take] at h6
  rw [List.length_append]
  omega
theorem lineL_len2 {s : ST} (h : s.In) (hk : 1 ≤ s.kind ∧ s.kind ≤ 7) : (lineL s).length ≤ 51 := by
  have h1 := lineK_len h (fL s.kind).length
  unfold lineK at h1
  rw [List.take_length, line_fold s hk] at h1
  exact h1
theorem printed_len2 {l : List ST} (h : ∀ s ∈ l, s.In ∧ 1 ≤ s.kind ∧ s.kind ≤ 7) : (printed l).length ≤ l.length * 52 := by
  induction l with
  | nil => simp [printed]
  | cons s r ih =>
    have h1 := ih fun x hx => h x (by simp [hx])
    have h2 := lineL_len2 (h s (by simp)).1 (h s (by simp)).2
    unfold printed at h1 ⊢
    simp only [List.flatMap_cons, List.length_append, List.length_cons, List.length_nil]
    omega
theorem setF_cells (s h : ST) (c : UInt8) : stC (setF s h c) = (stC h).set (if c = 110 then 1 else if c = 107 then 2 else 3) (.int .i64 (getF s c)) := by
  unfold setF getF
  split
  · rfl
  · split <;> rfl
theorem steps_cells {w w' : World} {b off c n i : Nat} {l : List ST} {s : ST} (H : StepsAt w (.slice (some ⟨b, off, none⟩) n c) l) (k : Keep [] w w') (hs : l[i]? = some s) (j : Nat) (u : Value) (hu : (stC s)[j]? = some u) : w'.cell? ⟨b, off + i * 4 + j, none⟩ = some u := by
  obtain ⟨a, c', hv, h⟩ := H
  cases hv
  obtain ⟨b', off', hb, _, hc⟩ := h i s hs
  cases hb
  exact cell_keep0 k (hc j u hu)
set_option maxHeartbeats 6400000 in
set_option maxRecDepth 100000 in
theorem rprint_spec {w : World} {v : Value} {l : List ST} (h : StepsAt w v l) (hin : ∀ s ∈ l, s.In) (hl : l.length ≤ 1000) : Calls Tryd.prog 19 #[v] w fun e w' => e = .returned (.string (strB (printL l))) ∧ Keep [] w w' := by
  have H := Lib.hid h
  have HI := Lib.hid hin
  have HL := Lib.hid hl
  obtain ⟨a, c, rfl, _⟩ := h
  clear hin hl
  go_enter Tryd.func19, Tryd.ntmps19
  go_wp2_with fail
  go_loopw [3, 4, 5, 6, 7, 8, 9, 10] (fun v3 v4 _ _ _ _ _ _ wr => ∃ i : Nat, i ≤ l.length ∧ v4 = .int .i64 i ∧ v3 = .string (strB (printed (l.take i))) ∧ (l.take i).all goodL = true ∧ Keep [] w wr) (fun _ v _ _ _ _ _ _ _ => l.length - (intOf v).toNat)
  case atStart => exact ⟨0, by omega, rfl, rfl, rfl, Keep.refl _ _⟩
  case round =>
    obtain ⟨i, hi, rfl, rfl, hg, hk⟩ := hrel
    by_cases hlt : i < l.length
    · obtain ⟨s, hs⟩ : ∃ s, l[i]? = some s := ⟨_, List.getElem?_eq_getElem hlt⟩
      obtain ⟨a', c', hva, hcells⟩ := H.out.keep0 hk
      cases hva
      obtain ⟨b, off, rfl, hbl, hc⟩ := hcells i s hs
      have c0 := hc 0 _ rfl
      rw [Nat.add_zero] at c0
      have hltI : (i : Int) < (l.length : Int) := by omega
      have hlI : (l.length : Int) ≤ 1000 := by have := HL.out; omega
      have hiI : (i : Int) ≤ 1000 := by omega
      have hsI := HI.out s (List.mem_of_getElem? hs)
      have ht : l.take (i + 1) = l.take i ++ [s] := take_snoc hs
      have G := Lib.hid (And.intro hg (And.intro hk (And.intro hs (And.intro hsI (And.intro ht (And.intro hbl hc))))))
      clear hg hk hcells hs hc hsI ht hbl
      go_wp2_with fail
      refine (word_spec _ s.kind).mono ?_
      rintro e w' ⟨rfl, rfl⟩
      go_upto_region 7 with fail
      have hb0 : Blk (wr.alloc (.cells #[.int .i64 s.kind, .int .i64 0, .int .i64 0, .int .i64 0] 38)) wr.heap.size 38 (stC (clearK s 0)) := Blk.new' _ _ _ _ rfl
      have hk0 : Keep [] w (wr.alloc (.cells #[.int .i64 s.kind, .int .i64 0, .int .i64 0, .int .i64 0] 38)) := G.out.2.1.alloc _
      have HB := Lib.hid (And.intro hb0 (And.intro hk0 G.out.2.1.size))
      clear hb0 hk0 c0
      generalize wr.alloc (.cells #[.int .i64 s.kind, .int .i64 0, .int .i64 0, .int .i64 0] 38) = wA at *
      generalize wr.heap.size = gC at *
      go_wp2_with fail
      go_loopw [8, 9, 10] (fun v8 v9 _ wx => ∃ k : Nat, k ≤ (fL s.kind).length ∧ v9 = .int .i64 k ∧ v8 = .string (strB (lineK s k)) ∧ Blk wx gC 38 (stC (clearK s k)) ∧ Keep [] w wx) (fun _ v _ _ => (fL s.kind).length - (intOf v).toNat)
      case atStart => exact ⟨0, by omega, rfl, by simp [lineK], HB.out.1, HB.out.2.1⟩
      case round =>
        obtain ⟨k, hkl, rfl, rfl, hbk, hkk⟩ := hrel
        have e1 : (strB (fL s.kind)).size = (fL s.kind).length := strB_size _
        have hfl : ((fL s.kind).length : Int) ≤ 2 := by have := fL_len s.kind; omega
        have hzl : (strB (lineK s k)).size ≤ 51 := by rw [strB_size]; exact lineK_len G.out.2.2.2.1 k
        have B := Lib.hid (And.intro hbk hkk)
        clear hbk hkk
        by_cases hlk : k < (fL s.kind).length
        · have hlkI : (k : Int) < ((fL s.kind).length : Int) := by omega
          have hkI : (k : Int) ≤ 2 := by omega
          obtain ⟨x, hx⟩ : ∃ x : UInt8, (fL s.kind)[k]? = some x := ⟨_, List.getElem?_eq_getElem hlk⟩
          have hget : ∀ h, ((strB (fL s.kind))[k]'h) = x := fun h => by rw [strB_get]; exact (List.getElem?_eq_some_iff.1 hx).2
          have hzi : (itoaB (getF s x)).size ≤ 21 := itoaB_size (getF_in G.out.2.2.2.1 x)
          have X := Lib.hid (And.intro (lineK_succ hx) (And.intro (clearK_succ hx) (And.intro (getF_in G.out.2.2.2.1 x) hlk)))
          have hxm := fL_mem (List.mem_of_getElem? hx)
          clear hx hlk hkl
          rcases hxm with rfl | rfl | rfl
          · have cl : wr.cell? ⟨b, off + i * 4 + 1, none⟩ = some (.int .i64 s.node) := steps_cells H.out B.out.2 G.out.2.2.1 1 _ rfl
            have cf : wr.frozen? ⟨gC, 1, none⟩ = false := B.out.1.frozen 1
            have hgf : getF s 110 = s.node := rfl
            have cg : ∃ u, wr.cell? ⟨gC, 1, none⟩ = some u := ⟨_, B.out.1.cell 1⟩
            obtain ⟨u, cg⟩ := cg
            rw [hgf] at hzi
            go_wp2_with fail
            refine (digits_spec _ (show In64 s.node from X.out.2.2.1)).mono ?_
            rintro e w' ⟨rfl, rfl⟩
            have hb2 : Blk (wr.setCell ⟨gC, 1, none⟩ (.int .i64 s.node)) gC 38 (stC (clearK s (k + 1))) := by
              rw [X.out.2.1, setF_cells]
              exact B.out.1.set_ 1 _
            have hk2 : Keep [] w (wr.setCell ⟨gC, 1, none⟩ (.int .i64 s.node)) := B.out.2.setCell (Or.inr HB.out.2.2) _
            have B2 := Lib.hid (And.intro hb2 hk2)
            clear hb2 hk2 cl cf cg
            generalize wr.setCell ⟨gC, 1, none⟩ (.int .i64 s.node) = wy at *
            go_wp2_with fail
            go_roundw
            case rel => exact ⟨k + 1, by have := X.out.2.2.2; omega, by go_num, by rw [← X.out.1, hgf], B2.out.1, B2.out.2⟩
            case measure => simp [intOf]; have := X.out.2.2.2; omega
          · have cl : wr.cell? ⟨b, off + i * 4 + 2, none⟩ = some (.int .i64 s.k) := steps_cells H.out B.out.2 G.out.2.2.1 2 _ rfl
            have cf : wr.frozen? ⟨gC, 2, none⟩ = false := B.out.1.frozen 2
            have hgf : getF s 107 = s.k := rfl
            have cg : ∃ u, wr.cell? ⟨gC, 2, none⟩ = some u := ⟨_, B.out.1.cell 2⟩
            obtain ⟨u, cg⟩ := cg
            rw [hgf] at hzi
            go_wp2_with fail
            refine (digits_spec _ (show In64 s.k from X.out.2.2.1)).mono ?_
            rintro e w' ⟨rfl, rfl⟩
            have hb2 : Blk (wr.setCell ⟨gC, 2, none⟩ (.int .i64 s.k)) gC 38 (stC (clearK s (k + 1))) := by
              rw [X.out.2.1, setF_cells]
              exact B.out.1.set_ 2 _
            have hk2 : Keep [] w (wr.setCell ⟨gC, 2, none⟩ (.int .i64 s.k)) := B.out.2.setCell (Or.inr HB.out.2.2) _
            have B2 := Lib.hid (And.intro hb2 hk2)
            clear hb2 hk2 cl cf cg
            generalize wr.setCell ⟨gC, 2, none⟩ (.int .i64 s.k) = wy at *
            go_wp2_with fail
            go_roundw
            case rel => exact ⟨k + 1, by have := X.out.2.2.2; omega, by go_num, by rw [← X.out.1, hgf], B2.out.1, B2.out.2⟩
            case measure => simp [intOf]; have := X.out.2.2.2; omega
          · have cl : wr.cell? ⟨b, off + i * 4 + 3, none⟩ = some (.int .i64 s.bit) := steps_cells H.out B.out.2 G.out.2.2.1 3 _ rfl
            have cf : wr.frozen? ⟨gC, 3, none⟩ = false := B.out.1.frozen 3
            have hgf : getF s 98 = s.bit := rfl
            have cg : ∃ u, wr.cell? ⟨gC, 3, none⟩ = some u := ⟨_, B.out.1.cell 3⟩
            obtain ⟨u, cg⟩ := cg
            rw [hgf] at hzi
            go_wp2_with fail
            refine (digits_spec _ (show In64 s.bit from X.out.2.2.1)).mono ?_
            rintro e w' ⟨rfl, rfl⟩
            have hb2 : Blk (wr.setCell ⟨gC, 3, none⟩ (.int .i64 s.bit)) gC 38 (stC (clearK s (k + 1))) := by
              rw [X.out.2.1, setF_cells]
              exact B.out.1.set_ 3 _
            have hk2 : Keep [] w (wr.setCell ⟨gC, 3, none⟩ (.int .i64 s.bit)) := B.out.2.setCell (Or.inr HB.out.2.2) _
            have B2 := Lib.hid (And.intro hb2 hk2)
            clear hb2 hk2 cl cf cg
            generalize wr.setCell ⟨gC, 3, none⟩ (.int .i64 s.bit) = wy at *
            go_wp2_with fail
            go_roundw
            case rel => exact ⟨k + 1, by have := X.out.2.2.2; omega, by go_num, by rw [← X.out.1, hgf], B2.out.1, B2.out.2⟩
            case measure => simp [intOf]; have := X.out.2.2.2; omega
        · obtain rfl : k = (fL s.kind).length := by omega
          have hzp : (strB (printed (l.take i))).size ≤ 52000 := by
            rw [strB_size]
            have h1 := printed_len2 (l := l.take i) (fun x hx => ⟨HI.out x (List.mem_of_mem_take hx), (goodL_iff.1 (List.all_eq_true.1 G.out.1 x hx)).1⟩)
            rw [List.length_take] at h1
            have := HL.out
            omega
          clear hlk hkl
          by_cases hkd : 1 ≤ s.kind ∧ s.kind ≤ 7
          · have hwe : (strB (wordL s.kind)).toList.isEmpty = false := by
              rw [strB_toList]
              have := word_ne hkd
              cases hwl : wordL s.kind with
              | nil => exact absurd hwl this
              | cons a b => rfl
            have hwn : (strB (wordL s.kind)).toList ≠ [] := by rw [strB_toList]; exact word_ne hkd
            have hcl : ∃ n1 k1 b1, ownL s = ⟨s.kind, n1, k1, b1⟩ := by
              have h' : (ownL s).kind = s.kind := by
                unfold ownL
                split
                · rfl
                · split
                  · rfl
                  · split <;> rfl
              exact ⟨(ownL s).node, (ownL s).k, (ownL s).bit, by rw [← h']⟩
            obtain ⟨n1, k1, b1, hcl⟩ := hcl
            have hce : clearK s (fL s.kind).length = ⟨s.kind, n1, k1, b1⟩ := by
              rw [← hcl, ← own_fold s hkd]
              unfold clearK
              rw [List.take_length]
            have hle : lineK s (fL s.kind).length = lineL s := by
              rw [← line_fold s hkd]
              unfold lineK
              rw [List.take_length]
            have hbk := B.out.1
            rw [hce] at hbk
            rw [hle] at hzl
            rw [hle]
            have g0 : wr.cell? ⟨gC, 0, none⟩ = some (.int .i64 s.kind) := hbk.cell 0
            have g1 : wr.cell? ⟨gC, 1, none⟩ = some (.int .i64 n1) := hbk.cell 1
            have g2 : wr.cell? ⟨gC, 2, none⟩ = some (.int .i64 k1) := hbk.cell 2
            have g3 : wr.cell? ⟨gC, 3, none⟩ = some (.int .i64 b1) := hbk.cell 3
            have l0 : wr.cell? ⟨b, off + i * 4, none⟩ = some (.int .i64 s.kind) := steps_cells H.out B.out.2 G.out.2.2.1 0 _ rfl
            have l1 : wr.cell? ⟨b, off + i * 4 + 1, none⟩ = some (.int .i64 s.node) := steps_cells H.out B.out.2 G.out.2.2.1 1 _ rfl
            have l2 : wr.cell? ⟨b, off + i * 4 + 2, none⟩ = some (.int .i64 s.k) := steps_cells H.out B.out.2 G.out.2.2.1 2 _ rfl
            have l3 : wr.cell? ⟨b, off + i * 4 + 3, none⟩ = some (.int .i64 s.bit) := steps_cells H.out B.out.2 G.out.2.2.1 3 _ rfl
            by_cases ho : ownL s = s
            · have hn : n1 = s.node := by rw [ho] at hcl; exact (congrArg ST.node hcl).symm
              have hk : k1 = s.k := by rw [ho] at hcl; exact (congrArg ST.k hcl).symm
              have hb : b1 = s.bit := by rw [ho] at hcl; exact (congrArg ST.bit hcl).symm
              subst hn
              subst hk
              subst hb
              have Ho := Lib.hid (And.intro ho hkd)
              have Hi := Lib.hid hlt
              have hcat : strB (printed (l.take i)) ++ strB (lineL s) ++ (⟨#[10]⟩ : ByteArray) = strB (printed (l.take (i + 1))) := by
                rw [show (⟨#[10]⟩ : ByteArray) = strB [10] from rfl, strB_app, strB_app, G.out.2.2.2.2.1]
                congr 1
                simp [printed]
              have HC := Lib.hid hcat
              clear hcl hce hle hbk ho hkd hlt hi hcat
              go_upto_region 22 with fail
              go_quiet (fail)
              clear g0 g1 g2 g3 l0 l1 l2 l3
              go_wp2_with fail
              go_roundw
              case rel => exact ⟨i + 1, by have := Hi.out; omega, by go_num, by rw [← HC.out], by rw [G.out.2.2.2.2.1, List.all_append, G.out.1]; simp [goodL, Ho.out.1, Ho.out.2], B.out.2.drewN _⟩
              case measure => simp [intOf]; have := Hi.out; omega
            · have hno : printL l = [] := by
                unfold printL
                rw [if_neg]
                intro hall
                have := List.all_eq_true.1 hall s (List.mem_of_getElem? G.out.2.2.1)
                exact ho (goodL_iff.1 this).2
              have Hno := Lib.hid hno
              have hdiff : ¬ (n1 = s.node ∧ k1 = s.k ∧ b1 = s.bit) := fun ⟨h1, h2, h3⟩ => ho (by rw [hcl, h1, h2, h3])
              clear hcl hce hle hbk ho hkd hno
              by_cases d1 : n1 = s.node
              · subst d1
                by_cases d2 : k1 = s.k
                · subst d2
                  have d3 : ¬ b1 = s.bit := fun h3 => hdiff ⟨rfl, rfl, h3⟩
                  have d3b : (b1 == s.bit) = false := by simpa using d3
                  clear hdiff
                  go_upto_region 22 with fail
                  go_quiet (fail)
                  go_wp2
                  go_ret
                  exact ⟨by rw [Hno.out]; rfl, B.out.2.drewN _⟩
                · have d2b : (k1 == s.k) = false := by simpa using d2
                  clear hdiff
                  by_cases d3 : b1 = s.bit
                  · subst d3
                    go_upto_region 22 with fail
                    go_quiet (fail)
                    go_wp2
                    go_ret
                    exact ⟨by rw [Hno.out]; rfl, B.out.2.drewN _⟩
                  · have d3b : (b1 == s.bit) = false := by simpa using d3
                    go_upto_region 22 with fail
                    go_quiet (fail)
                    go_wp2
                    go_ret
                    exact ⟨by rw [Hno.out]; rfl, B.out.2.drewN _⟩
              · have d1b : (n1 == s.node) = false := by simpa using d1
                clear hdiff
                by_cases d2 : k1 = s.k
                · subst d2
                  by_cases d3 : b1 = s.bit
                  · subst d3
                    go_upto_region 22 with fail
                    go_quiet (fail)
                    go_wp2
                    go_ret
                    exact ⟨by rw [Hno.out]; rfl, B.out.2.drewN _⟩
                  · have d3b : (b1 == s.bit) = false := by simpa using d3
                    go_upto_region 22 with fail
                    go_quiet (fail)
                    go_wp2
                    go_ret
                    exact ⟨by rw [Hno.out]; rfl, B.out.2.drewN _⟩
                · have d2b : (k1 == s.k) = false := by simpa using d2
                  by_cases d3 : b1 = s.bit
                  · subst d3
                    go_upto_region 22 with fail
                    go_quiet (fail)
                    go_wp2
                    go_ret
                    exact ⟨by rw [Hno.out]; rfl, B.out.2.drewN _⟩
                  · have d3b : (b1 == s.bit) = false := by simpa using d3
                    go_upto_region 22 with fail
                    go_quiet (fail)
                    go_wp2
                    go_ret
                    exact ⟨by rw [Hno.out]; rfl, B.out.2.drewN _⟩
          · have hwe : (strB (wordL s.kind)).toList.isEmpty = true := by rw [(word_none (by omega)).1]; exact (by rw [strB_toList]; rfl)
            have hwn : (strB (wordL s.kind)).toList = [] := by rw [(word_none (by omega)).1]; exact strB_toList []
            have hno : printL l = [] := by
              unfold printL
              rw [if_neg]
              intro hall
              have := List.all_eq_true.1 hall s (List.mem_of_getElem? G.out.2.2.1)
              exact hkd (goodL_iff.1 this).1
            have Hno := Lib.hid hno
            clear hkd hno
            go_upto_region 22 with fail
            go_quiet (fail)
            go_wp2
            go_ret
            exact ⟨by rw [Hno.out]; rfl, B.out.2.drewN _⟩
    · obtain rfl : i = l.length := by omega
      have G := Lib.hid (And.intro hg hk)
      clear hg hk
      go_wp2
      go_ret
      exact ⟨by have h1 := G.out.1; rw [List.take_length] at h1 ⊢; unfold printL; rw [if_pos h1]; rfl, G.out.2⟩
end Go.Proofs.YtndpbkhpllmhmaaDoor
