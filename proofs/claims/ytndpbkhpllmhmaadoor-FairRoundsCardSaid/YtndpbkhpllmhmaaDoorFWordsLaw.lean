/- FairWords: a step of each kind, its line, and what the line is read as. -/
import Derived.Test.YtndpbkhpllmhmaaDoorRows
import Derived.WalkKit
import Derived.WalkSpells
import Derived.WalkLawsBesides
import Derived.RegionTactic
import Derived.ChangeAlike
import Derived.BigQuiet
import Derived.Deep.QuietTactic
import Derived.StillTailTactics
import Derived.IntWalk
import Derived.Handy
import Derived.Lib.Hide
import Derived.Deep.AppendLies
import Derived.Deep.RegionWith
import Derived.Test.YtndpbkhpllmhmaaDoorBase
import Derived.Test.YtndpbkhpllmhmaaDoorTail
import Derived.Test.YtndpbkhpllmhmaaDoorArgs
import Derived.Test.YtndpbkhpllmhmaaDoorAppend
import Derived.Test.YtndpbkhpllmhmaaDoorOffs
import Derived.Test.YtndpbkhpllmhmaaDoorStructs
import Derived.Test.YtndpbkhpllmhmaaDoorShelf
import Derived.Carry
import Derived.Deep.RegionHeld3
import Derived.BigRegion
import Derived.Maps.OwnSet
import Derived.Maps.Views
import Derived.Maps.StringElems
import Derived.Test.YtndpbkhpllmhmaaDoorMaps2
import Derived.Test.YtndpbkhpllmhmaaDoorFWords
import Derived.Test.YtndpbkhpllmhmaaDoorFEnv
import Derived.Test.YtndpbkhpllmhmaaDoorFPlain
import Derived.Test.YtndpbkhpllmhmaaDoorFRead2
import Derived.Test.YtndpbkhpllmhmaaDoorFReads
import Derived.Test.YtndpbkhpllmhmaaDoorFAlive
import Derived.Test.YtndpbkhpllmhmaaDoorRNum
namespace Go.Proofs.YtndpbkhpllmhmaaDoor
open Go.RowKit
theorem read_one {s : ST} (hg : goodL s = true) (hi : s.In) : readL (lineL s ++ [10]) = .ok [s] := by
  unfold readL
  have h : pieces 10 (lineL s ++ 10 :: []) = [lineL s, []] := by
    rw [pieces_app [] (line_no10 s)]
    rfl
  rw [h]
  have h2 : stepC (lineL s) = some s := stepC_iff.2 ⟨hg, hi, rfl⟩
  simp [runL, h2]
theorem print_one {s : ST} (hg : goodL s = true) : printL [s] = lineL s ++ [10] := by
  unfold printL
  simp [hg]
theorem read_at {s : ST} (hg : goodL s = true) (hi : s.In) {w : World} (hE : Env1 w) {x : ByteArray} (hx : x = strB (lineL s ++ [10])) :
    Calls Tryd.prog 26 #[.string x] w fun e w' => Keep [] w w' ∧ ∃ g off c, e = .returned (.tuple #[.slice (some ⟨g, off, none⟩) 1 c, .int .i64 0, .int .i64 0]) ∧ g < w'.heap.size ∧ ∀ (j : Nat) (u : Value), (stC s)[j]? = some u → w'.cell? ⟨g, off + j, none⟩ = some u := by
  subst hx
  have hl := lineL_len hi
  refine (reads_spec hE _ (by simp; omega)).mono ?_
  rintro e w' ⟨hk, ⟨l, v, h1, h2, rfl⟩ | ⟨n, h1, _⟩⟩
  · rw [read_one hg hi] at h1
    cases h1
    obtain ⟨a, c, rfl, h⟩ := h2
    obtain ⟨g, off, rfl, hgl, hc⟩ := h 0 s rfl
    exact ⟨hk, g, off, c, rfl, hgl, fun j u hu => by simpa using hc j u hu⟩
  · rw [read_one hg hi] at h1
    cases h1
theorem print_at {s : ST} (hg : goodL s = true) (hi : s.In) {w : World} (hE : Env w) {g : Nat} (hb : Blk w g 38 (stC s)) :
    Calls Tryd.prog 25 #[.slice (some ⟨g, 0, none⟩) 1 1] w fun e w' => e = .returned (.string (strB (lineL s ++ [10]))) ∧ Keep [] w w' := by
  rw [← print_one hg]
  exact print_spec hE (l := [s]) (steps_block (l := [s]) (by simpa using hb)) (by simpa using hi) (by simp)
theorem itoa_size {n : Int} (h : In64 n) : (itoaB n).size ≤ 21 := by
  unfold itoaB
  rw [strB_size]
  exact Lib.itoa_length_le n h.1 h.2
theorem num_spec (n : Int) (w : World) : Calls Tryd.prog 27 #[.int .i64 n] w fun e w' => e = .returned (.int .i64 n) ∧ w = w' := by
  go_enter Tryd.func27, Tryd.ntmps27
  go_wp2
  go_ret
  exact ⟨rfl, rfl⟩
theorem strB_const (l : List UInt8) : (⟨l.toArray⟩ : ByteArray) = strB l := rfl

set_option maxHeartbeats 6400000 in
set_option maxRecDepth 100000 in
theorem words_1 {w : World} (hE : Env1 w) (node k bit : Int) (hn : In64 node) (hk : In64 k) (hb : In64 bit) : Calls Tryd.prog 10 #[.int .i64 1, .int .i64 node, .int .i64 k, .int .i64 bit] w fun e w' => e = .returned (.bool true) ∧ Keep [] w w' := by
  have HE := Lib.hid hE
  have Hi : ST.In ⟨1, node, 0, 0⟩ := ⟨⟨by show (-9223372036854775808 : Int) ≤ 1; decide, by show (1 : Int) ≤ 9223372036854775807; decide⟩, hn, ⟨by show (-9223372036854775808 : Int) ≤ 0; decide, by show (0 : Int) ≤ 9223372036854775807; decide⟩, ⟨by show (-9223372036854775808 : Int) ≤ 0; decide, by show (0 : Int) ≤ 9223372036854775807; decide⟩⟩
  have HI := Lib.hid (And.intro Hi (And.intro hn (And.intro hk hb)))
  clear hE Hi hn hk hb
  go_enter Tryd.func10, Tryd.ntmps10
  go_wp2_with fail
  refine (alive_spec HE.out.env).mono ?_
  rintro e w1 ⟨rfl, hk1⟩
  have K1 := Lib.hid hk1
  clear hk1
  go_upto_region 10 with fail
  have hb1 : Blk ((w1.alloc (.cells #[.int .i64 1, .int .i64 node, .int .i64 0, .int .i64 0] 38)).alloc (.cells #[.string ⟨#[]⟩, .string ⟨#[119, 111, 114, 107]⟩, .string ⟨#[116, 105, 99, 107]⟩, .string ⟨#[100, 101, 108, 105, 118, 101, 114]⟩, .string ⟨#[100, 114, 111, 112]⟩, .string ⟨#[100, 117, 112]⟩, .string ⟨#[102, 108, 105, 112]⟩, .string ⟨#[99, 114, 97, 115, 104]⟩] 9)) w1.heap.size 38 (stC ⟨1, node, 0, 0⟩) := (Blk.new' _ _ _ _ rfl).alloc _
  have hk1 : Keep [] w ((w1.alloc (.cells #[.int .i64 1, .int .i64 node, .int .i64 0, .int .i64 0] 38)).alloc (.cells #[.string ⟨#[]⟩, .string ⟨#[119, 111, 114, 107]⟩, .string ⟨#[116, 105, 99, 107]⟩, .string ⟨#[100, 101, 108, 105, 118, 101, 114]⟩, .string ⟨#[100, 114, 111, 112]⟩, .string ⟨#[100, 117, 112]⟩, .string ⟨#[102, 108, 105, 112]⟩, .string ⟨#[99, 114, 97, 115, 104]⟩] 9)) := (K1.out.alloc _).alloc _
  have H := Lib.hid (And.intro hk1 hb1)
  clear hk1 hb1 K1
  generalize (w1.alloc (.cells #[.int .i64 1, .int .i64 node, .int .i64 0, .int .i64 0] 38)).alloc (.cells #[.string ⟨#[]⟩, .string ⟨#[119, 111, 114, 107]⟩, .string ⟨#[116, 105, 99, 107]⟩, .string ⟨#[100, 101, 108, 105, 118, 101, 114]⟩, .string ⟨#[100, 114, 111, 112]⟩, .string ⟨#[100, 117, 112]⟩, .string ⟨#[102, 108, 105, 112]⟩, .string ⟨#[99, 114, 97, 115, 104]⟩] 9) = wA at *
  generalize w1.heap.size = g at *
  have hg : goodL ⟨1, node, 0, 0⟩ = true := goodL_iff.2 ⟨⟨by show (1 : Int) ≤ 1; decide, by show (1 : Int) ≤ 7; decide⟩, rfl⟩
  have Hg := Lib.hid hg
  have Hd := Lib.hid (fun (x : ByteArray) (hx : x = strB (lineL ⟨1, node, 0, 0⟩ ++ [10])) => read_at hg HI.out.1 (HE.out.keep H.out.1) hx)
  clear hg
  have hz_node : (itoaB node).size ≤ 21 := itoa_size HI.out.2.1
  go_wp2_with fail
  refine (digits_spec _ HI.out.2.1).mono ?_
  rintro e w' ⟨rfl, rfl⟩
  go_upto_region 20 with fail
  have hwd : (((⟨#[119, 111, 114, 107]⟩ : ByteArray) ++ (⟨#[32]⟩ : ByteArray)) ++ itoaB node).size ≤ 100 ∧ (((⟨#[119, 111, 114, 107]⟩ : ByteArray) ++ (⟨#[32]⟩ : ByteArray)) ++ itoaB node) ++ (⟨#[10]⟩ : ByteArray) = strB (lineL ⟨1, node, 0, 0⟩ ++ [10]) := by
    refine ⟨?_, ?_⟩
    · simp only [ByteArray.size_append]
      have : (⟨#[119, 111, 114, 107]⟩ : ByteArray).size = 4 := rfl
      have : (⟨#[32]⟩ : ByteArray).size = 1 := rfl
      omega
    · rw [show (⟨#[10]⟩ : ByteArray) = strB [10] from rfl, show (⟨#[32]⟩ : ByteArray) = strB [32] from rfl, show (⟨#[119, 111, 114, 107]⟩ : ByteArray) = strB kWork from rfl]
      simp only [itoaB, strB_app]
      congr 1
      simp [lineL, partsL, glue, wordL, fieldsL]
  generalize ((⟨#[119, 111, 114, 107]⟩ : ByteArray) ++ (⟨#[32]⟩ : ByteArray)) ++ itoaB node = wd at *
  obtain ⟨hwd2, hwd3⟩ := hwd
  clear hz_node
  go_wp2_with fail
  refine (Hd.out _ rfl).mono ?_
  rintro e w2 ⟨hk2, gr, off, c, rfl, hgr, hc⟩
  have hbs := H.out.2.keep hk2 (by simp)
  have c0 : w2.cell? ⟨g, 0, none⟩ = some (.int .i64 1) := hbs.cell 0
  have c1 : w2.cell? ⟨g, 1, none⟩ = some (.int .i64 node) := hbs.cell 1
  have c2 : w2.cell? ⟨g, 2, none⟩ = some (.int .i64 0) := hbs.cell 2
  have c3 : w2.cell? ⟨g, 3, none⟩ = some (.int .i64 0) := hbs.cell 3
  have d0 : w2.cell? ⟨gr, off, none⟩ = some (.int .i64 1) := hc 0 _ rfl
  have d1 : w2.cell? ⟨gr, off + 1, none⟩ = some (.int .i64 node) := hc 1 _ rfl
  have d2 : w2.cell? ⟨gr, off + 2, none⟩ = some (.int .i64 0) := hc 2 _ rfl
  have d3 : w2.cell? ⟨gr, off + 3, none⟩ = some (.int .i64 0) := hc 3 _ rfl
  have H2 := Lib.hid (H.out.1.trans hk2 (by simp))
  have Hgr := Lib.hid hgr
  clear hk2 hc hbs Hd H hgr
  go_upto_region 21 with fail
  have hcap : ¬ (9223372036854775807 : Nat) < wd.size + 1 := by omega
  clear hwd2
  go_region_held3 (fun w' => w'.cell? ⟨g, 0, none⟩ = some (.int .i64 1) ∧ w'.cell? ⟨g, 1, none⟩ = some (.int .i64 node) ∧ w'.cell? ⟨g, 2, none⟩ = some (.int .i64 0) ∧ w'.cell? ⟨g, 3, none⟩ = some (.int .i64 0) ∧ w'.cell? ⟨gr, off, none⟩ = some (.int .i64 1) ∧ w'.cell? ⟨gr, off + 1, none⟩ = some (.int .i64 node) ∧ w'.cell? ⟨gr, off + 2, none⟩ = some (.int .i64 0) ∧ w'.cell? ⟨gr, off + 3, none⟩ = some (.int .i64 0)) (first | exact ⟨by assumption, by assumption, by assumption, by assumption, by assumption, by assumption, by assumption, by assumption⟩ | go_keep)
    (first | (go_at_call 25; go_must (refine (print_at Hg.out HI.out.1 (HE.out.env.keep ((H2.out.drewN _).alloc _)) (Blk.new' _ _ _ _ rfl)).mono ?_; rintro e w3 ⟨rfl, hkp⟩; have hk3 : Keep [] w2 w3 := (((Keep.refl _ w2).drewN _).alloc _).trans hkp (by simp); have c0 : w3.cell? ⟨g, 0, none⟩ = some (.int .i64 1) := cell_keep0 hk3 c0; have c1 : w3.cell? ⟨g, 1, none⟩ = some (.int .i64 node) := cell_keep0 hk3 c1; have c2 : w3.cell? ⟨g, 2, none⟩ = some (.int .i64 0) := cell_keep0 hk3 c2; have c3 : w3.cell? ⟨g, 3, none⟩ = some (.int .i64 0) := cell_keep0 hk3 c3; have d0 : w3.cell? ⟨gr, off, none⟩ = some (.int .i64 1) := cell_keep0 hk3 d0; have d1 : w3.cell? ⟨gr, off + 1, none⟩ = some (.int .i64 node) := cell_keep0 hk3 d1; have d2 : w3.cell? ⟨gr, off + 2, none⟩ = some (.int .i64 0) := cell_keep0 hk3 d2; have d3 : w3.cell? ⟨gr, off + 3, none⟩ = some (.int .i64 0) := cell_keep0 hk3 d3; have H3 := Lib.hid (H2.out.trans hk3 (by simp)))) | (go_at_call 27; go_must (refine (num_spec _ _).mono ?_; rintro e w4 ⟨rfl, rfl⟩)))
  all_goals
    go_wp2
    go_ret
    exact ⟨rfl, H3.out⟩
set_option maxHeartbeats 6400000 in
set_option maxRecDepth 100000 in
theorem words_2 {w : World} (hE : Env1 w) (node k bit : Int) (hn : In64 node) (hk : In64 k) (hb : In64 bit) : Calls Tryd.prog 10 #[.int .i64 2, .int .i64 node, .int .i64 k, .int .i64 bit] w fun e w' => e = .returned (.bool true) ∧ Keep [] w w' := by
  have HE := Lib.hid hE
  have Hi : ST.In ⟨2, 0, 0, 0⟩ := ⟨⟨by show (-9223372036854775808 : Int) ≤ 2; decide, by show (2 : Int) ≤ 9223372036854775807; decide⟩, ⟨by show (-9223372036854775808 : Int) ≤ 0; decide, by show (0 : Int) ≤ 9223372036854775807; decide⟩, ⟨by show (-9223372036854775808 : Int) ≤ 0; decide, by show (0 : Int) ≤ 9223372036854775807; decide⟩, ⟨by show (-9223372036854775808 : Int) ≤ 0; decide, by show (0 : Int) ≤ 9223372036854775807; decide⟩⟩
  have HI := Lib.hid (And.intro Hi (And.intro hn (And.intro hk hb)))
  clear hE Hi hn hk hb
  go_enter Tryd.func10, Tryd.ntmps10
  go_wp2_with fail
  refine (alive_spec HE.out.env).mono ?_
  rintro e w1 ⟨rfl, hk1⟩
  have K1 := Lib.hid hk1
  clear hk1
  go_upto_region 20 with fail
  have hb1 : Blk ((w1.alloc (.cells #[.int .i64 2, .int .i64 0, .int .i64 0, .int .i64 0] 38)).alloc (.cells #[.string ⟨#[]⟩, .string ⟨#[119, 111, 114, 107]⟩, .string ⟨#[116, 105, 99, 107]⟩, .string ⟨#[100, 101, 108, 105, 118, 101, 114]⟩, .string ⟨#[100, 114, 111, 112]⟩, .string ⟨#[100, 117, 112]⟩, .string ⟨#[102, 108, 105, 112]⟩, .string ⟨#[99, 114, 97, 115, 104]⟩] 9)) w1.heap.size 38 (stC ⟨2, 0, 0, 0⟩) := (Blk.new' _ _ _ _ rfl).alloc _
  have hk1 : Keep [] w ((w1.alloc (.cells #[.int .i64 2, .int .i64 0, .int .i64 0, .int .i64 0] 38)).alloc (.cells #[.string ⟨#[]⟩, .string ⟨#[119, 111, 114, 107]⟩, .string ⟨#[116, 105, 99, 107]⟩, .string ⟨#[100, 101, 108, 105, 118, 101, 114]⟩, .string ⟨#[100, 114, 111, 112]⟩, .string ⟨#[100, 117, 112]⟩, .string ⟨#[102, 108, 105, 112]⟩, .string ⟨#[99, 114, 97, 115, 104]⟩] 9)) := (K1.out.alloc _).alloc _
  have H := Lib.hid (And.intro hk1 hb1)
  clear hk1 hb1 K1
  generalize (w1.alloc (.cells #[.int .i64 2, .int .i64 0, .int .i64 0, .int .i64 0] 38)).alloc (.cells #[.string ⟨#[]⟩, .string ⟨#[119, 111, 114, 107]⟩, .string ⟨#[116, 105, 99, 107]⟩, .string ⟨#[100, 101, 108, 105, 118, 101, 114]⟩, .string ⟨#[100, 114, 111, 112]⟩, .string ⟨#[100, 117, 112]⟩, .string ⟨#[102, 108, 105, 112]⟩, .string ⟨#[99, 114, 97, 115, 104]⟩] 9) = wA at *
  generalize w1.heap.size = g at *
  have hg : goodL ⟨2, 0, 0, 0⟩ = true := goodL_iff.2 ⟨⟨by show (1 : Int) ≤ 2; decide, by show (2 : Int) ≤ 7; decide⟩, rfl⟩
  have Hg := Lib.hid hg
  have Hd := Lib.hid (fun (x : ByteArray) (hx : x = strB (lineL ⟨2, 0, 0, 0⟩ ++ [10])) => read_at hg HI.out.1 (HE.out.keep H.out.1) hx)
  clear hg
  have hwd : ((⟨#[116, 105, 99, 107]⟩ : ByteArray)).size ≤ 100 ∧ ((⟨#[116, 105, 99, 107]⟩ : ByteArray)) ++ (⟨#[10]⟩ : ByteArray) = strB (lineL ⟨2, 0, 0, 0⟩ ++ [10]) := by
    refine ⟨?_, ?_⟩
    · decide
    · rw [show (⟨#[10]⟩ : ByteArray) = strB [10] from rfl, show (⟨#[116, 105, 99, 107]⟩ : ByteArray) = strB kTick from rfl]
      simp only [strB_app]
      congr 1
  generalize (⟨#[116, 105, 99, 107]⟩ : ByteArray) = wd at *
  obtain ⟨hwd2, hwd3⟩ := hwd
  go_wp2_with fail
  refine (Hd.out _ rfl).mono ?_
  rintro e w2 ⟨hk2, gr, off, c, rfl, hgr, hc⟩
  have hbs := H.out.2.keep hk2 (by simp)
  have c0 : w2.cell? ⟨g, 0, none⟩ = some (.int .i64 2) := hbs.cell 0
  have c1 : w2.cell? ⟨g, 1, none⟩ = some (.int .i64 0) := hbs.cell 1
  have c2 : w2.cell? ⟨g, 2, none⟩ = some (.int .i64 0) := hbs.cell 2
  have c3 : w2.cell? ⟨g, 3, none⟩ = some (.int .i64 0) := hbs.cell 3
  have d0 : w2.cell? ⟨gr, off, none⟩ = some (.int .i64 2) := hc 0 _ rfl
  have d1 : w2.cell? ⟨gr, off + 1, none⟩ = some (.int .i64 0) := hc 1 _ rfl
  have d2 : w2.cell? ⟨gr, off + 2, none⟩ = some (.int .i64 0) := hc 2 _ rfl
  have d3 : w2.cell? ⟨gr, off + 3, none⟩ = some (.int .i64 0) := hc 3 _ rfl
  have H2 := Lib.hid (H.out.1.trans hk2 (by simp))
  have Hgr := Lib.hid hgr
  clear hk2 hc hbs Hd H hgr
  go_upto_region 21 with fail
  have hcap : ¬ (9223372036854775807 : Nat) < wd.size + 1 := by omega
  clear hwd2
  go_region_held3 (fun w' => w'.cell? ⟨g, 0, none⟩ = some (.int .i64 2) ∧ w'.cell? ⟨g, 1, none⟩ = some (.int .i64 0) ∧ w'.cell? ⟨g, 2, none⟩ = some (.int .i64 0) ∧ w'.cell? ⟨g, 3, none⟩ = some (.int .i64 0) ∧ w'.cell? ⟨gr, off, none⟩ = some (.int .i64 2) ∧ w'.cell? ⟨gr, off + 1, none⟩ = some (.int .i64 0) ∧ w'.cell? ⟨gr, off + 2, none⟩ = some (.int .i64 0) ∧ w'.cell? ⟨gr, off + 3, none⟩ = some (.int .i64 0)) (first | exact ⟨by assumption, by assumption, by assumption, by assumption, by assumption, by assumption, by assumption, by assumption⟩ | go_keep)
    (first | (go_at_call 25; go_must (refine (print_at Hg.out HI.out.1 (HE.out.env.keep ((H2.out.drewN _).alloc _)) (Blk.new' _ _ _ _ rfl)).mono ?_; rintro e w3 ⟨rfl, hkp⟩; have hk3 : Keep [] w2 w3 := (((Keep.refl _ w2).drewN _).alloc _).trans hkp (by simp); have c0 : w3.cell? ⟨g, 0, none⟩ = some (.int .i64 2) := cell_keep0 hk3 c0; have c1 : w3.cell? ⟨g, 1, none⟩ = some (.int .i64 0) := cell_keep0 hk3 c1; have c2 : w3.cell? ⟨g, 2, none⟩ = some (.int .i64 0) := cell_keep0 hk3 c2; have c3 : w3.cell? ⟨g, 3, none⟩ = some (.int .i64 0) := cell_keep0 hk3 c3; have d0 : w3.cell? ⟨gr, off, none⟩ = some (.int .i64 2) := cell_keep0 hk3 d0; have d1 : w3.cell? ⟨gr, off + 1, none⟩ = some (.int .i64 0) := cell_keep0 hk3 d1; have d2 : w3.cell? ⟨gr, off + 2, none⟩ = some (.int .i64 0) := cell_keep0 hk3 d2; have d3 : w3.cell? ⟨gr, off + 3, none⟩ = some (.int .i64 0) := cell_keep0 hk3 d3; have H3 := Lib.hid (H2.out.trans hk3 (by simp)))) | (go_at_call 27; go_must (refine (num_spec _ _).mono ?_; rintro e w4 ⟨rfl, rfl⟩)))
  all_goals
    go_wp2
    go_ret
    exact ⟨rfl, H3.out⟩
set_option maxHeartbeats 6400000 in
set_option maxRecDepth 100000 in
theorem words_3 {w : World} (hE : Env1 w) (node k bit : Int) (hn : In64 node) (hk : In64 k) (hb : In64 bit) : Calls Tryd.prog 10 #[.int .i64 3, .int .i64 node, .int .i64 k, .int .i64 bit] w fun e w' => e = .returned (.bool true) ∧ Keep [] w w' := by
  have HE := Lib.hid hE
  have Hi : ST.In ⟨3, 0, k, 0⟩ := ⟨⟨by show (-9223372036854775808 : Int) ≤ 3; decide, by show (3 : Int) ≤ 9223372036854775807; decide⟩, ⟨by show (-9223372036854775808 : Int) ≤ 0; decide, by show (0 : Int) ≤ 9223372036854775807; decide⟩, hk, ⟨by show (-9223372036854775808 : Int) ≤ 0; decide, by show (0 : Int) ≤ 9223372036854775807; decide⟩⟩
  have HI := Lib.hid (And.intro Hi (And.intro hn (And.intro hk hb)))
  clear hE Hi hn hk hb
  go_enter Tryd.func10, Tryd.ntmps10
  go_wp2_with fail
  refine (alive_spec HE.out.env).mono ?_
  rintro e w1 ⟨rfl, hk1⟩
  have K1 := Lib.hid hk1
  clear hk1
  go_upto_region 15 with fail
  have hb1 : Blk ((w1.alloc (.cells #[.int .i64 3, .int .i64 0, .int .i64 k, .int .i64 0] 38)).alloc (.cells #[.string ⟨#[]⟩, .string ⟨#[119, 111, 114, 107]⟩, .string ⟨#[116, 105, 99, 107]⟩, .string ⟨#[100, 101, 108, 105, 118, 101, 114]⟩, .string ⟨#[100, 114, 111, 112]⟩, .string ⟨#[100, 117, 112]⟩, .string ⟨#[102, 108, 105, 112]⟩, .string ⟨#[99, 114, 97, 115, 104]⟩] 9)) w1.heap.size 38 (stC ⟨3, 0, k, 0⟩) := (Blk.new' _ _ _ _ rfl).alloc _
  have hk1 : Keep [] w ((w1.alloc (.cells #[.int .i64 3, .int .i64 0, .int .i64 k, .int .i64 0] 38)).alloc (.cells #[.string ⟨#[]⟩, .string ⟨#[119, 111, 114, 107]⟩, .string ⟨#[116, 105, 99, 107]⟩, .string ⟨#[100, 101, 108, 105, 118, 101, 114]⟩, .string ⟨#[100, 114, 111, 112]⟩, .string ⟨#[100, 117, 112]⟩, .string ⟨#[102, 108, 105, 112]⟩, .string ⟨#[99, 114, 97, 115, 104]⟩] 9)) := (K1.out.alloc _).alloc _
  have H := Lib.hid (And.intro hk1 hb1)
  clear hk1 hb1 K1
  generalize (w1.alloc (.cells #[.int .i64 3, .int .i64 0, .int .i64 k, .int .i64 0] 38)).alloc (.cells #[.string ⟨#[]⟩, .string ⟨#[119, 111, 114, 107]⟩, .string ⟨#[116, 105, 99, 107]⟩, .string ⟨#[100, 101, 108, 105, 118, 101, 114]⟩, .string ⟨#[100, 114, 111, 112]⟩, .string ⟨#[100, 117, 112]⟩, .string ⟨#[102, 108, 105, 112]⟩, .string ⟨#[99, 114, 97, 115, 104]⟩] 9) = wA at *
  generalize w1.heap.size = g at *
  have hg : goodL ⟨3, 0, k, 0⟩ = true := goodL_iff.2 ⟨⟨by show (1 : Int) ≤ 3; decide, by show (3 : Int) ≤ 7; decide⟩, rfl⟩
  have Hg := Lib.hid hg
  have Hd := Lib.hid (fun (x : ByteArray) (hx : x = strB (lineL ⟨3, 0, k, 0⟩ ++ [10])) => read_at hg HI.out.1 (HE.out.keep H.out.1) hx)
  clear hg
  have hz_k : (itoaB k).size ≤ 21 := itoa_size HI.out.2.2.1
  go_wp2_with fail
  refine (digits_spec _ HI.out.2.2.1).mono ?_
  rintro e w' ⟨rfl, rfl⟩
  go_upto_region 20 with fail
  have hwd : (((⟨#[100, 101, 108, 105, 118, 101, 114]⟩ : ByteArray) ++ (⟨#[32]⟩ : ByteArray)) ++ itoaB k).size ≤ 100 ∧ (((⟨#[100, 101, 108, 105, 118, 101, 114]⟩ : ByteArray) ++ (⟨#[32]⟩ : ByteArray)) ++ itoaB k) ++ (⟨#[10]⟩ : ByteArray) = strB (lineL ⟨3, 0, k, 0⟩ ++ [10]) := by
    refine ⟨?_, ?_⟩
    · simp only [ByteArray.size_append]
      have : (⟨#[100, 101, 108, 105, 118, 101, 114]⟩ : ByteArray).size = 7 := rfl
      have : (⟨#[32]⟩ : ByteArray).size = 1 := rfl
      omega
    · rw [show (⟨#[10]⟩ : ByteArray) = strB [10] from rfl, show (⟨#[32]⟩ : ByteArray) = strB [32] from rfl, show (⟨#[100, 101, 108, 105, 118, 101, 114]⟩ : ByteArray) = strB kDeliver from rfl]
      simp only [itoaB, strB_app]
      congr 1
      simp [lineL, partsL, glue, wordL, fieldsL]
  generalize ((⟨#[100, 101, 108, 105, 118, 101, 114]⟩ : ByteArray) ++ (⟨#[32]⟩ : ByteArray)) ++ itoaB k = wd at *
  obtain ⟨hwd2, hwd3⟩ := hwd
  clear hz_k
  go_wp2_with fail
  refine (Hd.out _ rfl).mono ?_
  rintro e w2 ⟨hk2, gr, off, c, rfl, hgr, hc⟩
  have hbs := H.out.2.keep hk2 (by simp)
  have c0 : w2.cell? ⟨g, 0, none⟩ = some (.int .i64 3) := hbs.cell 0
  have c1 : w2.cell? ⟨g, 1, none⟩ = some (.int .i64 0) := hbs.cell 1
  have c2 : w2.cell? ⟨g, 2, none⟩ = some (.int .i64 k) := hbs.cell 2
  have c3 : w2.cell? ⟨g, 3, none⟩ = some (.int .i64 0) := hbs.cell 3
  have d0 : w2.cell? ⟨gr, off, none⟩ = some (.int .i64 3) := hc 0 _ rfl
  have d1 : w2.cell? ⟨gr, off + 1, none⟩ = some (.int .i64 0) := hc 1 _ rfl
  have d2 : w2.cell? ⟨gr, off + 2, none⟩ = some (.int .i64 k) := hc 2 _ rfl
  have d3 : w2.cell? ⟨gr, off + 3, none⟩ = some (.int .i64 0) := hc 3 _ rfl
  have H2 := Lib.hid (H.out.1.trans hk2 (by simp))
  have Hgr := Lib.hid hgr
  clear hk2 hc hbs Hd H hgr
  go_upto_region 21 with fail
  have hcap : ¬ (9223372036854775807 : Nat) < wd.size + 1 := by omega
  clear hwd2
  go_region_held3 (fun w' => w'.cell? ⟨g, 0, none⟩ = some (.int .i64 3) ∧ w'.cell? ⟨g, 1, none⟩ = some (.int .i64 0) ∧ w'.cell? ⟨g, 2, none⟩ = some (.int .i64 k) ∧ w'.cell? ⟨g, 3, none⟩ = some (.int .i64 0) ∧ w'.cell? ⟨gr, off, none⟩ = some (.int .i64 3) ∧ w'.cell? ⟨gr, off + 1, none⟩ = some (.int .i64 0) ∧ w'.cell? ⟨gr, off + 2, none⟩ = some (.int .i64 k) ∧ w'.cell? ⟨gr, off + 3, none⟩ = some (.int .i64 0)) (first | exact ⟨by assumption, by assumption, by assumption, by assumption, by assumption, by assumption, by assumption, by assumption⟩ | go_keep)
    (first | (go_at_call 25; go_must (refine (print_at Hg.out HI.out.1 (HE.out.env.keep ((H2.out.drewN _).alloc _)) (Blk.new' _ _ _ _ rfl)).mono ?_; rintro e w3 ⟨rfl, hkp⟩; have hk3 : Keep [] w2 w3 := (((Keep.refl _ w2).drewN _).alloc _).trans hkp (by simp); have c0 : w3.cell? ⟨g, 0, none⟩ = some (.int .i64 3) := cell_keep0 hk3 c0; have c1 : w3.cell? ⟨g, 1, none⟩ = some (.int .i64 0) := cell_keep0 hk3 c1; have c2 : w3.cell? ⟨g, 2, none⟩ = some (.int .i64 k) := cell_keep0 hk3 c2; have c3 : w3.cell? ⟨g, 3, none⟩ = some (.int .i64 0) := cell_keep0 hk3 c3; have d0 : w3.cell? ⟨gr, off, none⟩ = some (.int .i64 3) := cell_keep0 hk3 d0; have d1 : w3.cell? ⟨gr, off + 1, none⟩ = some (.int .i64 0) := cell_keep0 hk3 d1; have d2 : w3.cell? ⟨gr, off + 2, none⟩ = some (.int .i64 k) := cell_keep0 hk3 d2; have d3 : w3.cell? ⟨gr, off + 3, none⟩ = some (.int .i64 0) := cell_keep0 hk3 d3; have H3 := Lib.hid (H2.out.trans hk3 (by simp)))) | (go_at_call 27; go_must (refine (num_spec _ _).mono ?_; rintro e w4 ⟨rfl, rfl⟩)))
  all_goals
    go_wp2
    go_ret
    exact ⟨rfl, H3.out⟩
set_option maxHeartbeats 6400000 in
set_option maxRecDepth 100000 in
theorem words_4 {w : World} (hE : Env1 w) (node k bit : Int) (hn : In64 node) (hk : In64 k) (hb : In64 bit) : Calls Tryd.prog 10 #[.int .i64 4, .int .i64 node, .int .i64 k, .int .i64 bit] w fun e w' => e = .returned (.bool true) ∧ Keep [] w w' := by
  have HE := Lib.hid hE
  have Hi : ST.In ⟨4, 0, k, 0⟩ := ⟨⟨by show (-9223372036854775808 : Int) ≤ 4; decide, by show (4 : Int) ≤ 9223372036854775807; decide⟩, ⟨by show (-9223372036854775808 : Int) ≤ 0; decide, by show (0 : Int) ≤ 9223372036854775807; decide⟩, hk, ⟨by show (-9223372036854775808 : Int) ≤ 0; decide, by show (0 : Int) ≤ 9223372036854775807; decide⟩⟩
  have HI := Lib.hid (And.intro Hi (And.intro hn (And.intro hk hb)))
  clear hE Hi hn hk hb
  go_enter Tryd.func10, Tryd.ntmps10
  go_wp2_with fail
  refine (alive_spec HE.out.env).mono ?_
  rintro e w1 ⟨rfl, hk1⟩
  have K1 := Lib.hid hk1
  clear hk1
  go_upto_region 15 with fail
  have hb1 : Blk ((w1.alloc (.cells #[.int .i64 4, .int .i64 0, .int .i64 k, .int .i64 0] 38)).alloc (.cells #[.string ⟨#[]⟩, .string ⟨#[119, 111, 114, 107]⟩, .string ⟨#[116, 105, 99, 107]⟩, .string ⟨#[100, 101, 108, 105, 118, 101, 114]⟩, .string ⟨#[100, 114, 111, 112]⟩, .string ⟨#[100, 117, 112]⟩, .string ⟨#[102, 108, 105, 112]⟩, .string ⟨#[99, 114, 97, 115, 104]⟩] 9)) w1.heap.size 38 (stC ⟨4, 0, k, 0⟩) := (Blk.new' _ _ _ _ rfl).alloc _
  have hk1 : Keep [] w ((w1.alloc (.cells #[.int .i64 4, .int .i64 0, .int .i64 k, .int .i64 0] 38)).alloc (.cells #[.string ⟨#[]⟩, .string ⟨#[119, 111, 114, 107]⟩, .string ⟨#[116, 105, 99, 107]⟩, .string ⟨#[100, 101, 108, 105, 118, 101, 114]⟩, .string ⟨#[100, 114, 111, 112]⟩, .string ⟨#[100, 117, 112]⟩, .string ⟨#[102, 108, 105, 112]⟩, .string ⟨#[99, 114, 97, 115, 104]⟩] 9)) := (K1.out.alloc _).alloc _
  have H := Lib.hid (And.intro hk1 hb1)
  clear hk1 hb1 K1
  generalize (w1.alloc (.cells #[.int .i64 4, .int .i64 0, .int .i64 k, .int .i64 0] 38)).alloc (.cells #[.string ⟨#[]⟩, .string ⟨#[119, 111, 114, 107]⟩, .string ⟨#[116, 105, 99, 107]⟩, .string ⟨#[100, 101, 108, 105, 118, 101, 114]⟩, .string ⟨#[100, 114, 111, 112]⟩, .string ⟨#[100, 117, 112]⟩, .string ⟨#[102, 108, 105, 112]⟩, .string ⟨#[99, 114, 97, 115, 104]⟩] 9) = wA at *
  generalize w1.heap.size = g at *
  have hg : goodL ⟨4, 0, k, 0⟩ = true := goodL_iff.2 ⟨⟨by show (1 : Int) ≤ 4; decide, by show (4 : Int) ≤ 7; decide⟩, rfl⟩
  have Hg := Lib.hid hg
  have Hd := Lib.hid (fun (x : ByteArray) (hx : x = strB (lineL ⟨4, 0, k, 0⟩ ++ [10])) => read_at hg HI.out.1 (HE.out.keep H.out.1) hx)
  clear hg
  have hz_k : (itoaB k).size ≤ 21 := itoa_size HI.out.2.2.1
  go_wp2_with fail
  refine (digits_spec _ HI.out.2.2.1).mono ?_
  rintro e w' ⟨rfl, rfl⟩
  go_upto_region 20 with fail
  have hwd : (((⟨#[100, 114, 111, 112]⟩ : ByteArray) ++ (⟨#[32]⟩ : ByteArray)) ++ itoaB k).size ≤ 100 ∧ (((⟨#[100, 114, 111, 112]⟩ : ByteArray) ++ (⟨#[32]⟩ : ByteArray)) ++ itoaB k) ++ (⟨#[10]⟩ : ByteArray) = strB (lineL ⟨4, 0, k, 0⟩ ++ [10]) := by
    refine ⟨?_, ?_⟩
    · simp only [ByteArray.size_append]
      have : (⟨#[100, 114, 111, 112]⟩ : ByteArray).size = 4 := rfl
      have : (⟨#[32]⟩ : ByteArray).size = 1 := rfl
      omega
    · rw [show (⟨#[10]⟩ : ByteArray) = strB [10] from rfl, show (⟨#[32]⟩ : ByteArray) = strB [32] from rfl, show (⟨#[100, 114, 111, 112]⟩ : ByteArray) = strB kDrop from rfl]
      simp only [itoaB, strB_app]
      congr 1
      simp [lineL, partsL, glue, wordL, fieldsL]
  generalize ((⟨#[100, 114, 111, 112]⟩ : ByteArray) ++ (⟨#[32]⟩ : ByteArray)) ++ itoaB k = wd at *
  obtain ⟨hwd2, hwd3⟩ := hwd
  clear hz_k
  go_wp2_with fail
  refine (Hd.out _ rfl).mono ?_
  rintro e w2 ⟨hk2, gr, off, c, rfl, hgr, hc⟩
  have hbs := H.out.2.keep hk2 (by simp)
  have c0 : w2.cell? ⟨g, 0, none⟩ = some (.int .i64 4) := hbs.cell 0
  have c1 : w2.cell? ⟨g, 1, none⟩ = some (.int .i64 0) := hbs.cell 1
  have c2 : w2.cell? ⟨g, 2, none⟩ = some (.int .i64 k) := hbs.cell 2
  have c3 : w2.cell? ⟨g, 3, none⟩ = some (.int .i64 0) := hbs.cell 3
  have d0 : w2.cell? ⟨gr, off, none⟩ = some (.int .i64 4) := hc 0 _ rfl
  have d1 : w2.cell? ⟨gr, off + 1, none⟩ = some (.int .i64 0) := hc 1 _ rfl
  have d2 : w2.cell? ⟨gr, off + 2, none⟩ = some (.int .i64 k) := hc 2 _ rfl
  have d3 : w2.cell? ⟨gr, off + 3, none⟩ = some (.int .i64 0) := hc 3 _ rfl
  have H2 := Lib.hid (H.out.1.trans hk2 (by simp))
  have Hgr := Lib.hid hgr
  clear hk2 hc hbs Hd H hgr
  go_upto_region 21 with fail
  have hcap : ¬ (9223372036854775807 : Nat) < wd.size + 1 := by omega
  clear hwd2
  go_region_held3 (fun w' => w'.cell? ⟨g, 0, none⟩ = some (.int .i64 4) ∧ w'.cell? ⟨g, 1, none⟩ = some (.int .i64 0) ∧ w'.cell? ⟨g, 2, none⟩ = some (.int .i64 k) ∧ w'.cell? ⟨g, 3, none⟩ = some (.int .i64 0) ∧ w'.cell? ⟨gr, off, none⟩ = some (.int .i64 4) ∧ w'.cell? ⟨gr, off + 1, none⟩ = some (.int .i64 0) ∧ w'.cell? ⟨gr, off + 2, none⟩ = some (.int .i64 k) ∧ w'.cell? ⟨gr, off + 3, none⟩ = some (.int .i64 0)) (first | exact ⟨by assumption, by assumption, by assumption, by assumption, by assumption, by assumption, by assumption, by assumption⟩ | go_keep)
    (first | (go_at_call 25; go_must (refine (print_at Hg.out HI.out.1 (HE.out.env.keep ((H2.out.drewN _).alloc _)) (Blk.new' _ _ _ _ rfl)).mono ?_; rintro e w3 ⟨rfl, hkp⟩; have hk3 : Keep [] w2 w3 := (((Keep.refl _ w2).drewN _).alloc _).trans hkp (by simp); have c0 : w3.cell? ⟨g, 0, none⟩ = some (.int .i64 4) := cell_keep0 hk3 c0; have c1 : w3.cell? ⟨g, 1, none⟩ = some (.int .i64 0) := cell_keep0 hk3 c1; have c2 : w3.cell? ⟨g, 2, none⟩ = some (.int .i64 k) := cell_keep0 hk3 c2; have c3 : w3.cell? ⟨g, 3, none⟩ = some (.int .i64 0) := cell_keep0 hk3 c3; have d0 : w3.cell? ⟨gr, off, none⟩ = some (.int .i64 4) := cell_keep0 hk3 d0; have d1 : w3.cell? ⟨gr, off + 1, none⟩ = some (.int .i64 0) := cell_keep0 hk3 d1; have d2 : w3.cell? ⟨gr, off + 2, none⟩ = some (.int .i64 k) := cell_keep0 hk3 d2; have d3 : w3.cell? ⟨gr, off + 3, none⟩ = some (.int .i64 0) := cell_keep0 hk3 d3; have H3 := Lib.hid (H2.out.trans hk3 (by simp)))) | (go_at_call 27; go_must (refine (num_spec _ _).mono ?_; rintro e w4 ⟨rfl, rfl⟩)))
  all_goals
    go_wp2
    go_ret
    exact ⟨rfl, H3.out⟩
set_option maxHeartbeats 6400000 in
set_option maxRecDepth 100000 in
theorem words_5 {w : World} (hE : Env1 w) (node k bit : Int) (hn : In64 node) (hk : In64 k) (hb : In64 bit) : Calls Tryd.prog 10 #[.int .i64 5, .int .i64 node, .int .i64 k, .int .i64 bit] w fun e w' => e = .returned (.bool true) ∧ Keep [] w w' := by
  have HE := Lib.hid hE
  have Hi : ST.In ⟨5, 0, k, 0⟩ := ⟨⟨by show (-9223372036854775808 : Int) ≤ 5; decide, by show (5 : Int) ≤ 9223372036854775807; decide⟩, ⟨by show (-9223372036854775808 : Int) ≤ 0; decide, by show (0 : Int) ≤ 9223372036854775807; decide⟩, hk, ⟨by show (-9223372036854775808 : Int) ≤ 0; decide, by show (0 : Int) ≤ 9223372036854775807; decide⟩⟩
  have HI := Lib.hid (And.intro Hi (And.intro hn (And.intro hk hb)))
  clear hE Hi hn hk hb
  go_enter Tryd.func10, Tryd.ntmps10
  go_wp2_with fail
  refine (alive_spec HE.out.env).mono ?_
  rintro e w1 ⟨rfl, hk1⟩
  have K1 := Lib.hid hk1
  clear hk1
  go_upto_region 15 with fail
  have hb1 : Blk ((w1.alloc (.cells #[.int .i64 5, .int .i64 0, .int .i64 k, .int .i64 0] 38)).alloc (.cells #[.string ⟨#[]⟩, .string ⟨#[119, 111, 114, 107]⟩, .string ⟨#[116, 105, 99, 107]⟩, .string ⟨#[100, 101, 108, 105, 118, 101, 114]⟩, .string ⟨#[100, 114, 111, 112]⟩, .string ⟨#[100, 117, 112]⟩, .string ⟨#[102, 108, 105, 112]⟩, .string ⟨#[99, 114, 97, 115, 104]⟩] 9)) w1.heap.size 38 (stC ⟨5, 0, k, 0⟩) := (Blk.new' _ _ _ _ rfl).alloc _
  have hk1 : Keep [] w ((w1.alloc (.cells #[.int .i64 5, .int .i64 0, .int .i64 k, .int .i64 0] 38)).alloc (.cells #[.string ⟨#[]⟩, .string ⟨#[119, 111, 114, 107]⟩, .string ⟨#[116, 105, 99, 107]⟩, .string ⟨#[100, 101, 108, 105, 118, 101, 114]⟩, .string ⟨#[100, 114, 111, 112]⟩, .string ⟨#[100, 117, 112]⟩, .string ⟨#[102, 108, 105, 112]⟩, .string ⟨#[99, 114, 97, 115, 104]⟩] 9)) := (K1.out.alloc _).alloc _
  have H := Lib.hid (And.intro hk1 hb1)
  clear hk1 hb1 K1
  generalize (w1.alloc (.cells #[.int .i64 5, .int .i64 0, .int .i64 k, .int .i64 0] 38)).alloc (.cells #[.string ⟨#[]⟩, .string ⟨#[119, 111, 114, 107]⟩, .string ⟨#[116, 105, 99, 107]⟩, .string ⟨#[100, 101, 108, 105, 118, 101, 114]⟩, .string ⟨#[100, 114, 111, 112]⟩, .string ⟨#[100, 117, 112]⟩, .string ⟨#[102, 108, 105, 112]⟩, .string ⟨#[99, 114, 97, 115, 104]⟩] 9) = wA at *
  generalize w1.heap.size = g at *
  have hg : goodL ⟨5, 0, k, 0⟩ = true := goodL_iff.2 ⟨⟨by show (1 : Int) ≤ 5; decide, by show (5 : Int) ≤ 7; decide⟩, rfl⟩
  have Hg := Lib.hid hg
  have Hd := Lib.hid (fun (x : ByteArray) (hx : x = strB (lineL ⟨5, 0, k, 0⟩ ++ [10])) => read_at hg HI.out.1 (HE.out.keep H.out.1) hx)
  clear hg
  have hz_k : (itoaB k).size ≤ 21 := itoa_size HI.out.2.2.1
  go_wp2_with fail
  refine (digits_spec _ HI.out.2.2.1).mono ?_
  rintro e w' ⟨rfl, rfl⟩
  go_upto_region 20 with fail
  have hwd : (((⟨#[100, 117, 112]⟩ : ByteArray) ++ (⟨#[32]⟩ : ByteArray)) ++ itoaB k).size ≤ 100 ∧ (((⟨#[100, 117, 112]⟩ : ByteArray) ++ (⟨#[32]⟩ : ByteArray)) ++ itoaB k) ++ (⟨#[10]⟩ : ByteArray) = strB (lineL ⟨5, 0, k, 0⟩ ++ [10]) := by
    refine ⟨?_, ?_⟩
    · simp only [ByteArray.size_append]
      have : (⟨#[100, 117, 112]⟩ : ByteArray).size = 3 := rfl
      have : (⟨#[32]⟩ : ByteArray).size = 1 := rfl
      omega
    · rw [show (⟨#[10]⟩ : ByteArray) = strB [10] from rfl, show (⟨#[32]⟩ : ByteArray) = strB [32] from rfl, show (⟨#[100, 117, 112]⟩ : ByteArray) = strB kDup from rfl]
      simp only [itoaB, strB_app]
      congr 1
      simp [lineL, partsL, glue, wordL, fieldsL]
  generalize ((⟨#[100, 117, 112]⟩ : ByteArray) ++ (⟨#[32]⟩ : ByteArray)) ++ itoaB k = wd at *
  obtain ⟨hwd2, hwd3⟩ := hwd
  clear hz_k
  go_wp2_with fail
  refine (Hd.out _ rfl).mono ?_
  rintro e w2 ⟨hk2, gr, off, c, rfl, hgr, hc⟩
  have hbs := H.out.2.keep hk2 (by simp)
  have c0 : w2.cell? ⟨g, 0, none⟩ = some (.int .i64 5) := hbs.cell 0
  have c1 : w2.cell? ⟨g, 1, none⟩ = some (.int .i64 0) := hbs.cell 1
  have c2 : w2.cell? ⟨g, 2, none⟩ = some (.int .i64 k) := hbs.cell 2
  have c3 : w2.cell? ⟨g, 3, none⟩ = some (.int .i64 0) := hbs.cell 3
  have d0 : w2.cell? ⟨gr, off, none⟩ = some (.int .i64 5) := hc 0 _ rfl
  have d1 : w2.cell? ⟨gr, off + 1, none⟩ = some (.int .i64 0) := hc 1 _ rfl
  have d2 : w2.cell? ⟨gr, off + 2, none⟩ = some (.int .i64 k) := hc 2 _ rfl
  have d3 : w2.cell? ⟨gr, off + 3, none⟩ = some (.int .i64 0) := hc 3 _ rfl
  have H2 := Lib.hid (H.out.1.trans hk2 (by simp))
  have Hgr := Lib.hid hgr
  clear hk2 hc hbs Hd H hgr
  go_upto_region 21 with fail
  have hcap : ¬ (9223372036854775807 : Nat) < wd.size + 1 := by omega
  clear hwd2
  go_region_held3 (fun w' => w'.cell? ⟨g, 0, none⟩ = some (.int .i64 5) ∧ w'.cell? ⟨g, 1, none⟩ = some (.int .i64 0) ∧ w'.cell? ⟨g, 2, none⟩ = some (.int .i64 k) ∧ w'.cell? ⟨g, 3, none⟩ = some (.int .i64 0) ∧ w'.cell? ⟨gr, off, none⟩ = some (.int .i64 5) ∧ w'.cell? ⟨gr, off + 1, none⟩ = some (.int .i64 0) ∧ w'.cell? ⟨gr, off + 2, none⟩ = some (.int .i64 k) ∧ w'.cell? ⟨gr, off + 3, none⟩ = some (.int .i64 0)) (first | exact ⟨by assumption, by assumption, by assumption, by assumption, by assumption, by assumption, by assumption, by assumption⟩ | go_keep)
    (first | (go_at_call 25; go_must (refine (print_at Hg.out HI.out.1 (HE.out.env.keep ((H2.out.drewN _).alloc _)) (Blk.new' _ _ _ _ rfl)).mono ?_; rintro e w3 ⟨rfl, hkp⟩; have hk3 : Keep [] w2 w3 := (((Keep.refl _ w2).drewN _).alloc _).trans hkp (by simp); have c0 : w3.cell? ⟨g, 0, none⟩ = some (.int .i64 5) := cell_keep0 hk3 c0; have c1 : w3.cell? ⟨g, 1, none⟩ = some (.int .i64 0) := cell_keep0 hk3 c1; have c2 : w3.cell? ⟨g, 2, none⟩ = some (.int .i64 k) := cell_keep0 hk3 c2; have c3 : w3.cell? ⟨g, 3, none⟩ = some (.int .i64 0) := cell_keep0 hk3 c3; have d0 : w3.cell? ⟨gr, off, none⟩ = some (.int .i64 5) := cell_keep0 hk3 d0; have d1 : w3.cell? ⟨gr, off + 1, none⟩ = some (.int .i64 0) := cell_keep0 hk3 d1; have d2 : w3.cell? ⟨gr, off + 2, none⟩ = some (.int .i64 k) := cell_keep0 hk3 d2; have d3 : w3.cell? ⟨gr, off + 3, none⟩ = some (.int .i64 0) := cell_keep0 hk3 d3; have H3 := Lib.hid (H2.out.trans hk3 (by simp)))) | (go_at_call 27; go_must (refine (num_spec _ _).mono ?_; rintro e w4 ⟨rfl, rfl⟩)))
  all_goals
    go_wp2
    go_ret
    exact ⟨rfl, H3.out⟩
set_option maxHeartbeats 6400000 in
set_option maxRecDepth 100000 in
theorem words_6 {w : World} (hE : Env1 w) (node k bit : Int) (hn : In64 node) (hk : In64 k) (hb : In64 bit) : Calls Tryd.prog 10 #[.int .i64 6, .int .i64 node, .int .i64 k, .int .i64 bit] w fun e w' => e = .returned (.bool true) ∧ Keep [] w w' := by
  have HE := Lib.hid hE
  have Hi : ST.In ⟨6, 0, k, bit⟩ := ⟨⟨by show (-9223372036854775808 : Int) ≤ 6; decide, by show (6 : Int) ≤ 9223372036854775807; decide⟩, ⟨by show (-9223372036854775808 : Int) ≤ 0; decide, by show (0 : Int) ≤ 9223372036854775807; decide⟩, hk, hb⟩
  have HI := Lib.hid (And.intro Hi (And.intro hn (And.intro hk hb)))
  clear hE Hi hn hk hb
  go_enter Tryd.func10, Tryd.ntmps10
  go_wp2_with fail
  refine (alive_spec HE.out.env).mono ?_
  rintro e w1 ⟨rfl, hk1⟩
  have K1 := Lib.hid hk1
  clear hk1
  go_upto_region 19 with fail
  have hb1 : Blk ((w1.alloc (.cells #[.int .i64 6, .int .i64 0, .int .i64 k, .int .i64 bit] 38)).alloc (.cells #[.string ⟨#[]⟩, .string ⟨#[119, 111, 114, 107]⟩, .string ⟨#[116, 105, 99, 107]⟩, .string ⟨#[100, 101, 108, 105, 118, 101, 114]⟩, .string ⟨#[100, 114, 111, 112]⟩, .string ⟨#[100, 117, 112]⟩, .string ⟨#[102, 108, 105, 112]⟩, .string ⟨#[99, 114, 97, 115, 104]⟩] 9)) w1.heap.size 38 (stC ⟨6, 0, k, bit⟩) := (Blk.new' _ _ _ _ rfl).alloc _
  have hk1 : Keep [] w ((w1.alloc (.cells #[.int .i64 6, .int .i64 0, .int .i64 k, .int .i64 bit] 38)).alloc (.cells #[.string ⟨#[]⟩, .string ⟨#[119, 111, 114, 107]⟩, .string ⟨#[116, 105, 99, 107]⟩, .string ⟨#[100, 101, 108, 105, 118, 101, 114]⟩, .string ⟨#[100, 114, 111, 112]⟩, .string ⟨#[100, 117, 112]⟩, .string ⟨#[102, 108, 105, 112]⟩, .string ⟨#[99, 114, 97, 115, 104]⟩] 9)) := (K1.out.alloc _).alloc _
  have H := Lib.hid (And.intro hk1 hb1)
  clear hk1 hb1 K1
  generalize (w1.alloc (.cells #[.int .i64 6, .int .i64 0, .int .i64 k, .int .i64 bit] 38)).alloc (.cells #[.string ⟨#[]⟩, .string ⟨#[119, 111, 114, 107]⟩, .string ⟨#[116, 105, 99, 107]⟩, .string ⟨#[100, 101, 108, 105, 118, 101, 114]⟩, .string ⟨#[100, 114, 111, 112]⟩, .string ⟨#[100, 117, 112]⟩, .string ⟨#[102, 108, 105, 112]⟩, .string ⟨#[99, 114, 97, 115, 104]⟩] 9) = wA at *
  generalize w1.heap.size = g at *
  have hg : goodL ⟨6, 0, k, bit⟩ = true := goodL_iff.2 ⟨⟨by show (1 : Int) ≤ 6; decide, by show (6 : Int) ≤ 7; decide⟩, rfl⟩
  have Hg := Lib.hid hg
  have Hd := Lib.hid (fun (x : ByteArray) (hx : x = strB (lineL ⟨6, 0, k, bit⟩ ++ [10])) => read_at hg HI.out.1 (HE.out.keep H.out.1) hx)
  clear hg
  have hz_k : (itoaB k).size ≤ 21 := itoa_size HI.out.2.2.1
  have hz_bit : (itoaB bit).size ≤ 21 := itoa_size HI.out.2.2.2
  go_wp2_with fail
  refine (digits_spec _ HI.out.2.2.1).mono ?_
  rintro e w' ⟨rfl, rfl⟩
  go_wp2_with fail
  refine (digits_spec _ HI.out.2.2.2).mono ?_
  rintro e w' ⟨rfl, rfl⟩
  go_upto_region 20 with fail
  have hwd : (((((⟨#[102, 108, 105, 112]⟩ : ByteArray) ++ (⟨#[32]⟩ : ByteArray)) ++ itoaB k) ++ (⟨#[32]⟩ : ByteArray)) ++ itoaB bit).size ≤ 100 ∧ (((((⟨#[102, 108, 105, 112]⟩ : ByteArray) ++ (⟨#[32]⟩ : ByteArray)) ++ itoaB k) ++ (⟨#[32]⟩ : ByteArray)) ++ itoaB bit) ++ (⟨#[10]⟩ : ByteArray) = strB (lineL ⟨6, 0, k, bit⟩ ++ [10]) := by
    refine ⟨?_, ?_⟩
    · simp only [ByteArray.size_append]
      have : (⟨#[102, 108, 105, 112]⟩ : ByteArray).size = 4 := rfl
      have : (⟨#[32]⟩ : ByteArray).size = 1 := rfl
      omega
    · rw [show (⟨#[10]⟩ : ByteArray) = strB [10] from rfl, show (⟨#[32]⟩ : ByteArray) = strB [32] from rfl, show (⟨#[102, 108, 105, 112]⟩ : ByteArray) = strB kFlip from rfl]
      simp only [itoaB, strB_app]
      congr 1
      simp [lineL, partsL, glue, wordL, fieldsL]
  generalize ((((⟨#[102, 108, 105, 112]⟩ : ByteArray) ++ (⟨#[32]⟩ : ByteArray)) ++ itoaB k) ++ (⟨#[32]⟩ : ByteArray)) ++ itoaB bit = wd at *
  obtain ⟨hwd2, hwd3⟩ := hwd
  clear hz_k hz_bit
  go_wp2_with fail
  refine (Hd.out _ rfl).mono ?_
  rintro e w2 ⟨hk2, gr, off, c, rfl, hgr, hc⟩
  have hbs := H.out.2.keep hk2 (by simp)
  have c0 : w2.cell? ⟨g, 0, none⟩ = some (.int .i64 6) := hbs.cell 0
  have c1 : w2.cell? ⟨g, 1, none⟩ = some (.int .i64 0) := hbs.cell 1
  have c2 : w2.cell? ⟨g, 2, none⟩ = some (.int .i64 k) := hbs.cell 2
  have c3 : w2.cell? ⟨g, 3, none⟩ = some (.int .i64 bit) := hbs.cell 3
  have d0 : w2.cell? ⟨gr, off, none⟩ = some (.int .i64 6) := hc 0 _ rfl
  have d1 : w2.cell? ⟨gr, off + 1, none⟩ = some (.int .i64 0) := hc 1 _ rfl
  have d2 : w2.cell? ⟨gr, off + 2, none⟩ = some (.int .i64 k) := hc 2 _ rfl
  have d3 : w2.cell? ⟨gr, off + 3, none⟩ = some (.int .i64 bit) := hc 3 _ rfl
  have H2 := Lib.hid (H.out.1.trans hk2 (by simp))
  have Hgr := Lib.hid hgr
  clear hk2 hc hbs Hd H hgr
  go_upto_region 21 with fail
  have hcap : ¬ (9223372036854775807 : Nat) < wd.size + 1 := by omega
  clear hwd2
  go_region_held3 (fun w' => w'.cell? ⟨g, 0, none⟩ = some (.int .i64 6) ∧ w'.cell? ⟨g, 1, none⟩ = some (.int .i64 0) ∧ w'.cell? ⟨g, 2, none⟩ = some (.int .i64 k) ∧ w'.cell? ⟨g, 3, none⟩ = some (.int .i64 bit) ∧ w'.cell? ⟨gr, off, none⟩ = some (.int .i64 6) ∧ w'.cell? ⟨gr, off + 1, none⟩ = some (.int .i64 0) ∧ w'.cell? ⟨gr, off + 2, none⟩ = some (.int .i64 k) ∧ w'.cell? ⟨gr, off + 3, none⟩ = some (.int .i64 bit)) (first | exact ⟨by assumption, by assumption, by assumption, by assumption, by assumption, by assumption, by assumption, by assumption⟩ | go_keep)
    (first | (go_at_call 25; go_must (refine (print_at Hg.out HI.out.1 (HE.out.env.keep ((H2.out.drewN _).alloc _)) (Blk.new' _ _ _ _ rfl)).mono ?_; rintro e w3 ⟨rfl, hkp⟩; have hk3 : Keep [] w2 w3 := (((Keep.refl _ w2).drewN _).alloc _).trans hkp (by simp); have c0 : w3.cell? ⟨g, 0, none⟩ = some (.int .i64 6) := cell_keep0 hk3 c0; have c1 : w3.cell? ⟨g, 1, none⟩ = some (.int .i64 0) := cell_keep0 hk3 c1; have c2 : w3.cell? ⟨g, 2, none⟩ = some (.int .i64 k) := cell_keep0 hk3 c2; have c3 : w3.cell? ⟨g, 3, none⟩ = some (.int .i64 bit) := cell_keep0 hk3 c3; have d0 : w3.cell? ⟨gr, off, none⟩ = some (.int .i64 6) := cell_keep0 hk3 d0; have d1 : w3.cell? ⟨gr, off + 1, none⟩ = some (.int .i64 0) := cell_keep0 hk3 d1; have d2 : w3.cell? ⟨gr, off + 2, none⟩ = some (.int .i64 k) := cell_keep0 hk3 d2; have d3 : w3.cell? ⟨gr, off + 3, none⟩ = some (.int .i64 bit) := cell_keep0 hk3 d3; have H3 := Lib.hid (H2.out.trans hk3 (by simp)))) | (go_at_call 27; go_must (refine (num_spec _ _).mono ?_; rintro e w4 ⟨rfl, rfl⟩)))
  all_goals
    go_wp2
    go_ret
    exact ⟨rfl, H3.out⟩
set_option maxHeartbeats 6400000 in
set_option maxRecDepth 100000 in
theorem words_7 {w : World} (hE : Env1 w) (node k bit : Int) (hn : In64 node) (hk : In64 k) (hb : In64 bit) : Calls Tryd.prog 10 #[.int .i64 7, .int .i64 node, .int .i64 k, .int .i64 bit] w fun e w' => e = .returned (.bool true) ∧ Keep [] w w' := by
  have HE := Lib.hid hE
  have Hi : ST.In ⟨7, node, 0, 0⟩ := ⟨⟨by show (-9223372036854775808 : Int) ≤ 7; decide, by show (7 : Int) ≤ 9223372036854775807; decide⟩, hn, ⟨by show (-9223372036854775808 : Int) ≤ 0; decide, by show (0 : Int) ≤ 9223372036854775807; decide⟩, ⟨by show (-9223372036854775808 : Int) ≤ 0; decide, by show (0 : Int) ≤ 9223372036854775807; decide⟩⟩
  have HI := Lib.hid (And.intro Hi (And.intro hn (And.intro hk hb)))
  clear hE Hi hn hk hb
  go_enter Tryd.func10, Tryd.ntmps10
  go_wp2_with fail
  refine (alive_spec HE.out.env).mono ?_
  rintro e w1 ⟨rfl, hk1⟩
  have K1 := Lib.hid hk1
  clear hk1
  go_upto_region 10 with fail
  have hb1 : Blk ((w1.alloc (.cells #[.int .i64 7, .int .i64 node, .int .i64 0, .int .i64 0] 38)).alloc (.cells #[.string ⟨#[]⟩, .string ⟨#[119, 111, 114, 107]⟩, .string ⟨#[116, 105, 99, 107]⟩, .string ⟨#[100, 101, 108, 105, 118, 101, 114]⟩, .string ⟨#[100, 114, 111, 112]⟩, .string ⟨#[100, 117, 112]⟩, .string ⟨#[102, 108, 105, 112]⟩, .string ⟨#[99, 114, 97, 115, 104]⟩] 9)) w1.heap.size 38 (stC ⟨7, node, 0, 0⟩) := (Blk.new' _ _ _ _ rfl).alloc _
  have hk1 : Keep [] w ((w1.alloc (.cells #[.int .i64 7, .int .i64 node, .int .i64 0, .int .i64 0] 38)).alloc (.cells #[.string ⟨#[]⟩, .string ⟨#[119, 111, 114, 107]⟩, .string ⟨#[116, 105, 99, 107]⟩, .string ⟨#[100, 101, 108, 105, 118, 101, 114]⟩, .string ⟨#[100, 114, 111, 112]⟩, .string ⟨#[100, 117, 112]⟩, .string ⟨#[102, 108, 105, 112]⟩, .string ⟨#[99, 114, 97, 115, 104]⟩] 9)) := (K1.out.alloc _).alloc _
  have H := Lib.hid (And.intro hk1 hb1)
  clear hk1 hb1 K1
  generalize (w1.alloc (.cells #[.int .i64 7, .int .i64 node, .int .i64 0, .int .i64 0] 38)).alloc (.cells #[.string ⟨#[]⟩, .string ⟨#[119, 111, 114, 107]⟩, .string ⟨#[116, 105, 99, 107]⟩, .string ⟨#[100, 101, 108, 105, 118, 101, 114]⟩, .string ⟨#[100, 114, 111, 112]⟩, .string ⟨#[100, 117, 112]⟩, .string ⟨#[102, 108, 105, 112]⟩, .string ⟨#[99, 114, 97, 115, 104]⟩] 9) = wA at *
  generalize w1.heap.size = g at *
  have hg : goodL ⟨7, node, 0, 0⟩ = true := goodL_iff.2 ⟨⟨by show (1 : Int) ≤ 7; decide, by show (7 : Int) ≤ 7; decide⟩, rfl⟩
  have Hg := Lib.hid hg
  have Hd := Lib.hid (fun (x : ByteArray) (hx : x = strB (lineL ⟨7, node, 0, 0⟩ ++ [10])) => read_at hg HI.out.1 (HE.out.keep H.out.1) hx)
  clear hg
  have hz_node : (itoaB node).size ≤ 21 := itoa_size HI.out.2.1
  go_wp2_with fail
  refine (digits_spec _ HI.out.2.1).mono ?_
  rintro e w' ⟨rfl, rfl⟩
  go_upto_region 20 with fail
  have hwd : (((⟨#[99, 114, 97, 115, 104]⟩ : ByteArray) ++ (⟨#[32]⟩ : ByteArray)) ++ itoaB node).size ≤ 100 ∧ (((⟨#[99, 114, 97, 115, 104]⟩ : ByteArray) ++ (⟨#[32]⟩ : ByteArray)) ++ itoaB node) ++ (⟨#[10]⟩ : ByteArray) = strB (lineL ⟨7, node, 0, 0⟩ ++ [10]) := by
    refine ⟨?_, ?_⟩
    · simp only [ByteArray.size_append]
      have : (⟨#[99, 114, 97, 115, 104]⟩ : ByteArray).size = 5 := rfl
      have : (⟨#[32]⟩ : ByteArray).size = 1 := rfl
      omega
    · rw [show (⟨#[10]⟩ : ByteArray) = strB [10] from rfl, show (⟨#[32]⟩ : ByteArray) = strB [32] from rfl, show (⟨#[99, 114, 97, 115, 104]⟩ : ByteArray) = strB kCrash from rfl]
      simp only [itoaB, strB_app]
      congr 1
      simp [lineL, partsL, glue, wordL, fieldsL]
  generalize ((⟨#[99, 114, 97, 115, 104]⟩ : ByteArray) ++ (⟨#[32]⟩ : ByteArray)) ++ itoaB node = wd at *
  obtain ⟨hwd2, hwd3⟩ := hwd
  clear hz_node
  go_wp2_with fail
  refine (Hd.out _ rfl).mono ?_
  rintro e w2 ⟨hk2, gr, off, c, rfl, hgr, hc⟩
  have hbs := H.out.2.keep hk2 (by simp)
  have c0 : w2.cell? ⟨g, 0, none⟩ = some (.int .i64 7) := hbs.cell 0
  have c1 : w2.cell? ⟨g, 1, none⟩ = some (.int .i64 node) := hbs.cell 1
  have c2 : w2.cell? ⟨g, 2, none⟩ = some (.int .i64 0) := hbs.cell 2
  have c3 : w2.cell? ⟨g, 3, none⟩ = some (.int .i64 0) := hbs.cell 3
  have d0 : w2.cell? ⟨gr, off, none⟩ = some (.int .i64 7) := hc 0 _ rfl
  have d1 : w2.cell? ⟨gr, off + 1, none⟩ = some (.int .i64 node) := hc 1 _ rfl
  have d2 : w2.cell? ⟨gr, off + 2, none⟩ = some (.int .i64 0) := hc 2 _ rfl
  have d3 : w2.cell? ⟨gr, off + 3, none⟩ = some (.int .i64 0) := hc 3 _ rfl
  have H2 := Lib.hid (H.out.1.trans hk2 (by simp))
  have Hgr := Lib.hid hgr
  clear hk2 hc hbs Hd H hgr
  go_upto_region 21 with fail
  have hcap : ¬ (9223372036854775807 : Nat) < wd.size + 1 := by omega
  clear hwd2
  go_region_held3 (fun w' => w'.cell? ⟨g, 0, none⟩ = some (.int .i64 7) ∧ w'.cell? ⟨g, 1, none⟩ = some (.int .i64 node) ∧ w'.cell? ⟨g, 2, none⟩ = some (.int .i64 0) ∧ w'.cell? ⟨g, 3, none⟩ = some (.int .i64 0) ∧ w'.cell? ⟨gr, off, none⟩ = some (.int .i64 7) ∧ w'.cell? ⟨gr, off + 1, none⟩ = some (.int .i64 node) ∧ w'.cell? ⟨gr, off + 2, none⟩ = some (.int .i64 0) ∧ w'.cell? ⟨gr, off + 3, none⟩ = some (.int .i64 0)) (first | exact ⟨by assumption, by assumption, by assumption, by assumption, by assumption, by assumption, by assumption, by assumption⟩ | go_keep)
    (first | (go_at_call 25; go_must (refine (print_at Hg.out HI.out.1 (HE.out.env.keep ((H2.out.drewN _).alloc _)) (Blk.new' _ _ _ _ rfl)).mono ?_; rintro e w3 ⟨rfl, hkp⟩; have hk3 : Keep [] w2 w3 := (((Keep.refl _ w2).drewN _).alloc _).trans hkp (by simp); have c0 : w3.cell? ⟨g, 0, none⟩ = some (.int .i64 7) := cell_keep0 hk3 c0; have c1 : w3.cell? ⟨g, 1, none⟩ = some (.int .i64 node) := cell_keep0 hk3 c1; have c2 : w3.cell? ⟨g, 2, none⟩ = some (.int .i64 0) := cell_keep0 hk3 c2; have c3 : w3.cell? ⟨g, 3, none⟩ = some (.int .i64 0) := cell_keep0 hk3 c3; have d0 : w3.cell? ⟨gr, off, none⟩ = some (.int .i64 7) := cell_keep0 hk3 d0; have d1 : w3.cell? ⟨gr, off + 1, none⟩ = some (.int .i64 node) := cell_keep0 hk3 d1; have d2 : w3.cell? ⟨gr, off + 2, none⟩ = some (.int .i64 0) := cell_keep0 hk3 d2; have d3 : w3.cell? ⟨gr, off + 3, none⟩ = some (.int .i64 0) := cell_keep0 hk3 d3; have H3 := Lib.hid (H2.out.trans hk3 (by simp)))) | (go_at_call 27; go_must (refine (num_spec _ _).mono ?_; rintro e w4 ⟨rfl, rfl⟩)))
  all_goals
    go_wp2
    go_ret
    exact ⟨rfl, H3.out⟩
theorem in64_wf {n : Int} (h : (Lit.int .i64 n).wf = true) : In64 n := by
  simpa [Lit.wf, IntKind.min, IntKind.max, IntKind.signed, IntKind.bits, In64] using h
theorem words_none {w : World} (hE : Env w) (kind node k bit : Int) (hk : kind < 1 ∨ 7 < kind) : Calls Tryd.prog 10 #[.int .i64 kind, .int .i64 node, .int .i64 k, .int .i64 bit] w fun e w' => e = .returned (.bool true) ∧ Keep [] w w' := by
  have HE := Lib.hid hE
  clear hE
  by_cases h1 : kind < 1
  · clear hk
    go_enter Tryd.func10, Tryd.ntmps10
    go_wp2_with fail
    refine (alive_spec HE.out).mono ?_
    rintro e w1 ⟨rfl, hk1⟩
    have K1 := Lib.hid hk1
    clear hk1
    go_wp2
    go_ret
    exact ⟨rfl, K1.out⟩
  · have h7 : 7 < kind := hk.resolve_left h1
    clear hk
    go_enter Tryd.func10, Tryd.ntmps10
    go_wp2_with fail
    refine (alive_spec HE.out).mono ?_
    rintro e w1 ⟨rfl, hk1⟩
    have K1 := Lib.hid hk1
    clear hk1
    go_wp2
    go_ret
    exact ⟨rfl, K1.out⟩
theorem walk_fairWords {kind node k bit : Int} (W : World) (hE : Env1 W) (ha : (Lit.int .i64 kind).wf = true) (hb : (Lit.int .i64 node).wf = true) (hc : (Lit.int .i64 k).wf = true) (hd : (Lit.int .i64 bit).wf = true) : Calls Tryd.prog 10 #[.int .i64 kind, .int .i64 node, .int .i64 k, .int .i64 bit] W fun e w' => e = .returned (.bool true) ∧ Below W.heap.size W w' := by
  suffices h : Calls Tryd.prog 10 #[.int .i64 kind, .int .i64 node, .int .i64 k, .int .i64 bit] W fun e w' => e = .returned (.bool true) ∧ Keep [] W w' from h.mono fun e w' ⟨h1, h2⟩ => ⟨h1, h2.to_below⟩
  by_cases h : kind < 1 ∨ 7 < kind
  · exact words_none hE.env kind node k bit h
  · have hn := in64_wf hb
    have hk := in64_wf hc
    have hq := in64_wf hd
    have : kind = 1 ∨ kind = 2 ∨ kind = 3 ∨ kind = 4 ∨ kind = 5 ∨ kind = 6 ∨ kind = 7 := by omega
    rcases this with rfl | rfl | rfl | rfl | rfl | rfl | rfl
    · exact words_1 hE node k bit hn hk hq
    · exact words_2 hE node k bit hn hk hq
    · exact words_3 hE node k bit hn hk hq
    · exact words_4 hE node k bit hn hk hq
    · exact words_5 hE node k bit hn hk hq
    · exact words_6 hE node k bit hn hk hq
    · exact words_7 hE node k bit hn hk hq
end Go.Proofs.YtndpbkhpllmhmaaDoor
