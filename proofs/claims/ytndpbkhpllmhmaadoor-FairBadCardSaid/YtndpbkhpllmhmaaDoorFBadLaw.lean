/- FairBad: the walk. -/
import Derived.Test.YtndpbkhpllmhmaaDoorRows
import Derived.WalkKit
import Derived.WalkSpells
import Derived.WalkLawsBesides
import Derived.RegionTactic
import Derived.ChangeAlike
import Derived.BigQuiet
import Derived.Deep.QuietTactic
import Derived.StillTailTactics
import Derived.IntWalk
import Derived.Handy
import Derived.Lib.Hide
import Derived.Deep.AppendLies
import Derived.Deep.RegionWith
import Derived.Test.YtndpbkhpllmhmaaDoorBase
import Derived.Test.YtndpbkhpllmhmaaDoorTail
import Derived.Test.YtndpbkhpllmhmaaDoorArgs
import Derived.Test.YtndpbkhpllmhmaaDoorAppend
import Derived.Test.YtndpbkhpllmhmaaDoorOffs
import Derived.Test.YtndpbkhpllmhmaaDoorStructs
import Derived.Test.YtndpbkhpllmhmaaDoorShelf
import Derived.Carry
import Derived.Deep.RegionHeld3
import Derived.BigRegion
import Derived.Maps.OwnSet
import Derived.Maps.Views
import Derived.Maps.StringElems
import Derived.Test.YtndpbkhpllmhmaaDoorMaps2
import Derived.Test.YtndpbkhpllmhmaaDoorFWords
import Derived.Test.YtndpbkhpllmhmaaDoorFEnv
import Derived.Test.YtndpbkhpllmhmaaDoorFPlain
import Derived.Test.YtndpbkhpllmhmaaDoorFRead2
import Derived.Test.YtndpbkhpllmhmaaDoorFReads
import Derived.Test.YtndpbkhpllmhmaaDoorFAlive
import Derived.Test.YtndpbkhpllmhmaaDoorRNum
import Derived.Test.YtndpbkhpllmhmaaDoorFWordsLaw
import Derived.Test.YtndpbkhpllmhmaaDoorFBadPlain
namespace Go.Proofs.YtndpbkhpllmhmaaDoor
open Go.RowKit
theorem work_bytes : (⟨#[119, 111, 114, 107, 32]⟩ : ByteArray) = strB (kWork ++ [32]) := rfl
theorem good_step (i : Nat) : ((strB (goodT i) ++ (⟨#[119, 111, 114, 107, 32]⟩ : ByteArray)) ++ itoaB i) ++ (⟨#[10]⟩ : ByteArray) = strB (goodT (i + 1)) := by
  rw [work_bytes, show (⟨#[10]⟩ : ByteArray) = strB [10] from rfl, itoaB, strB_app, strB_app, strB_app, goodT_succ, work_line]
  congr 1
  simp
set_option maxHeartbeats 6400000 in
set_option maxRecDepth 100000 in
theorem bad_walk {w : World} (hE : Env1 w) (n m : Nat) (hn : n ≤ 50) {b : BS} (hb : badL[m]? = some b) : Calls Tryd.prog 11 #[.int .i64 n, .int .i64 m] w fun e w' => e = .returned (.bool true) ∧ Keep [] w w' := by
  have hm : m < 13 := by
    have h1 := (List.getElem?_eq_some_iff.1 hb).1
    exact h1
  have hm0 : (0 : Int) ≤ (m : Int) := by omega
  have hm1 : (m : Int) < 13 := by omega
  have hn0 : (0 : Int) ≤ (n : Int) := by omega
  have hn1 : (n : Int) ≤ 50 := by omega
  have HE := Lib.hid hE
  have HB := Lib.hid hb
  have HN := Lib.hid hn
  clear hE hb hm hn
  go_enter Tryd.func11, Tryd.ntmps11
  go_wp2_with fail
  refine (alive_spec HE.out.env).mono ?_
  rintro e w1 ⟨rfl, hk1⟩
  have K1 := Lib.hid hk1
  clear hk1
  go_upto_region 5 with fail
  have hb1 : Blk (w1.alloc (.cells #[.string ⟨#[]⟩, .string ⟨#[120, 10]⟩, .string ⟨#[119, 111, 114, 107, 10]⟩, .string ⟨#[119, 111, 114, 107, 32, 48, 49, 10]⟩, .string ⟨#[119, 111, 114, 107, 32, 49, 32, 50, 10]⟩, .string ⟨#[116, 105, 99, 107, 32, 49, 10]⟩, .string ⟨#[102, 108, 105, 112, 32, 49, 10]⟩, .string ⟨#[32, 116, 105, 99, 107, 10]⟩, .string ⟨#[116, 105, 99, 107, 32, 10]⟩, .string ⟨#[116, 105, 99, 107]⟩, .string ⟨#[119, 111, 114, 107, 32, 32, 49, 10]⟩, .string ⟨#[10]⟩, .string ⟨#[87, 111, 114, 107, 32, 49, 10]⟩] 9)) w1.heap.size 9 (badL.map fun b => .string (strB b)) := Blk.new' _ _ _ _ rfl
  have hk1 : Keep [] w (w1.alloc (.cells #[.string ⟨#[]⟩, .string ⟨#[120, 10]⟩, .string ⟨#[119, 111, 114, 107, 10]⟩, .string ⟨#[119, 111, 114, 107, 32, 48, 49, 10]⟩, .string ⟨#[119, 111, 114, 107, 32, 49, 32, 50, 10]⟩, .string ⟨#[116, 105, 99, 107, 32, 49, 10]⟩, .string ⟨#[102, 108, 105, 112, 32, 49, 10]⟩, .string ⟨#[32, 116, 105, 99, 107, 10]⟩, .string ⟨#[116, 105, 99, 107, 32, 10]⟩, .string ⟨#[116, 105, 99, 107]⟩, .string ⟨#[119, 111, 114, 107, 32, 32, 49, 10]⟩, .string ⟨#[10]⟩, .string ⟨#[87, 111, 114, 107, 32, 49, 10]⟩] 9)) := K1.out.alloc _
  have H := Lib.hid (And.intro hk1 hb1)
  clear hk1 hb1 K1
  generalize w1.alloc (.cells #[.string ⟨#[]⟩, .string ⟨#[120, 10]⟩, .string ⟨#[119, 111, 114, 107, 10]⟩, .string ⟨#[119, 111, 114, 107, 32, 48, 49, 10]⟩, .string ⟨#[119, 111, 114, 107, 32, 49, 32, 50, 10]⟩, .string ⟨#[116, 105, 99, 107, 32, 49, 10]⟩, .string ⟨#[102, 108, 105, 112, 32, 49, 10]⟩, .string ⟨#[32, 116, 105, 99, 107, 10]⟩, .string ⟨#[116, 105, 99, 107, 32, 10]⟩, .string ⟨#[116, 105, 99, 107]⟩, .string ⟨#[119, 111, 114, 107, 32, 32, 49, 10]⟩, .string ⟨#[10]⟩, .string ⟨#[87, 111, 114, 107, 32, 49, 10]⟩] 9) = wA at *
  generalize w1.heap.size = g at *
  go_wp2_with fail
  go_loopw [7, 8] (fun v7 v8 wr => wA = wr ∧ ∃ (i : Nat), i ≤ n ∧ v7 = .string (strB (goodT i)) ∧ v8 = .int .i64 i) (fun _ v _ => n - (intOf v).toNat)
  case atStart => exact ⟨rfl, 0, by omega, rfl, rfl⟩
  case round =>
    obtain ⟨rfl, i, hi, rfl, rfl⟩ := hrel
    have hz : (strB (goodT i)).size ≤ 1500 := by
      rw [strB_size]
      have := goodT_len (n := i) (by have := HN.out; omega)
      have := HN.out
      omega
    by_cases hlt : i < n
    · have hltI : (i : Int) < (n : Int) := by omega
      have hiI : (0 : Int) ≤ (i : Int) := by omega
      have hw1 : IntKind.i64.wrap ((i : Int) + 1) = (i : Int) + 1 := IntWalk.i64_in _ (by omega)
      have hin : In64 (i : Int) := ⟨by omega, by omega⟩
      have Hin := Lib.hid hin
      have hzi : (itoaB i).size ≤ 21 := itoa_size hin
      have Hs := Lib.hid (And.intro (good_step i) hlt)
      clear hin hlt hi
      go_wp2_with fail
      refine (digits_spec _ Hin.out).mono ?_
      rintro e w' ⟨rfl, rfl⟩
      go_wp2_with fail
      go_roundw
      case rel => exact ⟨by first | rfl | trivial, i + 1, by have := Hs.out.2; omega, by rw [Hs.out.1], by go_num⟩
      case measure => simp [intOf]; have := Hs.out.2; omega
    · obtain rfl : i = n := by omega
      clear hlt hi
      have hc : wA.cell? ⟨g, m, none⟩ = some (.string (strB b)) := (H.out.2.cell m).trans (by rw [List.getElem?_map, HB.out]; rfl)
      have hbz : (strB b).size ≤ 10 := by rw [strB_size]; exact bad_len HB.out
      have hcat : strB (goodT i) ++ strB b = strB (goodT i ++ b) := strB_app _ _
      have hw1 : IntKind.i64.wrap ((i : Int) + 1) = (i : Int) + 1 := IntWalk.i64_in _ (by omega)
      have Hl := Lib.hid (show (goodT i ++ b).length ≤ 131072 by rw [← strB_size, ← hcat, ByteArray.size_append]; omega)
      by_cases hm2 : m = 0
      · subst hm2
        have hb0 : b = [] := by have := HB.out; simpa [badL] using this.symm
        have Hr := Lib.hid (show readL (goodT i ++ b) = .ok ((List.range i).map workL) by rw [hb0]; exact read_none HN.out)
        clear hb0
        go_wp2_with fail
        refine (reads_spec (HE.out.keep H.out.1) (goodT i ++ b) Hl.out).mono ?_
        rintro e w2 ⟨hk2, ⟨l, v, h1, h2, rfl⟩ | ⟨q, h1, rfl⟩⟩
        · have hll : l = (List.range i).map workL := by rw [Hr.out] at h1; cases h1; rfl
          obtain ⟨a, c, rfl, _⟩ := h2
          have hlen : l.length = i := by rw [hll]; simp
          rw [hlen]
          have H2 := Lib.hid (H.out.1.trans hk2 (by simp))
          clear h1 hll hlen hk2
          go_wp2_with (first | (go_at_call 27; refine (num_spec _ _).mono ?_; rintro e w4 ⟨rfl, rfl⟩))
          go_ret
          exact ⟨rfl, H2.out⟩
        · rw [Hr.out] at h1
          cases h1
      · have hm3 : ((m : Int) == 0) = false := by simpa using hm2
        have hm4 : ¬ (m : Int) = 0 := by omega
        have Hr := Lib.hid (read_bad HN.out HB.out (by omega))
        clear hm2
        go_wp2_with fail
        refine (reads_spec (HE.out.keep H.out.1) (goodT i ++ b) Hl.out).mono ?_
        rintro e w2 ⟨hk2, ⟨l, v, h1, h2, rfl⟩ | ⟨q, h1, rfl⟩⟩
        · rw [Hr.out] at h1
          cases h1
        · obtain rfl : q = i + 1 := by rw [Hr.out] at h1; cases h1; rfl
          have hq : (((i + 1 : Nat)) : Int) = (i : Int) + 1 := by omega
          have H2 := Lib.hid (H.out.1.trans hk2 (by simp))
          clear h1 hk2
          rw [hq]
          go_wp2_with (first | (go_at_call 27; refine (num_spec _ _).mono ?_; rintro e w4 ⟨rfl, rfl⟩))
          go_ret
          exact ⟨rfl, H2.out⟩
theorem bad_none {w : World} (hE : Env w) (good which : Int) (h : good < 0 ∨ 50 < good) : Calls Tryd.prog 11 #[.int .i64 good, .int .i64 which] w fun e w' => e = .returned (.bool true) ∧ Keep [] w w' := by
  have HE := Lib.hid hE
  clear hE
  rcases Int.lt_or_le good 0 with h1 | h1
  · clear h
    go_enter Tryd.func11, Tryd.ntmps11
    go_wp2_with fail
    refine (alive_spec HE.out).mono ?_
    rintro e w1 ⟨rfl, hk1⟩
    have K1 := Lib.hid hk1
    clear hk1
    go_wp2
    go_ret
    exact ⟨rfl, K1.out⟩
  · have h7 : 50 < good := h.resolve_left (by omega)
    clear h
    go_enter Tryd.func11, Tryd.ntmps11
    go_wp2_with fail
    refine (alive_spec HE.out).mono ?_
    rintro e w1 ⟨rfl, hk1⟩
    have K1 := Lib.hid hk1
    clear hk1
    go_wp2
    go_ret
    exact ⟨rfl, K1.out⟩
theorem bad_which {w : World} (hE : Env w) (good which : Int) (h0 : 0 ≤ good) (h50 : good ≤ 50) (h : which < 0 ∨ 13 ≤ which) : Calls Tryd.prog 11 #[.int .i64 good, .int .i64 which] w fun e w' => e = .returned (.bool true) ∧ Keep [] w w' := by
  have HE := Lib.hid hE
  clear hE
  rcases Int.lt_or_le which 0 with h1 | h1
  · clear h
    go_enter Tryd.func11, Tryd.ntmps11
    go_wp2_with fail
    refine (alive_spec HE.out).mono ?_
    rintro e w1 ⟨rfl, hk1⟩
    have K1 := Lib.hid (hk1.alloc (.cells #[.string ⟨#[]⟩, .string ⟨#[120, 10]⟩, .string ⟨#[119, 111, 114, 107, 10]⟩, .string ⟨#[119, 111, 114, 107, 32, 48, 49, 10]⟩, .string ⟨#[119, 111, 114, 107, 32, 49, 32, 50, 10]⟩, .string ⟨#[116, 105, 99, 107, 32, 49, 10]⟩, .string ⟨#[102, 108, 105, 112, 32, 49, 10]⟩, .string ⟨#[32, 116, 105, 99, 107, 10]⟩, .string ⟨#[116, 105, 99, 107, 32, 10]⟩, .string ⟨#[116, 105, 99, 107]⟩, .string ⟨#[119, 111, 114, 107, 32, 32, 49, 10]⟩, .string ⟨#[10]⟩, .string ⟨#[87, 111, 114, 107, 32, 49, 10]⟩] 9))
    clear hk1
    go_wp2
    go_ret
    exact ⟨rfl, K1.out⟩
  · have h7 : 13 ≤ which := h.resolve_left (by omega)
    clear h
    go_enter Tryd.func11, Tryd.ntmps11
    go_wp2_with fail
    refine (alive_spec HE.out).mono ?_
    rintro e w1 ⟨rfl, hk1⟩
    have K1 := Lib.hid (hk1.alloc (.cells #[.string ⟨#[]⟩, .string ⟨#[120, 10]⟩, .string ⟨#[119, 111, 114, 107, 10]⟩, .string ⟨#[119, 111, 114, 107, 32, 48, 49, 10]⟩, .string ⟨#[119, 111, 114, 107, 32, 49, 32, 50, 10]⟩, .string ⟨#[116, 105, 99, 107, 32, 49, 10]⟩, .string ⟨#[102, 108, 105, 112, 32, 49, 10]⟩, .string ⟨#[32, 116, 105, 99, 107, 10]⟩, .string ⟨#[116, 105, 99, 107, 32, 10]⟩, .string ⟨#[116, 105, 99, 107]⟩, .string ⟨#[119, 111, 114, 107, 32, 32, 49, 10]⟩, .string ⟨#[10]⟩, .string ⟨#[87, 111, 114, 107, 32, 49, 10]⟩] 9))
    clear hk1
    go_wp2
    go_ret
    exact ⟨rfl, K1.out⟩
theorem walk_fairBad {good which : Int} (W : World) (hE : Env1 W) (ha : (Lit.int .i64 good).wf = true) (hb : (Lit.int .i64 which).wf = true) : Calls Tryd.prog 11 #[.int .i64 good, .int .i64 which] W fun e w' => e = .returned (.bool true) ∧ Below W.heap.size W w' := by
  suffices h : Calls Tryd.prog 11 #[.int .i64 good, .int .i64 which] W fun e w' => e = .returned (.bool true) ∧ Keep [] W w' from h.mono fun e w' ⟨h1, h2⟩ => ⟨h1, h2.to_below⟩
  by_cases h1 : good < 0 ∨ 50 < good
  · exact bad_none hE.env good which h1
  · by_cases h2 : which < 0 ∨ 13 ≤ which
    · exact bad_which hE.env good which (by omega) (by omega) h2
    · obtain ⟨n, rfl⟩ : ∃ n : Nat, good = n := ⟨good.toNat, by omega⟩
      obtain ⟨m, rfl⟩ : ∃ m : Nat, which = m := ⟨which.toNat, by omega⟩
      have hm : m < badL.length := by
        have : badL.length = 13 := rfl
        omega
      exact bad_walk hE n m (by omega) (List.getElem?_eq_getElem hm)
end Go.Proofs.YtndpbkhpllmhmaaDoor
