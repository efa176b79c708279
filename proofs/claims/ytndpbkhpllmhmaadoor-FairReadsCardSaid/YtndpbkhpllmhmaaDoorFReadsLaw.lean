/- FairReads. -/
import Derived.Test.YtndpbkhpllmhmaaDoorRows
import Derived.WalkKit
import Derived.WalkSpells
import Derived.WalkLawsBesides
import Derived.RegionTactic
import Derived.ChangeAlike
import Derived.BigQuiet
import Derived.Deep.QuietTactic
import Derived.StillTailTactics
import Derived.IntWalk
import Derived.Handy
import Derived.Lib.Hide
import Derived.Deep.AppendLies
import Derived.Deep.RegionWith
import Derived.Test.YtndpbkhpllmhmaaDoorBase
import Derived.Test.YtndpbkhpllmhmaaDoorTail
import Derived.Test.YtndpbkhpllmhmaaDoorArgs
import Derived.Test.YtndpbkhpllmhmaaDoorAppend
import Derived.Test.YtndpbkhpllmhmaaDoorOffs
import Derived.Test.YtndpbkhpllmhmaaDoorStructs
import Derived.Test.YtndpbkhpllmhmaaDoorShelf
import Derived.Carry
import Derived.Deep.RegionHeld3
import Derived.BigRegion
import Derived.Maps.OwnSet
import Derived.Maps.Views
import Derived.Maps.StringElems
import Derived.Test.YtndpbkhpllmhmaaDoorMaps2
import Derived.Test.YtndpbkhpllmhmaaDoorFWords
import Derived.Test.YtndpbkhpllmhmaaDoorFEnv
import Derived.Test.YtndpbkhpllmhmaaDoorFPlain
import Derived.Test.YtndpbkhpllmhmaaDoorFRead2
import Derived.Test.YtndpbkhpllmhmaaDoorFReads
import Derived.Test.YtndpbkhpllmhmaaDoorFAlive
import Derived.Test.YtndpbkhpllmhmaaDoorRNum
import Derived.Test.YtndpbkhpllmhmaaDoorFWordsLaw
import Derived.Test.YtndpbkhpllmhmaaDoorFBadPlain
import Derived.Test.YtndpbkhpllmhmaaDoorRPrint
import Derived.Test.YtndpbkhpllmhmaaDoorFPrintsLaw
import Derived.Test.YtndpbkhpllmhmaaDoorRSteps
import Derived.ChangeMaps5
namespace Go.Proofs.YtndpbkhpllmhmaaDoor
open Go.RowKit
open Go.ChangeMaps (open_string)
theorem readL_len {bs : BS} {l : List ST} (h : readL bs = .ok l) : l.length ≤ bs.length + 1 := by
  have key : ∀ (ps : List BS) (acc : List ST), runL acc ps = .ok l → l.length ≤ acc.length + ps.length := by
    intro ps
    induction ps with
    | nil =>
      intro acc h
      rw [runL] at h
      cases h
      simp
    | cons p r ih =>
      intro acc h
      cases r with
      | nil =>
        rw [runL] at h
        split at h
        · cases h
          simp
        · cases h
      | cons y q =>
        rw [runL] at h
        split at h
        · cases h
        · have := ih _ h
          simp at this ⊢
          omega
  have h1 := key _ _ h
  cases hp : pieces 10 bs with
  | nil => exact absurd hp (pieces_ne _ _)
  | cons p ps =>
    have := pieces_count 10 bs hp
    rw [hp] at h1
    simp at h1
    omega
set_option maxHeartbeats 6400000 in
set_option maxRecDepth 100000 in
theorem reads_walk {w : World} (hE : Env1 w) (bs : BS) (hl : bs.length ≤ 20000) : Calls Tryd.prog 9 #[.string (strB bs)] w fun e w' => e = .returned (.bool true) ∧ Keep [] w w' := by
  have HE := Lib.hid hE
  have HL := Lib.hid hl
  have e1 : (strB bs).size = bs.length := strB_size bs
  have hli : (bs.length : Int) ≤ 20000 := by omega
  clear hE hl
  go_enter Tryd.func9, Tryd.ntmps9
  go_wp2_with fail
  refine (alive_spec HE.out.env).mono ?_
  rintro e w1 ⟨rfl, hk1⟩
  have K1 := Lib.hid hk1
  clear hk1
  go_wp2_with fail
  refine (reads_spec (HE.out.keep K1.out) bs (by have := HL.out; omega)).mono ?_
  rintro e w2 ⟨hk2, ⟨l, v, h1, h2, rfl⟩ | ⟨n, h1, rfl⟩⟩
  · have K2 := Lib.hid (K1.out.trans hk2 (by simp))
    have H2 := Lib.hid h2
    have Hr := Lib.hid h1
    clear hk2 K1 h1 h2
    go_wp2_with fail
    refine (rsteps_spec _ bs HL.out).mono ?_
    rintro e w3 ⟨hk3, ⟨m, v', h3, h4, rfl⟩ | ⟨n, h3, _⟩⟩
    · obtain rfl : m = l := by have := Hr.out; rw [h3] at this; cases this; rfl
      have K3 := Lib.hid (K2.out.trans hk3 (by simp))
      have H3 := Lib.hid (H2.out.keep0 hk3)
      have H4 := Lib.hid h4
      clear hk3 h3 h4
      go_wp2_with (first | (go_at_call 27; refine (num_spec _ _).mono ?_; rintro e w4 ⟨rfl, rfl⟩))
      refine (steps_same H3.out H4.out (by have := readL_len Hr.out; have := HL.out; omega)).mono ?_
      rintro e w5 ⟨rfl, hk5⟩
      have K5 := Lib.hid (K3.out.trans hk5 (by simp))
      clear hk5
      go_wp2
      go_ret
      exact ⟨rfl, K5.out⟩
    · have := Hr.out
      rw [h3] at this
      cases this
  · have K2 := Lib.hid (K1.out.trans hk2 (by simp))
    have Hr := Lib.hid h1
    clear hk2 K1 h1
    go_wp2_with fail
    refine (rsteps_spec _ bs HL.out).mono ?_
    rintro e w3 ⟨hk3, ⟨m, v', h3, h4, _⟩ | ⟨n', h3, rfl⟩⟩
    · have := Hr.out
      rw [h3] at this
      cases this
    · obtain rfl : n' = n := by have := Hr.out; rw [h3] at this; cases this; rfl
      have K3 := Lib.hid (K2.out.trans hk3 (by simp))
      clear hk3 h3
      go_wp2_with (first | (go_at_call 27; refine (num_spec _ _).mono ?_; rintro e w4 ⟨rfl, rfl⟩))
      refine (steps_same (StepsAt.nil _) (StepsAt.nil _) (by simp)).mono ?_
      rintro e w5 ⟨rfl, hk5⟩
      have K5 := Lib.hid (K3.out.trans hk5 (by simp))
      clear hk5
      go_wp2
      go_ret
      exact ⟨rfl, K5.out⟩
theorem reads_long {w : World} (hE : Env w) (s : ByteArray) (hl : ¬ s.size ≤ 20000) : Calls Tryd.prog 9 #[.string s] w fun e w' => e = .returned (.bool true) ∧ Keep [] w w' := by
  have HE := Lib.hid hE
  have hlI : 20000 < (s.size : Int) := by omega
  clear hE hl
  go_enter Tryd.func9, Tryd.ntmps9
  go_wp2_with fail
  refine (alive_spec HE.out).mono ?_
  rintro e w1 ⟨rfl, hk1⟩
  have K1 := Lib.hid hk1
  clear hk1
  go_wp2
  go_ret
  exact ⟨rfl, K1.out⟩
set_option maxRecDepth 100000 in
theorem walk_fairReads {H : Type} {enc : TypeId × Value → H} {b0 : Nat} {v : Value} {d : DataW H} {p : List MemPlace} (W : World) (hE : Env1 W)
    (ho : Value.okWide Tryd.prog W .any b0 9 v) (h : DataW.Trod enc Tryd.prog W 0 (fun _ => true) true 9 v d p) : Calls Tryd.prog 9 #[v] W fun e w' => e = .returned (.bool true) ∧ Below W.heap.size W w' := by
  obtain ⟨s, rfl, _, _, _⟩ := open_string Tryd.underlying9 ho h
  suffices h : Calls Tryd.prog 9 #[.string s] W fun e w' => e = .returned (.bool true) ∧ Keep [] W w' from h.mono fun e w' ⟨h1, h2⟩ => ⟨h1, h2.to_below⟩
  by_cases hn : s.size ≤ 20000
  · have hw := reads_walk hE s.data.toList (by rw [← strB_size, strB_of]; exact hn)
    rw [strB_of] at hw
    exact hw
  · exact reads_long hE.env s hn
end Go.Proofs.YtndpbkhpllmhmaaDoor
