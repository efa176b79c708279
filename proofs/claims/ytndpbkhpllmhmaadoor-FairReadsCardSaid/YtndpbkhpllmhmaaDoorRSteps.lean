/- The reference: the steps of a text. -/
import Derived.Test.YtndpbkhpllmhmaaDoorRows
import Derived.WalkKit
import Derived.WalkSpells
import Derived.WalkLawsBesides
import Derived.RegionTactic
import Derived.ChangeAlike
import Derived.BigQuiet
import Derived.Deep.QuietTactic
import Derived.StillTailTactics
import Derived.IntWalk
import Derived.Handy
import Derived.Lib.Hide
import Derived.Deep.AppendLies
import Derived.Deep.RegionWith
import Derived.Test.YtndpbkhpllmhmaaDoorBase
import Derived.Test.YtndpbkhpllmhmaaDoorTail
import Derived.Test.YtndpbkhpllmhmaaDoorArgs
import Derived.Test.YtndpbkhpllmhmaaDoorAppend
import Derived.Test.YtndpbkhpllmhmaaDoorOffs
import Derived.Test.YtndpbkhpllmhmaaDoorStructs
import Derived.Test.YtndpbkhpllmhmaaDoorShelf
import Derived.Carry
import Derived.Deep.RegionHeld3
import Derived.BigRegion
import Derived.Maps.OwnSet
import Derived.Maps.Views
import Derived.Maps.StringElems
import Derived.Test.YtndpbkhpllmhmaaDoorMaps2
import Derived.Test.YtndpbkhpllmhmaaDoorFWords
import Derived.Test.YtndpbkhpllmhmaaDoorFEnv
import Derived.Test.YtndpbkhpllmhmaaDoorFPlain
import Derived.Test.YtndpbkhpllmhmaaDoorRNum
import Derived.Test.YtndpbkhpllmhmaaDoorRSplit
import Derived.Test.YtndpbkhpllmhmaaDoorRNum
import Derived.Test.YtndpbkhpllmhmaaDoorRStepPlain
import Derived.Test.YtndpbkhpllmhmaaDoorFReads
import Derived.Test.YtndpbkhpllmhmaaDoorRStep
namespace Go.Proofs.YtndpbkhpllmhmaaDoor
open Go.RowKit
/-- what the lines are to the pieces -/
structure LF (bs : BS) (ls : List BS) (wh : Bool) : Prop where
  at_ : ∀ (i : Nat) (p : BS), ls[i]? = some p → (pieces 10 bs).drop i = p :: (pieces 10 bs).drop (i + 1)
  more : ∀ i : Nat, i < ls.length → (wh = true ∨ i + 1 < ls.length) → ∃ y r, (pieces 10 bs).drop (i + 1) = y :: r
  last : ∀ (i : Nat) (p : BS), wh = false → ls[i]? = some p → i + 1 = ls.length → p ≠ [] ∧ (pieces 10 bs).drop (i + 1) = []
  fin : wh = true → (pieces 10 bs).drop ls.length = [[]]
  pos : wh = false → 0 < ls.length
  len : ls.length ≤ bs.length + 1
  each : ∀ p ∈ ls, p.length ≤ bs.length
theorem lf (bs : BS) : LF bs (linesL bs).1 (linesL bs).2 := by
  have hne := pieces_ne 10 bs
  have hcount : (pieces 10 bs).length ≤ bs.length + 1 := by
    cases hp : pieces 10 bs with
    | nil => simp
    | cons p ps => have := pieces_count 10 bs hp; simp; omega
  obtain ⟨ls, q, hq⟩ : ∃ ls q, pieces 10 bs = ls ++ [q] := ⟨(pieces 10 bs).dropLast, (pieces 10 bs).getLast hne, (List.dropLast_concat_getLast hne).symm⟩
  have heach : ∀ p ∈ pieces 10 bs, p.length ≤ bs.length := fun p hp => pieces_len hp
  unfold linesL
  by_cases hqn : q = []
  · subst hqn
    rw [if_pos (by rw [hq]; simp)]
    have e : (pieces 10 bs).dropLast = ls := by rw [hq]; simp
    rw [e]
    rw [hq] at hcount
    simp at hcount
    refine ⟨fun i p hp => ?_, fun i hi _ => ?_, (fun i p h => by cases h), (fun _ => by rw [hq]; simp), (fun h => by cases h), (by show ls.length ≤ _; omega), fun p hp => heach p (by rw [hq]; simp [hp])⟩
    · exact drop_at (by rw [hq, List.getElem?_append_left (List.getElem?_eq_some_iff.1 hp).1]; exact hp)
    · have hlt : i < ls.length := hi
      exact ⟨_, _, List.drop_eq_getElem_cons (by rw [hq]; simp; omega)⟩
  · rw [if_neg (by rw [hq]; simp [hqn])]
    refine ⟨fun i p hp => drop_at hp, fun i hi h => ?_, fun i p _ hp hl => ?_, (fun h => by cases h), (fun _ => by rw [hq]; simp), (by show (pieces 10 bs).length ≤ _; omega), heach⟩
    · rcases h with h | h
      · cases h
      · exact ⟨_, _, List.drop_eq_getElem_cons h⟩
    · have hl' : i + 1 = (pieces 10 bs).length := hl
      refine ⟨?_, List.drop_eq_nil_of_le (by omega)⟩
      have hp' : (pieces 10 bs)[i]? = some p := hp
      rw [hq] at hp' hl'
      simp at hl'
      subst hl'
      simp at hp'
      rw [← hp']
      exact hqn
set_option maxHeartbeats 6400000 in
set_option maxRecDepth 100000 in
theorem rsteps_spec (w : World) (bs : BS) (hl : bs.length ≤ 20000) : Calls Tryd.prog 29 #[.string (strB bs)] w (ReadsPost bs w) := by
  have HL := Lib.hid hl
  have e1 : (strB bs).size = bs.length := strB_size bs
  have hli : (bs.length : Int) ≤ 20000 := by omega
  clear hl
  go_enter Tryd.func29, Tryd.ntmps29
  go_wp2_with fail
  refine (rlines_spec _ bs HL.out).mono ?_
  rintro e w2 ⟨hk2, v, wh, rfl, hwh, hs⟩
  have hlf := lf bs
  rw [← hwh] at hlf
  generalize hls : (linesL bs).1 = ls at *
  have HS := Lib.hid hs
  have F := Lib.hid hlf
  have K2 := Lib.hid hk2
  obtain ⟨a, c, rfl, _⟩ := hs
  clear hwh hls hk2 hlf
  go_wp2_with fail
  go_loopw [7, 8, 9, 10] (fun v7 v8 _ _ wr => ∃ acc : List ST, acc.length ≤ ls.length ∧ v8 = .int .i64 acc.length ∧ OwnsAt wr w2.heap.size 38 4 v7 acc.length (acc.flatMap stC) ∧ runL acc ((pieces 10 bs).drop acc.length) = readL bs ∧ (wh = false → acc.length < ls.length) ∧ Keep [] w2 wr ∧ Keep [] w wr) (fun _ v _ _ _ => ls.length - (intOf v).toNat)
  case atStart => exact ⟨[], by simp, rfl, OwnsAt.nil _ _ _ _, rfl, F.out.pos, Keep.refl _ _, K2.out⟩
  case round =>
    obtain ⟨acc, hal, rfl, ho, hr, hwl, hk, hkw⟩ := hrel
    obtain ⟨ao, co, rfl⟩ := ho.shape
    have hlsl : ls.length ≤ 20001 := by have := F.out.len; have := HL.out; omega
    have hlsI : (ls.length : Int) ≤ 20001 := by omega
    have haI : (acc.length : Int) ≤ (ls.length : Int) := by omega
    have G := Lib.hid (And.intro ho (And.intro hr (And.intro hk (And.intro hkw (And.intro hwl hal)))))
    clear ho hr hk hkw hwl hal
    by_cases hlt : acc.length < ls.length
    · have hltI : (acc.length : Int) < (ls.length : Int) := by omega
      obtain ⟨p, hp⟩ : ∃ p, ls[acc.length]? = some p := ⟨_, List.getElem?_eq_getElem hlt⟩
      obtain ⟨x, cx, hva, hcells⟩ := HS.out.keep0 G.out.2.2.1
      cases hva
      obtain ⟨b, off, rfl, hbl, hc⟩ := hcells _ p hp
      have Hp := Lib.hid (And.intro hp (And.intro hlt (show p.length ≤ 20000 by have := F.out.each p (List.mem_of_getElem? hp); have := HL.out; omega)))
      clear hp hlt hcells hbl
      have hat := F.out.at_ _ p Hp.out.1
      have hrun := G.out.2.1
      rw [hat] at hrun
      have hsub : IntKind.i64.wrap ((ls.length : Int) - 1) = (ls.length : Int) - 1 := IntWalk.i64_in _ (by omega)
      have hadd : IntKind.i64.wrap ((acc.length : Int) + 1) = (acc.length : Int) + 1 := IntWalk.i64_in _ (by omega)
      have R := Lib.hid hrun
      clear hat hrun
      go_wp2_with fail
      refine (rstep_spec _ p Hp.out.2.2).mono ?_
      rintro e w6 ⟨hk6, hor⟩
      have Hk6 := Lib.hid hk6
      clear hk6 hc
      by_cases hlast : wh = false ∧ acc.length + 1 = ls.length
      · obtain ⟨rfl, hl1⟩ := hlast
        have hl1I : ((acc.length : Int) == (ls.length : Int) - 1) = true := by simp; omega
        have hl1E : (acc.length : Int) = (ls.length : Int) - 1 := by omega
        have hres : readL bs = .error (acc.length + 1) := by
          have h := R.out
          obtain ⟨hpn, hnil⟩ := F.out.last _ p rfl Hp.out.1 hl1
          rw [hnil, runL, if_neg hpn] at h
          exact h.symm
        have Hres := Lib.hid hres
        clear hres hl1
        obtain ⟨s, bb, rfl⟩ : ∃ s bb, e = .returned (.tuple #[stV s, .bool bb]) := by
          rcases hor with ⟨s, _, h⟩ | ⟨_, s, h⟩ <;> exact ⟨s, _, h⟩
        clear hor
        unfold stV
        cases bb with
        | true =>
          go_wp2
          go_ret3
          exact ⟨(G.out.2.2.2.1.trans Hk6.out (by simp)).trans ((Keep.refl [] _).alloc _) (by simp), Or.inr ⟨acc.length + 1, Hres.out, by simp; try omega⟩⟩
        | false =>
          go_wp2
          go_ret3
          exact ⟨(G.out.2.2.2.1.trans Hk6.out (by simp)).trans ((Keep.refl [] _).alloc _) (by simp), Or.inr ⟨acc.length + 1, Hres.out, by simp; try omega⟩⟩
      · obtain ⟨y, r, hmore⟩ := F.out.more acc.length Hp.out.2.1 (by
          cases hw : wh with
          | true => exact Or.inl rfl
          | false => exact Or.inr (by have := Hp.out.2.1; have h2 : ¬ acc.length + 1 = ls.length := fun h => hlast ⟨hw, h⟩; omega))
        have hrun := R.out
        rw [hmore] at hrun
        rcases hor with ⟨s, hst, rfl⟩ | ⟨hst, s, rfl⟩
        · rw [runL, hst, ← hmore] at hrun
          have Hrun := Lib.hid hrun
          unfold stV
          have Ho6 := Lib.hid ((G.out.1.keep Hk6.out (by simp)).keep (((Keep.refl [] w6).alloc (.cells #[.int .i64 s.kind, .int .i64 s.node, .int .i64 s.k, .int .i64 s.bit] 38)).alloc (.cells #[.int .i64 s.kind, .int .i64 s.node, .int .i64 s.k, .int .i64 s.bit] 38)) (by simp))
          have hla2 : acc.length ≤ 20001 := by omega
          have Hz : Hid (w2.heap.size ≤ ((w6.alloc (.cells #[.int .i64 s.kind, .int .i64 s.node, .int .i64 s.k, .int .i64 s.bit] 38)).alloc (.cells #[.int .i64 s.kind, .int .i64 s.node, .int .i64 s.k, .int .i64 s.bit] 38)).heap.size) := Lib.hid (((G.out.2.2.1.trans Hk6.out (by simp)).alloc _).alloc _).size
          have hnext : wh = false → acc.length + 1 < ls.length := fun h => by
            have h2 : ¬ acc.length + 1 = ls.length := fun h3 => hlast ⟨h, h3⟩
            have := Hp.out.2.1
            omega
          have Hnext := Lib.hid hnext
          have hguard : (!wh && ((acc.length : Int) == (ls.length : Int) - 1)) = false := by
            cases wh with
            | true => rfl
            | false =>
              have := hnext rfl
              simp
              omega
          clear hrun hmore hst hnext
          cases wh with
          | true =>
            clear hguard hlast
            go_wp2_with (at_builtin; refine wpList_append_off rfl _ _ rfl Tryd.sts35 w2.heap.size (.slice ao acc.length co) acc.length _ rfl Ho6.out _ 1 (stC s) rfl (src_step s) (by simp [stC, Value.oneCell']) (by unfold maxLen; omega) (by omega) Hz.out ?_)
            intro v7 w7 ho7 hk7 hb7
            have Ho7 := Lib.hid ho7
            have Hk72 := Lib.hid (show Keep [] w2 w7 from (((G.out.2.2.1.trans Hk6.out (by simp)).alloc _).alloc _).trans hk7 (fun x hx => Or.inr (Ho6.out.lt x (mem_own.1 hx)).1))
            have Hk7 := Lib.hid (K2.out.trans Hk72.out (by simp))
            clear ho7 hk7 hb7 Ho6 Hz
            go_wp2
            go_roundw
            case rel =>
              refine ⟨acc ++ [s], by rw [List.length_append]; have := Hp.out.2.1; simp; omega, by rw [List.length_append]; simp, ?_, by rw [List.length_append]; exact Hrun.out, fun h => by rw [List.length_append]; exact Hnext.out h, Hk72.out, Hk7.out⟩
              have := Ho7.out
              rw [List.length_append, List.flatMap_append]
              simpa using this
            case measure => simp [intOf]; have := Hp.out.2.1; omega
          | false =>
            have hgI : ((acc.length : Int) == (ls.length : Int) - 1) = false := by simpa using hguard
            have hgE : ¬ (acc.length : Int) = (ls.length : Int) - 1 := by simpa using hgI
            clear hguard hlast
            go_wp2_with (at_builtin; refine wpList_append_off rfl _ _ rfl Tryd.sts35 w2.heap.size (.slice ao acc.length co) acc.length _ rfl Ho6.out _ 1 (stC s) rfl (src_step s) (by simp [stC, Value.oneCell']) (by unfold maxLen; omega) (by omega) Hz.out ?_)
            intro v7 w7 ho7 hk7 hb7
            have Ho7 := Lib.hid ho7
            have Hk72 := Lib.hid (show Keep [] w2 w7 from (((G.out.2.2.1.trans Hk6.out (by simp)).alloc _).alloc _).trans hk7 (fun x hx => Or.inr (Ho6.out.lt x (mem_own.1 hx)).1))
            have Hk7 := Lib.hid (K2.out.trans Hk72.out (by simp))
            clear ho7 hk7 hb7 Ho6 Hz
            go_wp2
            go_roundw
            case rel =>
              refine ⟨acc ++ [s], by rw [List.length_append]; have := Hp.out.2.1; simp; omega, by rw [List.length_append]; simp, ?_, by rw [List.length_append]; exact Hrun.out, fun h => by rw [List.length_append]; exact Hnext.out h, Hk72.out, Hk7.out⟩
              have := Ho7.out
              rw [List.length_append, List.flatMap_append]
              simpa using this
            case measure => simp [intOf]; have := Hp.out.2.1; omega
        · have hres : readL bs = .error (acc.length + 1) := by
            rw [runL, hst] at hrun
            exact hrun.symm
          have Hres := Lib.hid hres
          clear hres hrun hst hmore hlast
          unfold stV
          go_wp2
          go_ret3
          exact ⟨(G.out.2.2.2.1.trans Hk6.out (by simp)).trans ((Keep.refl [] _).alloc _) (by simp), Or.inr ⟨acc.length + 1, Hres.out, by simp; try omega⟩⟩
    · have he : acc.length = ls.length := by have := G.out.2.2.2.2.2; omega
      have hwt : wh = true := by
        cases wh with
        | true => rfl
        | false => have := G.out.2.2.2.2.1 rfl; omega
      have hres : readL bs = .ok acc := by
        have h := G.out.2.1
        rw [he, F.out.fin hwt] at h
        rw [← h]
        rfl
      have Hres := Lib.hid hres
      have heI : ¬ (acc.length : Int) < (ls.length : Int) := by omega
      clear he hwt hres hlt
      go_wp2
      go_ret3
      exact ⟨G.out.2.2.2.1, Or.inl ⟨acc, _, Hres.out, StepsAt.of_own G.out.1, rfl⟩⟩
end Go.Proofs.YtndpbkhpllmhmaaDoor
