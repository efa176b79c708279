/- Links: the loads that are acknowledged are struck. -/
import Derived.Test.YtacifjjhadjhfaaRows
import Derived.WalkKit
import Derived.WalkSpells
import Derived.WalkLawsBesides
import Derived.RegionTactic
import Derived.ChangeAlike
import Derived.BigQuiet
import Derived.Deep.QuietTactic
import Derived.StillTailTactics
import Derived.IntWalk
import Derived.Handy
import Derived.Lib.Hide
import Derived.Deep.AppendLies
import Derived.Deep.RegionWith
import Derived.Test.YtacifjjhadjhfaaBase
import Derived.Test.YtacifjjhadjhfaaTail
import Derived.Test.YtacifjjhadjhfaaArgs
import Derived.Test.YtacifjjhadjhfaaAppend
import Derived.Deep.RegionLaw
import Derived.Test.YtacifjjhadjhfaaOffs
import Derived.Test.YtacifjjhadjhfaaStructs
import Derived.Test.YtacifjjhadjhfaaSplit
import Derived.Maps.OwnSet
import Derived.Maps.Views
import Derived.Test.YtacifjjhadjhfaaLinkBytes
import Derived.Test.YtacifjjhadjhfaaLinkObj
import Derived.Test.YtacifjjhadjhfaaLinkSend
import Derived.Test.YtacifjjhadjhfaaLinkDue
import Derived.Test.YtacifjjhadjhfaaLinkFrame
import Derived.Test.YtacifjjhadjhfaaLinkOut
import Derived.Test.YtacifjjhadjhfaaLinkOut2
import Derived.Test.YtacifjjhadjhfaaLinkOne
import Derived.Test.YtacifjjhadjhfaaLinkLive
import Derived.Test.YtacifjjhadjhfaaLinkAck
namespace Go.Proofs.Ytacifjjhadjhfaa
open Go.RowKit
theorem OwnsAt.cutAt {w : World} {B : Nat} {e : TypeId} {size : Nat} {g off n cap : Nat} {xs : List Value} (h : OwnsAt w B e size (.slice (some ⟨g, off, none⟩) n cap) n xs) {k : Nat} (hk : k ≤ n) : OwnsAt w B e size (.slice (some ⟨g, off, none⟩) k cap) k (xs.take (k * size)) := by
  have hl := h.1
  have hmul : k * size ≤ n * size := Nat.mul_le_mul_right _ hk
  refine ⟨by rw [List.length_take]; omega, ?_⟩
  rcases h.2 with ⟨h0, _⟩ | ⟨g', off', cap', cur, hv, hb, hg, h3, h4, h5, h6⟩
  · cases h0
  · injection hv with e1 e2 e3
    injection e1 with e1
    injection e1 with e1 e4
    subst e1 e3 e4
    refine Or.inr ⟨g, off, cap, cur, rfl, hb, hg, by omega, h4, h5, ?_⟩
    rw [← h6, List.take_take, Nat.min_eq_left hmul]
theorem OwnsAt.setLD {w : World} {B g off n cap i : Nat} {R : List LD} {y : LD} (h : OwnsAt w B 75 4 (.slice (some ⟨g, off, none⟩) n cap) n (R.flatMap LD.c)) (hi : R[i]? = some y) (x : LD) :
    OwnsAt ((((w.setCell ⟨g, off + i * 4, none⟩ (.int .i64 x.seq)).setCell ⟨g, off + i * 4 + 1, none⟩ (.int .i64 x.times)).setCell ⟨g, off + i * 4 + 2, none⟩ (.int .i64 x.at_)).setCell ⟨g, off + i * 4 + 3, none⟩ x.bv) B 75 4 (.slice (some ⟨g, off, none⟩) n cap) n ((R.set i x).flatMap LD.c) := by
  have hl : i < R.length := by
    rcases Nat.lt_or_ge i R.length with h' | h'
    · exact h'
    · rw [List.getElem?_eq_none h'] at hi; cases hi
  have s1 := h.set_ (i * 4 + 0) (.int .i64 x.seq)
  rw [flat_set_ LD.c_len R i y ⟨x.seq, y.times, y.at_, y.bs, y.bv⟩ 0 _ hi (by omega) rfl] at s1
  have i1 : (R.set i (⟨x.seq, y.times, y.at_, y.bs, y.bv⟩ : LD))[i]? = some ⟨x.seq, y.times, y.at_, y.bs, y.bv⟩ := List.getElem?_set_self hl
  have s2 := s1.set_ (i * 4 + 1) (.int .i64 x.times)
  rw [flat_set_ LD.c_len _ i _ ⟨x.seq, x.times, y.at_, y.bs, y.bv⟩ 1 _ i1 (by omega) rfl, List.set_set] at s2
  have i2 : (R.set i (⟨x.seq, x.times, y.at_, y.bs, y.bv⟩ : LD))[i]? = some ⟨x.seq, x.times, y.at_, y.bs, y.bv⟩ := List.getElem?_set_self hl
  have s3 := s2.set_ (i * 4 + 2) (.int .i64 x.at_)
  rw [flat_set_ LD.c_len _ i _ ⟨x.seq, x.times, x.at_, y.bs, y.bv⟩ 2 _ i2 (by omega) rfl, List.set_set] at s3
  have i3 : (R.set i (⟨x.seq, x.times, x.at_, y.bs, y.bv⟩ : LD))[i]? = some ⟨x.seq, x.times, x.at_, y.bs, y.bv⟩ := List.getElem?_set_self hl
  have s4 := s3.set_ (i * 4 + 3) x.bv
  rw [flat_set_ LD.c_len _ i _ x 3 _ i3 (by omega) rfl, List.set_set] at s4
  simp only [Nat.add_zero, ← Nat.add_assoc] at s4
  exact s4
def keepL (n : Int) (l : List LD) : List LD := l.filter fun s => !ackB n s
def DelPost (B n0 : Nat) (a : Option Addr) (c : Nat) (n : Int) (w : World) (ls : List LD) (e : Ending) (w' : World) : Prop :=
  e = .returned (.slice a (keepL n ls).length c) ∧ OwnsAt w' B 75 4 (.slice a (keepL n ls).length c) (keepL n ls).length ((keepL n ls).flatMap LD.c) ∧ Keep (ownBlocks (.slice a n0 c)) w w'
theorem keepL_all {n : Int} {l : List LD} (h : ∀ (j : Nat) (y : LD), l[j]? = some y → ackB n y = false) : keepL n l = l := by
  unfold keepL
  rw [List.filter_eq_self]
  intro x hx
  obtain ⟨j, hj, rfl⟩ := List.mem_iff_getElem.1 hx
  rw [h j _ (List.getElem?_eq_getElem hj)]
  rfl
theorem idx_cases (n : Int) (l : List LD) : (idxI (ackB n) l = -1 ∧ ∀ (j : Nat) (y : LD), l[j]? = some y → ackB n y = false) ∨ ∃ (k : Nat) (x : LD), idxI (ackB n) l = k ∧ l[k]? = some x ∧ ackB n x = true ∧ ∀ (j : Nat) (y : LD), j < k → l[j]? = some y → ackB n y = false := by
  unfold idxI
  cases hf : l.findIdx? (ackB n) with
  | none =>
    rw [List.findIdx?_eq_none_iff] at hf
    exact Or.inl ⟨rfl, fun j y hy => hf y (List.mem_of_getElem? hy)⟩
  | some k =>
    rw [List.findIdx?_eq_some_iff_getElem] at hf
    obtain ⟨hk, hs, hb⟩ := hf
    refine Or.inr ⟨k, _, rfl, List.getElem?_eq_getElem hk, hs, fun j y hj hy => ?_⟩
    have h1 := hb j hj
    rw [List.getElem?_eq_getElem (by omega)] at hy
    cases hy
    simpa using h1
theorem keepL_take {n : Int} {l : List LD} {j : Nat} {x : LD} (h : l[j]? = some x) : keepL n (l.take (j + 1)) = keepL n (l.take j) ++ if ackB n x then [] else [x] := by
  have hj : j < l.length := by
    rcases Nat.lt_or_ge j l.length with h' | h'
    · exact h'
    · rw [List.getElem?_eq_none h'] at h; cases h
  have hx : l[j] = x := by rw [List.getElem?_eq_getElem hj] at h; exact Option.some.inj h
  unfold keepL
  rw [List.take_succ_eq_append_getElem hj, hx, List.filter_append]
  congr 1
  cases hd : ackB n x <;> simp [hd]
set_option maxHeartbeats 8000000 in
set_option maxRecDepth 100000 in
theorem delete_spec {w : World} {B : Nat} {a : Option Addr} {c nb : Nat} {n : Int} {ls : List LD} (h : OwnsAt w B 75 4 (.slice a ls.length c) ls.length (ls.flatMap LD.c)) (hsh : ∀ s ∈ ls, ∃ a c, s.bv = .slice a s.bs.length c) (hl : ls.length ≤ 1000) (hn : w.cell? ⟨nb, 0, none⟩ = some (.int .i64 n)) (hnb : nb < w.heap.size) (hne : (Value.slice a ls.length c).ownBlock ≠ some nb) :
    Calls Try.prog 36 #[.slice a ls.length c, .func (.func 37) #[] #[.pointer (some ⟨nb, 0, none⟩)]] w (DelPost B ls.length a c n w ls) := by
  have hidx := Lib.hid (index_spec h hsh hl hn hnb)
  have H := Lib.hid h
  have Hsh := Lib.hid hsh
  have Hn := Lib.hid hn
  have hl2 : (ls.length : Int) ≤ 1000 := by omega
  have hz : ∀ w, (zeroValue 75).run Try.prog w = .ok (.agg #[.int .i64 0, .int .i64 0, .int .i64 0, .slice none 0 0]) w := fun _ => by kernel_rfl
  have Hz := Lib.hid hz
  clear h hsh hn hz
  go_enter Try.func36, Try.ntmps36
  go_wp2_with fail
  refine hidx.out.mono ?_
  rintro e w1 ⟨rfl, hk1⟩
  clear hidx
  rcases idx_cases n ls with ⟨hi, hall⟩ | ⟨k, x, hi, hx, hax, hbefore⟩
  · rw [hi]
    have hkl : keepL n ls = ls := keepL_all hall
    have hfin : DelPost B ls.length a c n w ls (.returned (.slice a ls.length c)) w1 := by
      unfold DelPost
      rw [hkl]
      exact ⟨rfl, H.out.keep hk1 (by simp), hk1.mono (by simp)⟩
    have Hfin := Lib.hid hfin
    clear hfin hkl hall hi
    go_wp2
    go_ret
    exact Hfin.out
  · rw [hi]
    have hkl : k < ls.length := by
      rcases Nat.lt_or_ge k ls.length with h' | h'
      · exact h'
      · rw [List.getElem?_eq_none h'] at hx; cases hx
    obtain ⟨g, off, rfl, _, _, _, hcap, _⟩ := H.out.rowAt LD.c_len hx hkl
    have hgn : g ≠ nb := fun e => hne (by rw [e]; rfl)
    have hcm : c ≤ maxLen := by
      obtain ⟨g', off', cap', hv, h1, h2, _⟩ := H.out.form (by omega)
      injection hv with e1 e2 e3
      subst e3
      exact h2
    unfold maxLen at hcm
    have ht0 : ls.take k = keepL n (ls.take k) := by
      refine (keepL_all fun j y hy => ?_).symm
      have hjk : j < k := by
        rcases Nat.lt_or_ge j (ls.take k).length with h' | h'
        · simp at h'; omega
        · rw [List.getElem?_eq_none h'] at hy; cases hy
      rw [List.getElem?_take, if_pos hjk] at hy
      exact hbefore j y hjk hy
    have hstart : ls.take k = keepL n (ls.take (k + 1)) := by
      rw [keepL_take hx, hax]
      simpa using ht0
    have Hstart := Lib.hid hstart
    have hown1 := Lib.hid (H.out.keep hk1 (by simp))
    have hkI : (k : Int) < (ls.length : Int) := by omega
    have hkm : ((k : Int) == -1) = false := by simp
    clear hi hx hax hbefore ht0 hstart
    go_wp2_with fail
    go_loopw [5, 6, 7] (fun v5 v6 _ wr => ∃ (i j : Nat) (R : List LD), i < j ∧ j ≤ ls.length ∧ v5 = .int .i64 i ∧ v6 = .int .i64 j ∧ R.length = ls.length ∧ R.take i = keepL n (ls.take j) ∧ R.drop j = ls.drop j ∧
      OwnsAt wr B 75 4 (.slice (some ⟨g, off, none⟩) ls.length c) ls.length (R.flatMap LD.c) ∧ Keep [g] w wr) (fun _ v _ _ => ls.length - (intOf v).toNat)
    case atStart => exact ⟨k, k + 1, ls, by omega, by omega, rfl, by go_num, rfl, Hstart.out, rfl, hown1.out, hk1.mono (by simp)⟩
    case round =>
      clear hown1 hk1 Hstart
      obtain ⟨i, j, R, hij, hjl, rfl, rfl, hRl, hRt, hRd, hown, hk⟩ := hrel
      have hkn : wr.cell? ⟨nb, 0, none⟩ = some (.int .i64 n) := (hk.cell (p := ⟨nb, 0, none⟩) hnb (by simpa using hgn.symm)).trans Hn.out
      have hnbr : nb < wr.heap.size := Nat.lt_of_lt_of_le hnb hk.size
      have Hown := Lib.hid hown
      have HRt := Lib.hid hRt
      have HRd := Lib.hid hRd
      have hcI : (ls.length : Int) ≤ (c : Int) := by omega
      have hcmI : (c : Int) ≤ 9223372036854775807 := by omega
      by_cases hlt : j < ls.length
      · obtain ⟨x, hx⟩ : ∃ x, ls[j]? = some x := ⟨_, List.getElem?_eq_getElem hlt⟩
        have hRx : R[j]? = some x := by
          have h1 := congrArg (fun l => l[0]?) hRd
          simp only [List.getElem?_drop, Nat.add_zero] at h1
          rw [h1]
          exact hx
        obtain ⟨y, hy⟩ : ∃ y, R[i]? = some y := ⟨_, List.getElem?_eq_getElem (by omega)⟩
        have hshx := Hsh.out _ (List.mem_of_getElem? hx)
        obtain ⟨g', off', hh, _, hg2, hcells, _, hfr⟩ := hown.rowAt LD.c_len hRx hlt
        injection hh with hh
        injection hh with e1 e2
        subst e1 e2
        obtain ⟨g'', off'', hh, _, _, hcellsy, _, _⟩ := hown.rowAt LD.c_len hy (by omega)
        injection hh with hh
        injection hh with e1 e2
        subst e1 e2
        obtain ⟨sq, t, a, ab, cb, bs, rfl, x0, x1, x2, x3⟩ := LD.shape_of hshx hcells
        have hA : Keep [] wr (wr.alloc (.cells #[.int .i64 sq, .int .i64 t, .int .i64 a, .slice ab bs.length cb] 75)) := (Keep.refl _ _).alloc _
        have bA : Blk (wr.alloc (.cells #[.int .i64 sq, .int .i64 t, .int .i64 a, .slice ab bs.length cb] 75)) wr.heap.size 75 [.int .i64 sq, .int .i64 t, .int .i64 a, .slice ab bs.length cb] := Blk.new' _ _ _ _ rfl
        have hcl := Lib.hid (ack_closure sq t a (.slice ab bs.length cb) bs ((hA.cell (p := ⟨nb, 0, none⟩) hnbr (by simp)).trans hkn) (Nat.lt_of_lt_of_le hnbr hA.size))
        have hsucc := keepL_take (n := n) hx
        have Hsucc := Lib.hid hsucc
        have hjI : (j : Int) < (ls.length : Int) := by omega
        have hjI2 : (j : Int) ≤ 1000 := by omega
        have hiI : (i : Int) < (ls.length : Int) := by omega
        have Hcy := Lib.hid hcellsy
        have Hy := Lib.hid hy
        clear hcells hcellsy hown hRt hRd hRx hshx hsucc hy hkn
        go_wp2_with fail
        refine hcl.out.mono ?_
        rintro e w3 ⟨rfl, hk3⟩
        have hown3 := Lib.hid ((Hown.out.keep hA (by simp)).keep hk3 (by simp))
        have hk4 := ((hk.trans hA (by simp)).trans hk3 (by simp))
        have b3 := bA.keep hk3 (by simp)
        have q0 : w3.cell? ⟨wr.heap.size, 0, none⟩ = some (.int .i64 sq) := b3.cell 0
        have q1 : w3.cell? ⟨wr.heap.size, 1, none⟩ = some (.int .i64 t) := b3.cell 1
        have q2 : w3.cell? ⟨wr.heap.size, 2, none⟩ = some (.int .i64 a) := b3.cell 2
        have q3 : w3.cell? ⟨wr.heap.size, 3, none⟩ = some (.slice ab bs.length cb) := b3.cell 3
        clear hcl x0 x1 x2 x3 bA b3 Hown hk hfr
        cases hd : ackB n ⟨sq, t, a, bs, .slice ab bs.length cb⟩ with
        | true =>
          have hnext : R.take i = keepL n (ls.take (j + 1)) := by rw [Hsucc.out, hd, HRt.out]; simp
          have hdrop : R.drop (j + 1) = ls.drop (j + 1) := by
            have := congrArg (List.drop 1) HRd.out
            simpa [List.drop_drop, Nat.add_comm] using this
          have Hnext := Lib.hid (And.intro hnext hdrop)
          clear hnext hdrop hA hk3
          go_wp2
          go_roundw
          case rel => exact ⟨i, j + 1, R, by omega, by omega, rfl, by go_num, hRl, Hnext.out.1, Hnext.out.2, hown3.out, hk4⟩
          case measure => simp [intOf]; omega
        | false =>
          have y0 : w3.cell? ⟨g, off + i * 4, none⟩ = some (.int .i64 y.seq) := ((hA.trans hk3 (by simp)).cell (p := ⟨g, off + i * 4, none⟩) hg2 (by simp)).trans (Hcy.out 0 _ (by omega) rfl)
          have y1 : w3.cell? ⟨g, off + i * 4 + 1, none⟩ = some (.int .i64 y.times) := ((hA.trans hk3 (by simp)).cell (p := ⟨g, off + i * 4 + 1, none⟩) hg2 (by simp)).trans (Hcy.out 1 _ (by omega) rfl)
          have y2 : w3.cell? ⟨g, off + i * 4 + 2, none⟩ = some (.int .i64 y.at_) := ((hA.trans hk3 (by simp)).cell (p := ⟨g, off + i * 4 + 2, none⟩) hg2 (by simp)).trans (Hcy.out 2 _ (by omega) rfl)
          have y3 : w3.cell? ⟨g, off + i * 4 + 3, none⟩ = some y.bv := ((hA.trans hk3 (by simp)).cell (p := ⟨g, off + i * 4 + 3, none⟩) hg2 (by simp)).trans (Hcy.out 3 _ (by omega) rfl)
          have f0 := hown3.out.free (off + i * 4)
          have f1 := hown3.out.free (off + i * 4 + 1)
          have f2 := hown3.out.free (off + i * 4 + 2)
          have f3 := hown3.out.free (off + i * 4 + 3)
          have hset := hown3.out.setLD Hy.out ⟨sq, t, a, bs, .slice ab bs.length cb⟩
          have hkset : Keep [g] w ((((w3.setCell ⟨g, off + i * 4, none⟩ (.int .i64 sq)).setCell ⟨g, off + i * 4 + 1, none⟩ (.int .i64 t)).setCell ⟨g, off + i * 4 + 2, none⟩ (.int .i64 a)).setCell ⟨g, off + i * 4 + 3, none⟩ (.slice ab bs.length cb)) :=
            hk4.trans (T := [g]) ((((Keep.refl _ _).setCell (by simp) _).setCell (by simp) _).setCell (by simp) _ |>.setCell (by simp) _) (fun x hx => Or.inl hx)
          have hnext : (R.set i ⟨sq, t, a, bs, .slice ab bs.length cb⟩).take (i + 1) = keepL n (ls.take (j + 1)) := by
            rw [Hsucc.out, hd, ← HRt.out, List.take_succ_eq_append_getElem (by rw [List.length_set]; omega), List.getElem_set_self, List.take_set_of_le (Nat.le_refl _)]
            rfl
          have hdrop : (R.set i ⟨sq, t, a, bs, .slice ab bs.length cb⟩).drop (j + 1) = ls.drop (j + 1) := by
            have := congrArg (List.drop 1) HRd.out
            rw [List.drop_set, if_pos (by omega)]
            simpa [List.drop_drop, Nat.add_comm] using this
          have Hnext := Lib.hid (And.intro hnext (And.intro hdrop (And.intro hset hkset)))
          clear hnext hdrop hA hk3 hset hkset hk4
          go_wp2
          go_roundw
          case rel => exact ⟨i + 1, j + 1, _, by omega, by omega, by go_num, by go_num, by rw [List.length_set]; exact hRl, Hnext.out.1, Hnext.out.2.1, Hnext.out.2.2.1, Hnext.out.2.2.2⟩
          case measure => simp [intOf]; omega
      · have hjl2 : j = ls.length := by omega
        subst hjl2
        rw [List.take_length] at HRt
        have hml : (keepL n ls).length = i := by rw [← HRt.out, List.length_take]; omega
        have hcut := hown.cutAt (show i ≤ ls.length by omega)
        rw [flat_take LD.c_len, HRt.out] at hcut
        obtain ⟨w3, hcl, h4, h5⟩ := run_clear_own (P := Try.prog) Try.underlying27 Hz.out (size := 4) rfl (fun u hu => by
          have hu' : u ∈ (#[.int .i64 0, .int .i64 0, .int .i64 0, .slice none 0 0] : Array Value) := hu
          simp at hu'
          rcases hu' with rfl | rfl <;> rfl) 0 B g off c i (ls.length - i) (c - i) _ hcut (by omega)
        have hfin : DelPost B ls.length (some ⟨g, off, none⟩) c n w ls (.returned (.slice (some ⟨g, off, none⟩) i c)) w3 := by
          unfold DelPost
          rw [hml]
          exact ⟨rfl, h4, hk.trans h5 (fun x hx => Or.inl hx)⟩
        have Hfin := Lib.hid hfin
        have hiI : (i : Int) < (ls.length : Int) := by omega
        clear hcut h4 h5 hfin hml hown hRt hRd hk Hown
        go_wp2
        go_ret
        exact Hfin.out
end Go.Proofs.Ytacifjjhadjhfaa
