/- Terms: Idle, Send. -/
import Derived.Test.YtiicmlhpcfhfeaaRows
import Derived.WalkKit
import Derived.WalkSpells
import Derived.WalkLawsBesides
import Derived.RegionTactic
import Derived.ChangeAlike
import Derived.BigQuiet
import Derived.Deep.QuietTactic
import Derived.StillTailTactics
import Derived.IntWalk
import Derived.Handy
import Derived.Lib.Hide
import Derived.Deep.AppendLies
import Derived.Deep.RegionWith
import Derived.Test.YtiicmlhpcfhfeaaBase
import Derived.Test.YtiicmlhpcfhfeaaTail
import Derived.Test.YtiicmlhpcfhfeaaArgs
import Derived.Test.YtiicmlhpcfhfeaaAppend
import Derived.Deep.RegionLaw
import Derived.Test.YtiicmlhpcfhfeaaOffs
import Derived.Test.YtiicmlhpcfhfeaaStructs
import Derived.Test.YtiicmlhpcfhfeaaSplit
import Derived.Test.YtiicmlhpcfhfeaaTermObj
import Derived.Test.YtiicmlhpcfhfeaaTermRead
import Derived.Test.YtiicmlhpcfhfeaaTermSettle
import Derived.Test.YtiicmlhpcfhfeaaTermSettle2
import Derived.Test.YtiicmlhpcfhfeaaTermDel
namespace Go.Proofs.Ytiicmlhpcfhfeaa
open Go.RowKit
set_option maxHeartbeats 4000000 in
theorem idle_spec {w : World} {B p : Nat} {F : List Nat} {q : TM} (n : Int) (h : TermAt w B p F q) (hB : B ≤ w.heap.size) (hl : q.nodes.length ≤ 1000) (hwl : q.way.length ≤ 1000000000) :
    Calls Try.prog 11 #[.pointer (some ⟨p, 0, none⟩), .int .i64 n] w (TPost B p F w (.bool (idleN q n).2) (idleN q n).1) := by
  have hac := active_spec n h
  cases ha : activeN q n with
  | false =>
    rw [show idleN q n = (q, false) by unfold idleN; rw [ha]; rfl]
    rw [ha] at hac
    have Hac := Lib.hid hac
    have Hfin : Hid (TPost B p F w (.bool false) q (.returned (.bool false)) w) := Lib.hid ⟨rfl, F, h, Keep.refl _ _, fun x hx => Or.inl hx⟩
    clear hac ha h
    go_enter Try.func11, Try.ntmps11
    go_wp2_with fail
    refine Hac.out.mono ?_
    rintro e w1 ⟨rfl, rfl⟩
    go_wp2
    go_ret
    exact Hfin.out
  | true =>
    rw [show idleN q n = (settle ⟨q.nodes.set n.toNat ((nd q n).1, false, (nd q n).2.2), q.way⟩, true) by unfold idleN; rw [ha]; rfl]
    rw [ha] at hac
    have hi : isN q n = true := by unfold activeN at ha; simp at ha; exact ha.1
    obtain ⟨vn, vw, h, rfl⟩ := h
    obtain ⟨k, x, g, off, c, rfl, hk, hx, hnd, rfl, hg, e0, e1, e2, hf, hcap⟩ := h.at_ hi
    rw [hnd, Int.toNat_natCast]
    obtain ⟨t1, t2⟩ := TermIn.turn0 h hx 1 (by omega) (.bool false) (x.1, false, x.2.2) rfl
    have hset := settle_spec (q := ⟨q.nodes.set k (x.1, false, x.2.2), q.way⟩) (F := termFoot p (.slice (some ⟨g, off, none⟩) q.nodes.length c) vw) ⟨_, _, t1, rfl⟩ (by simp; omega) (by simpa using hl) hwl
    have c0 : w.cell? ⟨p, 0, none⟩ = some (.slice (some ⟨g, off, none⟩) q.nodes.length c) := h.head.cell 0
    have hk2 : (k : Int) < (q.nodes.length : Int) := by omega
    have f1 := hf (off + k * 3 + 1)
    have Hac := Lib.hid hac
    have Hset := Lib.hid hset
    have T2 := Lib.hid t2
    clear hac ha h hi hx hnd hf t1 t2 hset hl hwl
    go_enter Try.func11, Try.ntmps11
    go_wp2_with fail
    refine Hac.out.mono ?_
    rintro e w1 ⟨rfl, rfl⟩
    go_wp2_with fail
    refine Hset.out.mono ?_
    rintro e w2 ⟨rfl, F', h2, k2, f2⟩
    have Hfin := Lib.hid (reach_trans T2.out (fun x hx => Or.inl hx) k2 f2)
    have H2 := Lib.hid h2
    clear h2 k2 f2
    go_wp2
    go_ret
    exact ⟨rfl, F', H2.out, Hfin.out.1, Hfin.out.2⟩
theorem sent_len (q : TM) (f : Int) (l : List Int) : (sentN q f l).nodes.length = q.nodes.length := by unfold sentN; simp
theorem isN_sent (q : TM) (f : Int) (l : List Int) (n : Int) : isN (sentN q f l) n = isN q n := by unfold isN; rw [sent_len]
theorem sent_nil {q : TM} {k : Nat} {x : Nd} (h : q.nodes[k]? = some x) : sentN q k [] = q := by
  unfold sentN
  rw [nd_of h]
  obtain ⟨nodes, way⟩ := q
  simp only [List.length_nil, List.map_nil, List.append_nil, Int.toNat_natCast]
  congr 1
  have : ((x.1 + ((0 : Nat) : Int), x.2.1, x.2.2) : Nd) = x := by simp
  rw [this]
  apply List.ext_getElem?
  intro i
  by_cases hik : k = i
  · subst hik
    rw [h]
    rcases Nat.lt_or_ge k nodes.length with h' | h'
    · rw [List.getElem?_set_self h']
    · simp only at h
      rw [List.getElem?_eq_none h'] at h
      cases h
  · rw [List.getElem?_set_ne hik]
theorem sent_at {q : TM} {k : Nat} {x : Nd} (h : q.nodes[k]? = some x) (l : List Int) : (sentN q k l).nodes[k]? = some (x.1 + l.length, x.2.1, x.2.2) := by
  have hk : k < q.nodes.length := by
    rcases Nat.lt_or_ge k q.nodes.length with h' | h'
    · exact h'
    · rw [List.getElem?_eq_none h'] at h; cases h
  unfold sentN
  simp only [Int.toNat_natCast]
  rw [nd_of h, List.getElem?_set_self hk]
theorem sent_snoc {q : TM} {k : Nat} {x : Nd} (h : q.nodes[k]? = some x) (l : List Int) (n : Int) : (⟨(sentN q k l).nodes.set k (x.1 + l.length + 1, x.2.1, x.2.2), (sentN q k l).way ++ [((k : Int), n, false)]⟩ : TM) = sentN q k (l ++ [n]) := by
  unfold sentN
  rw [nd_of h]
  simp only [Int.toNat_natCast, List.set_set, List.length_append, List.length_singleton, List.map_append, List.map_cons, List.map_nil, List.append_assoc]
  congr 3
  omega
theorem sent_way (q : TM) (f : Int) (l : List Int) : (sentN q f l).way.length = q.way.length + l.length := by unfold sentN; simp
set_option maxHeartbeats 8000000 in
set_option maxRecDepth 100000 in
theorem send_spec {w : World} {B p : Nat} {F : List Nat} {q : TM} {v : Value} {to : List Int} (f : Int) (h : TermAt w B p F q) (hB : B ≤ w.heap.size) (hv : ∀ w', Keep F w w' → IntsOf w' v to) (hl : q.nodes.length ≤ 1000) (hwl : q.way.length + to.length ≤ 1000000000) (hn : ∀ x ∈ q.nodes, -1000000000 ≤ x.1 ∧ x.1 ≤ 1000000000) :
    Calls Try.prog 10 #[.pointer (some ⟨p, 0, none⟩), .int .i64 f, v] w (TPost B p F w (.int .i64 (sendN q f to).2) (sendN q f to).1) := by
  have hac := active_spec f h
  obtain ⟨a, c, rfl⟩ := (hv w (Keep.refl _ _)).shape
  cases ha : activeN q f with
  | false =>
    rw [show sendN q f to = (q, 0) by unfold sendN; rw [ha]; rfl]
    rw [ha] at hac
    have Hac := Lib.hid hac
    have Hfin : Hid (TPost B p F w (.int .i64 0) q (.returned (.int .i64 0)) w) := Lib.hid ⟨rfl, F, h, Keep.refl _ _, fun x hx => Or.inl hx⟩
    clear hac ha h hv hn
    go_enter Try.func10, Try.ntmps10
    go_wp2_with fail
    refine Hac.out.mono ?_
    rintro e w1 ⟨rfl, rfl⟩
    go_wp2
    go_ret
    exact Hfin.out
  | true =>
    rw [show sendN q f to = (settle (sentN q f (validTo q to)), (validTo q to).length) by unfold sendN; rw [ha]; rfl]
    rw [ha] at hac
    have hi : isN q f = true := by unfold activeN at ha; simp at ha; exact ha.1
    have hi' : 0 ≤ f ∧ f < q.nodes.length := by unfold isN at hi; simpa using hi
    obtain ⟨k, rfl⟩ := Int.eq_ofNat_of_zero_le hi'.1
    have hk : k < q.nodes.length := by omega
    obtain ⟨x, hx⟩ : ∃ x, q.nodes[k]? = some x := ⟨_, List.getElem?_eq_getElem hk⟩
    have hnx := hn x (List.mem_of_getElem? hx)
    have Hac := Lib.hid hac
    have Hv := Lib.hid hv
    have Hl := Lib.hid hl
    have Hwl := Lib.hid hwl
    have Hx := Lib.hid hx
    have Hnx := Lib.hid hnx
    have hk2 : (k : Int) < (q.nodes.length : Int) := by omega
    have htl : (to.length : Int) ≤ 1000000000 := by omega
    have h0 : TermAt w B p F (sentN q k (validTo q (to.take 0))) := by
      rw [List.take_zero, show validTo q [] = [] from rfl, sent_nil hx]
      exact h
    clear hac ha hv hn hi hi' hl hwl hx hnx h
    go_enter Try.func10, Try.ntmps10
    go_wp2_with fail
    refine Hac.out.mono ?_
    rintro e w1 ⟨rfl, rfl⟩
    go_wp2_with fail
    go_loopw [7, 9, 16] (fun v7 _ v16 wr => ∃ (i : Nat) (F' : List Nat), i ≤ to.length ∧ v16 = .int .i64 i ∧ v7 = .int .i64 ((validTo q (to.take i)).length : Nat) ∧ TermAt wr B p F' (sentN q k (validTo q (to.take i))) ∧ Keep F w wr ∧ (∀ x ∈ F', x ∈ F ∨ w.heap.size ≤ x)) (fun _ _ v _ => to.length - (intOf v).toNat)
    case atStart => exact ⟨0, F, by omega, rfl, rfl, h0, Keep.refl _ _, fun x hx => Or.inl hx⟩
    case round =>
      clear h0
      obtain ⟨i, F', hil, rfl, rfl, hat, hk1, hf⟩ := hrel
      by_cases hlt : i < to.length
      · obtain ⟨b, off, rfl, hb, hcell⟩ := (Hv.out _ hk1).at_ hlt
        have e0 := hcell i _ (List.getElem?_eq_getElem hlt)
        have htk : to.take (i + 1) = to.take i ++ [to[i]] := List.take_succ_eq_append_getElem hlt
        generalize to[i] = n at *
        have hiN := is_spec n hat
        rw [isN_sent] at hiN
        have HiN := Lib.hid hiN
        have Htk := Lib.hid htk
        have Hat := Lib.hid hat
        have hlv : (validTo q (to.take i)).length ≤ i := by
          have := List.length_filter_le (isN q) (to.take i)
          unfold validTo
          simp at this
          omega
        generalize hL : validTo q (to.take i) = L at *
        have HL := Lib.hid hL
        have hlv2 : (L.length : Int) ≤ 1000000000 := by omega
        cases hin : isN q n with
        | false =>
          rw [hin] at HiN
          have hnext : validTo q (to.take (i + 1)) = L := by
            rw [Htk.out]
            unfold validTo
            rw [List.filter_append]
            have : validTo q (to.take i) = L := HL.out
            unfold validTo at this
            rw [this]
            simp [hin]
          have Hnext := Lib.hid hnext
          clear hcell hiN htk hat hnext hin hL
          go_wp2_with fail
          refine HiN.out.mono ?_
          rintro e w2 ⟨rfl, rfl⟩
          go_wp2
          go_roundw
          case rel => exact ⟨i + 1, F', by omega, by go_num, by rw [Hnext.out], by rw [Hnext.out]; exact Hat.out, hk1, hf⟩
          case measure => simp [intOf]; omega
        | true =>
          rw [hin] at HiN
          have hnext : validTo q (to.take (i + 1)) = L ++ [n] := by
            rw [Htk.out]
            unfold validTo
            rw [List.filter_append]
            have : validTo q (to.take i) = L := HL.out
            unfold validTo at this
            rw [this]
            simp [hin]
          have Hnext := Lib.hid hnext
          obtain ⟨vn, vw, hat, rfl⟩ := hat
          obtain ⟨an, cn, hvn⟩ := hat.nodes.shape
          obtain ⟨aw, cw, rfl⟩ := hat.way.shape
          subst hvn
          have c1 : wr.cell? ⟨p, 1, none⟩ = some (.slice aw (sentN q k L).way.length cw) := hat.head.cell 1
          have hp1 := hat.head.lt
          have hB1 : B ≤ wr.heap.size := by have := hk1.size; omega
          have hwl1 : (sentN q k L).way.length ≤ 2000000000 := by rw [sent_way]; have := Hwl.out; omega
          have Hwl1 := Lib.hid hwl1
          have hway1 := hat.way.keep ((Keep.refl [] wr).alloc (.cells #[.int .i64 k, .int .i64 n, .bool false] 44)) (by simp)
          clear hcell hiN htk hnext hin hL hwl1
          go_wp2_with fail
          refine HiN.out.mono ?_
          rintro e w2 ⟨rfl, rfl⟩
          go_wp2_with (at_builtin; refine wpList_append_off rfl _ _ rfl Try.sgs31 B (.slice aw (sentN q k L).way.length cw) (sentN q k L).way.length _ rfl hway1 _ 1 _ rfl (src_row 3 rfl _ rfl) (by simp [Value.oneCell']) (by unfold maxLen; have := Hwl1.out; omega) (by have := Hwl1.out; omega) (by simp; omega) ?_)
          intro v' w4 hown4 hk4 hat4
          obtain ⟨g1, g2, g3⟩ := TermIn.post (s := ((k : Int), n, false)) hat ((Keep.refl [] _).alloc (.cells #[.int .i64 k, .int .i64 n, .bool false] 44)) hk4 (by simpa [sgC] using hown4) (by simpa using hat4)
          have hp4 : p ∉ ownBlocks (.slice aw (sentN q k L).way.length cw) := (fun hx => hat.way.ne_blk hat.head (by decide) (mem_own.1 hx))
          have f5 : w4.frozen? ⟨p, 1, none⟩ = false := ((hat.head.alloc _).keep hk4 hp4).frozen 1
          have c5 : w4.cell? ⟨p, 1, none⟩ = some (.slice aw (sentN q k L).way.length cw) := ((hat.head.alloc _).keep hk4 hp4).cell 1
          obtain ⟨a7, c7', rfl⟩ := hown4.shape
          have Hk1 := Lib.hid hk1
          have hreach : Keep (termFoot p (.slice an (sentN q k L).nodes.length cn) (.slice aw (sentN q k L).way.length cw)) wr (w4.setCell ⟨p, 1, none⟩ (.slice a7 ((sentN q k L).way.length + 1) c7')) := g2
          have hx1 := sent_at Hx.out L
          have hkl : k < (sentN q k L).nodes.length := by rw [sent_len]; omega
          obtain ⟨g, off, hh, _, hg2, hcells, hcap, hfr⟩ := g1.nodes.rowAt ndC_len (a := (x.1 + L.length, x.2.1, x.2.2)) hx1 hkl
          subst hh
          have e1 : (w4.setCell ⟨p, 1, none⟩ (.slice a7 ((sentN q k L).way.length + 1) c7')).cell? ⟨g, off + k * 3, none⟩ = some (.int .i64 (x.1 + L.length)) := hcells 0 _ (by omega) rfl
          have f1 := hfr (off + k * 3)
          have c6 : (w4.setCell ⟨p, 1, none⟩ (.slice a7 ((sentN q k L).way.length + 1) c7')).cell? ⟨p, 0, none⟩ = some (.slice (some ⟨g, off, none⟩) (sentN q k L).nodes.length cn) := g1.head.cell 0
          have hk3 : (k : Int) < ((sentN q k L).nodes.length : Int) := by omega
          have hdebt := debt_spec (d := 1) e1 f1 (by have := Hnx.out; omega) (by omega)
          have Hdebt := Lib.hid hdebt
          obtain ⟨t1, t2⟩ := TermIn.turn0 (q := ⟨(sentN q k L).nodes, (sentN q k L).way ++ [((k : Int), n, false)]⟩) g1 hx1 0 (by omega) (.int .i64 (x.1 + L.length + 1)) (x.1 + L.length + 1, x.2.1, x.2.2) rfl
          rw [sent_snoc Hx.out] at t1
          have T1 := Lib.hid t1
          have r1 := reach_trans Hk1.out hf g2 g3
          have R := Lib.hid (reach_trans r1.1 r1.2 t2 (fun x hx => Or.inl hx))
          clear hdebt e1 hcells hfr hx1 t1 t2 r1 g1 g2 g3 hreach hown4 hk4 hat4 hat hway1 c1 hk1 hf
          go_wp2_with fail
          refine Hdebt.out.mono ?_
          rintro e w5 ⟨rfl, rfl⟩
          go_wp2
          go_roundw
          case rel =>
            refine ⟨i + 1, _, by omega, by go_num, ?_, ?_, R.out.1, R.out.2⟩
            · rw [Hnext.out, List.length_append]
              rfl
            · rw [Hnext.out]
              exact ⟨_, _, T1.out, rfl⟩
          case measure => simp [intOf]; omega
      · have : i = to.length := by omega
        subst this
        rw [List.take_length] at hat
        have hset := settle_spec hat (by have := hk1.size; omega) (by rw [sent_len]; have := Hl.out; omega) (by have := List.length_filter_le (isN q) to; rw [sent_way]; have := Hwl.out; unfold validTo; omega)
        have Hset := Lib.hid hset
        have Hk1 := Lib.hid hk1
        have Hf := Lib.hid hf
        clear hset hat hk1 hf
        rw [List.take_length]
        go_wp2_with fail
        refine Hset.out.mono ?_
        rintro e w2 ⟨rfl, F2, h2, k2, f2⟩
        have Hfin := Lib.hid (reach_trans Hk1.out Hf.out k2 f2)
        have H2 := Lib.hid h2
        clear h2 k2 f2
        go_wp2
        go_ret
        exact ⟨rfl, F2, H2.out, Hfin.out.1, Hfin.out.2⟩
end Go.Proofs.Ytiicmlhpcfhfeaa
