/- The reference term: Idle, Send. -/
import Derived.Test.YtiicmlhpcfhfeaaRows
import Derived.WalkKit
import Derived.WalkSpells
import Derived.WalkLawsBesides
import Derived.RegionTactic
import Derived.ChangeAlike
import Derived.BigQuiet
import Derived.Deep.QuietTactic
import Derived.StillTailTactics
import Derived.IntWalk
import Derived.Handy
import Derived.Lib.Hide
import Derived.Deep.AppendLies
import Derived.Deep.RegionWith
import Derived.Test.YtiicmlhpcfhfeaaBase
import Derived.Test.YtiicmlhpcfhfeaaTail
import Derived.Test.YtiicmlhpcfhfeaaArgs
import Derived.Test.YtiicmlhpcfhfeaaAppend
import Derived.Deep.RegionLaw
import Derived.Test.YtiicmlhpcfhfeaaOffs
import Derived.Test.YtiicmlhpcfhfeaaStructs
import Derived.Test.YtiicmlhpcfhfeaaSplit
import Derived.Test.YtiicmlhpcfhfeaaTermObj
import Derived.Test.YtiicmlhpcfhfeaaTermRead
import Derived.Test.YtiicmlhpcfhfeaaTermSettle
import Derived.Test.YtiicmlhpcfhfeaaTermSettle2
import Derived.Test.YtiicmlhpcfhfeaaTermDel
import Derived.Test.YtiicmlhpcfhfeaaTermSend
import Derived.Test.YtiicmlhpcfhfeaaTermDeliver
import Derived.Test.YtiicmlhpcfhfeaaTermNew2
import Derived.Test.YtiicmlhpcfhfeaaTermAlive
import Derived.Test.YtiicmlhpcfhfeaaTermInv2
import Derived.Test.YtiicmlhpcfhfeaaRefTerm
import Derived.Test.YtiicmlhpcfhfeaaRefSettle
namespace Go.Proofs.Ytiicmlhpcfhfeaa
open Go.RowKit
structure OkR (q : TM) : Prop where
  ups : UpsOk q
  calm : Calm q
  l0 : 1 ≤ q.nodes.length
  l1 : q.nodes.length ≤ 1000
  w_ : q.way.length ≤ 10000000
  n_ : ∀ x ∈ q.nodes, -1000000000 ≤ x.1 ∧ x.1 ≤ 1000000000
  f_ : ∀ s ∈ q.way, 0 ≤ s.2.1 ∧ s.2.1 < (q.nodes.length : Int)
  g_ : ∀ s ∈ q.way, 0 ≤ s.1
theorem OkR.settled {q : TM} (h : OkR q) : settle q = q := settle_done h.calm
theorem UpsOk.set {q : TM} {k : Nat} {x x' : Nd} (h : UpsOk q) (hx : q.nodes[k]? = some x) (he : x'.2.2 = x.2.2) (l : List Sg) : UpsOk ⟨q.nodes.set k x', l⟩ := by
  refine ⟨fun y hy => ?_, fun j y hy => ?_⟩
  · rcases getset hy with ⟨e, rfl, _⟩ | ⟨_, h1⟩
    · subst e
      rw [he]
      exact h.root x hx
    · exact h.root y h1
  · rcases getset hy with ⟨e, rfl, _⟩ | ⟨_, h1⟩
    · subst e
      rw [he]
      exact h.ups _ x hx
    · exact h.ups j y h1
theorem UpsOk.way {q : TM} (h : UpsOk q) (l : List Sg) : UpsOk ⟨q.nodes, l⟩ := ⟨h.root, h.ups⟩
set_option maxHeartbeats 4000000 in
theorem idleR_spec {w : World} {B p : Nat} {F : List Nat} {q : TM} (n : Int) (h : RefAt w B p F q) (hB : B ≤ w.heap.size) (ok : OkR q) :
    Calls Try.prog 20 #[.pointer (some ⟨p, 0, none⟩), .int .i64 n] w (RPost B p F w (.bool (idleN q n).2) (idleN q n).1) := by
  have his := isR_spec n h
  have hset := settleR_spec h hB ok.ups ok.l0 ok.l1 (by have := ok.w_; omega)
  rw [ok.settled] at hset
  cases hi : isN q n with
  | false =>
    rw [show idleN q n = (q, false) by unfold idleN activeN; rw [hi]; rfl]
    rw [hi] at his
    have His := Lib.hid his
    have Hset := Lib.hid hset
    clear his hset h hi
    go_enter Try.func20, Try.ntmps20
    go_wp2_with fail
    refine His.out.mono ?_
    rintro e w1 ⟨rfl, rfl⟩
    go_wp2_with fail
    refine Hset.out.mono ?_
    rintro e w2 ⟨rfl, F', h2, k2, f2⟩
    have Hfin := Lib.hid (show RPost B p F w (.bool false) q (.returned (.bool false)) w2 from ⟨rfl, F', h2, k2, f2⟩)
    clear h2 k2 f2
    go_wp2
    go_ret
    exact Hfin.out
  | true =>
    rw [hi] at his
    have hi' : 0 ≤ n ∧ n < q.nodes.length := by unfold isN at hi; simpa using hi
    obtain ⟨k, rfl⟩ := Int.eq_ofNat_of_zero_le hi'.1
    have hk : k < q.nodes.length := by omega
    obtain ⟨x, hx⟩ : ∃ x, q.nodes[k]? = some x := ⟨_, List.getElem?_eq_getElem hk⟩
    have hnd := nd_of hx
    obtain ⟨ga, go, gu, vw, h, rfl⟩ := h
    obtain ⟨e0, e1, e2⟩ := h.at_ hx
    have c0 : w.cell? ⟨p, 0, none⟩ = some (.slice (some ⟨ga, 0, none⟩) q.nodes.length q.nodes.length) := h.head.cell 0
    have hk2 : (k : Int) < (q.nodes.length : Int) := by omega
    have f1 := h.act.frozen k
    have His := Lib.hid his
    have H := Lib.hid h
    have Ok := Lib.hid ok
    have Hx := Lib.hid hx
    obtain ⟨xn, xa, xu⟩ := x
    simp only at e0
    cases xa with
    | false =>
      have Hset := Lib.hid hset
      rw [show idleN q k = (q, false) by unfold idleN activeN; rw [hi, hnd]; rfl]
      clear his hset h hi hi' hx ok e1 e2
      go_enter Try.func20, Try.ntmps20
      go_wp2_with fail
      refine His.out.mono ?_
      rintro e w1 ⟨rfl, rfl⟩
      go_wp2_with fail
      refine Hset.out.mono ?_
      rintro e w2 ⟨rfl, F', h2, k2, f2⟩
      have Hfin := Lib.hid (show RPost B p (refFoot p ga go gu vw) w (.bool false) q (.returned (.bool false)) w2 from ⟨rfl, F', h2, k2, f2⟩)
      clear h2 k2 f2
      go_wp2
      go_ret
      exact Hfin.out
    | true =>
      obtain ⟨t1, t2⟩ := RefIn.setAct h hx false
      have hset2 := settleR_spec (q := ⟨q.nodes.set k (xn, false, xu), q.way⟩) (F := refFoot p ga go gu vw) ⟨_, _, _, _, t1, rfl⟩ (by simp; omega) (Ok.out.ups.set (x' := (xn, false, xu)) hx rfl _) (by simp; have := ok.l0; omega) (by simp; have := ok.l1; omega) (by have := ok.w_; simp; omega)
      rw [show idleN q k = (settle ⟨q.nodes.set k (xn, false, xu), q.way⟩, true) by unfold idleN activeN; rw [hi, hnd]; simp]
      have Hset := Lib.hid hset2
      have T2 := Lib.hid t2
      clear his hset hset2 h hi hi' hx ok e1 e2 t1 t2
      go_enter Try.func20, Try.ntmps20
      go_wp2_with fail
      refine His.out.mono ?_
      rintro e w1 ⟨rfl, rfl⟩
      go_wp2_with fail
      refine Hset.out.mono ?_
      rintro e w2 ⟨rfl, F', h2, k2, f2⟩
      have Hr := reach_trans T2.out (fun x hx => Or.inl hx) k2 f2
      have Hfin := Lib.hid (show RPost B p (refFoot p ga go gu vw) w (.bool true) (settle ⟨q.nodes.set k (xn, false, xu), q.way⟩) (.returned (.bool true)) w2 from ⟨rfl, F', h2, Hr.1, Hr.2⟩)
      clear h2 k2 f2 Hr
      go_wp2
      go_ret
      exact Hfin.out
set_option maxHeartbeats 8000000 in
set_option maxRecDepth 100000 in
theorem sendR_spec {w : World} {B p : Nat} {F : List Nat} {q : TM} {v : Value} {to : List Int} (f : Int) (h : RefAt w B p F q) (hB : B ≤ w.heap.size) (hv : ∀ w', Keep F w w' → IntsOf w' v to) (ok : OkR q) (htl : to.length ≤ 1000000) :
    Calls Try.prog 19 #[.pointer (some ⟨p, 0, none⟩), .int .i64 f, v] w (RPost B p F w (.int .i64 (sendN q f to).2) (sendN q f to).1) := by
  have his := isR_spec f h
  obtain ⟨a, c, rfl⟩ := (hv w (Keep.refl _ _)).shape
  have hset := settleR_spec h hB ok.ups ok.l0 ok.l1 (by have := ok.w_; omega)
  rw [ok.settled] at hset
  have htl2 : (to.length : Int) ≤ 1000000 := by omega
  cases hi : isN q f with
  | false =>
    rw [show sendN q f to = (q, 0) by unfold sendN activeN; rw [hi]; rfl]
    rw [hi] at his
    have His := Lib.hid his
    have Hset := Lib.hid hset
    clear his hset h hi ok hv htl
    go_enter Try.func19, Try.ntmps19
    go_wp2_with fail
    refine His.out.mono ?_
    rintro e w1 ⟨rfl, rfl⟩
    go_wp2_with fail
    go_loopw [8, 9, 10] (fun v8 v9 _ wr => v8 = .int .i64 0 ∧ v9 = .int .i64 0 ∧ wr = w) (fun _ _ _ _ => 0)
    case atStart => exact ⟨rfl, rfl, rfl⟩
    case round =>
      obtain ⟨rfl, rfl, rfl⟩ := hrel
      by_cases h0 : (0 : Int) < (to.length : Int)
      · go_wp2_with fail
        refine Hset.out.mono ?_
        rintro e w2 ⟨rfl, F', h2, k2, f2⟩
        have Hfin := Lib.hid (show RPost B p F wr (.int .i64 0) q (.returned (.int .i64 0)) w2 from ⟨rfl, F', h2, k2, f2⟩)
        clear h2 k2 f2
        go_wp2
        go_ret
        exact Hfin.out
      · go_wp2_with fail
        refine Hset.out.mono ?_
        rintro e w2 ⟨rfl, F', h2, k2, f2⟩
        have Hfin := Lib.hid (show RPost B p F wr (.int .i64 0) q (.returned (.int .i64 0)) w2 from ⟨rfl, F', h2, k2, f2⟩)
        clear h2 k2 f2
        go_wp2
        go_ret
        exact Hfin.out
  | true =>
    rw [hi] at his
    have hi' : 0 ≤ f ∧ f < q.nodes.length := by unfold isN at hi; simpa using hi
    obtain ⟨k, rfl⟩ := Int.eq_ofNat_of_zero_le hi'.1
    have hk : k < q.nodes.length := by omega
    obtain ⟨x, hx⟩ : ∃ x, q.nodes[k]? = some x := ⟨_, List.getElem?_eq_getElem hk⟩
    have hnd := nd_of hx
    have hnx := ok.n_ x (List.mem_of_getElem? hx)
    have hk2 : (k : Int) < (q.nodes.length : Int) := by omega
    have His := Lib.hid his
    have Ok := Lib.hid ok
    have Hx := Lib.hid hx
    have Hnx := Lib.hid hnx
    have Hv := Lib.hid hv
    obtain ⟨xn, xa, xu⟩ := x
    cases xa with
    | false =>
      obtain ⟨ga, go, gu, vw, h, rfl⟩ := h
      obtain ⟨e0, e1, e2⟩ := h.at_ hx
      have c0 : w.cell? ⟨p, 0, none⟩ = some (.slice (some ⟨ga, 0, none⟩) q.nodes.length q.nodes.length) := h.head.cell 0
      simp only at e0
      have Hset := Lib.hid hset
      rw [show sendN q k to = (q, 0) by unfold sendN activeN; rw [hi, hnd]; rfl]
      clear his hset h hi hi' hx ok e1 e2 hv htl hnx
      go_enter Try.func19, Try.ntmps19
      go_wp2_with fail
      refine His.out.mono ?_
      rintro e w1 ⟨rfl, rfl⟩
      go_wp2_with fail
      go_loopw [8, 9, 10] (fun v8 v9 _ wr => v8 = .int .i64 0 ∧ v9 = .int .i64 0 ∧ wr = w) (fun _ _ _ _ => 0)
      case atStart => exact ⟨rfl, rfl, rfl⟩
      case round =>
        obtain ⟨rfl, rfl, rfl⟩ := hrel
        by_cases h0 : (0 : Int) < (to.length : Int)
        · go_wp2_with fail
          refine Hset.out.mono ?_
          rintro e w2 ⟨rfl, F', h2, k2, f2⟩
          have Hfin := Lib.hid (show RPost B p (refFoot p ga go gu vw) wr (.int .i64 0) q (.returned (.int .i64 0)) w2 from ⟨rfl, F', h2, k2, f2⟩)
          clear h2 k2 f2
          go_wp2
          go_ret
          exact Hfin.out
        · go_wp2_with fail
          refine Hset.out.mono ?_
          rintro e w2 ⟨rfl, F', h2, k2, f2⟩
          have Hfin := Lib.hid (show RPost B p (refFoot p ga go gu vw) wr (.int .i64 0) q (.returned (.int .i64 0)) w2 from ⟨rfl, F', h2, k2, f2⟩)
          clear h2 k2 f2
          go_wp2
          go_ret
          exact Hfin.out
    | true =>
      rw [show sendN q k to = (settle (sentN q k (validTo q to)), (validTo q to).length) by unfold sendN activeN; rw [hi, hnd]; rfl]
      have h0 : RefAt w B p F (sentN q k (validTo q (to.take 0))) := by
        rw [List.take_zero, show validTo q [] = [] from rfl, sent_nil hx]
        exact h
      clear his hset h hi hi' hx ok hv htl hnx
      go_enter Try.func19, Try.ntmps19
      go_wp2_with fail
      refine His.out.mono ?_
      rintro e w1 ⟨rfl, rfl⟩
      go_wp2_with fail
      go_loopw [8, 9, 10] (fun v8 v9 _ wr => ∃ (i : Nat) (F' : List Nat), i ≤ to.length ∧ v9 = .int .i64 i ∧ v8 = .int .i64 ((validTo q (to.take i)).length : Nat) ∧ RefAt wr B p F' (sentN q k (validTo q (to.take i))) ∧ Keep F w wr ∧ (∀ x ∈ F', x ∈ F ∨ w.heap.size ≤ x)) (fun _ v _ _ => to.length - (intOf v).toNat)
      case atStart => exact ⟨0, F, by omega, rfl, rfl, h0, Keep.refl _ _, fun x hx => Or.inl hx⟩
      case round =>
        clear h0
        obtain ⟨i, F', hil, rfl, rfl, hat, hk1, hf⟩ := hrel
        by_cases hlt : i < to.length
        · obtain ⟨b, off, rfl, hb, hcell⟩ := (Hv.out _ hk1).at_ hlt
          have e0 := hcell i _ (List.getElem?_eq_getElem hlt)
          have htk : to.take (i + 1) = to.take i ++ [to[i]] := List.take_succ_eq_append_getElem hlt
          generalize to[i] = n at *
          have hiN := isR_spec n hat
          rw [isN_sent] at hiN
          have HiN := Lib.hid hiN
          have Htk := Lib.hid htk
          have hlv : (validTo q (to.take i)).length ≤ i := by
            have := List.length_filter_le (isN q) (to.take i)
            unfold validTo
            simp at this
            omega
          generalize hL : validTo q (to.take i) = L at *
          have HL := Lib.hid hL
          have hlv2 : (L.length : Int) ≤ 1000000 := by omega
          have hltI : (i : Int) < (to.length : Int) := by omega
          have hx1 := sent_at Hx.out L
          obtain ⟨ga, go, gu, vw, hat, rfl⟩ := hat
          obtain ⟨aw, cw, rfl⟩ := hat.way.shape
          obtain ⟨xa0, xa1, xa2⟩ := hat.at_ hx1
          simp only at xa0 xa1 xa2
          have c0 : wr.cell? ⟨p, 0, none⟩ = some (.slice (some ⟨ga, 0, none⟩) (sentN q k L).nodes.length (sentN q k L).nodes.length) := hat.head.cell 0
          have hkl : (k : Int) < ((sentN q k L).nodes.length : Int) := by rw [sent_len]; omega
          have Hat := Lib.hid hat
          cases hin : isN q n with
          | false =>
            rw [hin] at HiN
            have hnext : validTo q (to.take (i + 1)) = L := by
              rw [Htk.out]
              unfold validTo
              rw [List.filter_append]
              have : validTo q (to.take i) = L := HL.out
              unfold validTo at this
              rw [this]
              simp [hin]
            have Hnext := Lib.hid hnext
            have Hk1 := Lib.hid hk1
            have Hf := Lib.hid hf
            clear hcell hiN htk hat hnext hin hL hx1 hk1 hf
            go_wp2_with fail
            refine HiN.out.mono ?_
            rintro e w2 ⟨rfl, rfl⟩
            go_wp2
            go_roundw
            case rel => exact ⟨i + 1, _, by omega, by go_num, by rw [Hnext.out], by rw [Hnext.out]; exact ⟨_, _, _, _, Hat.out, rfl⟩, Hk1.out, Hf.out⟩
            case measure => simp [intOf]; omega
          | true =>
            rw [hin] at HiN
            have hnext : validTo q (to.take (i + 1)) = L ++ [n] := by
              rw [Htk.out]
              unfold validTo
              rw [List.filter_append]
              have : validTo q (to.take i) = L := HL.out
              unfold validTo at this
              rw [this]
              simp [hin]
            have Hnext := Lib.hid hnext
            have c3 : wr.cell? ⟨p, 3, none⟩ = some (.slice aw (sentN q k L).way.length cw) := hat.head.cell 3
            have hp1 := hat.head.lt
            have hB1 : B ≤ wr.heap.size := by have := hk1.size; omega
            have hwl1 : (sentN q k L).way.length ≤ 2000000000 := by rw [sent_way]; have := Ok.out.w_; omega
            have Hwl1 := Lib.hid hwl1
            have Hk1 := Lib.hid hk1
            have Hf := Lib.hid hf
            clear hcell hiN htk hnext hin hL hwl1 hk1 hf hat
            go_wp2_with fail
            refine HiN.out.mono ?_
            rintro e w2 ⟨rfl, rfl⟩
            go_wp2_with fail
            go_region_law (refine step_append_off rfl (.tmp 43) (.tmp 50) rfl Try.sgs31 B (.slice aw (sentN q k L).way.length cw) (sentN q k L).way.length ((sentN q k L).way.flatMap sgC) (by simp [Act.eval]) ((Hat.out.way.keep (Keep.refl [] _).drew (by simp)).keep ((Keep.refl [] _).alloc _) (by simp)) (.slice (some ⟨wr.heap.size, 0, none⟩) 1 1) 1 [.int .i64 k, .int .i64 n, .bool false] (by simp [Act.eval]) (src_row 3 rfl _ rfl) (by simp [Value.oneCell']) (by unfold maxLen; have := Hwl1.out; omega) (by have := Hwl1.out; omega) (by simp; omega) ?_; intro v' w4 hown4 hk4 hat4; obtain ⟨g1, g2, g3⟩ := RefIn.post (s := ((k : Int), n, false)) (Hat.out.keep (Keep.refl [] _).drew (by simp)) ((Keep.refl [] _).alloc (.cells #[.int .i64 k, .int .i64 n, .bool false] 44)) hk4 (by simpa [sgC] using hown4) (by simpa using hat4); have hp4 : p ∉ ownBlocks (.slice aw (sentN q k L).way.length cw) := (fun hx => Hat.out.way.ne_blk Hat.out.head (by decide) (mem_own.1 hx)); have c5 : w4.cell? ⟨p, 3, none⟩ = some (.slice aw (sentN q k L).way.length cw) := (((Hat.out.head.drew).alloc _).keep hk4 hp4).cell 3; have f5 : w4.frozen? ⟨p, 3, none⟩ = false := (((Hat.out.head.drew).alloc _).keep hk4 hp4).frozen 3; obtain ⟨a7, c7', rfl⟩ := hown4.shape)
            all_goals
              have c6 : (w4.setCell ⟨p, 3, none⟩ (.slice a7 ((sentN q k L).way.length + 1) c7')).cell? ⟨p, 1, none⟩ = some (.slice (some ⟨go, 0, none⟩) (sentN q k L).nodes.length (sentN q k L).nodes.length) := g1.head.cell 1
              have e6 := (g1.at_ (q := ⟨(sentN q k L).nodes, (sentN q k L).way ++ [((k : Int), n, false)]⟩) hx1).2.1
              simp only at e6
              have f6 := g1.owe.frozen k
              obtain ⟨t1, t2⟩ := RefIn.setOwe (q := ⟨(sentN q k L).nodes, (sentN q k L).way ++ [((k : Int), n, false)]⟩) g1 hx1 (xn + L.length + 1)
              have t1' := t1
              rw [sent_snoc Hx.out] at t1'
              have T1 := Lib.hid t1'
              have r1 := reach_trans Hk1.out Hf.out g2.of_drew g3
              have R := Lib.hid (reach_trans r1.1 r1.2 t2 (fun x hx => Or.inl hx))
              have hwr : IntKind.i64.wrap (xn + (L.length : Int) + 1) = xn + L.length + 1 := IntWalk.i64_in _ (by have := Hnx.out; omega)
              clear t1 t1' t2 r1 g1 g2 g3 hown4 hk4 hat4 c0 c3
              go_wp2
              go_roundw
              case rel =>
                refine ⟨i + 1, _, by omega, by go_num, ?_, ?_, R.out.1, R.out.2⟩
                · rw [Hnext.out, List.length_append]
                  rfl
                · rw [Hnext.out]
                  exact ⟨_, _, _, _, T1.out, rfl⟩
              case measure => simp [intOf]; omega
        · have : i = to.length := by omega
          subst this
          rw [List.take_length] at hat
          have hlv := List.length_filter_le (isN q) to
          have hups : UpsOk (sentN q k (validTo q to)) := by
            unfold sentN
            rw [nd_of Hx.out, Int.toNat_natCast]
            exact UpsOk.set (x' := (xn + ((validTo q to).length : Int), true, xu)) Ok.out.ups Hx.out rfl _
          have hset := settleR_spec hat (by have := hk1.size; omega) hups (by rw [sent_len]; exact Ok.out.l0) (by rw [sent_len]; exact Ok.out.l1) (by rw [sent_way]; have := Ok.out.w_; unfold validTo; omega)
          have Hset := Lib.hid hset
          have Hk1 := Lib.hid hk1
          have Hf := Lib.hid hf
          have hle : (to.length : Int) ≤ (to.length : Int) := Int.le_refl _
          clear hset hat hk1 hf hups hlv
          rw [List.take_length]
          go_wp2_with fail
          refine Hset.out.mono ?_
          rintro e w2 ⟨rfl, F2, h2, k2, f2⟩
          have Hfin := Lib.hid (reach_trans Hk1.out Hf.out k2 f2)
          have H2 := Lib.hid h2
          clear h2 k2 f2
          go_wp2
          go_ret
          exact ⟨rfl, F2, H2.out, Hfin.out.1, Hfin.out.2⟩
end Go.Proofs.Ytiicmlhpcfhfeaa
