/- Links: Out. -/
import Derived.Test.YtacifjjhadjhfaaRows
import Derived.WalkKit
import Derived.WalkSpells
import Derived.WalkLawsBesides
import Derived.RegionTactic
import Derived.ChangeAlike
import Derived.BigQuiet
import Derived.Deep.QuietTactic
import Derived.StillTailTactics
import Derived.IntWalk
import Derived.Handy
import Derived.Lib.Hide
import Derived.Deep.AppendLies
import Derived.Deep.RegionWith
import Derived.Test.YtacifjjhadjhfaaBase
import Derived.Test.YtacifjjhadjhfaaTail
import Derived.Test.YtacifjjhadjhfaaArgs
import Derived.Test.YtacifjjhadjhfaaAppend
import Derived.Deep.RegionLaw
import Derived.Test.YtacifjjhadjhfaaOffs
import Derived.Test.YtacifjjhadjhfaaStructs
import Derived.Test.YtacifjjhadjhfaaSplit
import Derived.Maps.OwnSet
import Derived.Maps.Views
import Derived.Test.YtacifjjhadjhfaaLinkBytes
import Derived.Test.YtacifjjhadjhfaaLinkObj
import Derived.Test.YtacifjjhadjhfaaLinkSend
import Derived.Test.YtacifjjhadjhfaaLinkDue
import Derived.Test.YtacifjjhadjhfaaLinkFrame
import Derived.Test.YtacifjjhadjhfaaLinkOut
namespace Go.Proofs.Ytacifjjhadjhfaa
open Go.RowKit
def OutPost (B p : Nat) (F : List Nat) (q : LK) (now : Int) (w : World) (e : Ending) (w' : World) : Prop :=
  ∃ v fs, e = .returned v ∧ fs.map frd = outF q now ∧ FramesIn w' w.heap.size v fs ∧ LinkAt w' B p F (outL q now) ∧ Keep F w w'
theorem LinkIn.far_own {w w' : World} {B p mb B' : Nat} {vo v : Value} {q : LK} {n : Nat} {xs : List Value} {size : Nat} (h : LinkIn w B p vo mb q) (ho : OwnsAt w B' 46 size v n xs) (k : Keep (ownBlocks v) w w') : LinkIn w' B p vo mb q := by
  refine h.keep k (fun x hx hm => ?_)
  have hg := mem_own.1 hm
  simp only [linkFoot, List.mem_cons, List.mem_append] at hx
  rcases hx with rfl | rfl | hx | hx
  · exact ho.ne_blk h.head (by decide) hg
  · exact h.kept.ne_own ho hg
  · exact ho.ne_own h.rows (by decide) x hg (mem_own.1 hx)
  · obtain ⟨s, hs, hb⟩ := mem_byteBlocks.1 hx
    exact OwnsAt.ne_own ho (h.bytes s hs) (by decide) x hg hb
set_option maxHeartbeats 40000000 in
set_option maxRecDepth 100000 in
theorem out_spec {w : World} {B p : Nat} {F : List Nat} {q : LK} (now : Int) (h : LinkAt w B p F q) (hB : B ≤ w.heap.size) (hl : q.open_.length ≤ 100) (hs : ∀ s ∈ q.open_, (0 ≤ s.times ∧ s.times ≤ 100000000) ∧ (-9223372036854775808 ≤ s.at_ ∧ s.at_ ≤ 9223372036854775807) ∧ s.bs.length ≤ 1000000) (hn : -9223372036854775808 ≤ now ∧ now ≤ 9223372036854775807) :
    Calls Try.prog 12 #[.pointer (some ⟨p, 0, none⟩), .int .i64 now] w (OutPost B p F q now w) := by
  obtain ⟨vo, mb, h, rfl⟩ := h
  obtain ⟨ao, co, rfl⟩ := h.rows.shape
  have c2 : w.cell? ⟨p, 2, none⟩ = some (.slice ao q.open_.length co) := h.head.cell 2
  have hp0 : part q now 0 = q := by unfold part; simp
  have hlt0 := h.lt
  have Hlt := Lib.hid hlt0
  have H := Lib.hid h
  have Hs := Lib.hid hs
  have Hn := Lib.hid hn
  have hlI : (q.open_.length : Int) ≤ 100 := by omega
  clear h hs hn hlt0
  go_enter Try.func12, Try.ntmps12
  go_wp2
  go_loopw [5, 6, 7, 14] (fun v5 _ _ v14 wr => ∃ (i : Nat) (fs : List FR), i ≤ q.open_.length ∧ v14 = .int .i64 i ∧ LinkIn wr B p (.slice ao q.open_.length co) mb (part q now i) ∧ fs.map frd = outD q now (q.open_.take i) ∧ FramesIn wr w.heap.size v5 fs ∧ Keep (linkFoot p (.slice ao q.open_.length co) mb (q.open_ ++ q.kept)) w wr) (fun _ _ _ v _ => q.open_.length - (intOf v).toNat)
  case atStart => exact ⟨0, [], by omega, rfl, by rw [hp0]; exact H.out, by simp [outD], FramesIn.nil _ _, Keep.refl _ _⟩
  case round =>
    clear c2
    obtain ⟨i, fs, hi, rfl, hat, hfd, hfs, hk⟩ := hrel
    obtain ⟨a5, c5, rfl⟩ := hfs.rows.shape
    have hfl : fs.length = (outD q now (q.open_.take i)).length := by have := congrArg List.length hfd; simpa using this
    have hfl2 : fs.length ≤ i := by
      rw [hfl]
      unfold outD
      have := List.length_filter_le (fun s => dueL s now) (q.open_.take i)
      simp at this ⊢
      omega
    have Hfd := Lib.hid hfd
    clear hfd hfl
    by_cases hlt : i < q.open_.length
    · obtain ⟨s, hsi⟩ : ∃ s, q.open_[i]? = some s := ⟨_, List.getElem?_eq_getElem hlt⟩
      have hsp := part_at (now := now) hsi
      have hrows := hat.rows
      rw [part_len] at hrows
      obtain ⟨g, off, rfl, _, hg2, hcells, hcap, hfr⟩ := hrows.rowAt LD.c_len hsp hlt
      have hc2 : wr.cell? ⟨p, 2, none⟩ = some (.slice (some ⟨g, off, none⟩) q.open_.length co) := hat.head.cell 2
      have hbs : BytesOf wr s.bv s.bs := bytes_of_off (hat.bytes s (List.mem_append_left _ (List.mem_of_getElem? hsp)))
      have hss := Hs.out s (List.mem_of_getElem? hsi)
      have hsucc := part_succ (now := now) hsi
      have hosucc := outD_succ (q := q) (now := now) hsi
      obtain ⟨sq, t, a, bs, bv⟩ := s
      obtain ⟨ab, cb, hbv⟩ := hbs.shape
      simp only at hbv
      subst hbv
      have e0 : wr.cell? ⟨g, off + i * 4, none⟩ = some (.int .i64 sq) := hcells 0 _ (by omega) rfl
      have e1 : wr.cell? ⟨g, off + i * 4 + 1, none⟩ = some (.int .i64 t) := hcells 1 _ (by omega) rfl
      have e2 : wr.cell? ⟨g, off + i * 4 + 2, none⟩ = some (.int .i64 a) := hcells 2 _ (by omega) rfl
      have e3 : wr.cell? ⟨g, off + i * 4 + 3, none⟩ = some (.slice ab bs.length cb) := hcells 3 _ (by omega) rfl
      simp only at hss
      have hdue := due_spec (w := wr) sq t a now (.slice ab bs.length cb) bs rfl (by omega) hss.2.1 Hn.out
      have Hdue := Lib.hid hdue
      have Hsp := Lib.hid hsp
      have Hss := Lib.hid hss
      have Hsucc := Lib.hid hsucc
      have Hosucc := Lib.hid hosucc
      have Hat := Lib.hid hat
      have Hfs := Lib.hid hfs
      have hiI : (i : Int) < (q.open_.length : Int) := by omega
      clear hcells hbs hrows hss hsucc hosucc hsp hsi hdue hat hfs
      go_wp2_with fail
      refine Hdue.out.mono ?_
      rintro e w1 ⟨rfl, hk1⟩
      have h1 := Hat.out.keep hk1 (by simp)
      have fs1 := Hfs.out.keep hk1 (by simp)
      have hkk1 := hk.trans hk1 (by simp)
      clear Hdue hk1 hk e0 e1 e2 e3 hfr hc2
      cases hd : dueL ⟨sq, t, a, bs, .slice ab bs.length cb⟩ now with
      | false =>
        have hpp : part q now (i + 1) = part q now i := by
          rw [← Hsucc.out]
          have e : outUpd now ⟨sq, t, a, bs, .slice ab bs.length cb⟩ = ⟨sq, t, a, bs, .slice ab bs.length cb⟩ := by unfold outUpd; rw [hd]; rfl
          rw [e]
          have : (part q now i).open_.set i ⟨sq, t, a, bs, .slice ab bs.length cb⟩ = (part q now i).open_ := by
            apply List.ext_getElem?
            intro j
            by_cases hij : i = j
            · subst hij
              rw [List.getElem?_set_self (by rw [part_len]; exact hlt), Hsp.out]
            · rw [List.getElem?_set_ne hij]
          rw [this]
        have hfd2 : fs.map frd = outD q now (q.open_.take (i + 1)) := by
          rw [Hosucc.out, hd, Hfd.out]
          simp
        have Hpp := Lib.hid hpp
        have Hfd2 := Lib.hid hfd2
        clear hpp hfd2
        go_wp2
        go_roundw
        case rel => exact ⟨i + 1, fs, by omega, by go_num, by rw [Hpp.out]; exact h1, Hfd2.out, fs1, hkk1⟩
        case measure => simp [intOf]; omega
      | true =>
        have hrows1 := h1.rows
        rw [part_len] at hrows1
        obtain ⟨g', off', hh, _, hg2', hcells, _, hfr⟩ := hrows1.rowAt LD.c_len Hsp.out hlt
        injection hh with hh
        injection hh with q1 q2
        subst q1 q2
        have e1 : w1.cell? ⟨g, off + i * 4 + 1, none⟩ = some (.int .i64 t) := hcells 1 _ (by omega) rfl
        have e2 : w1.cell? ⟨g, off + i * 4 + 2, none⟩ = some (.int .i64 a) := hcells 2 _ (by omega) rfl
        have f1 := hfr (off + i * 4 + 1)
        have f2 := hfr (off + i * 4 + 2)
        have hw1 : IntKind.i64.wrap (t + 1) = t + 1 := IntWalk.i64_in _ (by have := Hss.out; omega)
        have hleneq := part_len q now i
        obtain ⟨t1, t2⟩ := LinkIn.row (q := part q now i) (by rw [hleneq]; exact h1) Hsp.out 1 (by omega) (.int .i64 (t + 1)) ⟨sq, t + 1, a, bs, .slice ab bs.length cb⟩ rfl rfl rfl
        have hsp2 : ((part q now i).open_.set i ⟨sq, t + 1, a, bs, .slice ab bs.length cb⟩)[i]? = some ⟨sq, t + 1, a, bs, .slice ab bs.length cb⟩ := List.getElem?_set_self (by rw [part_len]; exact hlt)
        obtain ⟨t3, t4⟩ := LinkIn.row (q := { part q now i with open_ := (part q now i).open_.set i ⟨sq, t + 1, a, bs, .slice ab bs.length cb⟩ }) (by simpa using t1) hsp2 2 (by omega) (.int .i64 now) ⟨sq, t + 1, now, bs, .slice ab bs.length cb⟩ rfl rfl rfl
        have hq3 : ({ part q now i with open_ := ((part q now i).open_.set i ⟨sq, t + 1, a, bs, .slice ab bs.length cb⟩).set i ⟨sq, t + 1, now, bs, .slice ab bs.length cb⟩ } : LK) = part q now (i + 1) := by
          rw [← Hsucc.out, List.set_set]
          unfold outUpd
          rw [hd]
          rfl
        have t3' : LinkIn ((w1.setCell ⟨g, off + i * 4 + 1, none⟩ (.int .i64 (t + 1))).setCell ⟨g, off + i * 4 + 2, none⟩ (.int .i64 now)) B p (.slice (some ⟨g, off, none⟩) q.open_.length co) mb (part q now (i + 1)) := by
          rw [← hq3]
          have h9 := t3
          simp only [List.length_set, hleneq] at h9
          exact h9
        have kfoot : Keep (linkFoot p (.slice (some ⟨g, off, none⟩) q.open_.length co) mb (q.open_ ++ q.kept)) w1 ((w1.setCell ⟨g, off + i * 4 + 1, none⟩ (.int .i64 (t + 1))).setCell ⟨g, off + i * 4 + 2, none⟩ (.int .i64 now)) :=
          ((Keep.refl _ _).setCell (by simp [linkFoot, ownBlocks, Value.ownBlock]) _).setCell (by simp [linkFoot, ownBlocks, Value.ownBlock]) _
        have fs2 : FramesIn ((w1.setCell ⟨g, off + i * 4 + 1, none⟩ (.int .i64 (t + 1))).setCell ⟨g, off + i * 4 + 2, none⟩ (.int .i64 now)) w.heap.size (.slice a5 fs.length c5) fs :=
          fs1.keep kfoot (fun x hx => Or.inl (Hlt.out x hx).2)
        have hk2 := hkk1.trans kfoot (fun x hx => Or.inl hx)
        have e0' : ((w1.setCell ⟨g, off + i * 4 + 1, none⟩ (.int .i64 (t + 1))).setCell ⟨g, off + i * 4 + 2, none⟩ (.int .i64 now)).cell? ⟨g, off + i * 4, none⟩ = some (.int .i64 sq) := by
          rw [World.cell?_setCell_other _ _ _ _ (by simp), World.cell?_setCell_other _ _ _ _ (by simp)]
          exact hcells 0 _ (by omega) rfl
        have e3' : ((w1.setCell ⟨g, off + i * 4 + 1, none⟩ (.int .i64 (t + 1))).setCell ⟨g, off + i * 4 + 2, none⟩ (.int .i64 now)).cell? ⟨g, off + i * 4 + 3, none⟩ = some (.slice ab bs.length cb) := by
          rw [World.cell?_setCell_other _ _ _ _ (by simp), World.cell?_setCell_other _ _ _ _ (by simp)]
          exact hcells 3 _ (by omega) rfl
        have hgl : g < ((w1.setCell ⟨g, off + i * 4 + 1, none⟩ (.int .i64 (t + 1))).setCell ⟨g, off + i * 4 + 2, none⟩ (.int .i64 now)).heap.size := by simpa using hg2'
        clear hcells hfr t1 t2 t3 t4 hq3 h1 fs1 hkk1 kfoot hrows1 hsp2
        go_wp2_with fail
        clear e1 e2 f1 f2
        generalize ((w1.setCell ⟨g, off + i * 4 + 1, none⟩ (.int .i64 (t + 1))).setCell ⟨g, off + i * 4 + 2, none⟩ (.int .i64 now)) = w2 at *
        have hng : g ∉ ownBlocks (.slice a5 fs.length c5) := fun hm => fs2.rows.ne_own t3'.rows (by decide) g (mem_own.1 hm) rfl
        have hS : ∀ w', Keep [] w2 w' → w'.cell? ⟨g, off + i * 4, none⟩ = some (.int .i64 sq) ∧ w'.cell? ⟨g, off + i * 4 + 3, none⟩ = some (.slice ab bs.length cb) := fun w' k => ⟨(k.cell (p := ⟨g, off + i * 4, none⟩) hgl (by simp)).trans e0', (k.cell (p := ⟨g, off + i * 4 + 3, none⟩) hgl (by simp)).trans e3'⟩
        have hby : BytesOf w2 (.slice ab bs.length cb) bs := by
          have hm : (⟨sq, t + 1, now, bs, .slice ab bs.length cb⟩ : LD) ∈ (part q now (i + 1)).open_ := by
            rw [← Hsucc.out]
            have e : outUpd now ⟨sq, t, a, bs, .slice ab bs.length cb⟩ = ⟨sq, t + 1, now, bs, .slice ab bs.length cb⟩ := by unfold outUpd; rw [hd]; rfl
            rw [e]
            exact List.mem_of_getElem? (List.getElem?_set_self (i := i) (by rw [part_len]; exact hlt))
          exact bytes_of_off (t3'.bytes _ (List.mem_append_left _ hm))
        have T2 := Lib.hid t3'
        have F2 := Lib.hid fs2
        have K2 := Lib.hid hk2
        have HS := Lib.hid hS
        have Hby := Lib.hid hby
        have hbl6 := Hss.out.2.2
        have hsz2 := hk2.size
        clear t3' fs2 hk2 hS hby e0' e3'
        go_region_held3 (fun w' => w'.cell? ⟨g, off + i * 4, none⟩ = some (.int .i64 sq) ∧ w'.cell? ⟨g, off + i * 4 + 3, none⟩ = some (.slice ab bs.length cb))
          (first | exact HS.out _ (Keep.refl _ _).drew | exact ⟨(hk4.cell (p := ⟨g, off + i * 4, none⟩) (by have := hk3.size; simp at this; simp; omega) hng).trans (HS.out _ (hk3.of_drew.alloc _)).1, (hk4.cell (p := ⟨g, off + i * 4 + 3, none⟩) (by have := hk3.size; simp at this; simp; omega) hng).trans (HS.out _ (hk3.of_drew.alloc _)).2⟩ | exact HS.out _ (hk3.of_drew.alloc _) | exact HS.out _ hk3.of_drew)
          (first
            | (refine step_append_off rfl (.tmp 40) (.tmp 51) rfl Try.frs36 w.heap.size (.slice a5 fs.length c5) fs.length (fs.flatMap FR.c) (by simp [Act.eval]) ((F2.out.rows.keep hk3.of_drew (by simp)).keep ((Keep.refl [] _).alloc _) (by simp)) (.slice (some ⟨w3.heap.size, 0, none⟩) 1 1) 1 [.int .i64 q.self, .int .i64 q.peer, .int .i64 q.life, .int .i64 sq, .int .i64 q.upto, .slice a9 bs.length c9] (by simp [Act.eval]) (src_row 6 rfl _ rfl) (by simp [Value.oneCell']) (by unfold maxLen; omega) (by omega) (by have := hk3.size; simp at this; simp; omega) ?_; intro v' w4 hown4 hk4 hat4; obtain ⟨a7, c7', rfl⟩ := hown4.shape)
            | (go_at_call 28; refine (frame_spec (T2.out.keep ((Keep.refl [] _).drew) (by simp)) (Hby.out.keep0 (Keep.refl _ _).drew) (by omega)).mono ?_; rintro e w3 ⟨bv9, rfl, ho, hk3⟩; obtain ⟨a9, c9, rfl⟩ := OwnsAt.shape ho))
        all_goals
          have hp9 := F2.out.push (s := ⟨q.self, q.peer, q.life, sq, q.upto, bs, .slice a9 bs.length c9⟩) hsz2 (hk3.of_drew.alloc (.cells #[.int .i64 q.self, .int .i64 q.peer, .int .i64 q.life, .int .i64 sq, .int .i64 q.upto, .slice a9 bs.length c9] 46)) (OwnsAt.keep ho ((Keep.refl [] _).alloc _) (by simp)) hk4 (by simpa [FR.c] using hown4)
          have hl9 := ((T2.out.keep hk3.of_drew (by simp)).keep ((Keep.refl [] _).alloc (.cells #[.int .i64 q.self, .int .i64 q.peer, .int .i64 q.life, .int .i64 sq, .int .i64 q.upto, .slice a9 bs.length c9] 46)) (by simp)).far_own ((F2.out.rows.keep hk3.of_drew (by simp)).keep ((Keep.refl [] _).alloc _) (by simp)) hk4
          have hk9 := ((K2.out.trans hk3.of_drew (by simp)).trans ((Keep.refl [] _).alloc (.cells #[.int .i64 q.self, .int .i64 q.peer, .int .i64 q.life, .int .i64 sq, .int .i64 q.upto, .slice a9 bs.length c9] 46)) (by simp)).trans hk4 (fun x hx => Or.inr (F2.out.rows.lt x (mem_own.1 hx)).1)
          have hfd9 : (fs ++ [(⟨q.self, q.peer, q.life, sq, q.upto, bs, .slice a9 bs.length c9⟩ : FR)]).map frd = outD q now (q.open_.take (i + 1)) := by
            rw [List.map_append, Hfd.out, Hosucc.out, hd]
            rfl
          have Hrel := Lib.hid (And.intro hp9 (And.intro hl9 (And.intro hk9 hfd9)))
          clear hp9 hl9 hk9 hfd9 hown4 hk4 hat4 ho hk3
          go_wp2
          go_roundw
          case rel => exact ⟨i + 1, _, by omega, by go_num, Hrel.out.2.1, Hrel.out.2.2.2, by simpa using Hrel.out.1, Hrel.out.2.2.1⟩
          case measure => simp [intOf]; omega
    · have hiq : i = q.open_.length := by omega
      subst hiq
      rw [List.take_length] at Hfd
      have hfin : ∀ (w3 : World) (v : Value) (fs' : List FR), fs'.map frd = outF q now → FramesIn w3 w.heap.size v fs' → LinkIn w3 B p (.slice ao q.open_.length co) mb (part q now q.open_.length) → Keep (linkFoot p (.slice ao q.open_.length co) mb (q.open_ ++ q.kept)) w w3 →
          OutPost B p (linkFoot p (.slice ao q.open_.length co) mb (q.open_ ++ q.kept)) q now w (.returned v) (w3.setCell ⟨p, 5, none⟩ (.bool false)) := by
        intro w3 v fs' h1 h2 h3 h4
        obtain ⟨t1, t2⟩ := LinkIn.turn (q' := outL q now) h3 5 (.bool false) (by unfold part outL; simp) rfl (by unfold part outL; simp)
        rw [part_foot] at t2
        have k5 : Keep [p] w3 (w3.setCell ⟨p, 5, none⟩ (.bool false)) := (Keep.refl _ _).setCell (by simp) _
        refine ⟨v, fs', rfl, h1, h2.keep k5 (fun x hx => Or.inl (by rw [show x = p by simpa using hx]; exact (Hlt.out p (by simp [linkFoot])).2)), ⟨_, mb, t1, ?_⟩, h4.trans t2 (fun x hx => Or.inl hx)⟩
        have e := part_foot q now q.open_.length p mb (.slice ao q.open_.length co)
        have e2 : (part q now q.open_.length).open_ ++ (part q now q.open_.length).kept = (outL q now).open_ ++ (outL q now).kept := by unfold part outL; simp
        rw [← e, e2]
      have Hfin := Lib.hid hfin
      have h5 : wr.cell? ⟨p, 5, none⟩ = some (.bool q.owed) := hat.head.cell 5
      have f5 := hat.head.frozen 5
      have hplt := hat.head.lt
      have Hat := Lib.hid hat
      have Hfs := Lib.hid hfs
      have Hk := Lib.hid hk
      have hsz := hk.size
      clear hfin hat hfs hk
      by_cases hz : fs.length = 0
      · have hfs0 : fs = [] := List.eq_nil_of_length_eq_zero hz
        subst hfs0
        have hout0 : outD q now q.open_ = [] := by rw [← Hfd.out]; rfl
        cases how : q.owed with
        | false =>
          have hof : outF q now = [] := by unfold outF; rw [hout0, how]; rfl
          rw [how] at h5
          have Hend := Lib.hid (Hfin.out wr _ [] (by rw [hof]; rfl) Hfs.out Hat.out Hk.out)
          clear hof hout0 hz
          go_wp2
          go_ret
          exact Hend.out
        | true =>
          have hof : outF q now = [(q.self, q.peer, q.life, 0, q.upto, [])] := by unfold outF; rw [hout0, how]; rfl
          rw [how] at h5
          have Hof := Lib.hid hof
          have hfr := Lib.hid (frame_spec (sq := 0) (bs := []) (v := .slice none 0 0) Hat.out (BytesOf.nil _) (by simp))
          clear hof hout0 hz
          go_wp2_with fail
          refine hfr.out.mono ?_
          rintro e w3 ⟨bv9, rfl, ho, hk3⟩
          obtain ⟨a9, c9, rfl⟩ := OwnsAt.shape ho
          have hrowsA := (Hfs.out.rows.keep hk3 (by simp)).keep ((Keep.refl [] w3).alloc (.cells #[.int .i64 q.self, .int .i64 q.peer, .int .i64 q.life, .int .i64 0, .int .i64 q.upto, .slice a9 0 c9] 46)) (by simp)
          have hp3 : p < w3.heap.size := by have := hk3.size; omega
          clear hfr
          go_wp2_with (at_builtin; refine wpList_append_off rfl _ _ rfl Try.frs36 w.heap.size (.slice a5 0 c5) 0 _ rfl hrowsA _ 1 _ rfl (src_row 6 rfl _ rfl) (by simp [Value.oneCell']) (by unfold maxLen; omega) (by omega) (by have := hk3.size; simp; omega) ?_)
          intro v' w4 hown4 hk4 hat4
          have hp9 := Hfs.out.push (s := ⟨q.self, q.peer, q.life, 0, q.upto, [], .slice a9 0 c9⟩) hsz (hk3.alloc (.cells #[.int .i64 q.self, .int .i64 q.peer, .int .i64 q.life, .int .i64 0, .int .i64 q.upto, .slice a9 0 c9] 46)) (OwnsAt.keep ho ((Keep.refl [] _).alloc _) (by simp)) hk4 (by simpa [FR.c, part] using hown4)
          have hl9 := ((Hat.out.keep hk3 (by simp)).keep ((Keep.refl [] _).alloc (.cells #[.int .i64 q.self, .int .i64 q.peer, .int .i64 q.life, .int .i64 0, .int .i64 q.upto, .slice a9 0 c9] 46)) (by simp)).far_own hrowsA hk4
          have hk9 := ((Hk.out.trans hk3 (by simp)).trans ((Keep.refl [] _).alloc (.cells #[.int .i64 q.self, .int .i64 q.peer, .int .i64 q.life, .int .i64 0, .int .i64 q.upto, .slice a9 0 c9] 46)) (by simp)).trans hk4 (fun x hx => Or.inr (Hfs.out.rows.lt x (mem_own.1 hx)).1)
          have h5' : w4.cell? ⟨p, 5, none⟩ = some (.bool q.owed) := hl9.head.cell 5
          rw [how] at h5'
          have f5' := hl9.head.frozen 5
          obtain ⟨a7, c7', rfl⟩ := hown4.shape
          have Hend := Lib.hid (Hfin.out w4 _ _ (by rw [Hof.out]; rfl) hp9 hl9 hk9)
          clear hp9 hl9 hk9 hown4 hk4 hat4 ho hk3 hrowsA
          go_wp2
          go_ret
          exact Hend.out
      · have hpos : (fs.length : Int) ≠ 0 := by omega
        have hof : outF q now = outD q now q.open_ := by
          unfold outF
          have : (outD q now q.open_).isEmpty = false := by
            rw [← Hfd.out]
            cases fs with
            | nil => exact absurd rfl hz
            | cons _ _ => rfl
          rw [this]
          rfl
        have Hend := Lib.hid (Hfin.out wr _ fs (by rw [hof]; exact Hfd.out) Hfs.out Hat.out Hk.out)
        have hposB : ((fs.length : Int) == 0) = false := by simpa using hpos
        clear hof hz hpos
        cases how : q.owed
        all_goals
          rw [how] at h5
          go_wp2
          go_ret
          exact Hend.out
end Go.Proofs.Ytacifjjhadjhfaa
