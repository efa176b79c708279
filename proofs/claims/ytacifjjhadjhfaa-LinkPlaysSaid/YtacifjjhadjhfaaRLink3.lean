/- The reference link: Out. -/
import Derived.Test.YtacifjjhadjhfaaRows
import Derived.WalkKit
import Derived.WalkSpells
import Derived.WalkLawsBesides
import Derived.RegionTactic
import Derived.ChangeAlike
import Derived.BigQuiet
import Derived.Deep.QuietTactic
import Derived.StillTailTactics
import Derived.IntWalk
import Derived.Handy
import Derived.Lib.Hide
import Derived.Deep.AppendLies
import Derived.Deep.RegionWith
import Derived.Test.YtacifjjhadjhfaaBase
import Derived.Test.YtacifjjhadjhfaaTail
import Derived.Test.YtacifjjhadjhfaaArgs
import Derived.Test.YtacifjjhadjhfaaAppend
import Derived.Deep.RegionLaw
import Derived.Test.YtacifjjhadjhfaaOffs
import Derived.Test.YtacifjjhadjhfaaStructs
import Derived.Test.YtacifjjhadjhfaaSplit
import Derived.Maps.OwnSet
import Derived.Maps.Views
import Derived.Test.YtacifjjhadjhfaaLinkBytes
import Derived.Test.YtacifjjhadjhfaaLinkObj
import Derived.Test.YtacifjjhadjhfaaLinkSend
import Derived.Test.YtacifjjhadjhfaaLinkDue
import Derived.Test.YtacifjjhadjhfaaLinkFrame
import Derived.Test.YtacifjjhadjhfaaLinkOut
import Derived.Test.YtacifjjhadjhfaaLinkOut2
import Derived.Test.YtacifjjhadjhfaaLinkOne
import Derived.Test.YtacifjjhadjhfaaLinkLive
import Derived.Test.YtacifjjhadjhfaaLinkAck
import Derived.Test.YtacifjjhadjhfaaLinkAck2
import Derived.Test.YtacifjjhadjhfaaLinkGot
import Derived.Test.YtacifjjhadjhfaaLinkGot2
import Derived.Test.YtacifjjhadjhfaaLinkGot3
import Derived.Test.YtacifjjhadjhfaaLinkInn
import Derived.Test.YtacifjjhadjhfaaLinkX2
import Derived.Deep.CutRange
import Derived.Deep.DeepCutAuto
import Derived.BigRegion
import Derived.Test.YtacifjjhadjhfaaRLink
import Derived.Test.YtacifjjhadjhfaaRLink2
namespace Go.Proofs.Ytacifjjhadjhfaa
open Go.RowKit
theorem same_quiet {f : FuncId} {args : Array Value} {w : World} {n : Nat} {v : Value} (h : Calls Try.prog f args (w.drewN n) (Same' v (w.drewN n))) : Calls Try.prog f args (w.drewN n) fun e w'' => e = .returned v ∧ ∃ m, w'' = w.drewN m :=
  h.mono fun _ _ ⟨he, hm⟩ => ⟨he, n, hm.symm⟩
theorem wait_pos (t : Int) : 4 ≤ waitL t ∧ waitL t ≤ 64 := by unfold waitL; repeat' split; all_goals omega
theorem RIn.row {w : World} {B p g off cn k : Nat} {vk : Value} {q : LK} {s : LD} (h : RIn w B p (.slice (some ⟨g, off, none⟩) q.open_.length cn) vk q) (hi : q.open_[k]? = some s) (j : Nat) (hj : j < 4) (u : Value) (s' : LD) (hc : s'.o = s.o.set j u) (hbv : s'.bv = s.bv) (hbs : s'.bs = s.bs) :
    RIn (w.setCell ⟨g, off + k * 4 + j, none⟩ u) B p (.slice (some ⟨g, off, none⟩) q.open_.length cn) vk { q with open_ := q.open_.set k s' } ∧ Keep (rFoot p (.slice (some ⟨g, off, none⟩) q.open_.length cn) vk (q.open_ ++ q.kept)) w (w.setCell ⟨g, off + k * 4 + j, none⟩ u) := by
  obtain ⟨a1, a2, a3, a4⟩ := h.apart
  have n1 : g ≠ p := fun e => a1 (by rw [e]; rfl)
  have n2 : vk.ownBlock ≠ some g := a3 g rfl
  have k1 : Keep [g] w (w.setCell ⟨g, off + k * 4 + j, none⟩ u) := (Keep.refl _ _).setCell (by simp) _
  refine ⟨⟨h.head.far n1.symm _, ?_, h.keeps.keep k1 (fun x hx hm => n2 ((show x = g by simpa using hm) ▸ hx)), fun t ht => ?_, h.base⟩, k1.mono (fun x hx => Or.inl (by rw [show x = g by simpa using hx]; exact mem_rFoot.2 (Or.inr (Or.inl rfl))))⟩
  · have h1 := h.rows.set_ (k * 4 + j) u
    rw [flat_set_ LD.o_len q.open_ k s s' j u hi hj hc] at h1
    rw [Nat.add_assoc, List.length_set]
    exact h1
  · have key : ∃ t0 ∈ q.open_ ++ q.kept, t0.bv = t.bv ∧ t0.bs = t.bs := by
      rcases List.mem_append.1 ht with ht | ht
      · rcases List.mem_or_eq_of_mem_set ht with h' | h'
        · exact ⟨t, List.mem_append_left _ h', rfl, rfl⟩
        · exact ⟨s, List.mem_append_left _ (List.mem_of_getElem? hi), by rw [h', hbv], by rw [h', hbs]⟩
      · exact ⟨t, List.mem_append_right _ ht, rfl, rfl⟩
    obtain ⟨t0, ht0, e1, e2⟩ := key
    rw [← e1, ← e2]
    exact OwnsAt.keep (h.bytes t0 ht0) k1 (fun x hx hm => (a4 t0 ht0).2.1 g rfl ((show x = g by simpa using hm) ▸ hx))
theorem part_rfoot (q : LK) (now : Int) (i p : Nat) (vo vk : Value) : ∀ x, x ∈ rFoot p vo vk ((part q now i).open_ ++ (part q now i).kept) ↔ x ∈ rFoot p vo vk (q.open_ ++ q.kept) := by
  intro x
  have h := congrArg (fun l => x ∈ l) (part_foot q now i p 0 vo)
  unfold linkFoot at h
  simp only [List.mem_cons, List.mem_append, byteBlocks_append] at h
  have e : byteBlocks ((part q now i).open_ ++ (part q now i).kept) = byteBlocks (q.open_ ++ q.kept) := by
    have h2 := part_foot q now i p 0 (.slice none 0 0)
    unfold linkFoot at h2
    simpa [ownBlocks, Value.ownBlock] using h2
  unfold rFoot
  rw [e]
theorem RIn.far_own {w w' : World} {B p B' : Nat} {vo vk v : Value} {q : LK} {n : Nat} {xs : List Value} {size : Nat} (h : RIn w B p vo vk q) (ho : OwnsAt w B' 46 size v n xs) (k : Keep (ownBlocks v) w w') : RIn w' B p vo vk q := by
  refine h.keep k (fun x hx hm => ?_)
  have hg := mem_own.1 hm
  rcases mem_rFoot.1 hx with rfl | hx | hx | ⟨s, hs, hb⟩
  · exact ho.ne_blk h.head (by decide) hg
  · exact ho.ne_own h.rows (by decide) x hg hx
  · exact ho.ne_own h.keeps (by decide) x hg hx
  · exact OwnsAt.ne_own ho (h.bytes s hs) (by decide) x hg hb
def ROutPost (B p : Nat) (F : List Nat) (q : LK) (now : Int) (w : World) (e : Ending) (w' : World) : Prop :=
  ∃ v fs, e = .returned v ∧ fs.map frd = outF q now ∧ FramesIn w' w.heap.size v fs ∧ (∃ F', RAt w' B p F' (outL q now) ∧ ∀ x, x ∈ F' ↔ x ∈ F) ∧ Keep F w w'
set_option maxHeartbeats 40000000 in
set_option maxRecDepth 100000 in
theorem outR_spec {w : World} {B p : Nat} {F : List Nat} {q : LK} (now : Int) (h : RAt w B p F q) (hB : B ≤ w.heap.size) (hl : q.open_.length ≤ 100) (hs : ∀ s ∈ q.open_, (0 ≤ s.times ∧ s.times ≤ 100000000) ∧ (-2305843009213693952 ≤ s.at_ ∧ s.at_ ≤ 2305843009213693952) ∧ s.bs.length ≤ 1000000) (hn : -2305843009213693952 ≤ now ∧ now ≤ 2305843009213693952) :
    Calls Try.prog 22 #[.pointer (some ⟨p, 0, none⟩), .int .i64 now] w (ROutPost B p F q now w) := by
  obtain ⟨vo, vk, h, rfl⟩ := h
  obtain ⟨ao, co, rfl⟩ := h.rows.shape
  have hp0 : part q now 0 = q := by unfold part; simp
  have hlt0 := h.lt
  have Hlt := Lib.hid hlt0
  have H := Lib.hid h
  have Hs := Lib.hid hs
  have Hn := Lib.hid hn
  have hlI : (q.open_.length : Int) ≤ 100 := by omega
  clear h hs hn hlt0
  go_enter Try.func22, Try.ntmps22
  go_wp2
  go_loopw [5, 6, 7] (fun v5 v6 _ wr => ∃ (i : Nat) (fs : List FR), i ≤ q.open_.length ∧ v6 = .int .i64 i ∧ RIn wr B p (.slice ao q.open_.length co) vk (part q now i) ∧ fs.map frd = outD q now (q.open_.take i) ∧ FramesIn wr w.heap.size v5 fs ∧ Keep (rFoot p (.slice ao q.open_.length co) vk (q.open_ ++ q.kept)) w wr) (fun _ v _ _ => q.open_.length - (intOf v).toNat)
  case atStart => exact ⟨0, [], by omega, rfl, by rw [hp0]; exact H.out, by simp [outD], FramesIn.nil _ _, Keep.refl _ _⟩
  case round =>
    obtain ⟨i, fs, hi, rfl, hat, hfd, hfs, hk⟩ := hrel
    obtain ⟨a5, c5, rfl⟩ := hfs.rows.shape
    have hfl : fs.length = (outD q now (q.open_.take i)).length := by have := congrArg List.length hfd; simpa using this
    have hfl2 : fs.length ≤ i := by
      rw [hfl]
      unfold outD
      have := List.length_filter_le (fun s => dueL s now) (q.open_.take i)
      simp at this ⊢
      omega
    have Hfd := Lib.hid hfd
    clear hfd hfl
    have hc7 : wr.cell? ⟨p, 7, none⟩ = some (.slice ao q.open_.length co) := hat.head.cell 7
    by_cases hlt : i < q.open_.length
    · obtain ⟨s, hsi⟩ : ∃ s, q.open_[i]? = some s := ⟨_, List.getElem?_eq_getElem hlt⟩
      have hsp := part_at (now := now) hsi
      have hrows := hat.rows
      rw [part_len] at hrows
      obtain ⟨g, off, rfl, _, hg2, hcells, hcap, hfr⟩ := hrows.rowAt LD.o_len hsp hlt
      have hbs : BytesOf wr s.bv s.bs := bytes_of_off (hat.bytes s (List.mem_append_left _ (List.mem_of_getElem? hsp)))
      have hss := Hs.out s (List.mem_of_getElem? hsi)
      have hsucc := part_succ (now := now) hsi
      have hosucc := outD_succ (q := q) (now := now) hsi
      obtain ⟨sq, t, a, bs, bv⟩ := s
      obtain ⟨ab, cb, hbv⟩ := hbs.shape
      simp only at hbv
      subst hbv
      have e0 : wr.cell? ⟨g, off + i * 4, none⟩ = some (.int .i64 sq) := hcells 0 _ (by omega) rfl
      have e1 : wr.cell? ⟨g, off + i * 4 + 1, none⟩ = some (.int .i64 a) := hcells 1 _ (by omega) rfl
      have e2 : wr.cell? ⟨g, off + i * 4 + 2, none⟩ = some (.int .i64 t) := hcells 2 _ (by omega) rfl
      have e3 : wr.cell? ⟨g, off + i * 4 + 3, none⟩ = some (.slice ab bs.length cb) := hcells 3 _ (by omega) rfl
      simp only at hss
      have hwp := wait_pos t
      have hwr : IntKind.i64.wrap (a + waitL t) = a + waitL t := IntWalk.i64_in _ (by omega)
      have hnn := Hn.out
      have hti := hss.1
      have hai := hss.2.1
      have Hsp := Lib.hid hsp
      have Hss := Lib.hid hss
      have Hsucc := Lib.hid hsucc
      have Hosucc := Lib.hid hosucc
      have Hat := Lib.hid hat
      have Hfs := Lib.hid hfs
      have hiI : (i : Int) < (q.open_.length : Int) := by omega
      clear hcells hbs hrows hss hsucc hosucc hsp hsi hat hfs
      rcases (show t = 0 ∨ (0 < t ∧ now < a + waitL t) ∨ (0 < t ∧ a + waitL t ≤ now) by omega) with ht0 | ⟨ht0, htn⟩ | ⟨ht0, htn⟩
      · have hd : dueL ⟨sq, t, a, bs, .slice ab bs.length cb⟩ now = true := by unfold dueL; simp; exact Or.inl ht0
        have hb1 : decide (0 < t) = false := by simp; omega
        have Hwp := Lib.hid (And.intro hwp (And.intro hnn (And.intro hti hai)))
        clear hwp hnn hai ht0
        go_wp2_with fail
        go_quiet ((go_at_call 33; exact same_quiet (waitR_spec t (by omega))))
        have hat2 := Hat.out.keep ((Keep.refl [] wr).drewN nq) (by simp)
        have hfs2 := Hfs.out.keep ((Keep.refl [] wr).drewN nq) (by simp)
        have hkq := hk.trans ((Keep.refl [] wr).drewN nq) (by simp)
        clear hb1
        clear Hat Hfs hk hc7 e0 e1 e2 e3 hfr hcap
        generalize wr.drewN nq = wq at *
        have Hpart := Lib.hid hat2
        have hrows1 := hat2.rows
        rw [part_len] at hrows1
        obtain ⟨g', off', hh, _, hg2', hcells, _, hfr⟩ := hrows1.rowAt LD.o_len Hsp.out hlt
        injection hh with hh
        injection hh with q1 q2
        subst q1 q2
        have e1 : wq.cell? ⟨g, off + i * 4 + 1, none⟩ = some (.int .i64 a) := hcells 1 _ (by omega) rfl
        have e2 : wq.cell? ⟨g, off + i * 4 + 2, none⟩ = some (.int .i64 t) := hcells 2 _ (by omega) rfl
        have f1 := hfr (off + i * 4 + 1)
        have f2 := hfr (off + i * 4 + 2)
        have hw1 : IntKind.i64.wrap (t + 1) = t + 1 := IntWalk.i64_in _ (by have := Hss.out; omega)
        have hleneq := part_len q now i
        obtain ⟨t1, t2⟩ := RIn.row (q := part q now i) (by rw [hleneq]; exact hat2) Hsp.out 2 (by omega) (.int .i64 (t + 1)) ⟨sq, t + 1, a, bs, .slice ab bs.length cb⟩ rfl rfl rfl
        have hsp2 : ((part q now i).open_.set i ⟨sq, t + 1, a, bs, .slice ab bs.length cb⟩)[i]? = some ⟨sq, t + 1, a, bs, .slice ab bs.length cb⟩ := List.getElem?_set_self (by rw [part_len]; exact hlt)
        obtain ⟨t3, t4⟩ := RIn.row (q := { part q now i with open_ := (part q now i).open_.set i ⟨sq, t + 1, a, bs, .slice ab bs.length cb⟩ }) (by simpa using t1) hsp2 1 (by omega) (.int .i64 now) ⟨sq, t + 1, now, bs, .slice ab bs.length cb⟩ rfl rfl rfl
        have hq3 : ({ part q now i with open_ := ((part q now i).open_.set i ⟨sq, t + 1, a, bs, .slice ab bs.length cb⟩).set i ⟨sq, t + 1, now, bs, .slice ab bs.length cb⟩ } : LK) = part q now (i + 1) := by
          rw [← Hsucc.out, List.set_set]
          unfold outUpd
          rw [hd]
          rfl
        have t3' : RIn ((wq.setCell ⟨g, off + i * 4 + 2, none⟩ (.int .i64 (t + 1))).setCell ⟨g, off + i * 4 + 1, none⟩ (.int .i64 now)) B p (.slice (some ⟨g, off, none⟩) q.open_.length co) vk (part q now (i + 1)) := by
          rw [← hq3]
          have h9 := t3
          simp only [List.length_set, hleneq] at h9
          exact h9
        have kfoot : Keep (rFoot p (.slice (some ⟨g, off, none⟩) q.open_.length co) vk (q.open_ ++ q.kept)) wq ((wq.setCell ⟨g, off + i * 4 + 2, none⟩ (.int .i64 (t + 1))).setCell ⟨g, off + i * 4 + 1, none⟩ (.int .i64 now)) :=
          ((Keep.refl _ _).setCell (Or.inl (mem_rFoot.2 (Or.inr (Or.inl rfl)))) _).setCell (Or.inl (mem_rFoot.2 (Or.inr (Or.inl rfl)))) _
        have fs2 : FramesIn ((wq.setCell ⟨g, off + i * 4 + 2, none⟩ (.int .i64 (t + 1))).setCell ⟨g, off + i * 4 + 1, none⟩ (.int .i64 now)) w.heap.size (.slice a5 fs.length c5) fs :=
          hfs2.keep kfoot (fun x hx => Or.inl (Hlt.out x hx).2)
        have hk2 := hkq.trans kfoot (fun x hx => Or.inl hx)
        have e0' : ((wq.setCell ⟨g, off + i * 4 + 2, none⟩ (.int .i64 (t + 1))).setCell ⟨g, off + i * 4 + 1, none⟩ (.int .i64 now)).cell? ⟨g, off + i * 4, none⟩ = some (.int .i64 sq) := by
          rw [World.cell?_setCell_other _ _ _ _ (by simp), World.cell?_setCell_other _ _ _ _ (by simp)]
          exact hcells 0 _ (by omega) rfl
        have e3' : ((wq.setCell ⟨g, off + i * 4 + 2, none⟩ (.int .i64 (t + 1))).setCell ⟨g, off + i * 4 + 1, none⟩ (.int .i64 now)).cell? ⟨g, off + i * 4 + 3, none⟩ = some (.slice ab bs.length cb) := by
          rw [World.cell?_setCell_other _ _ _ _ (by simp), World.cell?_setCell_other _ _ _ _ (by simp)]
          exact hcells 3 _ (by omega) rfl
        have e1' : (wq.setCell ⟨g, off + i * 4 + 2, none⟩ (.int .i64 (t + 1))).cell? ⟨g, off + i * 4 + 1, none⟩ = some (.int .i64 a) := by
          rw [World.cell?_setCell_other _ _ _ _ (by simp)]
          exact e1
        have f1' : (wq.setCell ⟨g, off + i * 4 + 2, none⟩ (.int .i64 (t + 1))).frozen? ⟨g, off + i * 4 + 1, none⟩ = false := by
          have h := (hrows1.set_ (i * 4 + 2) (.int .i64 (t + 1))).free (off + i * 4 + 1)
          rw [← Nat.add_assoc] at h
          exact h
        have hgl : g < ((wq.setCell ⟨g, off + i * 4 + 2, none⟩ (.int .i64 (t + 1))).setCell ⟨g, off + i * 4 + 1, none⟩ (.int .i64 now)).heap.size := by simpa using hg2'
        clear hcells hfr t1 t2 t3 t4 hq3 hat2 hfs2 hkq kfoot hrows1 hsp2 e1 f1
        go_upto_region 9 with fail
        clear e1' e2 f1' f2
        generalize ((wq.setCell ⟨g, off + i * 4 + 2, none⟩ (.int .i64 (t + 1))).setCell ⟨g, off + i * 4 + 1, none⟩ (.int .i64 now)) = w2 at *
        have hng : g ∉ ownBlocks (.slice a5 fs.length c5) := fun hm => fs2.rows.ne_own t3'.rows (by decide) g (mem_own.1 hm) rfl
        have hS : ∀ w', Keep [] w2 w' → w'.cell? ⟨g, off + i * 4, none⟩ = some (.int .i64 sq) ∧ w'.cell? ⟨g, off + i * 4 + 3, none⟩ = some (.slice ab bs.length cb) := fun w' k => ⟨(k.cell (p := ⟨g, off + i * 4, none⟩) hgl (by simp)).trans e0', (k.cell (p := ⟨g, off + i * 4 + 3, none⟩) hgl (by simp)).trans e3'⟩
        have hby : BytesOf w2 (.slice ab bs.length cb) bs := by
          have hm : (⟨sq, t + 1, now, bs, .slice ab bs.length cb⟩ : LD) ∈ (part q now (i + 1)).open_ := by
            rw [← Hsucc.out]
            have e : outUpd now ⟨sq, t, a, bs, .slice ab bs.length cb⟩ = ⟨sq, t + 1, now, bs, .slice ab bs.length cb⟩ := by unfold outUpd; rw [hd]; rfl
            rw [e]
            exact List.mem_of_getElem? (List.getElem?_set_self (i := i) (by rw [part_len]; exact hlt))
          exact bytes_of_off (t3'.bytes _ (List.mem_append_left _ hm))
        have T2 := Lib.hid t3'
        have F2 := Lib.hid fs2
        have K2 := Lib.hid hk2
        have HS := Lib.hid hS
        have Hby := Lib.hid hby
        have hbl6 := Hss.out.2.2
        have hsz2 := hk2.size
        clear t3' fs2 hk2 hS hby e0' e3'
        go_region_held3 (fun w' => w'.cell? ⟨g, off + i * 4, none⟩ = some (.int .i64 sq) ∧ w'.cell? ⟨g, off + i * 4 + 3, none⟩ = some (.slice ab bs.length cb))
          (first | exact HS.out _ (Keep.refl _ _).drew | exact ⟨(hk4.cell (p := ⟨g, off + i * 4, none⟩) (by have := hk3.size; simp at this; simp; omega) hng).trans (HS.out _ (hk3.of_drew.alloc _)).1, (hk4.cell (p := ⟨g, off + i * 4 + 3, none⟩) (by have := hk3.size; simp at this; simp; omega) hng).trans (HS.out _ (hk3.of_drew.alloc _)).2⟩ | exact HS.out _ (hk3.of_drew.alloc _) | exact HS.out _ hk3.of_drew)
          (first
            | (refine step_append_off rfl (.tmp 53) (.tmp 64) rfl Try.frs36 w.heap.size (.slice a5 fs.length c5) fs.length (fs.flatMap FR.c) (by simp [Act.eval]) ((F2.out.rows.keep hk3.of_drew (by simp)).keep ((Keep.refl [] _).alloc _) (by simp)) (.slice (some ⟨w3.heap.size, 0, none⟩) 1 1) 1 [.int .i64 q.self, .int .i64 q.peer, .int .i64 q.life, .int .i64 sq, .int .i64 q.upto, .slice a9 bs.length c9] (by simp [Act.eval]) (src_row 6 rfl _ rfl) (by simp [Value.oneCell']) (by unfold maxLen; omega) (by omega) (by have := hk3.size; simp at this; simp; omega) ?_; intro v' w4 hown4 hk4 hat4; obtain ⟨a7, c7', rfl⟩ := hown4.shape)
            | (go_at_call 34; refine (frameR_spec (T2.out.keep ((Keep.refl [] _).drew) (by simp)) (Hby.out.keep0 (Keep.refl _ _).drew) (by omega)).mono ?_; rintro e w3 ⟨bv9, rfl, ho, hk3⟩; obtain ⟨a9, c9, rfl⟩ := OwnsAt.shape ho))
        all_goals
          have hp9 := F2.out.push (s := ⟨q.self, q.peer, q.life, sq, q.upto, bs, .slice a9 bs.length c9⟩) hsz2 (hk3.of_drew.alloc (.cells #[.int .i64 q.self, .int .i64 q.peer, .int .i64 q.life, .int .i64 sq, .int .i64 q.upto, .slice a9 bs.length c9] 46)) (OwnsAt.keep ho ((Keep.refl [] _).alloc _) (by simp)) hk4 (by simpa [FR.c] using hown4)
          have hl9 := ((T2.out.keep hk3.of_drew (by simp)).keep ((Keep.refl [] _).alloc (.cells #[.int .i64 q.self, .int .i64 q.peer, .int .i64 q.life, .int .i64 sq, .int .i64 q.upto, .slice a9 bs.length c9] 46)) (by simp)).far_own ((F2.out.rows.keep hk3.of_drew (by simp)).keep ((Keep.refl [] _).alloc _) (by simp)) hk4
          have hk9 := ((K2.out.trans hk3.of_drew (by simp)).trans ((Keep.refl [] _).alloc (.cells #[.int .i64 q.self, .int .i64 q.peer, .int .i64 q.life, .int .i64 sq, .int .i64 q.upto, .slice a9 bs.length c9] 46)) (by simp)).trans hk4 (fun x hx => Or.inr (F2.out.rows.lt x (mem_own.1 hx)).1)
          have hfd9 : (fs ++ [(⟨q.self, q.peer, q.life, sq, q.upto, bs, .slice a9 bs.length c9⟩ : FR)]).map frd = outD q now (q.open_.take (i + 1)) := by
            rw [List.map_append, Hfd.out, Hosucc.out, hd]
            rfl
          have Hrel := Lib.hid (And.intro hp9 (And.intro hl9 (And.intro hk9 hfd9)))
          clear hp9 hl9 hk9 hfd9 hown4 hk4 hat4 ho hk3
          go_wp2
          go_roundw
          case rel => exact ⟨i + 1, _, by omega, by go_num, Hrel.out.2.1, Hrel.out.2.2.2, by simpa using Hrel.out.1, Hrel.out.2.2.1⟩
          case measure => simp [intOf]; omega
      · have hd : dueL ⟨sq, t, a, bs, .slice ab bs.length cb⟩ now = false := by unfold dueL; simp; omega
        have hb1 : decide (0 < t) = true := by simp; omega
        have hb2 : decide (now < a + waitL t) = true := by simp; omega
        have Hwp := Lib.hid (And.intro hwp (And.intro hnn (And.intro hti hai)))
        clear hwp hnn hai ht0 htn
        go_wp2_with fail
        go_quiet ((go_at_call 33; exact same_quiet (waitR_spec t (by omega))))
        have hat2 := Hat.out.keep ((Keep.refl [] wr).drewN nq) (by simp)
        have hfs2 := Hfs.out.keep ((Keep.refl [] wr).drewN nq) (by simp)
        have hkq := hk.trans ((Keep.refl [] wr).drewN nq) (by simp)
        clear hb1 hb2
        clear Hat Hfs hk hc7 e0 e1 e2 e3 hfr hcap
        generalize wr.drewN nq = wq at *
        have hpp : part q now (i + 1) = part q now i := by
          rw [← Hsucc.out]
          have e : outUpd now ⟨sq, t, a, bs, .slice ab bs.length cb⟩ = ⟨sq, t, a, bs, .slice ab bs.length cb⟩ := by unfold outUpd; rw [hd]; rfl
          rw [e]
          have : (part q now i).open_.set i ⟨sq, t, a, bs, .slice ab bs.length cb⟩ = (part q now i).open_ := by
            apply List.ext_getElem?
            intro j
            by_cases hij : i = j
            · subst hij
              rw [List.getElem?_set_self (by rw [part_len]; exact hlt), Hsp.out]
            · rw [List.getElem?_set_ne hij]
          rw [this]
        have hfd2 : fs.map frd = outD q now (q.open_.take (i + 1)) := by
          rw [Hosucc.out, hd, Hfd.out]
          simp
        have Hrel := Lib.hid (And.intro hat2 (And.intro hfs2 hkq))
        have Hpp := Lib.hid hpp
        have Hfd2 := Lib.hid hfd2
        clear hpp hfd2 hat2 hfs2 hkq
        go_wp2
        go_roundw
        case rel => exact ⟨i + 1, fs, by omega, by go_num, by rw [Hpp.out]; exact Hrel.out.1, Hfd2.out, Hrel.out.2.1, Hrel.out.2.2⟩
        case measure => simp [intOf]; omega
      · have hd : dueL ⟨sq, t, a, bs, .slice ab bs.length cb⟩ now = true := by unfold dueL; simp; omega
        have hb1 : decide (0 < t) = true := by simp; omega
        have hb2 : decide (now < a + waitL t) = false := by simp; omega
        have Hwp := Lib.hid (And.intro hwp (And.intro hnn (And.intro hti hai)))
        clear hwp hnn hai ht0 htn
        go_wp2_with fail
        go_quiet ((go_at_call 33; exact same_quiet (waitR_spec t (by omega))))
        have hat2 := Hat.out.keep ((Keep.refl [] wr).drewN nq) (by simp)
        have hfs2 := Hfs.out.keep ((Keep.refl [] wr).drewN nq) (by simp)
        have hkq := hk.trans ((Keep.refl [] wr).drewN nq) (by simp)
        clear hb1 hb2
        clear Hat Hfs hk hc7 e0 e1 e2 e3 hfr hcap
        generalize wr.drewN nq = wq at *
        have Hpart := Lib.hid hat2
        have hrows1 := hat2.rows
        rw [part_len] at hrows1
        obtain ⟨g', off', hh, _, hg2', hcells, _, hfr⟩ := hrows1.rowAt LD.o_len Hsp.out hlt
        injection hh with hh
        injection hh with q1 q2
        subst q1 q2
        have e1 : wq.cell? ⟨g, off + i * 4 + 1, none⟩ = some (.int .i64 a) := hcells 1 _ (by omega) rfl
        have e2 : wq.cell? ⟨g, off + i * 4 + 2, none⟩ = some (.int .i64 t) := hcells 2 _ (by omega) rfl
        have f1 := hfr (off + i * 4 + 1)
        have f2 := hfr (off + i * 4 + 2)
        have hw1 : IntKind.i64.wrap (t + 1) = t + 1 := IntWalk.i64_in _ (by have := Hss.out; omega)
        have hleneq := part_len q now i
        obtain ⟨t1, t2⟩ := RIn.row (q := part q now i) (by rw [hleneq]; exact hat2) Hsp.out 2 (by omega) (.int .i64 (t + 1)) ⟨sq, t + 1, a, bs, .slice ab bs.length cb⟩ rfl rfl rfl
        have hsp2 : ((part q now i).open_.set i ⟨sq, t + 1, a, bs, .slice ab bs.length cb⟩)[i]? = some ⟨sq, t + 1, a, bs, .slice ab bs.length cb⟩ := List.getElem?_set_self (by rw [part_len]; exact hlt)
        obtain ⟨t3, t4⟩ := RIn.row (q := { part q now i with open_ := (part q now i).open_.set i ⟨sq, t + 1, a, bs, .slice ab bs.length cb⟩ }) (by simpa using t1) hsp2 1 (by omega) (.int .i64 now) ⟨sq, t + 1, now, bs, .slice ab bs.length cb⟩ rfl rfl rfl
        have hq3 : ({ part q now i with open_ := ((part q now i).open_.set i ⟨sq, t + 1, a, bs, .slice ab bs.length cb⟩).set i ⟨sq, t + 1, now, bs, .slice ab bs.length cb⟩ } : LK) = part q now (i + 1) := by
          rw [← Hsucc.out, List.set_set]
          unfold outUpd
          rw [hd]
          rfl
        have t3' : RIn ((wq.setCell ⟨g, off + i * 4 + 2, none⟩ (.int .i64 (t + 1))).setCell ⟨g, off + i * 4 + 1, none⟩ (.int .i64 now)) B p (.slice (some ⟨g, off, none⟩) q.open_.length co) vk (part q now (i + 1)) := by
          rw [← hq3]
          have h9 := t3
          simp only [List.length_set, hleneq] at h9
          exact h9
        have kfoot : Keep (rFoot p (.slice (some ⟨g, off, none⟩) q.open_.length co) vk (q.open_ ++ q.kept)) wq ((wq.setCell ⟨g, off + i * 4 + 2, none⟩ (.int .i64 (t + 1))).setCell ⟨g, off + i * 4 + 1, none⟩ (.int .i64 now)) :=
          ((Keep.refl _ _).setCell (Or.inl (mem_rFoot.2 (Or.inr (Or.inl rfl)))) _).setCell (Or.inl (mem_rFoot.2 (Or.inr (Or.inl rfl)))) _
        have fs2 : FramesIn ((wq.setCell ⟨g, off + i * 4 + 2, none⟩ (.int .i64 (t + 1))).setCell ⟨g, off + i * 4 + 1, none⟩ (.int .i64 now)) w.heap.size (.slice a5 fs.length c5) fs :=
          hfs2.keep kfoot (fun x hx => Or.inl (Hlt.out x hx).2)
        have hk2 := hkq.trans kfoot (fun x hx => Or.inl hx)
        have e0' : ((wq.setCell ⟨g, off + i * 4 + 2, none⟩ (.int .i64 (t + 1))).setCell ⟨g, off + i * 4 + 1, none⟩ (.int .i64 now)).cell? ⟨g, off + i * 4, none⟩ = some (.int .i64 sq) := by
          rw [World.cell?_setCell_other _ _ _ _ (by simp), World.cell?_setCell_other _ _ _ _ (by simp)]
          exact hcells 0 _ (by omega) rfl
        have e3' : ((wq.setCell ⟨g, off + i * 4 + 2, none⟩ (.int .i64 (t + 1))).setCell ⟨g, off + i * 4 + 1, none⟩ (.int .i64 now)).cell? ⟨g, off + i * 4 + 3, none⟩ = some (.slice ab bs.length cb) := by
          rw [World.cell?_setCell_other _ _ _ _ (by simp), World.cell?_setCell_other _ _ _ _ (by simp)]
          exact hcells 3 _ (by omega) rfl
        have e1' : (wq.setCell ⟨g, off + i * 4 + 2, none⟩ (.int .i64 (t + 1))).cell? ⟨g, off + i * 4 + 1, none⟩ = some (.int .i64 a) := by
          rw [World.cell?_setCell_other _ _ _ _ (by simp)]
          exact e1
        have f1' : (wq.setCell ⟨g, off + i * 4 + 2, none⟩ (.int .i64 (t + 1))).frozen? ⟨g, off + i * 4 + 1, none⟩ = false := by
          have h := (hrows1.set_ (i * 4 + 2) (.int .i64 (t + 1))).free (off + i * 4 + 1)
          rw [← Nat.add_assoc] at h
          exact h
        have hgl : g < ((wq.setCell ⟨g, off + i * 4 + 2, none⟩ (.int .i64 (t + 1))).setCell ⟨g, off + i * 4 + 1, none⟩ (.int .i64 now)).heap.size := by simpa using hg2'
        clear hcells hfr t1 t2 t3 t4 hq3 hat2 hfs2 hkq kfoot hrows1 hsp2 e1 f1
        go_upto_region 9 with fail
        clear e1' e2 f1' f2
        generalize ((wq.setCell ⟨g, off + i * 4 + 2, none⟩ (.int .i64 (t + 1))).setCell ⟨g, off + i * 4 + 1, none⟩ (.int .i64 now)) = w2 at *
        have hng : g ∉ ownBlocks (.slice a5 fs.length c5) := fun hm => fs2.rows.ne_own t3'.rows (by decide) g (mem_own.1 hm) rfl
        have hS : ∀ w', Keep [] w2 w' → w'.cell? ⟨g, off + i * 4, none⟩ = some (.int .i64 sq) ∧ w'.cell? ⟨g, off + i * 4 + 3, none⟩ = some (.slice ab bs.length cb) := fun w' k => ⟨(k.cell (p := ⟨g, off + i * 4, none⟩) hgl (by simp)).trans e0', (k.cell (p := ⟨g, off + i * 4 + 3, none⟩) hgl (by simp)).trans e3'⟩
        have hby : BytesOf w2 (.slice ab bs.length cb) bs := by
          have hm : (⟨sq, t + 1, now, bs, .slice ab bs.length cb⟩ : LD) ∈ (part q now (i + 1)).open_ := by
            rw [← Hsucc.out]
            have e : outUpd now ⟨sq, t, a, bs, .slice ab bs.length cb⟩ = ⟨sq, t + 1, now, bs, .slice ab bs.length cb⟩ := by unfold outUpd; rw [hd]; rfl
            rw [e]
            exact List.mem_of_getElem? (List.getElem?_set_self (i := i) (by rw [part_len]; exact hlt))
          exact bytes_of_off (t3'.bytes _ (List.mem_append_left _ hm))
        have T2 := Lib.hid t3'
        have F2 := Lib.hid fs2
        have K2 := Lib.hid hk2
        have HS := Lib.hid hS
        have Hby := Lib.hid hby
        have hbl6 := Hss.out.2.2
        have hsz2 := hk2.size
        clear t3' fs2 hk2 hS hby e0' e3'
        go_region_held3 (fun w' => w'.cell? ⟨g, off + i * 4, none⟩ = some (.int .i64 sq) ∧ w'.cell? ⟨g, off + i * 4 + 3, none⟩ = some (.slice ab bs.length cb))
          (first | exact HS.out _ (Keep.refl _ _).drew | exact ⟨(hk4.cell (p := ⟨g, off + i * 4, none⟩) (by have := hk3.size; simp at this; simp; omega) hng).trans (HS.out _ (hk3.of_drew.alloc _)).1, (hk4.cell (p := ⟨g, off + i * 4 + 3, none⟩) (by have := hk3.size; simp at this; simp; omega) hng).trans (HS.out _ (hk3.of_drew.alloc _)).2⟩ | exact HS.out _ (hk3.of_drew.alloc _) | exact HS.out _ hk3.of_drew)
          (first
            | (refine step_append_off rfl (.tmp 53) (.tmp 64) rfl Try.frs36 w.heap.size (.slice a5 fs.length c5) fs.length (fs.flatMap FR.c) (by simp [Act.eval]) ((F2.out.rows.keep hk3.of_drew (by simp)).keep ((Keep.refl [] _).alloc _) (by simp)) (.slice (some ⟨w3.heap.size, 0, none⟩) 1 1) 1 [.int .i64 q.self, .int .i64 q.peer, .int .i64 q.life, .int .i64 sq, .int .i64 q.upto, .slice a9 bs.length c9] (by simp [Act.eval]) (src_row 6 rfl _ rfl) (by simp [Value.oneCell']) (by unfold maxLen; omega) (by omega) (by have := hk3.size; simp at this; simp; omega) ?_; intro v' w4 hown4 hk4 hat4; obtain ⟨a7, c7', rfl⟩ := hown4.shape)
            | (go_at_call 34; refine (frameR_spec (T2.out.keep ((Keep.refl [] _).drew) (by simp)) (Hby.out.keep0 (Keep.refl _ _).drew) (by omega)).mono ?_; rintro e w3 ⟨bv9, rfl, ho, hk3⟩; obtain ⟨a9, c9, rfl⟩ := OwnsAt.shape ho))
        all_goals
          have hp9 := F2.out.push (s := ⟨q.self, q.peer, q.life, sq, q.upto, bs, .slice a9 bs.length c9⟩) hsz2 (hk3.of_drew.alloc (.cells #[.int .i64 q.self, .int .i64 q.peer, .int .i64 q.life, .int .i64 sq, .int .i64 q.upto, .slice a9 bs.length c9] 46)) (OwnsAt.keep ho ((Keep.refl [] _).alloc _) (by simp)) hk4 (by simpa [FR.c] using hown4)
          have hl9 := ((T2.out.keep hk3.of_drew (by simp)).keep ((Keep.refl [] _).alloc (.cells #[.int .i64 q.self, .int .i64 q.peer, .int .i64 q.life, .int .i64 sq, .int .i64 q.upto, .slice a9 bs.length c9] 46)) (by simp)).far_own ((F2.out.rows.keep hk3.of_drew (by simp)).keep ((Keep.refl [] _).alloc _) (by simp)) hk4
          have hk9 := ((K2.out.trans hk3.of_drew (by simp)).trans ((Keep.refl [] _).alloc (.cells #[.int .i64 q.self, .int .i64 q.peer, .int .i64 q.life, .int .i64 sq, .int .i64 q.upto, .slice a9 bs.length c9] 46)) (by simp)).trans hk4 (fun x hx => Or.inr (F2.out.rows.lt x (mem_own.1 hx)).1)
          have hfd9 : (fs ++ [(⟨q.self, q.peer, q.life, sq, q.upto, bs, .slice a9 bs.length c9⟩ : FR)]).map frd = outD q now (q.open_.take (i + 1)) := by
            rw [List.map_append, Hfd.out, Hosucc.out, hd]
            rfl
          have Hrel := Lib.hid (And.intro hp9 (And.intro hl9 (And.intro hk9 hfd9)))
          clear hp9 hl9 hk9 hfd9 hown4 hk4 hat4 ho hk3
          go_wp2
          go_roundw
          case rel => exact ⟨i + 1, _, by omega, by go_num, Hrel.out.2.1, Hrel.out.2.2.2, by simpa using Hrel.out.1, Hrel.out.2.2.1⟩
          case measure => simp [intOf]; omega
    · have hiq : i = q.open_.length := by omega
      subst hiq
      rw [List.take_length] at Hfd
      have hfin : ∀ (w3 : World) (v : Value) (fs' : List FR), fs'.map frd = outF q now → FramesIn w3 w.heap.size v fs' → RIn w3 B p (.slice ao q.open_.length co) vk (part q now q.open_.length) → Keep (rFoot p (.slice ao q.open_.length co) vk (q.open_ ++ q.kept)) w w3 →
          ROutPost B p (rFoot p (.slice ao q.open_.length co) vk (q.open_ ++ q.kept)) q now w (.returned v) (w3.setCell ⟨p, 9, none⟩ (.bool false)) := by
        intro w3 v fs' h1 h2 h3 h4
        obtain ⟨t1, t2⟩ := RIn.turn (q' := outL q now) h3 9 (.bool false) (by unfold part outL; simp) rfl (by unfold part outL; simp)
        have k5 : Keep [p] w3 (w3.setCell ⟨p, 9, none⟩ (.bool false)) := (Keep.refl _ _).setCell (by simp) _
        have e2 : (part q now q.open_.length).open_ ++ (part q now q.open_.length).kept = (outL q now).open_ ++ (outL q now).kept := by unfold part outL; simp
        refine ⟨v, fs', rfl, h1, h2.keep k5 (fun x hx => Or.inl (by rw [show x = p by simpa using hx]; exact (Hlt.out p (by simp [rFoot])).2)), ⟨_, ⟨_, vk, t1, rfl⟩, fun x => ?_⟩, h4.trans k5 (fun x hx => Or.inl (by rw [show x = p by simpa using hx]; exact mem_rFoot.2 (Or.inl rfl)))⟩
        rw [← e2]
        exact part_rfoot q now _ p _ vk x
      have hfin2 : ∀ (v : Value) (fs' : List FR), q.owed = false → fs'.map frd = outF q now → FramesIn wr w.heap.size v fs' → RIn wr B p (.slice ao q.open_.length co) vk (part q now q.open_.length) → Keep (rFoot p (.slice ao q.open_.length co) vk (q.open_ ++ q.kept)) w wr →
          ROutPost B p (rFoot p (.slice ao q.open_.length co) vk (q.open_ ++ q.kept)) q now w (.returned v) wr := by
        intro v fs' h0 h1 h2 h3 h4
        have e1 : part q now q.open_.length = outL q now := by unfold part outL; simp [h0]
        have h3' : RIn wr B p (.slice ao q.open_.length co) vk (outL q now) := e1 ▸ h3
        refine ⟨v, fs', rfl, h1, h2, ⟨_, ⟨_, vk, h3', rfl⟩, fun x => ?_⟩, h4⟩
        rw [← e1]
        exact part_rfoot q now _ p _ vk x
      have Hfin := Lib.hid hfin
      have Hfin2 := Lib.hid hfin2
      have h9 : wr.cell? ⟨p, 9, none⟩ = some (.bool q.owed) := hat.head.cell 9
      have f9 := hat.head.frozen 9
      have hplt := hat.head.lt
      have Hat := Lib.hid hat
      have Hfs := Lib.hid hfs
      have Hk := Lib.hid hk
      have hsz := hk.size
      clear hfin hfin2 hat hfs hk
      by_cases hz : fs.length = 0
      · have hfs0 : fs = [] := List.eq_nil_of_length_eq_zero hz
        subst hfs0
        have hout0 : outD q now q.open_ = [] := by rw [← Hfd.out]; rfl
        cases how : q.owed with
        | false =>
          have hof : outF q now = [] := by unfold outF; rw [hout0, how]; rfl
          rw [how] at h9
          have Hend := Lib.hid (Hfin2.out _ [] how (by rw [hof]; rfl) Hfs.out Hat.out Hk.out)
          clear hof hout0 hz
          go_wp2
          go_ret
          exact Hend.out
        | true =>
          have hof : outF q now = [(q.self, q.peer, q.life, 0, q.upto, [])] := by unfold outF; rw [hout0, how]; rfl
          rw [how] at h9
          have Hof := Lib.hid hof
          have hfr := Lib.hid (frameR_spec (sq := 0) (bs := []) (v := .slice none 0 0) Hat.out (BytesOf.nil _) (by simp))
          clear hof hout0 hz
          go_wp2_with fail
          refine hfr.out.mono ?_
          rintro e w3 ⟨bv9, rfl, ho, hk3⟩
          obtain ⟨a9, c9, rfl⟩ := OwnsAt.shape ho
          have hrowsA := (Hfs.out.rows.keep hk3 (by simp)).keep ((Keep.refl [] w3).alloc (.cells #[.int .i64 q.self, .int .i64 q.peer, .int .i64 q.life, .int .i64 0, .int .i64 q.upto, .slice a9 0 c9] 46)) (by simp)
          have hp3 : p < w3.heap.size := by have := hk3.size; omega
          clear hfr
          go_wp2_with (at_builtin; refine wpList_append_off rfl _ _ rfl Try.frs36 w.heap.size (.slice a5 0 c5) 0 _ rfl hrowsA _ 1 _ rfl (src_row 6 rfl _ rfl) (by simp [Value.oneCell']) (by unfold maxLen; omega) (by omega) (by have := hk3.size; simp; omega) ?_)
          intro v' w4 hown4 hk4 hat4
          have hp9 := Hfs.out.push (s := ⟨q.self, q.peer, q.life, 0, q.upto, [], .slice a9 0 c9⟩) hsz (hk3.alloc (.cells #[.int .i64 q.self, .int .i64 q.peer, .int .i64 q.life, .int .i64 0, .int .i64 q.upto, .slice a9 0 c9] 46)) (OwnsAt.keep ho ((Keep.refl [] _).alloc _) (by simp)) hk4 (by simpa [FR.c, part] using hown4)
          have hl9 := ((Hat.out.keep hk3 (by simp)).keep ((Keep.refl [] _).alloc (.cells #[.int .i64 q.self, .int .i64 q.peer, .int .i64 q.life, .int .i64 0, .int .i64 q.upto, .slice a9 0 c9] 46)) (by simp)).far_own hrowsA hk4
          have hk9 := ((Hk.out.trans hk3 (by simp)).trans ((Keep.refl [] _).alloc (.cells #[.int .i64 q.self, .int .i64 q.peer, .int .i64 q.life, .int .i64 0, .int .i64 q.upto, .slice a9 0 c9] 46)) (by simp)).trans hk4 (fun x hx => Or.inr (Hfs.out.rows.lt x (mem_own.1 hx)).1)
          have h9' : w4.cell? ⟨p, 9, none⟩ = some (.bool q.owed) := hl9.head.cell 9
          rw [how] at h9'
          have f9' := hl9.head.frozen 9
          obtain ⟨a7, c7', rfl⟩ := hown4.shape
          have Hend := Lib.hid (Hfin.out w4 _ _ (by rw [Hof.out]; rfl) hp9 hl9 hk9)
          clear hp9 hl9 hk9 hown4 hk4 hat4 ho hk3 hrowsA
          go_wp2
          go_ret
          exact Hend.out
      · have hpos : (fs.length : Int) ≠ 0 := by omega
        have hof : outF q now = outD q now q.open_ := by
          unfold outF
          have : (outD q now q.open_).isEmpty = false := by
            rw [← Hfd.out]
            cases fs with
            | nil => exact absurd rfl hz
            | cons _ _ => rfl
          rw [this]
          rfl
        have Hend := Lib.hid (Hfin.out wr _ fs (by rw [hof]; exact Hfd.out) Hfs.out Hat.out Hk.out)
        have hposB : ((fs.length : Int) == 0) = false := by simpa using hpos
        have hposL : (0 : Int) < (fs.length : Int) := by omega
        clear hof hz hpos
        go_wp2
        go_ret
        exact Hend.out
end Go.Proofs.Ytacifjjhadjhfaa
