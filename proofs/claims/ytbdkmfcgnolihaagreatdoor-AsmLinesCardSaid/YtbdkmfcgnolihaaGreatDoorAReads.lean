/- asm: the law of texts read, walked -/
import Derived.Test.YtbdkmfcgnolihaaGreatDoorRows
import Derived.WalkKit
import Derived.WalkSpells
import Derived.WalkLawsBesides
import Derived.RegionTactic
import Derived.ChangeAlike
import Derived.BigQuiet
import Derived.Deep.QuietTactic
import Derived.StillTailTactics
import Derived.IntWalk
import Derived.Handy
import Derived.Lib.Hide
import Derived.Deep.AppendLies
import Derived.Deep.RegionWith
import Derived.Test.YtbdkmfcgnolihaaGreatDoorBase
import Derived.Test.YtbdkmfcgnolihaaGreatDoorTail
import Derived.Test.YtbdkmfcgnolihaaGreatDoorArgs
import Derived.Test.YtbdkmfcgnolihaaGreatDoorAppend
import Derived.Test.YtbdkmfcgnolihaaGreatDoorOffs
import Derived.Test.YtbdkmfcgnolihaaGreatDoorStructs
import Derived.Carry
import Derived.Deep.RegionHeld3
import Derived.BigRegion
import Derived.Maps.OwnSet
import Derived.Maps.Views
import Derived.Maps.StringElems
import Derived.Test.YtbdkmfcgnolihaaGreatDoorMaps2
import Derived.Deep.CutRange
import Derived.Deep.CutBlock
import Derived.Test.YtbdkmfcgnolihaaGreatDoorFEnv
import Derived.Test.YtbdkmfcgnolihaaGreatDoorOpens
import Derived.Test.YtbdkmfcgnolihaaGreatDoorASame
import Derived.Test.YtbdkmfcgnolihaaGreatDoorAAlive
import Derived.Test.YtbdkmfcgnolihaaGreatDoorARRdX
import Derived.ChangeMaps5
import Derived.OpenShut
import Derived.ShutString
namespace Go.Proofs.YtbdkmfcgnolihaaGreatDoor
set_option linter.unusedSimpArgs false
set_option linter.unnecessarySimpa false
set_option linter.unusedVariables false
open Go.RowKit
open Go.ChangeMaps (open_string)
/-! ### what is read is short -/
structure NOk (r : AR) : Prop where
  names : ∀ f ∈ r.funcs, f.name.length ≤ 20
  args : r.args.length ≤ 8
theorem addI_names {fs : List FN} {i : IN} (h : ∀ f ∈ fs, f.name.length ≤ 20) : ∀ f ∈ addI fs i, f.name.length ≤ 20 := by
  intro f hf
  obtain ⟨j, hj⟩ := List.mem_iff_getElem?.1 hf
  unfold addI at hj
  rw [List.getElem?_modify] at hj
  obtain ⟨g, hg, rfl⟩ := Option.map_eq_some_iff.1 hj
  have := h g (List.mem_of_getElem? hg)
  split <;> exact this
theorem line_nok {no : Nat} {l : BS} {r r' : AR} (h : lineR no l r = some r') (hr : NOk r) : NOk r' := by
  unfold lineR at h
  split at h
  · unfold jobR at h
    split at h
    · split at h
      · split at h
        · cases h; exact ⟨hr.names, hr.args⟩
        · cases h
      · cases h
    · cases h
  split at h
  · unfold mainR at h
    split at h
    · split at h
      · rename_i hc
        split at h
        · rename_i args ha
          cases h
          have := readInts_len ha
          exact ⟨hr.names, by simp only; omega⟩
        · cases h
      · cases h
    · cases h
  split at h
  · unfold insR at h
    split at h
    · cases h
    have key : ∀ i, NOk { r with funcs := addI r.funcs i } := fun i => ⟨addI_names hr.names, hr.args⟩
    split at h
    · split at h
      · split at h
        · cases h
        · cases h; exact ⟨(key _).names, hr.args⟩
      · cases h
    · split at h
      · split at h
        · cases h
        split at h
        · split at h
          · cases h; exact ⟨(key _).names, hr.args⟩
          · cases h
        · split at h
          · cases h; exact ⟨(key _).names, hr.args⟩
          · cases h
      · cases h
    · cases h
  · unfold funcR at h
    split at h
    · split at h
      · rename_i hc
        split at h
        · cases h
          refine ⟨fun f hf => ?_, hr.args⟩
          rcases List.mem_append.1 hf with hf | hf
          · exact hr.names f hf
          · rw [List.mem_singleton.1 hf]
            exact nameL_len hc.2.1
        · cases h
      · cases h
    · cases h
theorem run_short : ∀ (ls : List BS) (n : Nat) (r r' : AR), runR n ls r = .ok r' → ARok r → NOk r → ARok r' ∧ NOk r'
  | [], _, _, _, h, _, _ => by cases h
  | [_], _, _, _, h, _, _ => by cases h
  | l :: l2 :: ls, n, r, r', h, h1, h2 => by
    change (if 3 ≤ n ∧ l = wEnd then (if l2 :: ls = [[]] then .ok r else .error (n + 1)) else match lineR n l r with | none => .error n | some r' => runR (n + 1) (l2 :: ls) r') = Except.ok r' at h
    split at h
    · split at h
      · cases h; exact ⟨h1, h2⟩
      · cases h
    · cases hl : lineR n l r with
      | none => rw [hl] at h; cases h
      | some r2 =>
        rw [hl] at h
        exact run_short (l2 :: ls) (n + 1) r2 r' h (line_ok hl h1).1 (line_nok hl h2)
theorem names_short : ∀ (ws : List WT) (fs : List FN) (m : Int) (fs' : List FN) (m' : Int), namesR ws fs m = .ok (fs', m') → (fs.length ≤ 32 ∧ ∀ f ∈ fs, f.name.length ≤ 20 ∧ f.code.length ≤ 256) → (fs'.length ≤ 32 ∧ ∀ f ∈ fs', f.name.length ≤ 20 ∧ f.code.length ≤ 256)
  | [], fs, m, fs', m', h, hs => by
    unfold namesR at h
    cases h
    exact hs
  | x :: xs, fs, m, fs', m', h, hs => by
    unfold namesR at h
    split at h
    · cases h
    · split at h
      · exact names_short xs _ _ _ _ h hs
      · rename_i k _ f i _
        refine names_short xs _ _ _ _ h ⟨by rw [setN_len]; exact hs.1, fun g hg => ?_⟩
        obtain ⟨j, hj⟩ := List.mem_iff_getElem?.1 hg
        rw [setN_get] at hj
        obtain ⟨g0, h0, rfl⟩ := Option.map_eq_some_iff.1 hj
        have := hs.2 g0 (List.mem_of_getElem? h0)
        split
        · simpa using this
        · exact this
theorem readJ_short (bs : BS) : JShort (readJ bs).job ∧ (readJ bs).job.args.length ≤ 8 := by
  have z : JShort JB0 ∧ JB0.args.length ≤ 8 := ⟨⟨by decide, fun f hf => (by cases hf), fun f hf => (by cases hf)⟩, by decide⟩
  by_cases hl : 131072 < bs.length
  · unfold readJ
    rw [if_pos hl]
    exact z
  · rw [readJ_res hl]
    cases hr : runR 1 (pieces 10 bs) AR0 with
    | error l => exact z
    | ok r =>
      obtain ⟨h1, h2⟩ := run_short _ _ _ _ hr AR0_ok ⟨by simp [AR0], by simp [AR0]⟩
      have e : resA (.ok r) = resN r (namesR r.wants r.funcs 0) := rfl
      rw [e]
      cases hn : namesR r.wants r.funcs 0 with
      | error l => exact z
      | ok fm =>
        obtain ⟨fs, m⟩ := fm
        obtain ⟨h3, h4⟩ := names_short _ _ _ _ _ hn ⟨h1.few, fun f hf => ⟨h2.names f hf, h1.short f hf⟩⟩
        exact ⟨⟨by show fs.length ≤ _; omega, fun f hf => by have := (h4 f hf).1; omega, fun f hf => by have := (h4 f hf).2; omega⟩, h2.args⟩
/-! ### worlds -/
theorem CodeRd.far {w w' : World} {v : Value} {l : List IN} (h : CodeRd w v l) (k : Below w.heap.size w w') : CodeRd w' v l := h.keep0 (keep_of_below k)
theorem JobRd.far {w w' : World} {v : Value} {j : JB} (h : JobRd w v j) (k : Below w.heap.size w w') : JobRd w' v j := h.keep0 (keep_of_below k)
set_option maxHeartbeats 12800000 in
set_option maxRecDepth 100000 in
theorem reads_walk {w : World} (hE : Env1 w) (bs os : BS) (hb : bs.length ≤ 20000) (ho : os.length ≤ 20000) : Calls Tryz.prog 4 #[.string (strB bs), .string (strB os)] w fun e w' => e = .returned (.bool true) ∧ Keep [] w w' := by
  have HE := Lib.hid hE
  have es : (strB bs).size = bs.length := strB_size bs
  have eo : (strB os).size = os.length := strB_size os
  have hbI : decide ((20000 : Int) < (bs.length : Int)) = false := decide_eq_false (by omega)
  have hoI : decide ((20000 : Int) < (os.length : Int)) = false := decide_eq_false (by omega)
  obtain ⟨res, hres⟩ : ∃ res, res = readJ bs := ⟨_, rfl⟩
  have HS := Lib.hid (show JShort res.job ∧ res.job.args.length ≤ 8 from by rw [hres]; exact readJ_short bs)
  have HR1 := Lib.hid (fun (w' : World) (h : Env1 w') => read_spec h bs (by omega))
  have HR2 := Lib.hid (fun (w' : World) (h : Env1 w') => read_spec h os (by omega))
  have HR3 := Lib.hid (fun (w' : World) => rread_spec (w := w') bs (by omega))
  rw [← hres] at HR1 HR3
  generalize readJ os = reso at *
  clear hE hres hb ho
  go_enter Tryz.func4, Tryz.ntmps4
  go_wp2_with fail
  refine (alive_spec HE.out).mono ?_
  rintro e w1 ⟨rfl, hk1⟩
  have H1 := Lib.hid hk1
  clear hk1
  go_wp2_with fail
  refine (HR1.out _ (HE.out.keep H1.out)).mono ?_
  intro e w2 hr2
  obtain ⟨kv, rfl, hj2, hk2⟩ := hr2.job
  obtain ⟨fb, fd, ab, ad, rfl, _, _⟩ := jobRd_cells hj2
  have kB : Keep [] w2 (w2.alloc (.cells #[.slice fb res.job.funcs.length fd, .int .i64 res.job.main, .slice ab res.job.args.length ad, .int .i64 res.job.fuel, .int .i64 res.job.tasks] 25)) := (Keep.refl _ _).alloc _
  have bB : Blk (w2.alloc (.cells #[.slice fb res.job.funcs.length fd, .int .i64 res.job.main, .slice ab res.job.args.length ad, .int .i64 res.job.fuel, .int .i64 res.job.tasks] 25)) w2.heap.size 25 (jobC fb fd ab ad res.job) := Blk.new' _ _ _ _ rfl
  have H2 := Lib.hid (And.intro ((H1.out.trans hk2 (by simp)).trans kB (by simp)) (And.intro bB (hj2.keep0 kB)))
  clear hr2 hj2 hk2 kB bB
  go_upto_region 5 with fail
  generalize (w2.alloc (.cells #[.slice fb res.job.funcs.length fd, .int .i64 res.job.main, .slice ab res.job.args.length ad, .int .i64 res.job.fuel, .int .i64 res.job.tasks] 25)) = w3 at *
  generalize w2.heap.size = g6 at *
  go_wp2_with fail
  refine (HR2.out _ (HE.out.keep H2.out.1)).mono ?_
  rintro e w4 ⟨hk4, fv, av, ps, rfl, hf4, hfs4, ha4⟩
  obtain ⟨fa, fc, rfl⟩ := hf4.own.shape
  obtain ⟨aa, ac, rfl⟩ := ha4.shape
  have kC : Keep [] w4 (w4.alloc (.cells #[.slice fa ps.length fc, .int .i64 reso.job.main, .slice aa reso.job.args.length ac, .int .i64 reso.job.fuel, .int .i64 reso.job.tasks] 25)) := (Keep.refl _ _).alloc _
  have bC : Blk (w4.alloc (.cells #[.slice fa ps.length fc, .int .i64 reso.job.main, .slice aa reso.job.args.length ac, .int .i64 reso.job.fuel, .int .i64 reso.job.tasks] 25)) w4.heap.size 25 [.slice fa ps.length fc, .int .i64 reso.job.main, .slice aa reso.job.args.length ac, .int .i64 reso.job.fuel, .int .i64 reso.job.tasks] := Blk.new' _ _ _ _ rfl
  have H4 := Lib.hid (And.intro (hk4.trans kC (by simp)) (And.intro bC (hf4.own.keep kC (by simp))))
  have hpl : ps.length ≤ 9223372036854775807 := by
    rcases hf4.own.2 with ⟨_, h0⟩ | ⟨_, _, cap, _, _, _, _, h5, h6, _⟩
    · omega
    · unfold maxLen at h6; omega
  clear hk4 hf4 hfs4 ha4 kC bC
  go_upto_region 6 with fail
  generalize (w4.alloc (.cells #[.slice fa ps.length fc, .int .i64 reso.job.main, .slice aa reso.job.args.length ac, .int .i64 reso.job.fuel, .int .i64 reso.job.tasks] 25)) = w5 at *
  generalize w4.heap.size = g9 at *
  have hpI : (ps.length : Int) ≤ 9223372036854775807 := by omega
  clear hpl
  go_wp2_with fail
  go_loopw [12] (fun vi wr => ∃ (i : Nat) (xs : List Value), i ≤ ps.length ∧ vi = .int .i64 i ∧ OwnsAt wr w3.heap.size 36 4 (.slice fa ps.length fc) ps.length xs ∧ Keep (ownBlocks (.slice fa ps.length fc)) w5 wr) (fun vi _ => ps.length - (intOf vi).toNat)
  case atStart => exact ⟨0, _, Nat.zero_le _, rfl, H4.out.2.2, Keep.refl _ _⟩
  case round =>
    obtain ⟨i, xs, hi, rfl, how, hk⟩ := hrel
    have hb9 := H4.out.2.1.keep hk (own_apart H4.out.2.2 H4.out.2.1 (by decide))
    have z0 : wr.cell? ⟨g9, 0, none⟩ = some (.slice fa ps.length fc) := hb9.cell 0
    have HO := Lib.hid (And.intro how hk)
    clear hb9
    by_cases hlt : i < ps.length
    · have hltI : (i : Int) < (ps.length : Int) := by omega
      have hi0 : (0 : Int) ≤ (i : Int) := by omega
      obtain ⟨g, off, cap, hv, _, _, _, _, hcell⟩ := how.form (by omega)
      injection hv with e1 e2 e3
      subst e1
      have hxl := how.1
      have hc : ∀ j, j < 4 → ∃ u, wr.cell? ⟨g, off + (i * 4 + j), none⟩ = some u := fun j hj => by
        obtain ⟨u, hu⟩ := get_ex (show i * 4 + j < xs.length by omega)
        exact ⟨u, hcell _ u hu⟩
      obtain ⟨u0, c0⟩ := hc 0 (by omega)
      obtain ⟨u1, c1⟩ := hc 1 (by omega)
      obtain ⟨u2, c2⟩ := hc 2 (by omega)
      obtain ⟨u3, c3⟩ := hc 3 (by omega)
      rw [Nat.add_zero] at c0
      rw [← Nat.add_assoc] at c1 c2 c3
      have cf : ∀ k, wr.frozen? ⟨g, k, none⟩ = false := fun k => how.free k
      have hset := (((how.set_ (i * 4 + 0) (.string ⟨#[]⟩)).set_ (i * 4 + 1) (.int .i64 0)).set_ (i * 4 + 2) (.int .i64 0)).set_ (i * 4 + 3) (.slice none 0 0)
      rw [Nat.add_zero, ← Nat.add_assoc, ← Nat.add_assoc, ← Nat.add_assoc] at hset
      have HSET := Lib.hid hset
      clear how hk hcell hxl hc hset e2 e3
      go_wp2
      go_roundw
      case rel =>
        refine ⟨i + 1, _, by omega, by go_num, HSET.out, HO.out.2.trans ((((Keep.refl _ _).setCell (by simp [ownBlocks, Value.ownBlock]) _).setCell (by simp [ownBlocks, Value.ownBlock]) _).setCell (by simp [ownBlocks, Value.ownBlock]) _ |>.setCell (by simp [ownBlocks, Value.ownBlock]) _) (fun x hx => Or.inl hx)⟩
      case measure => simp [intOf]; omega
    · obtain rfl : i = ps.length := by omega
      have hbel : Below w3.heap.size w3 wr := Keep.below (keep_below0 H4.out.1 (Nat.le_refl _)) hk H4.out.1.size (fun x hx => own_base how x hx)
      have hj := H2.out.2.2.far hbel
      have hb6 := H2.out.2.1.keep (keep_of_below hbel) (by simp)
      have H5 := Lib.hid (And.intro (H2.out.1.trans (keep_of_below hbel) (by simp)) (And.intro hj hb6))
      clear how hk hbel hj hb6
      go_wp2_with fail
      refine (HR3.out _).mono ?_
      rintro e w7 ⟨hk7, jv, rfl, hj7⟩
      obtain ⟨fb7, fd7, ab7, ad7, rfl, _, _⟩ := jobRd_cells hj7
      have kD : Keep [] w7 (w7.alloc (.cells #[.slice fb7 res.job.funcs.length fd7, .int .i64 res.job.main, .slice ab7 res.job.args.length ad7, .int .i64 res.job.fuel, .int .i64 res.job.tasks] 25)) := (Keep.refl _ _).alloc _
      have bD : Blk (w7.alloc (.cells #[.slice fb7 res.job.funcs.length fd7, .int .i64 res.job.main, .slice ab7 res.job.args.length ad7, .int .i64 res.job.fuel, .int .i64 res.job.tasks] 25)) w7.heap.size 25 (jobC fb7 fd7 ab7 ad7 res.job) := Blk.new' _ _ _ _ rfl
      have k78 := hk7.trans kD (by simp)
      have H7 := Lib.hid (And.intro (H5.out.1.trans k78 (by simp)) (And.intro (H5.out.2.1.keep0 k78) (hj7.keep0 kD)))
      have d6 := H5.out.2.2.keep k78 (by simp)
      clear hk7 hj7 kD k78 z0
      go_upto_region 11 with fail
      generalize (w7.alloc (.cells #[.slice fb7 res.job.funcs.length fd7, .int .i64 res.job.main, .slice ab7 res.job.args.length ad7, .int .i64 res.job.fuel, .int .i64 res.job.tasks] 25)) = w8 at *
      generalize w7.heap.size = g13 at *
      have p0 : w8.cell? ⟨g6, 0, none⟩ = some (.slice fb res.job.funcs.length fd) := d6.cell 0
      have p1 : w8.cell? ⟨g6, 1, none⟩ = some (.int .i64 res.job.main) := d6.cell 1
      have p2 : w8.cell? ⟨g6, 2, none⟩ = some (.slice ab res.job.args.length ad) := d6.cell 2
      have p3 : w8.cell? ⟨g6, 3, none⟩ = some (.int .i64 res.job.fuel) := d6.cell 3
      have p4 : w8.cell? ⟨g6, 4, none⟩ = some (.int .i64 res.job.tasks) := d6.cell 4
      have q0 : w8.cell? ⟨g13, 0, none⟩ = some (.slice fb7 res.job.funcs.length fd7) := bD.cell 0
      have q1 : w8.cell? ⟨g13, 1, none⟩ = some (.int .i64 res.job.main) := bD.cell 1
      have q2 : w8.cell? ⟨g13, 2, none⟩ = some (.slice ab7 res.job.args.length ad7) := bD.cell 2
      have q3 : w8.cell? ⟨g13, 3, none⟩ = some (.int .i64 res.job.fuel) := bD.cell 3
      have q4 : w8.cell? ⟨g13, 4, none⟩ = some (.int .i64 res.job.tasks) := bD.cell 4
      have he1 : (res.err == res.err) = true := by simp
      have he2 : ((res.line : Int) == (res.line : Int)) = true := by simp
      clear d6 bD
      go_wp2_with fail
      refine (num_spec _ _).mono ?_
      rintro e w9 ⟨rfl, rfl⟩
      go_wp2_with fail
      refine (sameJob_spec H7.out.2.1 H7.out.2.2 HS.out.1 (Nat.le_trans HS.out.2 (by decide))).mono ?_
      rintro e w10 ⟨rfl, hk10⟩
      have H10 := Lib.hid (H7.out.1.trans hk10 (by simp))
      clear hk10
      go_wp2_with fail
      go_ret
      exact ⟨rfl, H10.out⟩
set_option maxHeartbeats 3200000 in
theorem reads_long {w : World} (hE : Env1 w) (s t : ByteArray) (h : 20000 < s.size ∨ 20000 < t.size) : Calls Tryz.prog 4 #[.string s, .string t] w fun e w' => e = .returned (.bool true) ∧ Keep [] w w' := by
  have HE := Lib.hid hE
  have HH := Lib.hid h
  clear hE h
  go_enter Tryz.func4, Tryz.ntmps4
  go_wp2_with fail
  refine (alive_spec HE.out).mono ?_
  rintro e w1 ⟨rfl, hk1⟩
  have H1 := Lib.hid hk1
  clear hk1
  by_cases h1 : 20000 < s.size
  · have h1I : (20000 : Int) < (s.size : Int) := by omega
    clear h1
    go_wp2
    go_ret
    exact ⟨rfl, H1.out⟩
  · have h1I : (s.size : Int) ≤ 20000 := by omega
    have h2I : (20000 : Int) < (t.size : Int) := by have := HH.out; omega
    clear h1
    go_wp2
    go_ret
    exact ⟨rfl, H1.out⟩
theorem reads_all {w : World} (hE : Env1 w) (s t : ByteArray) : Calls Tryz.prog 4 #[.string s, .string t] w fun e w' => e = .returned (.bool true) ∧ Keep [] w w' := by
  rcases Nat.lt_or_ge 20000 s.size with h1 | h1
  · exact reads_long hE s t (Or.inl h1)
  rcases Nat.lt_or_ge 20000 t.size with h2 | h2
  · exact reads_long hE s t (Or.inr h2)
  have e1 : s.data.toList.length = s.size := by rw [← strB_size, strB_of]
  have e2 : t.data.toList.length = t.size := by rw [← strB_size, strB_of]
  have hw := reads_walk hE s.data.toList t.data.toList (by rw [e1]; exact h1) (by rw [e2]; exact h2)
  rw [strB_of, strB_of] at hw
  exact hw
set_option maxRecDepth 100000 in
theorem walk_asmReads {H : Type} {enc : TypeId × Value → H} {b0 : Nat} {v v' : Value} {d d' : DataW H} {p p' : List MemPlace} (W : World) (hE : Env1 W)
    (ho : Value.okWide Tryz.prog W .any b0 9 v) (h : DataW.Trod enc Tryz.prog W 0 (fun _ => true) true 9 v d p) (ho' : Value.okWide Tryz.prog W .any b0 9 v') (h' : DataW.Trod enc Tryz.prog W 0 (fun _ => true) true 9 v' d' p') : Calls Tryz.prog 4 #[v, v'] W fun e w' => e = .returned (.bool true) ∧ Below W.heap.size W w' := by
  obtain ⟨s, rfl, _, _, _⟩ := open_string Tryz.underlying9 ho h
  obtain ⟨t, rfl, _, _, _⟩ := open_string Tryz.underlying9 ho' h'
  exact (reads_all hE s t).mono fun e w' ⟨h1, h2⟩ => ⟨h1, h2.to_below⟩
end Go.Proofs.YtbdkmfcgnolihaaGreatDoor
