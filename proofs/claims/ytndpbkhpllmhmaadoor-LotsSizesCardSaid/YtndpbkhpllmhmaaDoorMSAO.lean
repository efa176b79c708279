/- What a card's premises give: the wrap with the world's shape and the listed variables; the library's variables out of them; the witness' world. the reference's numbers, words and lines: Digits. The reference: the words of a kind, the text of a script. The reference: the text of a script. -/
import Derived.Test.YtndpbkhpllmhmaaDoorRows
import Derived.WalkKit
import Derived.ProofKit
import Derived.SizedLaws
import Derived.Handed
import Derived.HandedShaped
import Derived.Lay
import Derived.Shelf.Vars
import Derived.Stop.LaidErr
import Derived.Lib.LaidTab
import Derived.MakeChecks
import Derived.Test.YtndpbkhpllmhmaaDoorMSAC
import Derived.WalkSpells
import Derived.WalkLawsBesides
import Derived.RegionTactic
import Derived.ChangeAlike
import Derived.BigQuiet
import Derived.Deep.QuietTactic
import Derived.StillTailTactics
import Derived.IntWalk
import Derived.Handy
import Derived.Lib.Hide
import Derived.Deep.AppendLies
import Derived.Deep.RegionWith
import Derived.Test.YtndpbkhpllmhmaaDoorMSAA
import Derived.Test.YtndpbkhpllmhmaaDoorMSAB
import Derived.Carry
import Derived.Deep.RegionHeld3
import Derived.BigRegion
import Derived.Maps.OwnSet
import Derived.Maps.Views
import Derived.Maps.StringElems
import Derived.Test.YtndpbkhpllmhmaaDoorMSAK
namespace Go.Proofs.YtndpbkhpllmhmaaDoor
set_option linter.unusedSimpArgs false
set_option linter.unnecessarySimpa false
set_option linter.unusedVariables false
open Go Go.RowKit Go.ChangeShapes Go.WideShapes Go.ChangeAt Go.Lib
/-- THE WRAP FOR A ROW THAT LISTS VARIABLES AND WHOSE CONTRACT WANTS THE WORLD's SHAPE. -/
theorem returnsInHanded_and_shaped {H : Type} {enc : TypeId × Value → H} {a : Assume} {C : Checked} {os : Os} {f : FuncId} {fn : Func} {s : ChangeSpec} {conds : List PathCond} {apart fresh handsOn again : Bool} {X : World → Array Value → Prop}
    (hX : ∀ (w w' : World) (args : Array Value), w.heap = w'.heap → X w args → X w' args)
    (own : ownKnob C.prog.godebug = none) (started : os.Started) (noInit : C.prog.inits.idxOf? f = none) (hfn : C.prog.funcs[f]? = some fn)
    (witness : ∃ (w : World) (tape : Tape) (i : Input), w.os = os ∧ (w.forCall tape i).Shaped C.prog ∧ i.vars = [] ∧ Input.okWide C.prog (w.forCall tape i) .any w.heap.size f i ∧
      ((s.pre enc C.prog fn conds apart (w.forCall tape i).memory i.args ∧ X (w.forCall tape i).memory i.args) ∧ sizedMet enc C.prog fn (OpenSpec.ofChange s) apart (w.forCall tape i).memory i.args) ∧ a.holds C.prog (lone (Frame.enter C.prog f i.args .normal) [] (w.forCall tape i)))
    (contract : ∀ (W : World) (base : Nat) (args : Array Value) (ds gs : List (DataW H)) (before : List MemPlace),
      (∀ (j : Nat) t v, fn.params[j]? = some t → args[j]? = some v → Value.okWide C.prog W .any base t v) →
      DataW.Whole enc C.prog fn.params.toList s.vars apart W args.toList ds gs before →
      conds.all (PathCond.test C.prog ⟨fn.params.toList, ds, s.plain.varTypes C.prog, gs⟩) = true → X W args → W.ShapedOpen C.prog →
      Calls C.prog f args W fun e W' => ∃ v, e = .returned v ∧ s.post enc C.prog fn apart fresh handsOn again W args v W') :
    ReturnsInHanded a C os f .any (fun w args => (s.pre enc C.prog fn conds apart w args ∧ X w args) ∧ sizedMet enc C.prog fn (OpenSpec.ofChange s) apart w args) (s.post enc C.prog fn apart fresh handsOn again) := by
  refine returnsInHanded_of_calls own started noInit witness ?_
  intro w tape i _ hsh _ hok hpre hholds
  obtain ⟨_, _, _, fn', hfn', _, _, _, _, hval⟩ := hok
  have e : fn' = fn := Option.some.inj (hfn'.symm.trans hfn)
  subst e
  obtain ⟨⟨⟨ds, gs, before, hw, hc⟩, hx⟩, hz⟩ := hpre
  have hw' := DataW.Whole.of_heap (w' := w.forCall tape i) (by rfl) hw
  refine (contract (w.forCall tape i) w.heap.size i.args ds gs before hval hw' hc (hX _ _ _ (by rfl) hx) hsh).mono fun e W' ⟨v, he, hp⟩ => ?_
  subst he
  exact ChangeSpec.post_blind hp
theorem starName : "*" ++ "errors.errorString" = "*errors.errorString" := by decide
theorem rowErr (u : TypeId) (h : Tryd.prog.typeName? 3 u = some "*errors.errorString") : u = 201 :=
  typeName_ptr_named (nm := "errors.errorString") (by rw [starName]; kernel_rfl) (by kernel_rfl) (by decide) u (by rw [starName]; exact h)
theorem max_of_shaped {W : World} (h : W.ShapedOpen Tryd.prog) : ∃ m, W.cell? ⟨0, 0, none⟩ = some (.int .i64 m) :=
  cell_of_shapedOpen_int (zero := #[.int .i64 0]) (t := 3) h (of_decide_eq_true (by kernel_rfl)) (by kernel_rfl) rfl (by kernel_rfl) (by kernel_rfl) Tryd.underlying3
theorem gTab : Tryd.prog.globalNamed "internal/strconv.uint64pow10" = some 3 := by kernel_rfl
theorem gTabType : (Tryd.prog.globals[3]?).map (·.type) = some 197 := by kernel_rfl
theorem tab_of {rest : List (String × DataW Unit)} {W : World} (h : laidMet Tryd.prog (("internal/strconv.uint64pow10", Rows.laid_internal_strconv_uint64pow10) :: rest) W) : TabIs Tryd.prog W "internal/strconv.uint64pow10" .u64 pow10Tab :=
  tabIs_of_head (rest := rest) gTab gTabType Tryd.underlying197 Tryd.underlying147 (by kernel_rfl) (by kernel_rfl) h
theorem gSyn : Tryd.prog.globalNamed "strconv.ErrSyntax" = some 1 := by kernel_rfl
theorem gSynType : (Tryd.prog.globals[1]?).map (·.type) = some 91 := by kernel_rfl
theorem gRng : Tryd.prog.globalNamed "strconv.ErrRange" = some 2 := by kernel_rfl
theorem gRngType : (Tryd.prog.globals[2]?).map (·.type) = some 91 := by kernel_rfl
theorem env3 {W : World} (hs : W.ShapedOpen Tryd.prog) (h : laidMet Tryd.prog Rows.lotsSizesRow.laid W) : Env W := ⟨max_of_shaped hs, tab_of h.tail.tail⟩
theorem env5 {W : World} (hs : W.ShapedOpen Tryd.prog) (h : laidMet Tryd.prog Rows.fairRoundsRow.laid W) : Env W := ⟨max_of_shaped hs, tab_of h.tail.tail⟩
theorem env7 {W : World} (hs : W.ShapedOpen Tryd.prog) (h : laidMet Tryd.prog Rows.fairWordsRow.laid W) : Env1 W := by
  obtain ⟨a, s, h1, _⟩ := laid_sentinel h.tail.tail.tail.tail gRng gRngType Tryd.underlying91 rowErr Tryd.underlying201 Tryd.underlying203 rfl rfl Tryd.underlying9 (by kernel_rfl) (by kernel_rfl)
  obtain ⟨b, t, h2, _⟩ := laid_sentinel h.tail.tail.tail.tail.tail gSyn gSynType Tryd.underlying91 rowErr Tryd.underlying201 Tryd.underlying203 rfl rfl Tryd.underlying9 (by kernel_rfl) (by kernel_rfl)
  exact ⟨⟨max_of_shaped hs, tab_of h.tail.tail⟩, ⟨_, _, h2⟩, ⟨_, _, h1⟩⟩
set_option maxRecDepth 100000 in
theorem plain3 (W : World) : laidMetH Tryd.prog Rows.lotsSizesRow.laid W = laidMet Tryd.prog Rows.lotsSizesRow.laid W := MakeChecks.laidMetH_plain _ _ _ (by kernel_rfl)
set_option maxRecDepth 100000 in
theorem plain5 (W : World) : laidMetH Tryd.prog Rows.fairRoundsRow.laid W = laidMet Tryd.prog Rows.fairRoundsRow.laid W := MakeChecks.laidMetH_plain _ _ _ (by kernel_rfl)
set_option maxRecDepth 100000 in
theorem plain7 (W : World) : laidMetH Tryd.prog Rows.fairWordsRow.laid W = laidMet Tryd.prog Rows.fairWordsRow.laid W := MakeChecks.laidMetH_plain _ _ _ (by kernel_rfl)
end Go.Proofs.YtndpbkhpllmhmaaDoor
namespace Go.Proofs.YtndpbkhpllmhmaaDoor
set_option linter.unusedSimpArgs false
set_option linter.unnecessarySimpa false
set_option linter.unusedVariables false
open Go.RowKit
theorem dig_fin : ∀ d : Fin 10, (⟨#[48, 49, 50, 51, 52, 53, 54, 55, 56, 57]⟩ : ByteArray).extract d.val (d.val + 1) = strB [UInt8.ofNat (48 + d.val)] := by decide +kernel
theorem dig_piece {d : Nat} (h : d < 10) : (⟨#[48, 49, 50, 51, 52, 53, 54, 55, 56, 57]⟩ : ByteArray).extract d (d + 1) = strB [UInt8.ofNat (48 + d)] := dig_fin ⟨d, h⟩
theorem strB_app (a b : BS) : strB a ++ strB b = strB (a ++ b) := by
  apply ByteArray.ext
  rw [ByteArray.data_append]
  simp [strB]
theorem ret_string {a b : ByteArray} (h : a = b) : Ending.returned (.string a) = .returned (.string b) := by rw [h]
set_option maxHeartbeats 1600000 in
theorem digits_nat (u : Nat) : ∀ (w : World), u ≤ 9223372036854775807 → Calls Tryd.prog 30 #[.int .i64 (u : Int)] w fun e w' => e = .returned (.string (strB (Lib.decDigits u))) ∧ w = w' := by
  induction u using Nat.strongRecOn with
  | ind u ih =>
    intro w hu
    have h0 : (0 : Int) ≤ (u : Int) := by omega
    have h1 : (u : Int) ≤ 9223372036854775807 := by omega
    have hm0 : (0 : Int) ≤ (u : Int) % 10 := by omega
    have hm9 : (u : Int) % 10 < 10 := by omega
    by_cases hs : u < 10
    · have hsI : (u : Int) < 10 := by omega
      have Hs := Lib.hid hs
      clear hs ih hu
      go_enter Tryd.func30, Tryd.ntmps30
      go_wp2
      go_ret
      exact ⟨ret_string (by rw [dig_piece (by omega), dec_small Hs.out, Nat.mod_eq_of_lt Hs.out]), rfl⟩
    · have hsI : (9 : Int) < (u : Int) := by omega
      have hi := ih (u / 10) (by omega) w (by omega)
      have hc : (((u / 10 : Nat)) : Int) = (u : Int) / 10 := by omega
      rw [hc] at hi
      have Hi := Lib.hid hi
      have Hs := Lib.hid hs
      have hz : (strB (Lib.decDigits (u / 10))).size ≤ 19 := by rw [strB_size]; exact dec_len (by omega)
      clear hs ih hi hc
      go_enter Tryd.func30, Tryd.ntmps30
      go_wp2_with fail
      refine Hi.out.mono ?_
      rintro e w' ⟨rfl, rfl⟩
      go_wp2
      go_ret
      exact ⟨ret_string (by rw [dig_piece (by omega), strB_app, dec_big Hs.out]), rfl⟩
set_option maxHeartbeats 1600000 in
theorem digits_spec (w : World) {n : Int} (hn : In64 n) : Calls Tryd.prog 30 #[.int .i64 n] w fun e w' => e = .returned (.string (itoaB n)) ∧ w = w' := by
  obtain ⟨h1, h2⟩ := hn
  unfold itoaB Lib.itoa
  by_cases hneg : n < 0
  · rw [if_pos hneg]
    by_cases hmin : n = -9223372036854775808
    · subst hmin
      have e : strB (45 :: Lib.decDigits (-9223372036854775808 : Int).natAbs) = ⟨#[45, 57, 50, 50, 51, 51, 55, 50, 48, 51, 54, 56, 53, 52, 55, 55, 53, 56, 48, 56]⟩ := by
        have h := (readInt_some (w := [45, 57, 50, 50, 51, 51, 55, 50, 48, 51, 54, 56, 53, 52, 55, 55, 53, 56, 48, 56]) (n := -9223372036854775808) (by decide +kernel)).2
        unfold Lib.itoa at h
        rw [if_pos (by decide)] at h
        rw [← h]
        rfl
      rw [e]
      clear e h1 h2 hneg
      go_enter Tryd.func30, Tryd.ntmps30
      go_wp2
      go_ret
      exact ⟨rfl, rfl⟩
    · obtain ⟨u, hu⟩ : ∃ u : Nat, n = -(u : Int) := ⟨n.natAbs, by omega⟩
      subst hu
      have e : (-(u : Int)).natAbs = u := by omega
      rw [e]
      have hd := Lib.hid (digits_nat u w (by omega))
      have hne : ((-(u : Int)) == -9223372036854775808) = false := by simpa using hmin
      have hup : (0 : Int) < (u : Int) := by omega
      have hup2 : (u : Int) ≤ 9223372036854775807 := by omega
      have hz : (strB (Lib.decDigits u)).size ≤ 19 := by rw [strB_size]; exact dec_len (by omega)
      clear e hmin h1 h2 hneg
      go_enter Tryd.func30, Tryd.ntmps30
      go_wp2_with fail
      refine hd.out.mono ?_
      rintro e w' ⟨rfl, rfl⟩
      go_wp2
      go_ret
      exact ⟨ret_string (strB_app [45] _), rfl⟩
  · rw [if_neg hneg]
    obtain ⟨u, rfl⟩ := Int.eq_ofNat_of_zero_le (show 0 ≤ n by omega)
    exact digits_nat u w (by omega)
/-! ### ReadInt -/
def RdPost (r : Option Int) (w : World) (e : Ending) (w' : World) : Prop := (match r with | some n => e = .returned (.tuple #[.int .i64 n, .bool true]) | none => e = .returned (.tuple #[.int .i64 0, .bool false])) ∧ w = w'
theorem strB_get {d : BS} {i : Nat} (h : i < (strB d).size) : (strB d)[i]'h = d[i]'(by rw [strB_size] at h; exact h) := by
  simp [strB, ByteArray.getElem_eq_getElem_data]
theorem strB_tail (b : UInt8) (r : BS) : (strB (b :: r)).extract 1 (r.length + 1) = strB r := by
  apply ByteArray.ext
  rw [ByteArray.data_extract]
  simp [strB]
theorem drop_cons {d : BS} {i : Nat} (h : i < d.length) : d.drop i = d[i] :: d.drop (i + 1) := List.drop_eq_getElem_cons h

/-- behind the sign -/
theorem readD_fin {neg : Bool} {d : BS} {m : Int} (h0 : ¬ (d.length < 1 ∨ 19 < d.length ∨ (d.head?.map UInt8.toNat = some 48 ∧ (1 < d.length ∨ neg = true)))) (h : readDigs 0 d = some m) : readIntD neg d = if neg = true then some m else if m = -9223372036854775808 then none else some (-m) := by
  unfold readIntD
  rw [if_neg h0, h]
theorem readD_none {neg : Bool} {d : BS} (h : readDigs 0 d = none) : readIntD neg d = none := by
  unfold readIntD
  split
  · rfl
  · rw [h]
theorem readD_bad {neg : Bool} {d : BS} (h0 : d.length < 1 ∨ 19 < d.length ∨ (d.head?.map UInt8.toNat = some 48 ∧ (1 < d.length ∨ neg = true))) : readIntD neg d = none := by
  unfold readIntD
  rw [if_pos h0]
theorem rd_none {r : Option Int} (h : r = none) (w : World) : RdPost r w (.returned (.tuple #[.int .i64 0, .bool false])) w := by subst h; exact ⟨rfl, rfl⟩
theorem rd_some {r : Option Int} {n : Int} (h : r = some n) (w : World) : RdPost r w (.returned (.tuple #[.int .i64 n, .bool true])) w := by subst h; exact ⟨rfl, rfl⟩
set_option maxHeartbeats 3200000 in
set_option maxRecDepth 100000 in
theorem readInt_spec (w : World) (bs : BS) (hl : bs.length ≤ 1000000) : Calls Tryd.prog 66 #[.string (strB bs)] w (RdPost (readInt bs) w) := by
  have hsz : (strB bs).size ≤ 1000000 := by rw [strB_size]; exact hl
  cases bs with
  | nil =>
    have e0 : (strB []).size = 0 := rfl
    go_enter Tryd.func66, Tryd.ntmps66
    go_wp2
    go_ret2
    exact rd_none rfl w
  | cons b r =>
    have hr : r.length + 1 ≤ 1000000 := by simpa using hl
    clear hl hsz
    by_cases hb : b = 45
    · subst hb
      have hi : readInt (45 :: r) = readIntD true r := by unfold readInt; rw [if_pos (by rfl)]; rfl
      rw [hi]
      have h45 : ∀ h, ((((strB (45 :: r))[0]'h).toNat : Int) == 45) = true := fun h => by rw [strB_get]; rfl
      clear hi
      cases r with
      | nil =>
        have Hb := Lib.hid (readD_bad (neg := true) (d := []) (Or.inl (by decide)))
        go_enter Tryd.func66, Tryd.ntmps66
        go_wp2
        go_ret2
        exact rd_none Hb.out w
      | cons c ds =>
        have hd : (strB (45 :: c :: ds)).extract 1 (ds.length + 1 + 1) = strB (c :: ds) := strB_tail 45 (c :: ds)
        have e0 : (strB (45 :: c :: ds)).size = ds.length + 1 + 1 := by rw [strB_size]; rfl
        have e1 : (strB (c :: ds)).size = ds.length + 1 := by rw [strB_size]; rfl
        by_cases h19 : 19 < ds.length + 1
        · have h19I : (19 : Int) < (ds.length : Int) + 1 := by omega
          have Hb := Lib.hid (readD_bad (neg := true) (d := c :: ds) (Or.inr (Or.inl (by simpa using h19))))
          clear h19
          go_enter Tryd.func66, Tryd.ntmps66
          go_wp2
          go_ret2
          exact rd_none Hb.out w
        · have h19I : (ds.length : Int) + 1 ≤ 19 := by omega
          by_cases hc : c.toNat = 48
          · have h48 : ∀ h, ((((strB (c :: ds))[0]'h).toNat : Int) == 48) = true := fun h => by rw [strB_get]; simp [hc]
            have Hb := Lib.hid (readD_bad (neg := true) (d := c :: ds) (Or.inr (Or.inr ⟨by simp [hc], Or.inr rfl⟩)))
            clear h19 hc
            go_enter Tryd.func66, Tryd.ntmps66
            go_wp2
            all_goals
              go_ret2
              exact rd_none Hb.out w
          · have h48 : ∀ h, ((((strB (c :: ds))[0]'h).toNat : Int) == 48) = false := fun h => by rw [strB_get]; simp; omega
            have hok : ¬ ((c :: ds).length < 1 ∨ 19 < (c :: ds).length ∨ ((c :: ds).head?.map UInt8.toNat = some 48 ∧ (1 < (c :: ds).length ∨ true = true))) := by simp [hc]; omega
            have Hok := Lib.hid hok
            clear h19 hc hok
            go_enter Tryd.func66, Tryd.ntmps66
            go_wp2_with fail
            go_loopw [6, 7, 8] (fun v6 v7 _ wr => w = wr ∧ ∃ (i : Nat) (n : Int), i ≤ ds.length + 1 ∧ v7 = .int .i64 i ∧ v6 = .int .i64 n ∧ n ≤ 0 ∧ -9223372036854775808 ≤ n ∧ readDigs n ((c :: ds).drop i) = readDigs 0 (c :: ds)) (fun _ v _ _ => ds.length + 1 - (intOf v).toNat)
            case atStart => exact ⟨rfl, 0, 0, by omega, rfl, rfl, by omega, by omega, rfl⟩
            case round =>
              obtain ⟨rfl, i, n, hi, rfl, rfl, hn0, hn1, hrd⟩ := hrel
              by_cases hlt : i < ds.length + 1
              · have hltI : (i : Int) < (ds.length : Int) + 1 := by omega
                have hiI : (i : Int) ≤ 19 := by omega
                obtain ⟨x, hx⟩ : ∃ x : UInt8, x = (c :: ds)[i]'(by simpa using hlt) := ⟨_, rfl⟩
                have hget : ∀ h, ((strB (c :: ds))[i]'h) = x := fun h => by rw [strB_get, hx]
                have hdrop : (c :: ds).drop i = x :: (c :: ds).drop (i + 1) := by rw [hx]; exact drop_cons _
                rw [hdrop] at hrd
                have hx0 : (0 : Int) ≤ (x.toNat : Int) := by omega
                have hx1 : (x.toNat : Int) ≤ 255 := by have := x.toNat_lt; omega
                have hwc : IntKind.i64.wrap (x.toNat : Int) = (x.toNat : Int) := IntWalk.i64_in _ (by omega)
                cases hst : digStep n x with
                | none =>
                  have Hb := Lib.hid (readD_none (neg := true) (d := c :: ds) (by rw [← hrd, readDigs, hst]))
                  by_cases h1 : (x.toNat : Int) < 48
                  · have h1b : decide ((x.toNat : Int) - 48 < 0) = true := by simp; omega
                    clear hx hdrop hrd hst hlt hi
                    go_wp2
                    all_goals
                      go_ret2
                      exact rd_none Hb.out w
                  · by_cases h2 : 57 < (x.toNat : Int)
                    · clear hx hdrop hrd hst hlt hi
                      go_wp2
                      all_goals
                        go_ret2
                        exact rd_none Hb.out w
                    · have h3 : n < Int.tdiv (-9223372036854775808 + ((x.toNat : Int) - 48)) 10 := by
                        unfold digStep at hst
                        split at hst
                        · omega
                        · cases hst
                      clear hx hdrop hrd hst hlt hi
                      go_wp2
                      all_goals
                        go_ret2
                        exact rd_none Hb.out w
                | some m =>
                  have hm : m = 10 * n - ((x.toNat : Int) - 48) ∧ -9223372036854775808 ≤ m ∧ m ≤ 0 ∧ 48 ≤ (x.toNat : Int) ∧ (x.toNat : Int) ≤ 57 ∧ -9223372036854775808 ≤ 10 * n := by
                    obtain ⟨y, hy, rfl, hm, hlo⟩ := digStep_some hst hn0
                    have := byte_digit hy
                    refine ⟨by omega, hlo, by omega, by omega, by omega, by omega⟩
                  have h3 : ¬ n < Int.tdiv (-9223372036854775808 + ((x.toNat : Int) - 48)) 10 := by
                    intro hlt3
                    unfold digStep at hst
                    rw [if_pos (Or.inr (Or.inr hlt3))] at hst
                    cases hst
                  rw [readDigs, hst] at hrd
                  obtain ⟨hm1, hm2, hm3, hm4, hm5, hm6⟩ := hm
                  have hw10 : IntKind.i64.wrap (10 * n) = 10 * n := IntWalk.i64_in _ (by omega)
                  have hwm : IntKind.i64.wrap (10 * n - ((x.toNat : Int) - 48)) = 10 * n - ((x.toNat : Int) - 48) := IntWalk.i64_in _ (by omega)
                  have Hr := Lib.hid (And.intro hrd (And.intro hm1 (And.intro hm2 (And.intro hm3 hlt))))
                  clear hx hdrop hst hlt hi hrd hm1 hm2 hm3
                  go_wp2
                  go_roundw
                  case rel =>
                    obtain ⟨g1, g2, g3, g4, g5⟩ := Hr.out
                    exact ⟨by first | rfl | trivial, i + 1, m, by omega, by go_num, by rw [g2], g4, g3, g1⟩
                  case measure => simp [intOf]; omega
              · obtain rfl : i = ds.length + 1 := by omega
                have hrn : readDigs 0 (c :: ds) = some n := by rw [← hrd, List.drop_eq_nil_of_le (by simp)]; rfl
                have hf := readD_fin (neg := true) (by simpa using Hok.out) hrn
                clear hrd hrn hlt hi
                have Hf := Lib.hid (show readIntD true (c :: ds) = some n from hf)
                clear hf
                go_wp2
                go_ret2
                exact rd_some Hf.out w
    · have hi : readInt (b :: r) = readIntD false (b :: r) := by unfold readInt; rw [if_neg (by simp; exact fun e => hb (UInt8.toNat_inj.1 e))]
      rw [hi]
      have hb45 : b.toNat ≠ 45 := fun e => hb (UInt8.toNat_inj.1 e)
      have h45 : ∀ h, ((((strB (b :: r))[0]'h).toNat : Int) == 45) = false := fun h => by rw [strB_get]; simp; omega
      clear hi hb hb45
      have e1 : (strB (b :: r)).size = r.length + 1 := by rw [strB_size]; rfl
      by_cases h19 : 19 < r.length + 1
      · have h19I : (19 : Int) < (r.length : Int) + 1 := by omega
        have Hb := Lib.hid (readD_bad (neg := false) (d := b :: r) (Or.inr (Or.inl (by simpa using h19))))
        clear h19
        go_enter Tryd.func66, Tryd.ntmps66
        go_wp2
        go_ret2
        exact rd_none Hb.out w
      · have h19I : (r.length : Int) + 1 ≤ 19 := by omega
        by_cases hc : b.toNat = 48 ∧ 1 ≤ r.length
        · have h48 : ∀ h, ((((strB (b :: r))[0]'h).toNat : Int) == 48) = true := fun h => by rw [strB_get]; simp [hc]
          have Hb := Lib.hid (readD_bad (neg := false) (d := b :: r) (Or.inr (Or.inr ⟨by simp [hc], Or.inl (by simp; exact Nat.lt_of_lt_of_le (by decide) hc.2)⟩)))
          have h1I : (1 : Int) < (r.length : Int) + 1 := by omega
          clear h19 hc
          go_enter Tryd.func66, Tryd.ntmps66
          go_wp2
          all_goals
            go_ret2
            exact rd_none Hb.out w
        · have hok : ¬ ((b :: r).length < 1 ∨ 19 < (b :: r).length ∨ ((b :: r).head?.map UInt8.toNat = some 48 ∧ (1 < (b :: r).length ∨ false = true))) := by
            rintro (h | h | ⟨h, h | h⟩)
            · simp at h
            · simp at h; omega
            · rename_i h2; exact hc ⟨by simpa using h2, by simp at h; omega⟩
            · cases h
          have Hok := Lib.hid hok
          by_cases h48b : b.toNat = 48
          · have h48 : ∀ h, ((((strB (b :: r))[0]'h).toNat : Int) == 48) = true := fun h => by rw [strB_get]; simp [h48b]
            have h1I : ¬ (1 : Int) < (r.length : Int) + 1 := by
              have : ¬ 1 ≤ r.length := fun h => hc ⟨h48b, h⟩
              omega
            clear h19 hc hok h48b
            go_enter Tryd.func66, Tryd.ntmps66
            go_wp2_with fail
            go_loopw [6, 7, 8] (fun v6 v7 _ wr => w = wr ∧ ∃ (i : Nat) (n : Int), i ≤ r.length + 1 ∧ v7 = .int .i64 i ∧ v6 = .int .i64 n ∧ n ≤ 0 ∧ -9223372036854775808 ≤ n ∧ readDigs n ((b :: r).drop i) = readDigs 0 (b :: r)) (fun _ v _ _ => r.length + 1 - (intOf v).toNat)
            case atStart => exact ⟨rfl, 0, 0, by omega, rfl, rfl, by omega, by omega, rfl⟩
            case round =>
              obtain ⟨rfl, i, n, hi, rfl, rfl, hn0, hn1, hrd⟩ := hrel
              by_cases hlt : i < r.length + 1
              · have hltI : (i : Int) < (r.length : Int) + 1 := by omega
                have hiI : (i : Int) ≤ 19 := by omega
                obtain ⟨x, hx⟩ : ∃ x : UInt8, x = (b :: r)[i]'(by simpa using hlt) := ⟨_, rfl⟩
                have hget : ∀ h, ((strB (b :: r))[i]'h) = x := fun h => by rw [strB_get, hx]
                have hdrop : (b :: r).drop i = x :: (b :: r).drop (i + 1) := by rw [hx]; exact drop_cons _
                rw [hdrop] at hrd
                have hx0 : (0 : Int) ≤ (x.toNat : Int) := by omega
                have hx1 : (x.toNat : Int) ≤ 255 := by have := x.toNat_lt; omega
                have hwc : IntKind.i64.wrap (x.toNat : Int) = (x.toNat : Int) := IntWalk.i64_in _ (by omega)
                cases hst : digStep n x with
                | none =>
                  have Hb := Lib.hid (readD_none (neg := false) (d := b :: r) (by rw [← hrd, readDigs, hst]))
                  by_cases h1 : (x.toNat : Int) < 48
                  · have h1b : decide ((x.toNat : Int) - 48 < 0) = true := by simp; omega
                    clear hx hdrop hrd hst hlt hi
                    go_wp2
                    all_goals
                      go_ret2
                      exact rd_none Hb.out w
                  · by_cases h2 : 57 < (x.toNat : Int)
                    · clear hx hdrop hrd hst hlt hi
                      go_wp2
                      all_goals
                        go_ret2
                        exact rd_none Hb.out w
                    · have h3 : n < Int.tdiv (-9223372036854775808 + ((x.toNat : Int) - 48)) 10 := by
                        unfold digStep at hst
                        split at hst
                        · omega
                        · cases hst
                      clear hx hdrop hrd hst hlt hi
                      go_wp2
                      all_goals
                        go_ret2
                        exact rd_none Hb.out w
                | some m =>
                  have hm : m = 10 * n - ((x.toNat : Int) - 48) ∧ -9223372036854775808 ≤ m ∧ m ≤ 0 ∧ 48 ≤ (x.toNat : Int) ∧ (x.toNat : Int) ≤ 57 ∧ -9223372036854775808 ≤ 10 * n := by
                    obtain ⟨y, hy, rfl, hm, hlo⟩ := digStep_some hst hn0
                    have := byte_digit hy
                    refine ⟨by omega, hlo, by omega, by omega, by omega, by omega⟩
                  have h3 : ¬ n < Int.tdiv (-9223372036854775808 + ((x.toNat : Int) - 48)) 10 := by
                    intro hlt3
                    unfold digStep at hst
                    rw [if_pos (Or.inr (Or.inr hlt3))] at hst
                    cases hst
                  rw [readDigs, hst] at hrd
                  obtain ⟨hm1, hm2, hm3, hm4, hm5, hm6⟩ := hm
                  have hw10 : IntKind.i64.wrap (10 * n) = 10 * n := IntWalk.i64_in _ (by omega)
                  have hwm : IntKind.i64.wrap (10 * n - ((x.toNat : Int) - 48)) = 10 * n - ((x.toNat : Int) - 48) := IntWalk.i64_in _ (by omega)
                  have Hr := Lib.hid (And.intro hrd (And.intro hm1 (And.intro hm2 (And.intro hm3 hlt))))
                  clear hx hdrop hst hlt hi hrd hm1 hm2 hm3
                  go_wp2
                  go_roundw
                  case rel =>
                    obtain ⟨g1, g2, g3, g4, g5⟩ := Hr.out
                    exact ⟨by first | rfl | trivial, i + 1, m, by omega, by go_num, by rw [g2], g4, g3, g1⟩
                  case measure => simp [intOf]; omega
              · obtain rfl : i = r.length + 1 := by omega
                have hrn : readDigs 0 (b :: r) = some n := by rw [← hrd, List.drop_eq_nil_of_le (by simp)]; rfl
                have hf := readD_fin (neg := false) Hok.out hrn
                clear hrd hrn hlt hi
                by_cases hmin : n = -9223372036854775808
                · subst hmin
                  have Hf := Lib.hid (show readIntD false (b :: r) = none from hf)
                  clear hf
                  go_wp2
                  go_ret2
                  exact rd_none Hf.out w
                · have Hf := Lib.hid (show readIntD false (b :: r) = some (-n) from by rw [hf, if_neg (by decide), if_neg hmin])
                  have hmb : (n == -9223372036854775808) = false := by simpa using hmin
                  have hlo : -9223372036854775807 ≤ n := by omega
                  clear hf hmin
                  go_wp2
                  go_ret2
                  exact rd_some Hf.out w
          · have h48 : ∀ h, ((((strB (b :: r))[0]'h).toNat : Int) == 48) = false := fun h => by rw [strB_get]; simp; omega
            clear h19 hc hok h48b
            go_enter Tryd.func66, Tryd.ntmps66
            go_wp2_with fail
            go_loopw [6, 7, 8] (fun v6 v7 _ wr => w = wr ∧ ∃ (i : Nat) (n : Int), i ≤ r.length + 1 ∧ v7 = .int .i64 i ∧ v6 = .int .i64 n ∧ n ≤ 0 ∧ -9223372036854775808 ≤ n ∧ readDigs n ((b :: r).drop i) = readDigs 0 (b :: r)) (fun _ v _ _ => r.length + 1 - (intOf v).toNat)
            case atStart => exact ⟨rfl, 0, 0, by omega, rfl, rfl, by omega, by omega, rfl⟩
            case round =>
              obtain ⟨rfl, i, n, hi, rfl, rfl, hn0, hn1, hrd⟩ := hrel
              by_cases hlt : i < r.length + 1
              · have hltI : (i : Int) < (r.length : Int) + 1 := by omega
                have hiI : (i : Int) ≤ 19 := by omega
                obtain ⟨x, hx⟩ : ∃ x : UInt8, x = (b :: r)[i]'(by simpa using hlt) := ⟨_, rfl⟩
                have hget : ∀ h, ((strB (b :: r))[i]'h) = x := fun h => by rw [strB_get, hx]
                have hdrop : (b :: r).drop i = x :: (b :: r).drop (i + 1) := by rw [hx]; exact drop_cons _
                rw [hdrop] at hrd
                have hx0 : (0 : Int) ≤ (x.toNat : Int) := by omega
                have hx1 : (x.toNat : Int) ≤ 255 := by have := x.toNat_lt; omega
                have hwc : IntKind.i64.wrap (x.toNat : Int) = (x.toNat : Int) := IntWalk.i64_in _ (by omega)
                cases hst : digStep n x with
                | none =>
                  have Hb := Lib.hid (readD_none (neg := false) (d := b :: r) (by rw [← hrd, readDigs, hst]))
                  by_cases h1 : (x.toNat : Int) < 48
                  · have h1b : decide ((x.toNat : Int) - 48 < 0) = true := by simp; omega
                    clear hx hdrop hrd hst hlt hi
                    go_wp2
                    all_goals
                      go_ret2
                      exact rd_none Hb.out w
                  · by_cases h2 : 57 < (x.toNat : Int)
                    · clear hx hdrop hrd hst hlt hi
                      go_wp2
                      all_goals
                        go_ret2
                        exact rd_none Hb.out w
                    · have h3 : n < Int.tdiv (-9223372036854775808 + ((x.toNat : Int) - 48)) 10 := by
                        unfold digStep at hst
                        split at hst
                        · omega
                        · cases hst
                      clear hx hdrop hrd hst hlt hi
                      go_wp2
                      all_goals
                        go_ret2
                        exact rd_none Hb.out w
                | some m =>
                  have hm : m = 10 * n - ((x.toNat : Int) - 48) ∧ -9223372036854775808 ≤ m ∧ m ≤ 0 ∧ 48 ≤ (x.toNat : Int) ∧ (x.toNat : Int) ≤ 57 ∧ -9223372036854775808 ≤ 10 * n := by
                    obtain ⟨y, hy, rfl, hm, hlo⟩ := digStep_some hst hn0
                    have := byte_digit hy
                    refine ⟨by omega, hlo, by omega, by omega, by omega, by omega⟩
                  have h3 : ¬ n < Int.tdiv (-9223372036854775808 + ((x.toNat : Int) - 48)) 10 := by
                    intro hlt3
                    unfold digStep at hst
                    rw [if_pos (Or.inr (Or.inr hlt3))] at hst
                    cases hst
                  rw [readDigs, hst] at hrd
                  obtain ⟨hm1, hm2, hm3, hm4, hm5, hm6⟩ := hm
                  have hw10 : IntKind.i64.wrap (10 * n) = 10 * n := IntWalk.i64_in _ (by omega)
                  have hwm : IntKind.i64.wrap (10 * n - ((x.toNat : Int) - 48)) = 10 * n - ((x.toNat : Int) - 48) := IntWalk.i64_in _ (by omega)
                  have Hr := Lib.hid (And.intro hrd (And.intro hm1 (And.intro hm2 (And.intro hm3 hlt))))
                  clear hx hdrop hst hlt hi hrd hm1 hm2 hm3
                  go_wp2
                  go_roundw
                  case rel =>
                    obtain ⟨g1, g2, g3, g4, g5⟩ := Hr.out
                    exact ⟨by first | rfl | trivial, i + 1, m, by omega, by go_num, by rw [g2], g4, g3, g1⟩
                  case measure => simp [intOf]; omega
              · obtain rfl : i = r.length + 1 := by omega
                have hrn : readDigs 0 (b :: r) = some n := by rw [← hrd, List.drop_eq_nil_of_le (by simp)]; rfl
                have hf := readD_fin (neg := false) Hok.out hrn
                clear hrd hrn hlt hi
                by_cases hmin : n = -9223372036854775808
                · subst hmin
                  have Hf := Lib.hid (show readIntD false (b :: r) = none from hf)
                  clear hf
                  go_wp2
                  go_ret2
                  exact rd_none Hf.out w
                · have Hf := Lib.hid (show readIntD false (b :: r) = some (-n) from by rw [hf, if_neg (by decide), if_neg hmin])
                  have hmb : (n == -9223372036854775808) = false := by simpa using hmin
                  have hlo : -9223372036854775807 ≤ n := by omega
                  clear hf hmin
                  go_wp2
                  go_ret2
                  exact rd_some Hf.out w
end Go.Proofs.YtndpbkhpllmhmaaDoor
namespace Go.Proofs.YtndpbkhpllmhmaaDoor
set_option linter.unusedSimpArgs false
set_option linter.unnecessarySimpa false
set_option linter.unusedVariables false
open Go.RowKit
theorem itoaB_size {n : Int} (h : In64 n) : (itoaB n).size ≤ 21 := by
  unfold itoaB
  rw [strB_size]
  exact Lib.itoa_length_le n h.1 h.2
def fL (k : Int) : BS := if k = 1 ∨ k = 7 then [110] else if k = 3 ∨ k = 4 ∨ k = 5 then [107] else if k = 6 then [107, 98] else []
def getF (s : ST) (c : UInt8) : Int := if c = 110 then s.node else if c = 107 then s.k else s.bit
def setF (s : ST) (h : ST) (c : UInt8) : ST := if c = 110 then { h with node := s.node } else if c = 107 then { h with k := s.k } else { h with bit := s.bit }
theorem own_fold (s : ST) (h : 1 ≤ s.kind ∧ s.kind ≤ 7) : (fL s.kind).foldl (setF s) ⟨s.kind, 0, 0, 0⟩ = ownL s := by
  have h' : s.kind = 1 ∨ s.kind = 2 ∨ s.kind = 3 ∨ s.kind = 4 ∨ s.kind = 5 ∨ s.kind = 6 ∨ s.kind = 7 := by omega
  rcases h' with e | e | e | e | e | e | e <;> simp [e, fL, setF, ownL]
theorem line_fold (s : ST) (h : 1 ≤ s.kind ∧ s.kind ≤ 7) : wordL s.kind ++ (fL s.kind).flatMap (fun c => 32 :: Lib.itoa (getF s c)) = lineL s := by
  have h' : s.kind = 1 ∨ s.kind = 2 ∨ s.kind = 3 ∨ s.kind = 4 ∨ s.kind = 5 ∨ s.kind = 6 ∨ s.kind = 7 := by omega
  rcases h' with e | e | e | e | e | e | e <;> simp [e, fL, getF, lineL, partsL, fieldsL, wordL, glue]
theorem fL_mem {k : Int} {c : UInt8} (h : c ∈ fL k) : c = 110 ∨ c = 107 ∨ c = 98 := by
  unfold fL at h
  split at h
  · simp at h; exact Or.inl h
  · split at h
    · simp at h; exact Or.inr (Or.inl h)
    · split at h
      · simp at h; exact Or.inr h
      · cases h
theorem fL_len (k : Int) : (fL k).length ≤ 2 := by
  unfold fL
  split
  · decide
  · split
    · decide
    · split <;> decide
theorem word_none {k : Int} (h : k < 1 ∨ 7 < k) : wordL k = [] ∧ fL k = [] := by
  constructor
  · unfold wordL
    rw [if_neg (by omega), if_neg (by omega), if_neg (by omega), if_neg (by omega), if_neg (by omega), if_neg (by omega), if_neg (by omega)]
  · unfold fL
    rw [if_neg (by omega), if_neg (by omega), if_neg (by omega)]
theorem word_ne {k : Int} (h : 1 ≤ k ∧ k ≤ 7) : wordL k ≠ [] := by
  have h' : k = 1 ∨ k = 2 ∨ k = 3 ∨ k = 4 ∨ k = 5 ∨ k = 6 ∨ k = 7 := by omega
  rcases h' with rfl | rfl | rfl | rfl | rfl | rfl | rfl <;> decide
theorem word_len (k : Int) : (wordL k).length ≤ 7 := by
  by_cases h : k < 1 ∨ 7 < k
  · rw [(word_none h).1]; decide
  · have h' : k = 1 ∨ k = 2 ∨ k = 3 ∨ k = 4 ∨ k = 5 ∨ k = 6 ∨ k = 7 := by omega
    rcases h' with rfl | rfl | rfl | rfl | rfl | rfl | rfl <;> decide
def WordPost (k : Int) (w : World) (e : Ending) (w' : World) : Prop := e = .returned (.tuple #[.string (strB (wordL k)), .string (strB (fL k))]) ∧ w = w'
theorem word_1 (w : World) : Calls Tryd.prog 39 #[.int .i64 1] w (WordPost 1 w) := by go_enter Tryd.func39, Tryd.ntmps39; go_wp2; go_ret2; exact ⟨rfl, rfl⟩
theorem word_2 (w : World) : Calls Tryd.prog 39 #[.int .i64 2] w (WordPost 2 w) := by go_enter Tryd.func39, Tryd.ntmps39; go_wp2; go_ret2; exact ⟨rfl, rfl⟩
theorem word_3 (w : World) : Calls Tryd.prog 39 #[.int .i64 3] w (WordPost 3 w) := by go_enter Tryd.func39, Tryd.ntmps39; go_wp2; go_ret2; exact ⟨rfl, rfl⟩
theorem word_4 (w : World) : Calls Tryd.prog 39 #[.int .i64 4] w (WordPost 4 w) := by go_enter Tryd.func39, Tryd.ntmps39; go_wp2; go_ret2; exact ⟨rfl, rfl⟩
theorem word_5 (w : World) : Calls Tryd.prog 39 #[.int .i64 5] w (WordPost 5 w) := by go_enter Tryd.func39, Tryd.ntmps39; go_wp2; go_ret2; exact ⟨rfl, rfl⟩
theorem word_6 (w : World) : Calls Tryd.prog 39 #[.int .i64 6] w (WordPost 6 w) := by go_enter Tryd.func39, Tryd.ntmps39; go_wp2; go_ret2; exact ⟨rfl, rfl⟩
theorem word_7 (w : World) : Calls Tryd.prog 39 #[.int .i64 7] w (WordPost 7 w) := by go_enter Tryd.func39, Tryd.ntmps39; go_wp2; go_ret2; exact ⟨rfl, rfl⟩
theorem word_spec (w : World) (k : Int) : Calls Tryd.prog 39 #[.int .i64 k] w (WordPost k w) := by
  by_cases h : k < 1 ∨ 7 < k
  · have hp : WordPost k w (.returned (.tuple #[.string ⟨#[]⟩, .string ⟨#[]⟩])) w := by
      unfold WordPost
      rw [(word_none h).1, (word_none h).2]
      exact ⟨rfl, rfl⟩
    have Hp := Lib.hid hp
    have h1 : (k == 1) = false := by simp; omega
    have h2 : (k == 2) = false := by simp; omega
    have h3 : (k == 3) = false := by simp; omega
    have h4 : (k == 4) = false := by simp; omega
    have h5 : (k == 5) = false := by simp; omega
    have h6 : (k == 6) = false := by simp; omega
    have h7 : (k == 7) = false := by simp; omega
    clear h hp
    go_enter Tryd.func39, Tryd.ntmps39
    go_wp2
    go_ret2
    exact Hp.out
  · have h' : k = 1 ∨ k = 2 ∨ k = 3 ∨ k = 4 ∨ k = 5 ∨ k = 6 ∨ k = 7 := by omega
    rcases h' with rfl | rfl | rfl | rfl | rfl | rfl | rfl
    · exact word_1 w
    · exact word_2 w
    · exact word_3 w
    · exact word_4 w
    · exact word_5 w
    · exact word_6 w
    · exact word_7 w
end Go.Proofs.YtndpbkhpllmhmaaDoor
namespace Go.Proofs.YtndpbkhpllmhmaaDoor
set_option linter.unusedSimpArgs false
set_option linter.unnecessarySimpa false
set_option linter.unusedVariables false
open Go.RowKit
def lineK (s : ST) (k : Nat) : BS := wordL s.kind ++ ((fL s.kind).take k).flatMap fun c => 32 :: Lib.itoa (getF s c)
def clearK (s : ST) (k : Nat) : ST := ((fL s.kind).take k).foldl (setF s) ⟨s.kind, 0, 0, 0⟩
theorem take_snoc {α : Type} {l : List α} {k : Nat} {x : α} (h : l[k]? = some x) : l.take (k + 1) = l.take k ++ [x] := by rw [List.take_add_one, h]; rfl
theorem lineK_succ {s : ST} {k : Nat} {c : UInt8} (h : (fL s.kind)[k]? = some c) : strB (lineK s k) ++ (⟨#[32]⟩ : ByteArray) ++ itoaB (getF s c) = strB (lineK s (k + 1)) := by
  rw [show (⟨#[32]⟩ : ByteArray) = strB [32] from rfl, itoaB, strB_app, strB_app]
  unfold lineK
  rw [take_snoc h]
  congr 1
  simp
theorem clearK_succ {s : ST} {k : Nat} {c : UInt8} (h : (fL s.kind)[k]? = some c) : clearK s (k + 1) = setF s (clearK s k) c := by
  unfold clearK
  rw [take_snoc h, List.foldl_append]
  rfl
theorem getF_in {s : ST} (h : s.In) (c : UInt8) : In64 (getF s c) := by
  unfold getF
  split
  · exact h.node
  · split
    · exact h.k
    · exact h.bit
theorem lineK_len {s : ST} (h : s.In) (k : Nat) : (lineK s k).length ≤ 51 := by
  unfold lineK
  have h1 := word_len s.kind
  have h2 := fL_len s.kind
  have h3 : ∀ l : BS, (l.flatMap fun c => 32 :: Lib.itoa (getF s c)).length ≤ l.length * 22 := by
    intro l
    induction l with
    | nil => simp
    | cons c r ih =>
      have h4 := getF_in h c
      have h5 := Lib.itoa_length_le (getF s c) h4.1 h4.2
      simp only [List.flatMap_cons, List.length_append, List.length_cons]
      omega
  have h6 := h3 ((fL s.kind).take k)
  rw [List.length_take] at h6
  rw [List.length_append]
  omega
theorem lineL_len2 {s : ST} (h : s.In) (hk : 1 ≤ s.kind ∧ s.kind ≤ 7) : (lineL s).length ≤ 51 := by
  have h1 := lineK_len h (fL s.kind).length
  unfold lineK at h1
  rw [List.take_length, line_fold s hk] at h1
  exact h1
theorem printed_len2 {l : List ST} (h : ∀ s ∈ l, s.In ∧ 1 ≤ s.kind ∧ s.kind ≤ 7) : (printed l).length ≤ l.length * 52 := by
  induction l with
  | nil => simp [printed]
  | cons s r ih =>
    have h1 := ih fun x hx => h x (by simp [hx])
    have h2 := lineL_len2 (h s (by simp)).1 (h s (by simp)).2
    unfold printed at h1 ⊢
    simp only [List.flatMap_cons, List.length_append, List.length_cons, List.length_nil]
    omega
theorem setF_cells (s h : ST) (c : UInt8) : stC (setF s h c) = (stC h).set (if c = 110 then 1 else if c = 107 then 2 else 3) (.int .i64 (getF s c)) := by
  unfold setF getF
  split
  · rfl
  · split <;> rfl
theorem steps_cells {w w' : World} {b off c n i : Nat} {l : List ST} {s : ST} (H : StepsAt w (.slice (some ⟨b, off, none⟩) n c) l) (k : Keep [] w w') (hs : l[i]? = some s) (j : Nat) (u : Value) (hu : (stC s)[j]? = some u) : w'.cell? ⟨b, off + i * 4 + j, none⟩ = some u := by
  obtain ⟨a, c', hv, h⟩ := H
  cases hv
  obtain ⟨b', off', hb, _, hc⟩ := h i s hs
  cases hb
  exact cell_keep0 k (hc j u hu)
set_option maxHeartbeats 6400000 in
set_option maxRecDepth 100000 in
theorem rprint_spec {w : World} {v : Value} {l : List ST} (h : StepsAt w v l) (hin : ∀ s ∈ l, s.In) (hl : l.length ≤ 1000) : Calls Tryd.prog 19 #[v] w fun e w' => e = .returned (.string (strB (printL l))) ∧ Keep [] w w' := by
  have H := Lib.hid h
  have HI := Lib.hid hin
  have HL := Lib.hid hl
  obtain ⟨a, c, rfl, _⟩ := h
  clear hin hl
  go_enter Tryd.func19, Tryd.ntmps19
  go_wp2_with fail
  go_loopw [3, 4, 5, 6, 7, 8, 9, 10] (fun v3 v4 _ _ _ _ _ _ wr => ∃ i : Nat, i ≤ l.length ∧ v4 = .int .i64 i ∧ v3 = .string (strB (printed (l.take i))) ∧ (l.take i).all goodL = true ∧ Keep [] w wr) (fun _ v _ _ _ _ _ _ _ => l.length - (intOf v).toNat)
  case atStart => exact ⟨0, by omega, rfl, rfl, rfl, Keep.refl _ _⟩
  case round =>
    obtain ⟨i, hi, rfl, rfl, hg, hk⟩ := hrel
    by_cases hlt : i < l.length
    · obtain ⟨s, hs⟩ : ∃ s, l[i]? = some s := ⟨_, List.getElem?_eq_getElem hlt⟩
      obtain ⟨a', c', hva, hcells⟩ := H.out.keep0 hk
      cases hva
      obtain ⟨b, off, rfl, hbl, hc⟩ := hcells i s hs
      have c0 := hc 0 _ rfl
      rw [Nat.add_zero] at c0
      have hltI : (i : Int) < (l.length : Int) := by omega
      have hlI : (l.length : Int) ≤ 1000 := by have := HL.out; omega
      have hiI : (i : Int) ≤ 1000 := by omega
      have hsI := HI.out s (List.mem_of_getElem? hs)
      have ht : l.take (i + 1) = l.take i ++ [s] := take_snoc hs
      have G := Lib.hid (And.intro hg (And.intro hk (And.intro hs (And.intro hsI (And.intro ht (And.intro hbl hc))))))
      clear hg hk hcells hs hc hsI ht hbl
      go_wp2_with fail
      refine (word_spec _ s.kind).mono ?_
      rintro e w' ⟨rfl, rfl⟩
      go_upto_region 7 with fail
      have hb0 : Blk (wr.alloc (.cells #[.int .i64 s.kind, .int .i64 0, .int .i64 0, .int .i64 0] 38)) wr.heap.size 38 (stC (clearK s 0)) := Blk.new' _ _ _ _ rfl
      have hk0 : Keep [] w (wr.alloc (.cells #[.int .i64 s.kind, .int .i64 0, .int .i64 0, .int .i64 0] 38)) := G.out.2.1.alloc _
      have HB := Lib.hid (And.intro hb0 (And.intro hk0 G.out.2.1.size))
      clear hb0 hk0 c0
      generalize wr.alloc (.cells #[.int .i64 s.kind, .int .i64 0, .int .i64 0, .int .i64 0] 38) = wA at *
      generalize wr.heap.size = gC at *
      go_wp2_with fail
      go_loopw [8, 9, 10] (fun v8 v9 _ wx => ∃ k : Nat, k ≤ (fL s.kind).length ∧ v9 = .int .i64 k ∧ v8 = .string (strB (lineK s k)) ∧ Blk wx gC 38 (stC (clearK s k)) ∧ Keep [] w wx) (fun _ v _ _ => (fL s.kind).length - (intOf v).toNat)
      case atStart => exact ⟨0, by omega, rfl, by simp [lineK], HB.out.1, HB.out.2.1⟩
      case round =>
        obtain ⟨k, hkl, rfl, rfl, hbk, hkk⟩ := hrel
        have e1 : (strB (fL s.kind)).size = (fL s.kind).length := strB_size _
        have hfl : ((fL s.kind).length : Int) ≤ 2 := by have := fL_len s.kind; omega
        have hzl : (strB (lineK s k)).size ≤ 51 := by rw [strB_size]; exact lineK_len G.out.2.2.2.1 k
        have B := Lib.hid (And.intro hbk hkk)
        clear hbk hkk
        by_cases hlk : k < (fL s.kind).length
        · have hlkI : (k : Int) < ((fL s.kind).length : Int) := by omega
          have hkI : (k : Int) ≤ 2 := by omega
          obtain ⟨x, hx⟩ : ∃ x : UInt8, (fL s.kind)[k]? = some x := ⟨_, List.getElem?_eq_getElem hlk⟩
          have hget : ∀ h, ((strB (fL s.kind))[k]'h) = x := fun h => by rw [strB_get]; exact (List.getElem?_eq_some_iff.1 hx).2
          have hzi : (itoaB (getF s x)).size ≤ 21 := itoaB_size (getF_in G.out.2.2.2.1 x)
          have X := Lib.hid (And.intro (lineK_succ hx) (And.intro (clearK_succ hx) (And.intro (getF_in G.out.2.2.2.1 x) hlk)))
          have hxm := fL_mem (List.mem_of_getElem? hx)
          clear hx hlk hkl
          rcases hxm with rfl | rfl | rfl
          · have cl : wr.cell? ⟨b, off + i * 4 + 1, none⟩ = some (.int .i64 s.node) := steps_cells H.out B.out.2 G.out.2.2.1 1 _ rfl
            have cf : wr.frozen? ⟨gC, 1, none⟩ = false := B.out.1.frozen 1
            have hgf : getF s 110 = s.node := rfl
            have cg : ∃ u, wr.cell? ⟨gC, 1, none⟩ = some u := ⟨_, B.out.1.cell 1⟩
            obtain ⟨u, cg⟩ := cg
            rw [hgf] at hzi
            go_wp2_with fail
            refine (digits_spec _ (show In64 s.node from X.out.2.2.1)).mono ?_
            rintro e w' ⟨rfl, rfl⟩
            have hb2 : Blk (wr.setCell ⟨gC, 1, none⟩ (.int .i64 s.node)) gC 38 (stC (clearK s (k + 1))) := by
              rw [X.out.2.1, setF_cells]
              exact B.out.1.set_ 1 _
            have hk2 : Keep [] w (wr.setCell ⟨gC, 1, none⟩ (.int .i64 s.node)) := B.out.2.setCell (Or.inr HB.out.2.2) _
            have B2 := Lib.hid (And.intro hb2 hk2)
            clear hb2 hk2 cl cf cg
            generalize wr.setCell ⟨gC, 1, none⟩ (.int .i64 s.node) = wy at *
            go_wp2_with fail
            go_roundw
            case rel => exact ⟨k + 1, by have := X.out.2.2.2; omega, by go_num, by rw [← X.out.1, hgf], B2.out.1, B2.out.2⟩
            case measure => simp [intOf]; have := X.out.2.2.2; omega
          · have cl : wr.cell? ⟨b, off + i * 4 + 2, none⟩ = some (.int .i64 s.k) := steps_cells H.out B.out.2 G.out.2.2.1 2 _ rfl
            have cf : wr.frozen? ⟨gC, 2, none⟩ = false := B.out.1.frozen 2
            have hgf : getF s 107 = s.k := rfl
            have cg : ∃ u, wr.cell? ⟨gC, 2, none⟩ = some u := ⟨_, B.out.1.cell 2⟩
            obtain ⟨u, cg⟩ := cg
            rw [hgf] at hzi
            go_wp2_with fail
            refine (digits_spec _ (show In64 s.k from X.out.2.2.1)).mono ?_
            rintro e w' ⟨rfl, rfl⟩
            have hb2 : Blk (wr.setCell ⟨gC, 2, none⟩ (.int .i64 s.k)) gC 38 (stC (clearK s (k + 1))) := by
              rw [X.out.2.1, setF_cells]
              exact B.out.1.set_ 2 _
            have hk2 : Keep [] w (wr.setCell ⟨gC, 2, none⟩ (.int .i64 s.k)) := B.out.2.setCell (Or.inr HB.out.2.2) _
            have B2 := Lib.hid (And.intro hb2 hk2)
            clear hb2 hk2 cl cf cg
            generalize wr.setCell ⟨gC, 2, none⟩ (.int .i64 s.k) = wy at *
            go_wp2_with fail
            go_roundw
            case rel => exact ⟨k + 1, by have := X.out.2.2.2; omega, by go_num, by rw [← X.out.1, hgf], B2.out.1, B2.out.2⟩
            case measure => simp [intOf]; have := X.out.2.2.2; omega
          · have cl : wr.cell? ⟨b, off + i * 4 + 3, none⟩ = some (.int .i64 s.bit) := steps_cells H.out B.out.2 G.out.2.2.1 3 _ rfl
            have cf : wr.frozen? ⟨gC, 3, none⟩ = false := B.out.1.frozen 3
            have hgf : getF s 98 = s.bit := rfl
            have cg : ∃ u, wr.cell? ⟨gC, 3, none⟩ = some u := ⟨_, B.out.1.cell 3⟩
            obtain ⟨u, cg⟩ := cg
            rw [hgf] at hzi
            go_wp2_with fail
            refine (digits_spec _ (show In64 s.bit from X.out.2.2.1)).mono ?_
            rintro e w' ⟨rfl, rfl⟩
            have hb2 : Blk (wr.setCell ⟨gC, 3, none⟩ (.int .i64 s.bit)) gC 38 (stC (clearK s (k + 1))) := by
              rw [X.out.2.1, setF_cells]
              exact B.out.1.set_ 3 _
            have hk2 : Keep [] w (wr.setCell ⟨gC, 3, none⟩ (.int .i64 s.bit)) := B.out.2.setCell (Or.inr HB.out.2.2) _
            have B2 := Lib.hid (And.intro hb2 hk2)
            clear hb2 hk2 cl cf cg
            generalize wr.setCell ⟨gC, 3, none⟩ (.int .i64 s.bit) = wy at *
            go_wp2_with fail
            go_roundw
            case rel => exact ⟨k + 1, by have := X.out.2.2.2; omega, by go_num, by rw [← X.out.1, hgf], B2.out.1, B2.out.2⟩
            case measure => simp [intOf]; have := X.out.2.2.2; omega
        · obtain rfl : k = (fL s.kind).length := by omega
          have hzp : (strB (printed (l.take i))).size ≤ 52000 := by
            rw [strB_size]
            have h1 := printed_len2 (l := l.take i) (fun x hx => ⟨HI.out x (List.mem_of_mem_take hx), (goodL_iff.1 (List.all_eq_true.1 G.out.1 x hx)).1⟩)
            rw [List.length_take] at h1
            have := HL.out
            omega
          clear hlk hkl
          by_cases hkd : 1 ≤ s.kind ∧ s.kind ≤ 7
          · have hwe : (strB (wordL s.kind)).toList.isEmpty = false := by
              rw [strB_toList]
              have := word_ne hkd
              cases hwl : wordL s.kind with
              | nil => exact absurd hwl this
              | cons a b => rfl
            have hwn : (strB (wordL s.kind)).toList ≠ [] := by rw [strB_toList]; exact word_ne hkd
            have hcl : ∃ n1 k1 b1, ownL s = ⟨s.kind, n1, k1, b1⟩ := by
              have h' : (ownL s).kind = s.kind := by
                unfold ownL
                split
                · rfl
                · split
                  · rfl
                  · split <;> rfl
              exact ⟨(ownL s).node, (ownL s).k, (ownL s).bit, by rw [← h']⟩
            obtain ⟨n1, k1, b1, hcl⟩ := hcl
            have hce : clearK s (fL s.kind).length = ⟨s.kind, n1, k1, b1⟩ := by
              rw [← hcl, ← own_fold s hkd]
              unfold clearK
              rw [List.take_length]
            have hle : lineK s (fL s.kind).length = lineL s := by
              rw [← line_fold s hkd]
              unfold lineK
              rw [List.take_length]
            have hbk := B.out.1
            rw [hce] at hbk
            rw [hle] at hzl
            rw [hle]
            have g0 : wr.cell? ⟨gC, 0, none⟩ = some (.int .i64 s.kind) := hbk.cell 0
            have g1 : wr.cell? ⟨gC, 1, none⟩ = some (.int .i64 n1) := hbk.cell 1
            have g2 : wr.cell? ⟨gC, 2, none⟩ = some (.int .i64 k1) := hbk.cell 2
            have g3 : wr.cell? ⟨gC, 3, none⟩ = some (.int .i64 b1) := hbk.cell 3
            have l0 : wr.cell? ⟨b, off + i * 4, none⟩ = some (.int .i64 s.kind) := steps_cells H.out B.out.2 G.out.2.2.1 0 _ rfl
            have l1 : wr.cell? ⟨b, off + i * 4 + 1, none⟩ = some (.int .i64 s.node) := steps_cells H.out B.out.2 G.out.2.2.1 1 _ rfl
            have l2 : wr.cell? ⟨b, off + i * 4 + 2, none⟩ = some (.int .i64 s.k) := steps_cells H.out B.out.2 G.out.2.2.1 2 _ rfl
            have l3 : wr.cell? ⟨b, off + i * 4 + 3, none⟩ = some (.int .i64 s.bit) := steps_cells H.out B.out.2 G.out.2.2.1 3 _ rfl
            by_cases ho : ownL s = s
            · have hn : n1 = s.node := by rw [ho] at hcl; exact (congrArg ST.node hcl).symm
              have hk : k1 = s.k := by rw [ho] at hcl; exact (congrArg ST.k hcl).symm
              have hb : b1 = s.bit := by rw [ho] at hcl; exact (congrArg ST.bit hcl).symm
              subst hn
              subst hk
              subst hb
              have Ho := Lib.hid (And.intro ho hkd)
              have Hi := Lib.hid hlt
              have hcat : strB (printed (l.take i)) ++ strB (lineL s) ++ (⟨#[10]⟩ : ByteArray) = strB (printed (l.take (i + 1))) := by
                rw [show (⟨#[10]⟩ : ByteArray) = strB [10] from rfl, strB_app, strB_app, G.out.2.2.2.2.1]
                congr 1
                simp [printed]
              have HC := Lib.hid hcat
              clear hcl hce hle hbk ho hkd hlt hi hcat
              go_upto_region 22 with fail
              go_quiet (fail)
              clear g0 g1 g2 g3 l0 l1 l2 l3
              go_wp2_with fail
              go_roundw
              case rel => exact ⟨i + 1, by have := Hi.out; omega, by go_num, by rw [← HC.out], by rw [G.out.2.2.2.2.1, List.all_append, G.out.1]; simp [goodL, Ho.out.1, Ho.out.2], B.out.2.drewN _⟩
              case measure => simp [intOf]; have := Hi.out; omega
            · have hno : printL l = [] := by
                unfold printL
                rw [if_neg]
                intro hall
                have := List.all_eq_true.1 hall s (List.mem_of_getElem? G.out.2.2.1)
                exact ho (goodL_iff.1 this).2
              have Hno := Lib.hid hno
              have hdiff : ¬ (n1 = s.node ∧ k1 = s.k ∧ b1 = s.bit) := fun ⟨h1, h2, h3⟩ => ho (by rw [hcl, h1, h2, h3])
              clear hcl hce hle hbk ho hkd hno
              by_cases d1 : n1 = s.node
              · subst d1
                by_cases d2 : k1 = s.k
                · subst d2
                  have d3 : ¬ b1 = s.bit := fun h3 => hdiff ⟨rfl, rfl, h3⟩
                  have d3b : (b1 == s.bit) = false := by simpa using d3
                  clear hdiff
                  go_upto_region 22 with fail
                  go_quiet (fail)
                  go_wp2
                  go_ret
                  exact ⟨by rw [Hno.out]; rfl, B.out.2.drewN _⟩
                · have d2b : (k1 == s.k) = false := by simpa using d2
                  clear hdiff
                  by_cases d3 : b1 = s.bit
                  · subst d3
                    go_upto_region 22 with fail
                    go_quiet (fail)
                    go_wp2
                    go_ret
                    exact ⟨by rw [Hno.out]; rfl, B.out.2.drewN _⟩
                  · have d3b : (b1 == s.bit) = false := by simpa using d3
                    go_upto_region 22 with fail
                    go_quiet (fail)
                    go_wp2
                    go_ret
                    exact ⟨by rw [Hno.out]; rfl, B.out.2.drewN _⟩
              · have d1b : (n1 == s.node) = false := by simpa using d1
                clear hdiff
                by_cases d2 : k1 = s.k
                · subst d2
                  by_cases d3 : b1 = s.bit
                  · subst d3
                    go_upto_region 22 with fail
                    go_quiet (fail)
                    go_wp2
                    go_ret
                    exact ⟨by rw [Hno.out]; rfl, B.out.2.drewN _⟩
                  · have d3b : (b1 == s.bit) = false := by simpa using d3
                    go_upto_region 22 with fail
                    go_quiet (fail)
                    go_wp2
                    go_ret
                    exact ⟨by rw [Hno.out]; rfl, B.out.2.drewN _⟩
                · have d2b : (k1 == s.k) = false := by simpa using d2
                  by_cases d3 : b1 = s.bit
                  · subst d3
                    go_upto_region 22 with fail
                    go_quiet (fail)
                    go_wp2
                    go_ret
                    exact ⟨by rw [Hno.out]; rfl, B.out.2.drewN _⟩
                  · have d3b : (b1 == s.bit) = false := by simpa using d3
                    go_upto_region 22 with fail
                    go_quiet (fail)
                    go_wp2
                    go_ret
                    exact ⟨by rw [Hno.out]; rfl, B.out.2.drewN _⟩
          · have hwe : (strB (wordL s.kind)).toList.isEmpty = true := by rw [(word_none (by omega)).1]; exact (by rw [strB_toList]; rfl)
            have hwn : (strB (wordL s.kind)).toList = [] := by rw [(word_none (by omega)).1]; exact strB_toList []
            have hno : printL l = [] := by
              unfold printL
              rw [if_neg]
              intro hall
              have := List.all_eq_true.1 hall s (List.mem_of_getElem? G.out.2.2.1)
              exact hkd (goodL_iff.1 this).1
            have Hno := Lib.hid hno
            clear hkd hno
            go_upto_region 22 with fail
            go_quiet (fail)
            go_wp2
            go_ret
            exact ⟨by rw [Hno.out]; rfl, B.out.2.drewN _⟩
    · obtain rfl : i = l.length := by omega
      have G := Lib.hid (And.intro hg hk)
      clear hg hk
      go_wp2
      go_ret
      exact ⟨by have h1 := G.out.1; rw [List.take_length] at h1 ⊢; unfold printL; rw [if_pos h1]; rfl, G.out.2⟩
end Go.Proofs.YtndpbkhpllmhmaaDoor
