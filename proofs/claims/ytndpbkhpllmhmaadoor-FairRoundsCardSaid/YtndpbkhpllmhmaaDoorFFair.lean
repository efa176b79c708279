/- Fair: where all windows are kept (true), where the first whole window has no tick (false). -/
import Derived.Test.YtndpbkhpllmhmaaDoorRows
import Derived.WalkKit
import Derived.WalkSpells
import Derived.WalkLawsBesides
import Derived.RegionTactic
import Derived.ChangeAlike
import Derived.BigQuiet
import Derived.Deep.QuietTactic
import Derived.StillTailTactics
import Derived.IntWalk
import Derived.Handy
import Derived.Lib.Hide
import Derived.Deep.AppendLies
import Derived.Deep.RegionWith
import Derived.Test.YtndpbkhpllmhmaaDoorBase
import Derived.Test.YtndpbkhpllmhmaaDoorTail
import Derived.Test.YtndpbkhpllmhmaaDoorArgs
import Derived.Test.YtndpbkhpllmhmaaDoorAppend
import Derived.Test.YtndpbkhpllmhmaaDoorOffs
import Derived.Test.YtndpbkhpllmhmaaDoorStructs
import Derived.Test.YtndpbkhpllmhmaaDoorShelf
import Derived.Carry
import Derived.Deep.RegionHeld3
import Derived.BigRegion
import Derived.Maps.OwnSet
import Derived.Maps.Views
import Derived.Maps.StringElems
import Derived.Test.YtndpbkhpllmhmaaDoorMaps2
import Derived.Test.YtndpbkhpllmhmaaDoorFWords
import Derived.Test.YtndpbkhpllmhmaaDoorFEnv
import Derived.Test.YtndpbkhpllmhmaaDoorFPlain
import Derived.Test.YtndpbkhpllmhmaaDoorFSteps
import Derived.Test.YtndpbkhpllmhmaaDoorFMaps
import Derived.Test.YtndpbkhpllmhmaaDoorFClosure
import Derived.Test.YtndpbkhpllmhmaaDoorRPrint
namespace Go.Proofs.YtndpbkhpllmhmaaDoor
open Go.RowKit
def tk (l : List ST) : Nat → Int
  | 0 => 0
  | j + 1 => match l[j]? with
    | some s => if s.kind = 2 then j + 1 else tk l j
    | none => tk l j
def lw (l : List ST) : Nat → Int → Int
  | 0, _ => 0
  | j + 1, n => match l[j]? with
    | some s => if s.kind = 1 ∧ n = s.node then j + 1 else lw l j n
    | none => lw l j n
theorem tk_bounds (l : List ST) (j : Nat) : 0 ≤ tk l j ∧ tk l j ≤ j := by
  induction j with
  | zero => simp [tk]
  | succ j ih =>
    rw [tk]
    split
    · split <;> omega
    · omega
structure FSt (bw bl bg ml mg nl : Nat) (f : Int → Int) (win : Int) (w0 w : World) : Prop where
  w_ : Blk w bw 3 [.int .i64 win]
  l : Blk w bl 80 [.map (some ml)]
  g : Blk w bg 81 [.map (some mg)]
  last : LastIn w ml nl f
  gone : GoneIn w mg
  k : Keep [] w0 w
  n0 : w0.heap.size ≤ ml
  ne1 : bw ≠ ml
  ne2 : bl ≠ ml
  ne3 : bg ≠ ml
  ne4 : mg ≠ ml
theorem FSt.keep {bw bl bg ml mg nl : Nat} {f : Int → Int} {win : Int} {w0 w w' : World} (h : FSt bw bl bg ml mg nl f win w0 w) (k : Keep [] w w') : FSt bw bl bg ml mg nl f win w0 w' :=
  ⟨h.w_.keep k (by simp), h.l.keep k (by simp), h.g.keep k (by simp), h.last.keep k (by simp), h.gone.keep k (by simp), h.k.trans k (by simp), h.n0, h.ne1, h.ne2, h.ne3, h.ne4⟩
theorem FSt.store {bw bl bg ml mg nl : Nat} {f : Int → Int} {win : Int} {w0 w : World} (h : FSt bw bl bg ml mg nl f win w0 w) {k v : Int} (hw : (Lit.int .i64 k).wf = true) (hv : (Lit.int .i64 v).wf = true) (hn : nl ≤ 1000) :
    ∃ w', (Instr.mapUpdate 80 (.map (some ml)) (.int .i64 k) (.int .i64 v)).run Tryd.prog w = .ok () w' ∧ FSt bw bl bg ml mg (nl + 1) (fun j => if j = k then v else f j) win w0 w' ∧ Keep [ml] w w' := by
  obtain ⟨w', hr, h1, h2⟩ := h.last.store hw hv hn
  exact ⟨w', hr, ⟨h.w_.keep h2 (by simpa using h.ne1), h.l.keep h2 (by simpa using h.ne2), h.g.keep h2 (by simpa using h.ne3), h1, h.gone.keep h2 (by simpa using h.ne4), h.k.trans h2 (fun x hx => Or.inr (by rw [show x = ml by simpa using hx]; exact h.n0)), h.n0, h.ne1, h.ne2, h.ne3, h.ne4⟩, h2⟩
theorem cell_keep1 {w w' : World} {p : Addr} {v : Value} {b : Nat} (k : Keep [b] w w') (h : w.cell? p = some v) (hb : p.block ≠ b) : w'.cell? p = some v := by
  have hp : p.block < w.heap.size := by
    rcases Nat.lt_or_ge p.block w.heap.size with h1 | h1
    · exact h1
    · unfold World.cell? at h
      rw [Array.getElem?_eq_none h1] at h
      cases h
  exact (k.cell hp (by simpa using hb)).trans h
theorem tk_work {l : List ST} {j : Nat} {s : ST} (hs : l[j]? = some s) (h : s.kind = 1) : tk l (j + 1) = tk l j := by
  rw [tk, hs]
  simp [h]
theorem tk_tick {l : List ST} {j : Nat} {s : ST} (hs : l[j]? = some s) (h : s.kind = 2) : tk l (j + 1) = (j : Int) + 1 := by
  rw [tk, hs]
  simp [h]
theorem lw_work {l : List ST} {j : Nat} {s : ST} (hs : l[j]? = some s) (h : s.kind = 1) : lw l (j + 1) = fun n => if n = s.node then (j : Int) + 1 else lw l j n := by
  funext n
  rw [lw, hs]
  simp [h]
theorem lw_tick {l : List ST} {j : Nat} {s : ST} (hs : l[j]? = some s) (h : s.kind = 2) : lw l (j + 1) = lw l j := by
  funext n
  rw [lw, hs]
  simp [h]

theorem wf_in64 {n : Int} (h : In64 n) : (Lit.int .i64 n).wf = true := by
  simpa [Lit.wf, IntKind.min, IntKind.max, IntKind.signed, IntKind.bits, In64] using h
theorem alloc_size (w : World) (o : Obj) : (w.alloc o).heap.size = w.heap.size + 1 := by simp
theorem fst_start (w : World) (win : Int) : FSt w.heap.size (w.heap.size + 1 + 1 + 1) (w.heap.size + 1 + 1 + 1 + 1) (w.heap.size + 1) (w.heap.size + 1 + 1) 0 (fun _ => 0) win w
    (((((w.alloc (Obj.cells #[Value.int IntKind.i64 win] 3)).alloc (Obj.map #[] 0)).alloc (Obj.map #[] 0)).alloc (Obj.cells #[Value.map (some (w.heap.size + 1))] 80)).alloc (Obj.cells #[Value.map (some (w.heap.size + 1 + 1))] 81)) := by
  have e1 := alloc_size w (Obj.cells #[Value.int IntKind.i64 win] 3)
  have b0 : Blk (w.alloc (Obj.cells #[Value.int IntKind.i64 win] 3)) w.heap.size 3 [.int .i64 win] := Blk.new' _ _ _ _ rfl
  have k0 : Keep [] w (w.alloc (Obj.cells #[Value.int IntKind.i64 win] 3)) := (Keep.refl _ _).alloc _
  rw [← e1]
  generalize w.alloc (Obj.cells #[Value.int IntKind.i64 win] 3) = x1 at *
  have m1 := LastIn.made x1
  have e2 := alloc_size x1 (Obj.map #[] 0)
  rw [← e2]
  have b1 := b0.alloc (Obj.map #[] 0)
  have k1 := k0.alloc (Obj.map #[] 0)
  generalize x1.alloc (Obj.map #[] 0) = x2 at *
  have m2 := GoneIn.made x2
  have e3 := alloc_size x2 (Obj.map #[] 0)
  rw [← e3]
  have b2 := b1.alloc (Obj.map #[] 0)
  have k2 := k1.alloc (Obj.map #[] 0)
  have ka : Keep [] x2 (x2.alloc (Obj.map #[] 0)) := (Keep.refl _ _).alloc _
  have m1' := m1.keep ka (by simp)
  generalize x2.alloc (Obj.map #[] 0) = x3 at *
  have b3 : Blk (x3.alloc (Obj.cells #[Value.map (some x1.heap.size)] 80)) x3.heap.size 80 [.map (some x1.heap.size)] := Blk.new' _ _ _ _ rfl
  have e4 := alloc_size x3 (Obj.cells #[Value.map (some x1.heap.size)] 80)
  rw [← e4]
  have kb : Keep [] x3 (x3.alloc (Obj.cells #[Value.map (some x1.heap.size)] 80)) := (Keep.refl _ _).alloc _
  have b2' := b2.keep kb (by simp)
  have k2' := k2.trans kb (by simp)
  have m1'' := m1'.keep kb (by simp)
  have m2'' := m2.keep kb (by simp)
  generalize x3.alloc (Obj.cells #[Value.map (some x1.heap.size)] 80) = x4 at *
  have b4 : Blk (x4.alloc (Obj.cells #[Value.map (some x2.heap.size)] 81)) x4.heap.size 81 [.map (some x2.heap.size)] := Blk.new' _ _ _ _ rfl
  have kc : Keep [] x4 (x4.alloc (Obj.cells #[Value.map (some x2.heap.size)] 81)) := (Keep.refl _ _).alloc _
  exact ⟨b2'.keep kc (by simp), b3.keep kc (by simp), b4, m1''.keep kc (by simp), m2''.keep kc (by simp), k2'.trans kc (by simp), by omega, by omega, by omega, by omega, by omega⟩
theorem FSt.cap {bw bl bg ml mg nl : Nat} {f : Int → Int} {win i : Int} {w0 w : World} {bi : Nat} (h : FSt bw bl bg ml mg nl f win w0 w) (hi : w.cell? ⟨bi, 0, none⟩ = some (.int .i64 i)) (i0 : 0 ≤ i) (i1 : i ≤ 100000) (w0' : 0 ≤ win) (w1 : win ≤ 100000) : Cap w bg bl bi bw mg ml nl f i win :=
  ⟨h.g.cell 0, h.l.cell 0, hi, h.w_.cell 0, h.gone, h.last, i0, i1, w0', w1⟩
set_option maxHeartbeats 6400000 in
set_option maxRecDepth 100000 in
theorem fair_true {w : World} {v u : Value} {l : List ST} {ns : List Int} {win : Int} (h : StepsAt w v l) (hin : ∀ s ∈ l, s.In ∧ (s.kind = 1 ∨ s.kind = 2)) (hu : IntsOf w u ns) (hnl : ns.length ≤ 1000) (hwf : ∀ n ∈ ns, (Lit.int .i64 n).wf = true) (hl : l.length ≤ 1000) (hw1 : 1 ≤ win) (hw2 : win ≤ 1000)
    (hall : ∀ j : Nat, j < l.length → win ≤ (j : Int) + 1 → tk l (j + 1) > (j : Int) + 1 - win ∧ ∀ n ∈ ns, lw l (j + 1) n > (j : Int) + 1 - win) :
    Calls Tryd.prog 23 #[v, .int .i64 win, u] w fun e w' => e = .returned (.bool true) ∧ Keep [] w w' := by
  have H := Lib.hid h
  have HA := Lib.hid (And.intro hin (And.intro hu (And.intro hnl (And.intro hwf (And.intro hl hall)))))
  have hmf : ∀ (fn : Fn) (first cap : Array Value) (w : World), (Instr.makeFunc fn first cap).run Tryd.prog w = .ok (.func fn first cap) w := fun _ _ _ _ => rfl
  have hmm := @run_makeMap Tryd.prog
  have hlI : (l.length : Int) ≤ 1000 := by omega
  obtain ⟨a, c, rfl, _⟩ := h
  obtain ⟨a2, c2, rfl, _⟩ := hu
  clear hin hnl hwf hl hall
  go_enter Tryd.func23, Tryd.ntmps23
  go_wp2_with fail
  clear hmm
  have hst := fst_start w win
  generalize ((((w.alloc (Obj.cells #[Value.int IntKind.i64 win] 3)).alloc (Obj.map #[] 0)).alloc (Obj.map #[] 0)).alloc (Obj.cells #[Value.map (some (w.heap.size + 1))] 80)).alloc (Obj.cells #[Value.map (some (w.heap.size + 1 + 1))] 81) = wS at *
  generalize w.heap.size + 1 + 1 + 1 + 1 = bg at *
  generalize w.heap.size + 1 + 1 + 1 = bl at *
  generalize w.heap.size + 1 + 1 = mg at *
  generalize w.heap.size + 1 = ml at *
  generalize hbw : w.heap.size = bw at *
  have HS := Lib.hid hst
  clear hst
  go_loopw [7, 10, 11, 12, 19] (fun v7 _ _ _ v19 wr => ∃ j : Nat, j ≤ l.length ∧ v19 = .int .i64 j ∧ v7 = .int .i64 (tk l j) ∧ FSt bw bl bg ml mg j (lw l j) win w wr) (fun _ _ _ _ v _ => l.length - (intOf v).toNat)
  case atStart => exact ⟨0, by omega, rfl, rfl, HS.out⟩
  case round =>
    obtain ⟨j, hj, rfl, rfl, hst⟩ := hrel
    by_cases hlt : j < l.length
    · obtain ⟨s, hs⟩ : ∃ s, l[j]? = some s := ⟨_, List.getElem?_eq_getElem hlt⟩
      have hkd := (HA.out.1 s (List.mem_of_getElem? hs)).2
      have hsin := (HA.out.1 s (List.mem_of_getElem? hs)).1
      obtain ⟨a', c', hva, hcells⟩ := H.out
      cases hva
      obtain ⟨b, off, rfl, hbl, _⟩ := hcells j s hs
      obtain ⟨kind, node, k, bit⟩ := s
      have c0 : wr.cell? ⟨b, off + j * 4, none⟩ = some (.int .i64 kind) := steps_cells H.out hst.k hs 0 _ rfl
      have c1 : wr.cell? ⟨b, off + j * 4 + 1, none⟩ = some (.int .i64 node) := steps_cells H.out hst.k hs 1 _ rfl
      have c2 : wr.cell? ⟨b, off + j * 4 + 2, none⟩ = some (.int .i64 k) := steps_cells H.out hst.k hs 2 _ rfl
      have c3 : wr.cell? ⟨b, off + j * 4 + 3, none⟩ = some (.int .i64 bit) := steps_cells H.out hst.k hs 3 _ rfl
      have hltI : (j : Int) < (l.length : Int) := by omega
      have hjI : (j : Int) ≤ 1000 := by omega
      have hj0 : (0 : Int) ≤ (j : Int) := by omega
      have hwr : IntKind.i64.wrap ((j : Int) + 1) = (j : Int) + 1 := IntWalk.i64_in _ (by omega)
      have hsub : IntKind.i64.wrap ((j : Int) + 1 - win) = (j : Int) + 1 - win := IntWalk.i64_in _ (by omega)
      have hml : ml < wr.heap.size := hst.last.lt
      have hfin := hst.keep (((Keep.refl [] wr).alloc (.cells #[.int .i64 j] 3)).alloc (.cells #[.int .i64 kind, .int .i64 node, .int .i64 k, .int .i64 bit] 38))
      have hbi : Blk ((wr.alloc (.cells #[.int .i64 j] 3)).alloc (.cells #[.int .i64 kind, .int .i64 node, .int .i64 k, .int .i64 bit] 38)) wr.heap.size 3 [.int .i64 j] := Blk.alloc (Blk.new' _ _ _ _ rfl) _
      have hbs : Blk ((wr.alloc (.cells #[.int .i64 j] 3)).alloc (.cells #[.int .i64 kind, .int .i64 node, .int .i64 k, .int .i64 bit] 38)) (wr.heap.size + 1) 38 [.int .i64 kind, .int .i64 node, .int .i64 k, .int .i64 bit] := by
        rw [← alloc_size wr (.cells #[.int .i64 j] 3)]
        exact Blk.new' _ _ _ _ rfl
      have G := Lib.hid (And.intro hs (And.intro hsin (And.intro hfin (And.intro hbi (And.intro hbs (And.intro hml hlt))))))
      clear hcells hbl hsin hfin hbi hbs hml hlt hj hst hs
      go_upto_region 8 with fail
      generalize (wr.alloc (.cells #[.int .i64 j] 3)).alloc (.cells #[.int .i64 kind, .int .i64 node, .int .i64 k, .int .i64 bit] 38) = wX at *
      clear c0 c1 c2 c3
      generalize hbi : wr.heap.size = bi at *
      have s0 : wX.cell? ⟨bi + 1, 0, none⟩ = some (.int .i64 kind) := G.out.2.2.2.2.1.cell 0
      have s1 : wX.cell? ⟨bi + 1, 1, none⟩ = some (.int .i64 node) := G.out.2.2.2.2.1.cell 1
      have i0 : wX.cell? ⟨bi, 0, none⟩ = some (.int .i64 j) := G.out.2.2.2.1.cell 0
      have l0 : wX.cell? ⟨bl, 0, none⟩ = some (.map (some ml)) := G.out.2.2.1.l.cell 0
      have q0 : wX.cell? ⟨bw, 0, none⟩ = some (.int .i64 win) := G.out.2.2.1.w_.cell 0
      rcases hkd with hkd | hkd
      · simp only at hkd
        subst hkd
        obtain ⟨w7, hrun, hst7, hk7⟩ := G.out.2.2.1.store (k := node) (v := (j : Int) + 1) (wf_in64 G.out.2.1.node) (wf_in64 ⟨by omega, by omega⟩) (by omega)
        have hlw : FSt bw bl bg ml mg (j + 1) (lw l (j + 1)) win w w7 := by
          rw [lw_work G.out.1 rfl]
          exact hst7
        have j0 : w7.cell? ⟨bi, 0, none⟩ = some (.int .i64 j) := cell_keep1 hk7 i0 (by show bi ≠ ml; have := G.out.2.2.2.2.2.1; omega)
        have p0 : w7.cell? ⟨bw, 0, none⟩ = some (.int .i64 win) := hlw.w_.cell 0
        have htk := tk_work G.out.1 rfl
        have Z := Lib.hid (And.intro hlw htk)
        clear hst7 hk7 hlw htk
        by_cases hwin : (j : Int) + 1 < win
        · go_wp2_with fail
          go_roundw
          case rel => exact ⟨j + 1, by have := G.out.2.2.2.2.2.2; omega, by go_num, by rw [Z.out.2], Z.out.1⟩
          case measure => simp [intOf]; have := G.out.2.2.2.2.2.2; omega
        · have hok := HA.out.2.2.2.2.2 j G.out.2.2.2.2.2.2 (by omega)
          have hd : decide (tk l j > (j : Int) + 1 - win) = true := decide_eq_true (by have := hok.1; rw [Z.out.2] at this; exact this)
          have Hd := Lib.hid hd
          have Hc := Lib.hid (contains_spec (Z.out.1.cap (bi := bi) (i := j) j0 hj0 (by omega) (by omega) (by omega)) (HA.out.2.1.keep0 Z.out.1.k) HA.out.2.2.1 HA.out.2.2.2.1 hok.2)
          clear hok hd
          go_wp2_with fail
          refine (within_spec _ _ _ _ hsub).mono ?_
          rintro e w' ⟨rfl, rfl⟩
          rw [Hd.out]
          go_wp2_with fail
          refine Hc.out.mono ?_
          rintro e w' ⟨rfl, rfl⟩
          go_wp2_with fail
          go_roundw
          case rel => exact ⟨j + 1, by have := G.out.2.2.2.2.2.2; omega, by go_num, by rw [Z.out.2], Z.out.1⟩
          case measure => simp [intOf]; have := G.out.2.2.2.2.2.2; omega
      · simp only at hkd
        subst hkd
        have hlw : FSt bw bl bg ml mg (j + 1) (lw l (j + 1)) win w wX := by
          rw [lw_tick G.out.1 rfl]
          obtain ⟨D, h1, h2, h3⟩ := G.out.2.2.1.last
          exact { G.out.2.2.1 with last := ⟨D, h1.mono (by omega), h2, h3⟩ }
        have htk := tk_tick G.out.1 rfl
        have Z := Lib.hid (And.intro hlw htk)
        clear hlw htk
        by_cases hwin : (j : Int) + 1 < win
        · go_wp2_with fail
          go_roundw
          case rel => exact ⟨j + 1, by have := G.out.2.2.2.2.2.2; omega, by go_num, by rw [Z.out.2], Z.out.1⟩
          case measure => simp [intOf]; have := G.out.2.2.2.2.2.2; omega
        · have hok := HA.out.2.2.2.2.2 j G.out.2.2.2.2.2.2 (by omega)
          have hd : decide ((j : Int) + 1 > (j : Int) + 1 - win) = true := decide_eq_true (by have := hok.1; rw [Z.out.2] at this; exact this)
          have Hd := Lib.hid hd
          have Hc := Lib.hid (contains_spec (Z.out.1.cap (bi := bi) (i := j) i0 hj0 (by omega) (by omega) (by omega)) (HA.out.2.1.keep0 Z.out.1.k) HA.out.2.2.1 HA.out.2.2.2.1 hok.2)
          clear hok hd
          go_wp2_with fail
          refine (within_spec _ _ _ _ hsub).mono ?_
          rintro e w' ⟨rfl, rfl⟩
          rw [Hd.out]
          go_wp2_with fail
          refine Hc.out.mono ?_
          rintro e w' ⟨rfl, rfl⟩
          go_wp2_with fail
          go_roundw
          case rel => exact ⟨j + 1, by have := G.out.2.2.2.2.2.2; omega, by go_num, by rw [Z.out.2], Z.out.1⟩
          case measure => simp [intOf]; have := G.out.2.2.2.2.2.2; omega
    · obtain rfl : j = l.length := by omega
      have K := Lib.hid hst.k
      clear hst hlt hj
      go_wp2
      go_ret
      exact ⟨rfl, K.out⟩
set_option maxHeartbeats 6400000 in
set_option maxRecDepth 100000 in
theorem fair_false {w : World} {v u : Value} {l : List ST} {ns : List Int} {win : Int} (h : StepsAt w v l) (hin : ∀ s ∈ l, s.In ∧ (s.kind = 1 ∨ s.kind = 2)) (hu : IntsOf w u ns) (hnl : ns.length ≤ 1000) (hwf : ∀ n ∈ ns, (Lit.int .i64 n).wf = true) (hl : l.length ≤ 1000) (hw1 : 1 ≤ win) (hw2 : win ≤ 1000)
    (hall : win ≤ l.length ∧ tk l win.toNat = 0) :
    Calls Tryd.prog 23 #[v, .int .i64 win, u] w fun e w' => e = .returned (.bool false) ∧ Keep [] w w' := by
  have H := Lib.hid h
  have HA := Lib.hid (And.intro hin (And.intro hu (And.intro hnl (And.intro hwf (And.intro hl hall)))))
  have hmf : ∀ (fn : Fn) (first cap : Array Value) (w : World), (Instr.makeFunc fn first cap).run Tryd.prog w = .ok (.func fn first cap) w := fun _ _ _ _ => rfl
  have hmm := @run_makeMap Tryd.prog
  have hlI : (l.length : Int) ≤ 1000 := by omega
  obtain ⟨a, c, rfl, _⟩ := h
  obtain ⟨a2, c2, rfl, _⟩ := hu
  clear hin hnl hwf hl hall
  go_enter Tryd.func23, Tryd.ntmps23
  go_wp2_with fail
  clear hmm
  have hst := fst_start w win
  generalize ((((w.alloc (Obj.cells #[Value.int IntKind.i64 win] 3)).alloc (Obj.map #[] 0)).alloc (Obj.map #[] 0)).alloc (Obj.cells #[Value.map (some (w.heap.size + 1))] 80)).alloc (Obj.cells #[Value.map (some (w.heap.size + 1 + 1))] 81) = wS at *
  generalize w.heap.size + 1 + 1 + 1 + 1 = bg at *
  generalize w.heap.size + 1 + 1 + 1 = bl at *
  generalize w.heap.size + 1 + 1 = mg at *
  generalize w.heap.size + 1 = ml at *
  generalize hbw : w.heap.size = bw at *
  have HS := Lib.hid hst
  clear hst
  go_loopw [7, 10, 11, 12, 19] (fun v7 _ _ _ v19 wr => ∃ j : Nat, j ≤ l.length ∧ (j : Int) < win ∧ v19 = .int .i64 j ∧ v7 = .int .i64 (tk l j) ∧ FSt bw bl bg ml mg j (lw l j) win w wr) (fun _ _ _ _ v _ => l.length - (intOf v).toNat)
  case atStart => exact ⟨0, by omega, by omega, rfl, rfl, HS.out⟩
  case round =>
    obtain ⟨j, hj, hjw, rfl, rfl, hst⟩ := hrel
    by_cases hlt : j < l.length
    · obtain ⟨s, hs⟩ : ∃ s, l[j]? = some s := ⟨_, List.getElem?_eq_getElem hlt⟩
      have hkd := (HA.out.1 s (List.mem_of_getElem? hs)).2
      have hsin := (HA.out.1 s (List.mem_of_getElem? hs)).1
      obtain ⟨a', c', hva, hcells⟩ := H.out
      cases hva
      obtain ⟨b, off, rfl, hbl, _⟩ := hcells j s hs
      obtain ⟨kind, node, k, bit⟩ := s
      have c0 : wr.cell? ⟨b, off + j * 4, none⟩ = some (.int .i64 kind) := steps_cells H.out hst.k hs 0 _ rfl
      have c1 : wr.cell? ⟨b, off + j * 4 + 1, none⟩ = some (.int .i64 node) := steps_cells H.out hst.k hs 1 _ rfl
      have c2 : wr.cell? ⟨b, off + j * 4 + 2, none⟩ = some (.int .i64 k) := steps_cells H.out hst.k hs 2 _ rfl
      have c3 : wr.cell? ⟨b, off + j * 4 + 3, none⟩ = some (.int .i64 bit) := steps_cells H.out hst.k hs 3 _ rfl
      have hltI : (j : Int) < (l.length : Int) := by omega
      have hjI : (j : Int) ≤ 1000 := by omega
      have hj0 : (0 : Int) ≤ (j : Int) := by omega
      have hwr : IntKind.i64.wrap ((j : Int) + 1) = (j : Int) + 1 := IntWalk.i64_in _ (by omega)
      have hsub : IntKind.i64.wrap ((j : Int) + 1 - win) = (j : Int) + 1 - win := IntWalk.i64_in _ (by omega)
      have hml : ml < wr.heap.size := hst.last.lt
      have hfin := hst.keep (((Keep.refl [] wr).alloc (.cells #[.int .i64 j] 3)).alloc (.cells #[.int .i64 kind, .int .i64 node, .int .i64 k, .int .i64 bit] 38))
      have hbi : Blk ((wr.alloc (.cells #[.int .i64 j] 3)).alloc (.cells #[.int .i64 kind, .int .i64 node, .int .i64 k, .int .i64 bit] 38)) wr.heap.size 3 [.int .i64 j] := Blk.alloc (Blk.new' _ _ _ _ rfl) _
      have hbs : Blk ((wr.alloc (.cells #[.int .i64 j] 3)).alloc (.cells #[.int .i64 kind, .int .i64 node, .int .i64 k, .int .i64 bit] 38)) (wr.heap.size + 1) 38 [.int .i64 kind, .int .i64 node, .int .i64 k, .int .i64 bit] := by
        rw [← alloc_size wr (.cells #[.int .i64 j] 3)]
        exact Blk.new' _ _ _ _ rfl
      have G := Lib.hid (And.intro hs (And.intro hsin (And.intro hfin (And.intro hbi (And.intro hbs (And.intro hml hlt))))))
      clear hcells hbl hsin hfin hbi hbs hml hlt hj hst hs
      go_upto_region 8 with fail
      generalize (wr.alloc (.cells #[.int .i64 j] 3)).alloc (.cells #[.int .i64 kind, .int .i64 node, .int .i64 k, .int .i64 bit] 38) = wX at *
      clear c0 c1 c2 c3
      generalize hbi : wr.heap.size = bi at *
      have s0 : wX.cell? ⟨bi + 1, 0, none⟩ = some (.int .i64 kind) := G.out.2.2.2.2.1.cell 0
      have s1 : wX.cell? ⟨bi + 1, 1, none⟩ = some (.int .i64 node) := G.out.2.2.2.2.1.cell 1
      have i0 : wX.cell? ⟨bi, 0, none⟩ = some (.int .i64 j) := G.out.2.2.2.1.cell 0
      have l0 : wX.cell? ⟨bl, 0, none⟩ = some (.map (some ml)) := G.out.2.2.1.l.cell 0
      have q0 : wX.cell? ⟨bw, 0, none⟩ = some (.int .i64 win) := G.out.2.2.1.w_.cell 0
      rcases hkd with hkd | hkd
      · simp only at hkd
        subst hkd
        obtain ⟨w7, hrun, hst7, hk7⟩ := G.out.2.2.1.store (k := node) (v := (j : Int) + 1) (wf_in64 G.out.2.1.node) (wf_in64 ⟨by omega, by omega⟩) (by omega)
        have hlw : FSt bw bl bg ml mg (j + 1) (lw l (j + 1)) win w w7 := by
          rw [lw_work G.out.1 rfl]
          exact hst7
        have j0 : w7.cell? ⟨bi, 0, none⟩ = some (.int .i64 j) := cell_keep1 hk7 i0 (by show bi ≠ ml; have := G.out.2.2.2.2.2.1; omega)
        have p0 : w7.cell? ⟨bw, 0, none⟩ = some (.int .i64 win) := hlw.w_.cell 0
        have htk := tk_work G.out.1 rfl
        have Z := Lib.hid (And.intro hlw htk)
        clear hst7 hk7 hlw htk
        by_cases hwin : (j : Int) + 1 < win
        · go_wp2_with fail
          go_roundw
          case rel => exact ⟨j + 1, by have := G.out.2.2.2.2.2.2; omega, by omega, by go_num, by rw [Z.out.2], Z.out.1⟩
          case measure => simp [intOf]; have := G.out.2.2.2.2.2.2; omega
        · have htz : tk l j = 0 := by
            have h1 := HA.out.2.2.2.2.2.2
            have h2 : win.toNat = j + 1 := by omega
            rw [h2, Z.out.2] at h1
            exact h1
          have hd : decide (tk l j > (j : Int) + 1 - win) = false := decide_eq_false (by omega)
          have Hd := Lib.hid hd
          clear hd htz
          go_wp2_with fail
          refine (within_spec _ _ _ _ hsub).mono ?_
          rintro e w' ⟨rfl, rfl⟩
          rw [Hd.out]
          go_wp2
          go_ret
          exact ⟨rfl, Z.out.1.k⟩
      · simp only at hkd
        subst hkd
        have hlw : FSt bw bl bg ml mg (j + 1) (lw l (j + 1)) win w wX := by
          rw [lw_tick G.out.1 rfl]
          obtain ⟨D, h1, h2, h3⟩ := G.out.2.2.1.last
          exact { G.out.2.2.1 with last := ⟨D, h1.mono (by omega), h2, h3⟩ }
        have htk := tk_tick G.out.1 rfl
        have Z := Lib.hid (And.intro hlw htk)
        clear hlw htk
        by_cases hwin : (j : Int) + 1 < win
        · go_wp2_with fail
          go_roundw
          case rel => exact ⟨j + 1, by have := G.out.2.2.2.2.2.2; omega, by omega, by go_num, by rw [Z.out.2], Z.out.1⟩
          case measure => simp [intOf]; have := G.out.2.2.2.2.2.2; omega
        · have htz : (j : Int) + 1 = 0 := by
            have h1 := HA.out.2.2.2.2.2.2
            have h2 : win.toNat = j + 1 := by omega
            rw [h2, Z.out.2] at h1
            exact h1
          have hd : decide ((j : Int) + 1 > (j : Int) + 1 - win) = false := decide_eq_false (by omega)
          have Hd := Lib.hid hd
          clear hd htz
          go_wp2_with fail
          refine (within_spec _ _ _ _ hsub).mono ?_
          rintro e w' ⟨rfl, rfl⟩
          rw [Hd.out]
          go_wp2
          go_ret
          exact ⟨rfl, Z.out.1.k⟩
    · have := HA.out.2.2.2.2.2.1
      exact absurd hjw (by omega)
end Go.Proofs.YtndpbkhpllmhmaaDoor