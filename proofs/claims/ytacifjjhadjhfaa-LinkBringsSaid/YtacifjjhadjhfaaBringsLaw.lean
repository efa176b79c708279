/- The law LinkBrings. -/
import Derived.Test.YtacifjjhadjhfaaBringsArgs
import Derived.Deep.RegionHeld3
namespace Go.Proofs.Ytacifjjhadjhfaa
open Go.RowKit
theorem quietB {f : FuncId} {args : Array Value} {w : World} {n : Nat} {v : Value} (h : Calls Try.prog f args (w.drewN n) fun e w' => e = .returned v ∧ ∃ k, w' = (w.drewN n).drewN k) : Calls Try.prog f args (w.drewN n) fun e w'' => e = .returned v ∧ ∃ m, w'' = w.drewN m :=
  h.mono fun _ _ ⟨he, k, hk⟩ => ⟨he, n + k, by rw [hk, World.drewN_drewN]⟩
theorem same_q {f : FuncId} {args : Array Value} {w : World} {n : Nat} {v : Value} (h : Calls Try.prog f args (w.drewN n) (Same' v (w.drewN n))) : Calls Try.prog f args (w.drewN n) fun e w'' => e = .returned v ∧ ∃ m, w'' = w.drewN m :=
  h.mono fun _ _ ⟨he, hm⟩ => ⟨he, n, hm.symm⟩
def wayLen (g : Nat) (w : World) : Nat := match w.cell? ⟨g, 2, none⟩ with | some (.slice _ n _) => n | _ => 0
theorem PrAt.wayLen {X : List Nat} {w0 w : World} {g pa pb : Nat} {vw : Value} {u : Nat → Value} {a b : LK} {fs : List FR} {now : Int} {o : Nat → List BV} {m : Nat} (h : PrAt X w0 w g pa pb vw u a b fs now o m) : Go.Proofs.Ytacifjjhadjhfaa.wayLen g w = fs.length := by
  have h2 : w.cell? ⟨g, 2, none⟩ = some vw := h.p.head.cell 2
  obtain ⟨av, cv, rfl⟩ := h.p.way.shape
  unfold Go.Proofs.Ytacifjjhadjhfaa.wayLen
  rw [h2]
/-- where the rounds of the end stand -/
def EndR (w0 : World) (g pa pb k : Nat) (w : World) : Prop :=
  ∃ X vw u p q fs now o, PrAt X w0 w g pa pb vw u p q fs now o 300 ∧ now ≤ 300 + 2 * (k : Int) ∧ fs.length ≤ 2008 ∧ (1 ≤ k → fs = [] ∧ Wk p q [] now (273 - k))
def InR (w0 : World) (g pa pb k : Nat) (now : Int) (w : World) : Prop :=
  ∃ X vw u p q fs o, PrAt X w0 w g pa pb vw u p q fs now o 300 ∧ fs.length ≤ 2024 ∧ (1 ≤ k → Wk p q (fs.map frd) now (272 - k))
theorem outs_in {X X' : List Nat} {w0 w w' : World} {g pa pb k : Nat} {vw vw' : Value} {u u' : Nat → Value} {p q : LK} {fs fs2 fs3 : List FR} {now : Int} {o o' : Nat → List BV} (h : PrAt X w0 w g pa pb vw u p q fs now o 300) (hl : fs.length ≤ 2008) (hw : 1 ≤ k → fs = [] ∧ Wk p q [] now (273 - k))
    (e2 : fs2.map frd = outF p now) (l2 : fs2.length ≤ 8) (e3 : fs3.map frd = outF q (now + 1)) (l3 : fs3.length ≤ 8) (h' : PrAt X' w0 w' g pa pb vw' u' (outL p now) (outL q (now + 1)) (fs ++ fs2 ++ fs3) (now + 1 + 1) o' 300) : InR w0 g pa pb k (now + 1 + 1) w' := by
  refine ⟨X', vw', u', _, _, _, o', h', by simp only [List.length_append]; omega, fun hk => ?_⟩
  obtain ⟨rfl, h1⟩ := hw hk
  have h2 := wk_outs h.r h1
  have e : (([] : List FR) ++ fs2 ++ fs3).map frd = ([] ++ outF p now) ++ outF q (now + 1) := by rw [List.map_append, List.map_append, e2, e3]; rfl
  rw [e]
  have : 273 - k - 1 = 272 - k := by omega
  rw [← this]
  exact h2
theorem end_next {w0 w : World} {g pa pb k : Nat} {now : Int} (h : InR w0 g pa pb k now w) (h0 : wayLen g w = 0) (hn : now ≤ 300 + 2 * ((k + 1 : Nat) : Int)) : EndR w0 g pa pb (k + 1) w := by
  obtain ⟨X, vw, u, p, q, fs, o, h, hl, hw⟩ := h
  rw [h.wayLen] at h0
  obtain rfl : fs = [] := List.eq_nil_of_length_eq_zero h0
  refine ⟨X, vw, u, p, q, [], now, o, h, hn, by simp, fun _ => ⟨rfl, ?_⟩⟩
  rcases Nat.eq_zero_or_pos k with rfl | hk
  · exact wk_start h.r
  · have h1 := hw hk
    have : 273 - (k + 1) = 272 - k := by omega
    rw [this]
    exact h1
set_option maxHeartbeats 16000000 in
set_option maxRecDepth 100000 in
theorem linkBrings_any (w : World) (v : Value) (l : List TN) (hl : TurnsOf w v l) : Calls Try.prog 5 #[v] w fun e w' => e = .returned (.bool true) ∧ Keep [] w w' := by
  have Hl := Lib.hid hl
  obtain ⟨a, c, rfl, _⟩ := hl
  by_cases h300 : 300 < l.length
  · have hI : (300 : Int) < (l.length : Int) := by omega
    clear h300
    go_enter Try.func5, Try.ntmps5
    go_wp2_with fail
    refine (alive_spec _).mono ?_
    rintro e w1 ⟨rfl, k1⟩
    go_wp2
    go_ret
    exact ⟨rfl, k1⟩
  · have hI : ¬ (300 : Int) < (l.length : Int) := by omega
    have Hle := Lib.hid h300
    clear h300
    go_enter Try.func5, Try.ntmps5
    go_wp2_with fail
    refine (alive_spec _).mono ?_
    rintro e w1 ⟨rfl, k1⟩
    go_wp2_with fail
    refine (new_spec w1 0 1 1 1 100000).mono ?_
    rintro e w2 ⟨pa, Fa, rfl, h2, k2⟩
    go_wp2_with fail
    refine (new_spec w2 1 0 1 1 100000).mono ?_
    rintro e w3 ⟨pb, Fb, rfl, h3, k3⟩
    have h4 := pair_new (tw_new k1 h2 k2 h3 k3)
    have H4 := Lib.hid h4
    clear h4 h2 h3 k2 k3 k1
    go_wp2_with fail
    go_loopw [5, 6] (fun v5 _ wr => ∃ (i : Nat) (X : List Nat) (vw : Value) (u : Nat → Value) (p q : LK) (fs : List FR) (now : Int) (o : Nat → List BV), i ≤ l.length ∧ v5 = .int .i64 i ∧ now ≤ i ∧ fs.length ≤ 2008 ∧ PrAt X w wr w3.heap.size pa pb vw u p q fs now o i) (fun v _ _ => l.length - (intOf v).toNat)
    case atStart => exact ⟨0, _, _, _, _, _, [], 0, _, by omega, rfl, by omega, by simp, ⟨H4.out, Pr.start, by simp, by simp⟩⟩
    case round =>
      clear H4
      obtain ⟨i, X, vw, u, p, q, fs, now, o, hi, rfl, hnow, hfl, h⟩ := hrel
      by_cases hlt : i < l.length
      · obtain ⟨x, hx⟩ : ∃ x, l[i]? = some x := ⟨_, List.getElem?_eq_getElem hlt⟩
        obtain ⟨a', c', hva, hcells⟩ := Hl.out.keep0 h.p.out
        cases hva
        obtain ⟨b, off, rfl, hb, h0, h1, h2, hby, hk⟩ := hcells i x hx
        have Hby : Hid (BytesOf w x.v x.bs) := by
          obtain ⟨a', c', hva, hcells⟩ := Hl.out
          obtain ⟨_, _, _, _, _, _, _, hby, _⟩ := hcells i x hx
          exact Lib.hid hby
        obtain ⟨va, vc, hbv⟩ := hby.shape
        rw [hbv] at h2 Hby
        obtain ⟨aw, cw, hvw⟩ := h.p.way.shape
        rw [hvw] at h
        have hg2 : wr.cell? ⟨w3.heap.size, 2, none⟩ = some (.slice aw fs.length cw) := h.p.head.cell 2
        have hltI : (i : Int) < (l.length : Int) := by omega
        have hi300 : (i : Int) ≤ 300 := by have := Hle.out; omega
        have hi300N : i ≤ 300 := by omega
        have H := Lib.hid h
        have Hnow := Lib.hid hnow
        have Hfl := Lib.hid hfl
        have Hk := Lib.hid hk
        clear hcells hx hby hbv hvw h hnow hfl hk
        by_cases g1 : 200 < x.bs.length
        · have gI : (200 : Int) < (x.bs.length : Int) := by omega
          clear g1
          go_wp2
          go_ret
          exact ⟨rfl, H.out.p.out⟩
        · have gI : ¬ (200 : Int) < (x.bs.length : Int) := by omega
          by_cases g2 : 2000 < fs.length
          · have gI2 : (2000 : Int) < (fs.length : Int) := by omega
            clear g1 g2
            go_wp2
            go_ret
            exact ⟨rfl, H.out.p.out⟩
          · have gI2 : ¬ (2000 : Int) < (fs.length : Int) := by omega
            have Gs := Lib.hid (And.intro g1 g2)
            clear g1 g2
            have ht := Lib.hid (turn_all (way := x.way) (k := x.k) (bs := x.bs) (v := .slice va x.bs.length vc) H.out (by omega) (Or.inr Hby.out) (by have := Gs.out.1; omega) Hk.out (by have := Gs.out.2; omega) (by have := Hnow.out; omega))
            go_wp2_with fail
            refine ht.out.mono ?_
            rintro e w5 ⟨rfl, X2, vw2, u2, p2, q2, fs2, now2, o2, h5, hn5, hf5⟩
            have hbg := Lib.hid (h5.beg (by omega))
            have s0 : w5.cell? ⟨w3.heap.size, 4, none⟩ = some (u2 0) := h5.p.head.cell 4
            have s1 : w5.cell? ⟨w3.heap.size, 5, none⟩ = some (u2 1) := h5.p.head.cell 5
            have s2 : w5.cell? ⟨w3.heap.size, 6, none⟩ = some (u2 2) := h5.p.head.cell 6
            have s3 : w5.cell? ⟨w3.heap.size, 7, none⟩ = some (u2 3) := h5.p.head.cell 7
            generalize hz0 : u2 0 = z0 at hbg s0
            generalize hz1 : u2 1 = z1 at hbg s1
            generalize hz2 : u2 2 = z2 at hbg s2
            generalize hz3 : u2 3 = z3 at hbg s3
            have H5 := Lib.hid h5
            have F5 := Lib.hid (And.intro hn5 hf5)
            clear h5 hn5 hf5 ht hg2 h0 h1 h2 hz0 hz1 hz2 hz3
            go_wp2_with fail
            go_quiet (first | (go_at_call 16; with_reducible exact quietB (hbg.out.1 _)) | (go_at_call 16; with_reducible exact quietB (hbg.out.2 _)))
            have H6 := Lib.hid (H5.out.drewN nq)
            clear H5 hbg s0 s1 s2 s3 H Hby
            go_wp2
            go_roundw
            case rel => exact ⟨i + 1, X2, vw2, u2, p2, q2, fs2, now2, o2, by omega, by go_num, by have := F5.out.1; have := Hnow.out; push_cast; omega, by have := F5.out.2; have := Gs.out.2; omega, H6.out⟩
            case measure => simp [intOf]; omega
      · obtain rfl : i = l.length := by omega
        have H7 : Hid (PrAt X w wr w3.heap.size pa pb vw u p q fs now o 300) := Lib.hid (h.mono (by have := Hle.out; omega))
        have G7 : Hid (now ≤ 300 ∧ fs.length ≤ 2008) := Lib.hid ⟨by have := Hle.out; omega, hfl⟩
        clear h hnow hfl
        have HE : Hid (EndR w w3.heap.size pa pb 0 wr) := Lib.hid ⟨X, vw, u, p, q, fs, now, o, H7.out, by have := G7.out.1; omega, G7.out.2, fun h => absurd h (by omega)⟩
        clear H7 G7
        go_wp2_with fail
        generalize wr = wo at *
        go_loopw [7, 8] (fun v7 _ wr => ∃ k : Nat, k ≤ 400 ∧ v7 = .int .i64 k ∧ Hid (EndR w w3.heap.size pa pb k wr)) (fun v _ _ => 400 - (intOf v).toNat)
        case atStart => exact ⟨0, by omega, rfl, HE⟩
        case round =>
          clear HE
          obtain ⟨k, hk, rfl, hE⟩ := hrel
          by_cases hlt : k < 400
          · have hkI : (k : Int) < 400 := by omega
            obtain ⟨X, vw, u, p, q, fs, now, o, h, hn, hfl, hw⟩ := hE.out
            have hnow : now ≤ 10000 := by omega
            have ho := Lib.hid (turn_o0 h (by omega) hnow)
            have A := Lib.hid (And.intro h (And.intro hn (And.intro hfl hw)))
            clear hE h hn hfl hw hnow
            go_wp2_with fail
            refine ho.out.mono ?_
            rintro e w5 ⟨rfl, X2, vw2, u2, fs2, e2, l2, h5⟩
            have ho2 := Lib.hid (turn_o1 h5 (by have := A.out.2.2.1; rw [List.length_append]; omega) (by have := A.out.2.1; omega))
            have B := Lib.hid (And.intro e2 l2)
            clear ho e2 l2 h5
            go_wp2_with fail
            refine ho2.out.mono ?_
            rintro e w6 ⟨rfl, X3, vw3, u3, fs3, e3, l3, h6⟩
            have HI : Hid (InR w w3.heap.size pa pb k (now + 1 + 1) w6) := Lib.hid (outs_in A.out.1 A.out.2.2.1 A.out.2.2.2 B.out.1 B.out.2 e3 l3 h6)
            have Hn : Hid (now + 1 + 1 ≤ 300 + 2 * ((k + 1 : Nat) : Int)) := Lib.hid (by have := A.out.2.1; push_cast; omega)
            clear A B e3 l3 h6 ho2
            generalize now + 1 + 1 = now2 at *
            go_wp2_with fail
            generalize wr = wo2 at *
            go_loopw [8] (fun _ wr => Hid (InR w w3.heap.size pa pb k now2 wr)) (fun _ wr => wayLen w3.heap.size wr)
            case atStart => exact HI
            case round =>
              clear HI
              obtain ⟨X, vw, u, p, q, fs, o, h, hl, hw⟩ := hrel.out
              obtain ⟨aw, cw, hvw⟩ := h.p.way.shape
              rw [hvw] at h
              have hwl := h.wayLen
              have hg2 : wr.cell? ⟨w3.heap.size, 2, none⟩ = some (.slice aw fs.length cw) := h.p.head.cell 2
              cases fs with
              | nil =>
                have HN : Hid (EndR w w3.heap.size pa pb (k + 1) wr) := Lib.hid (end_next hrel.out hwl Hn.out)
                have hg2 : wr.cell? ⟨w3.heap.size, 2, none⟩ = some (.slice aw 0 cw) := hg2
                clear hrel h hl hw hvw hwl
                go_wp2
                go_roundw
                case rel => exact ⟨k + 1, by omega, by go_num, HN⟩
                case measure => simp [intOf]; omega
              | cons s fs =>
                have ht := Lib.hid (turn_in h (by omega) (by rw [List.length_cons] at hl; omega) hw)
                have L := Lib.hid (And.intro hl hwl)
                have hg2 : wr.cell? ⟨w3.heap.size, 2, none⟩ = some (.slice aw (fs.length + 1) cw) := hg2
                have hpos : (0 : Int) < ((fs.length + 1 : Nat) : Int) := by omega
                clear hrel h hl hw hvw hwl
                go_wp2_with fail
                refine ht.out.mono ?_
                rintro e w8 ⟨rfl, X8, vw8, u8, p8, q8, o8, h8, hw8⟩
                have H8 : Hid (InR w w3.heap.size pa pb k now2 w8) := Lib.hid ⟨X8, vw8, u8, p8, q8, fs, o8, h8, by have := L.out.1; rw [List.length_cons] at this; omega, hw8⟩
                have M8 : Hid (wayLen w3.heap.size w8 < wayLen w3.heap.size wr) := Lib.hid (by rw [h8.wayLen, L.out.2, List.length_cons]; omega)
                clear ht h8 hw8 hg2 hpos
                go_wp2
                go_roundw
                case rel => exact H8
                case measure => exact M8.out
          · obtain rfl : k = 400 := by omega
            obtain ⟨X, vw, u, p, q, fs, now, o, h, hn, hfl, hw⟩ := hE.out
            obtain ⟨rfl, hw0⟩ := hw (by omega)
            obtain ⟨ep, eq, e0, e1⟩ := wk_end h.r hw0
            have hld := Lib.hid (h.lds (by omega) e0 e1)
            have ho : Hid (∀ n, Calls Try.prog 13 #[.pointer (some ⟨pa, 0, none⟩)] (wr.drewN n) (Same' (.int .i64 0) (wr.drewN n))) := Lib.hid (fun n => by have := tw_open (h.drewN n).p.tw; rw [ep] at this; exact this)
            have ho2 : Hid (∀ n, Calls Try.prog 13 #[.pointer (some ⟨pb, 0, none⟩)] (wr.drewN n) (Same' (.int .i64 0) (wr.drewN n))) := Lib.hid (fun n => by have := tw_open (h.drewN n).p.tw.swap; rw [eq] at this; exact this)
            have sa : wr.cell? ⟨w3.heap.size, 0, none⟩ = some (.pointer (some ⟨pa, 0, none⟩)) := h.p.head.cell 0
            have sb : wr.cell? ⟨w3.heap.size, 1, none⟩ = some (.pointer (some ⟨pb, 0, none⟩)) := h.p.head.cell 1
            have s0 : wr.cell? ⟨w3.heap.size, 4, none⟩ = some (u 0) := h.p.head.cell 4
            have s1 : wr.cell? ⟨w3.heap.size, 5, none⟩ = some (u 1) := h.p.head.cell 5
            have s2 : wr.cell? ⟨w3.heap.size, 6, none⟩ = some (u 2) := h.p.head.cell 6
            have s3 : wr.cell? ⟨w3.heap.size, 7, none⟩ = some (u 3) := h.p.head.cell 7
            have HK := Lib.hid h.p.out
            generalize hz0 : u 0 = z0 at hld s0
            generalize hz1 : u 1 = z1 at hld s1
            generalize hz2 : u 2 = z2 at hld s2
            generalize hz3 : u 3 = z3 at hld s3
            clear hE h hn hfl hw hw0 ep eq e0 e1 hz0 hz1 hz2 hz3
            go_wp2_with fail
            go_quiet (first | (go_at_call 17; with_reducible exact quietB (hld.out.1 _)) | (go_at_call 17; with_reducible exact quietB (hld.out.2 _)) | (go_at_call 13; with_reducible exact same_q (ho.out _)) | (go_at_call 13; with_reducible exact same_q (ho2.out _)))
            clear hld ho ho2 sa sb s0 s1 s2 s3
            go_wp2
            go_ret
            exact ⟨rfl, HK.out.drewN _⟩
theorem walk_linkBrings {H : Type} {enc : TypeId × Value → H} (W : World) {v1 : Value} {d1 : DataW H} {p1 : List MemPlace} {base : Nat}
    (o1 : Value.okWide Try.prog W .any base 48 v1) (h1 : DataW.Trod enc Try.prog W 0 (fun _ => true) true 48 v1 d1 p1) :
    Calls Try.prog 5 #[v1] W fun e w' => e = .returned (.bool true) ∧ Below W.heap.size W w' := by
  obtain ⟨l, hl⟩ := turns_open o1 h1
  exact (linkBrings_any W v1 l hl).mono fun _ _ ⟨he, hk⟩ => ⟨he, hk.to_below⟩
end Go.Proofs.Ytacifjjhadjhfaa
