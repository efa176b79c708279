/- Bytes: as arguments, as strings. -/
import Derived.Test.YtolhcikgodaecaaRows
import Derived.WalkKit
import Derived.Laws.BytesArg
import Derived.Test.YtolhcikgodaecaaNetObj
namespace Go.Proofs.Ytolhcikgodaecaa
open Go.ChangeShapes Go.WideShapes Go.RowKit Go.Deep

def strB (bs : List UInt8) : ByteArray := ⟨bs.toArray⟩
theorem strB_inj {a b : List UInt8} (h : strB a = strB b) : a = b := by
  unfold strB at h
  injection h with h
  simpa using congrArg Array.toList h
theorem strB_toList (bs : List UInt8) : (strB bs).toList = bs := by rw [ByteArray.toList_eq]; rfl
theorem strB_beq (a b : List UInt8) {r : Bool} (h : (a == b) = r) : ((strB a).toList == (strB b).toList) = r := by rw [strB_toList, strB_toList]; exact h
theorem conv_bytes {w : World} {v : Value} {bs : List UInt8} (h : BytesOf w v bs) (hd : Try.prog.underlying 9 = some .string) (he : Try.prog.underlying 5 = some (.int .u8)) : (convert 27 9 v).run Try.prog w = .ok (.string (strB bs)) w := by
  obtain ⟨a, c, rfl, h⟩ := h
  by_cases hb : bs = []
  · subst hb
    have := run_convert_bytes_string (P := Try.prog) w 27 9 5 a 0 c Try.underlying27 he hd
    simp only [List.length_nil]
    rw [this]
    have hl : ∀ ad, (loadCells ad 0).run Try.prog w = .ok #[] w := fun ad => by simpa using run_loadCells_list (P := Try.prog) w ad [] (by simp)
    cases a with
    | none => simp [Conv.bytesToString, strB]; rfl
    | some ad =>
      have h2 := run_bytesToString (P := Try.prog) w ad 0 c [] (by simpa using hl ad)
      rw [h2]
      rfl
  · obtain ⟨b, off, rfl, _, hc⟩ := h hb
    have := run_convert_bytes_arg (P := Try.prog) w 27 5 Try.underlying27 he b off bs.length c (bs.map fun x => (x.toNat : Int)) (by simp) (fun i hi => by
      rw [hc i bs[i] (List.getElem?_eq_getElem hi)]
      simp [u8, List.getD, List.getElem?_eq_getElem hi]) 9 hd
    rw [this]
    congr 2
    unfold strOfNums strB
    have : (bs.map fun x => (x.toNat : Int)).map (fun n => UInt8.ofNat n.toNat) = bs := by
      rw [List.map_map]
      conv => rhs; rw [← List.map_id bs]
      exact List.map_congr_left fun x _ => by simp
    rw [this]
theorem bytes_open {H : Type} {enc : TypeId × Value → H} {P : Program} {w : World} {r : Reach} {b0 : Nat} {t e : TypeId} {v : Value} {d : DataW H} {p : List MemPlace} (ht : P.underlying t = some (.slice e)) (he : P.underlying e = some (.int .u8)) (hC : P.cellsOf e = 1)
    (ho : Value.okWide P w r b0 t v) (h : DataW.Trod enc P w 0 (fun _ => true) true t v d p) :
    ∃ bs, BytesOf w v bs := by
  obtain ⟨css, ⟨a, c, hv, hr⟩, hall'⟩ := rows_open 1 ht hC (by omega) ho h
  obtain ⟨bs, hlen, hx⟩ := choose_list (fun cs (x : UInt8) => cs = [u8 x]) css (fun cs hcs => by
    obtain ⟨n, y, hy⟩ := hall' cs hcs
    obtain ⟨i, hi, rfl⟩ := List.mem_iff_getElem.1 hcs
    obtain ⟨_, _, _, _, h1⟩ := hr (by intro h; subst h; simp at hi)
    have h2 := (h1 i _ (List.getElem?_eq_getElem hi)).1
    obtain ⟨u, hu⟩ := List.length_eq_one_iff.1 h2
    rw [hu] at hy ⊢
    obtain ⟨x, hx, _, hw⟩ := DataW.trod_int he hy
    simp at hx
    have hw' : 0 ≤ x ∧ x ≤ 255 := by
      simp [Lit.wf] at hw
      exact ⟨hw.1, hw.2⟩
    refine ⟨UInt8.ofNat x.toNat, ?_⟩
    rw [hx]
    unfold u8
    have : x.toNat < 256 := by omega
    rw [UInt8.toNat_ofNat_of_lt' (by simpa [UInt8.size] using this)]
    congr 2
    omega)
  refine ⟨bs, ⟨a, c, by rw [hlen]; exact hv, fun hne => ?_⟩⟩
  obtain ⟨b, off, ha, hb, hc⟩ := hr (by intro h; subst h; simp at hlen; exact hne hlen)
  refine ⟨b, off, ha, hb, fun k x hk => ?_⟩
  have hk' : k < bs.length := by
    rcases Nat.lt_or_ge k bs.length with h | h
    · exact h
    · rw [List.getElem?_eq_none h] at hk; cases hk
  have h1 := hx k _ _ (List.getElem?_eq_getElem (by omega)) hk
  have h2 := (hc k _ (List.getElem?_eq_getElem (by omega))).2 0 (u8 x) (by rw [h1]; rfl)
  simpa using h2
end Go.Proofs.Ytolhcikgodaecaa
