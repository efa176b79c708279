/- The pieces of a text between single bytes, and how they are put together again. -/
import Derived.Test.YtbdkmfcgnolihaaGreatDoorNums
import Derived.Lib.SplitLaws
import Derived.Lib.JoinLaws
namespace Go.Proofs.YtbdkmfcgnolihaaGreatDoor
set_option linter.unusedSimpArgs false
set_option linter.unnecessarySimpa false
set_option linter.unusedVariables false
open Go.Lib
abbrev BS := List UInt8
def strB (bs : BS) : ByteArray := ⟨bs.toArray⟩
theorem strB_data (bs : BS) : (strB bs).data.toList = bs := by simp [strB]
theorem strB_of (s : ByteArray) : strB s.data.toList = s := by cases s; simp [strB]
theorem strB_size (bs : BS) : (strB bs).size = bs.length := by simp [strB, ByteArray.size]
theorem strB_toList (bs : BS) : (strB bs).toList = bs := by rw [ByteArray.toList_eq]; exact strB_data bs
theorem strB_inj {a b : BS} (h : strB a = strB b) : a = b := by have := congrArg (fun s : ByteArray => s.data.toList) h; simpa [strB_data] using this
/-- the pieces between the bytes c -/
def pieces (c : UInt8) : BS → List BS
  | [] => [[]]
  | b :: r => if b = c then [] :: pieces c r else match pieces c r with
    | [] => [[b]]
    | p :: ps => (b :: p) :: ps
theorem pieces_ne (c : UInt8) : ∀ l : BS, pieces c l ≠ []
  | [] => by simp [pieces]
  | b :: r => by
    unfold pieces
    split
    · simp
    · split <;> simp
theorem index_cons_eq (c : UInt8) (r : BS) : index (c :: r) [c] = 0 := by simp [index, List.isPrefixOf]
theorem index_cons_ne {b c : UInt8} (h : b ≠ c) (r : BS) : index (b :: r) [c] = if index r [c] == -1 then -1 else index r [c] + 1 := by
  have : (c == b) = false := by simp; exact fun e => h e.symm
  conv => lhs; unfold index
  simp [List.isPrefixOf, this]
theorem index_nil (c : UInt8) : index [] [c] = -1 := by simp [index]
theorem index_lo (s t : BS) : -1 ≤ index s t := by
  rcases index_spec s t with ⟨h, _⟩ | ⟨i, h, _⟩ <;> omega
theorem splitK_cons_ne {b c : UInt8} (h : b ≠ c) (r : BS) (k : Nat) : splitK [c] 0 k (b :: r) = match splitK [c] 0 k r with
    | [] => [[b]]
    | p :: ps => (b :: p) :: ps := by
  cases k with
  | zero => rfl
  | succ k =>
    have hl := index_lo r [c]
    by_cases h1 : index r [c] = -1
    · have hv : index (b :: r) [c] = -1 := by rw [index_cons_ne h, if_pos (by simpa using h1)]
      unfold splitK
      rw [if_pos (by simpa using hv), if_pos (by simpa using h1)]
    · have hv : index (b :: r) [c] = index r [c] + 1 := by rw [index_cons_ne h, if_neg (by simpa using h1)]
      unfold splitK
      rw [if_neg (by rw [hv]; simp; omega), if_neg (by simpa using h1), hv]
      have e : (index r [c] + 1).toNat = (index r [c]).toNat + 1 := by omega
      rw [e]
      rfl
theorem splitK_pieces (c : UInt8) : ∀ s : BS, splitK [c] 0 (count s [c]) s = pieces c s
  | [] => by
    rw [count_one]
    rfl
  | b :: r => by
    have ih := splitK_pieces c r
    by_cases h : b = c
    · subst h
      rw [count_cons_eq, Nat.add_comm]
      unfold splitK
      rw [index_cons_eq]
      unfold pieces
      rw [if_pos rfl]
      have : ((0 : Int) == -1) = false := by decide
      simp only [this, Bool.false_eq_true, if_false]
      show [] :: splitK [b] 0 (count r [b]) r = _
      rw [ih]
    · rw [count_cons_ne b c r h, splitK_cons_ne h, ih]
      conv => rhs; unfold pieces
      rw [if_neg h]
      cases pieces c r <;> rfl
theorem splitB_pieces (c : UInt8) (s : ByteArray) : splitB ⟨#[c]⟩ 0 (countB s ⟨#[c]⟩) s = (pieces c s.data.toList).map strB := by
  have h := splitB_data ⟨#[c]⟩ 0 (countB s ⟨#[c]⟩) s
  have e : countB s ⟨#[c]⟩ = count s.data.toList [c] := rfl
  have h2 : splitK [c] 0 (countB s ⟨#[c]⟩) s.data.toList = pieces c s.data.toList := by rw [e]; exact splitK_pieces c _
  change _ = splitK [c] 0 (countB s ⟨#[c]⟩) s.data.toList at h
  rw [h2] at h
  rw [← h, List.map_map]
  conv => lhs; rw [← List.map_id (splitB ⟨#[c]⟩ 0 (countB s ⟨#[c]⟩) s)]
  exact List.map_congr_left fun x _ => (strB_of x).symm
theorem count_pieces (c : UInt8) (s : ByteArray) : countB s ⟨#[c]⟩ + 1 = (pieces c s.data.toList).length := by
  have h := splitB_all ⟨#[c]⟩ (Nat.le_refl 1) 0 _ s rfl
  rw [splitB_pieces, List.length_map] at h
  exact h.symm
theorem pieces_none {c : UInt8} : ∀ {l : BS}, (∀ b ∈ l, b ≠ c) → pieces c l = [l]
  | [], _ => rfl
  | b :: r, h => by
    unfold pieces
    rw [if_neg (h b (by simp)), pieces_none (fun x hx => h x (by simp [hx]))]
theorem pieces_app {c : UInt8} : ∀ {l : BS} (r : BS), (∀ b ∈ l, b ≠ c) → pieces c (l ++ c :: r) = l :: pieces c r
  | [], r, _ => by
    show pieces c (c :: r) = _
    conv => lhs; unfold pieces
    rw [if_pos rfl]
  | b :: l, r, h => by
    show pieces c (b :: (l ++ c :: r)) = _
    conv => lhs; unfold pieces
    rw [if_neg (h b (by simp)), pieces_app r (fun x hx => h x (by simp [hx]))]
/-- put together again -/
def glue (c : UInt8) : List BS → BS
  | [] => []
  | p :: ps => p ++ ps.flatMap fun q => c :: q
theorem glue_cons (c : UInt8) (p : BS) (ps : List BS) : glue c (p :: ps) = p ++ ps.flatMap fun q => c :: q := rfl
theorem glue_pieces (c : UInt8) : ∀ l : BS, glue c (pieces c l) = l
  | [] => rfl
  | b :: r => by
    have ih := glue_pieces c r
    unfold pieces
    split
    · rename_i h
      subst h
      cases hp : pieces b r with
      | nil => exact absurd hp (pieces_ne b r)
      | cons p ps =>
        rw [hp, glue_cons] at ih
        rw [glue_cons, List.nil_append, List.flatMap_cons, List.cons_append, ih]
    · cases hp : pieces c r with
      | nil => exact absurd hp (pieces_ne c r)
      | cons p ps =>
        rw [hp] at ih
        rw [glue_cons] at ih
        rw [glue_cons, List.cons_append, ih]
theorem pieces_all (c : UInt8) : ∀ (l p : BS), p ∈ pieces c l → ∀ b ∈ p, b ≠ c ∧ b ∈ l
  | [], p, h => by simp [pieces] at h; subst h; simp
  | x :: r, p, h => by
    have ih := pieces_all c r
    unfold pieces at h
    split at h
    · rcases List.mem_cons.1 h with rfl | h
      · simp
      · exact fun b hb => ⟨(ih p h b hb).1, List.mem_cons_of_mem _ (ih p h b hb).2⟩
    · rename_i hx
      cases hp : pieces c r with
      | nil => exact absurd hp (pieces_ne c r)
      | cons q ps =>
        rw [hp] at h ih
        rcases List.mem_cons.1 h with rfl | h
        · intro b hb
          rcases List.mem_cons.1 hb with rfl | hb
          · exact ⟨hx, by simp⟩
          · exact ⟨(ih q (by simp) b hb).1, List.mem_cons_of_mem _ (ih q (by simp) b hb).2⟩
        · exact fun b hb => ⟨(ih p (by simp [h]) b hb).1, List.mem_cons_of_mem _ (ih p (by simp [h]) b hb).2⟩
theorem itoa_no (c : UInt8) (n : Int) (h : c.toNat < 45 ∨ 57 < c.toNat) : ∀ b ∈ itoa n, b ≠ c := by
  intro b hb e
  subst e
  have := itoa_bytes n b hb
  omega
theorem pieces_glue {c : UInt8} : ∀ {ps : List BS} {p : BS}, (∀ q ∈ p :: ps, ∀ b ∈ q, b ≠ c) → pieces c (glue c (p :: ps)) = p :: ps
  | [], p, h => by
    rw [glue_cons, List.flatMap_nil, List.append_nil]
    exact pieces_none (h p (by simp))
  | q :: ps, p, h => by
    have ih := pieces_glue (ps := ps) (p := q) (fun x hx => h x (by simp at hx ⊢; exact Or.inr hx))
    rw [glue_cons] at ih
    rw [glue_cons, List.flatMap_cons, List.cons_append, pieces_app _ (h p (by simp)), ih]
theorem glue_mem {c b : UInt8} : ∀ {ps : List BS}, b ∈ glue c ps → b = c ∨ ∃ p ∈ ps, b ∈ p
  | [], h => by cases h
  | p :: ps, h => by
    rw [glue_cons] at h
    rcases List.mem_append.1 h with h | h
    · exact Or.inr ⟨p, by simp, h⟩
    · obtain ⟨q, hq, h⟩ := List.mem_flatMap.1 h
      rcases List.mem_cons.1 h with rfl | h
      · exact Or.inl rfl
      · exact Or.inr ⟨q, by simp [hq], h⟩
end Go.Proofs.YtbdkmfcgnolihaaGreatDoor
