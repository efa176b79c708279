/- fair, plain: a step's line; what is read as a step is just what is written as one. -/
import Derived.Test.YtndpbkhpllmhmaaDoorNums
import Derived.Lib.SplitLaws
import Derived.Lib.JoinLaws
namespace Go.Proofs.YtndpbkhpllmhmaaDoor
open Go.Lib
abbrev BS := List UInt8
def strB (bs : BS) : ByteArray := ⟨bs.toArray⟩
theorem strB_data (bs : BS) : (strB bs).data.toList = bs := by simp [strB]
theorem strB_of (s : ByteArray) : strB s.data.toList = s := by cases s; simp [strB]
theorem strB_size (bs : BS) : (strB bs).size = bs.length := by simp [strB, ByteArray.size]
theorem strB_toList (bs : BS) : (strB bs).toList = bs := by rw [ByteArray.toList_eq]; exact strB_data bs
theorem strB_inj {a b : BS} (h : strB a = strB b) : a = b := by have := congrArg (fun s : ByteArray => s.data.toList) h; simpa [strB_data] using this
/-- the pieces between the bytes c -/
def pieces (c : UInt8) : BS → List BS
  | [] => [[]]
  | b :: r => if b = c then [] :: pieces c r else match pieces c r with
    | [] => [[b]]
    | p :: ps => (b :: p) :: ps
theorem pieces_ne (c : UInt8) : ∀ l : BS, pieces c l ≠ []
  | [] => by simp [pieces]
  | b :: r => by
    unfold pieces
    split
    · simp
    · split <;> simp
theorem index_cons_eq (c : UInt8) (r : BS) : index (c :: r) [c] = 0 := by simp [index, List.isPrefixOf]
theorem index_cons_ne {b c : UInt8} (h : b ≠ c) (r : BS) : index (b :: r) [c] = if index r [c] == -1 then -1 else index r [c] + 1 := by
  have : (c == b) = false := by simp; exact fun e => h e.symm
  conv => lhs; unfold index
  simp [List.isPrefixOf, this]
theorem index_nil (c : UInt8) : index [] [c] = -1 := by simp [index]
theorem index_lo (s t : BS) : -1 ≤ index s t := by
  rcases index_spec s t with ⟨h, _⟩ | ⟨i, h, _⟩ <;> omega
theorem splitK_cons_ne {b c : UInt8} (h : b ≠ c) (r : BS) (k : Nat) : splitK [c] 0 k (b :: r) = match splitK [c] 0 k r with
    | [] => [[b]]
    | p :: ps => (b :: p) :: ps := by
  cases k with
  | zero => rfl
  | succ k =>
    have hl := index_lo r [c]
    by_cases h1 : index r [c] = -1
    · have hv : index (b :: r) [c] = -1 := by rw [index_cons_ne h, if_pos (by simpa using h1)]
      unfold splitK
      rw [if_pos (by simpa using hv), if_pos (by simpa using h1)]
    · have hv : index (b :: r) [c] = index r [c] + 1 := by rw [index_cons_ne h, if_neg (by simpa using h1)]
      unfold splitK
      rw [if_neg (by rw [hv]; simp; omega), if_neg (by simpa using h1), hv]
      have e : (index r [c] + 1).toNat = (index r [c]).toNat + 1 := by omega
      rw [e]
      rfl
theorem splitK_pieces (c : UInt8) : ∀ s : BS, splitK [c] 0 (count s [c]) s = pieces c s
  | [] => by
    rw [count_one]
    rfl
  | b :: r => by
    have ih := splitK_pieces c r
    by_cases h : b = c
    · subst h
      rw [count_cons_eq, Nat.add_comm]
      unfold splitK
      rw [index_cons_eq]
      unfold pieces
      rw [if_pos rfl]
      have : ((0 : Int) == -1) = false := by decide
      simp only [this, Bool.false_eq_true, if_false]
      show [] :: splitK [b] 0 (count r [b]) r = _
      rw [ih]
    · rw [count_cons_ne b c r h, splitK_cons_ne h, ih]
      conv => rhs; unfold pieces
      rw [if_neg h]
      cases pieces c r <;> rfl
theorem splitB_pieces (c : UInt8) (s : ByteArray) : splitB ⟨#[c]⟩ 0 (countB s ⟨#[c]⟩) s = (pieces c s.data.toList).map strB := by
  have h := splitB_data ⟨#[c]⟩ 0 (countB s ⟨#[c]⟩) s
  have e : countB s ⟨#[c]⟩ = count s.data.toList [c] := rfl
  have h2 : splitK [c] 0 (countB s ⟨#[c]⟩) s.data.toList = pieces c s.data.toList := by rw [e]; exact splitK_pieces c _
  change _ = splitK [c] 0 (countB s ⟨#[c]⟩) s.data.toList at h
  rw [h2] at h
  rw [← h, List.map_map]
  conv => lhs; rw [← List.map_id (splitB ⟨#[c]⟩ 0 (countB s ⟨#[c]⟩) s)]
  exact List.map_congr_left fun x _ => (strB_of x).symm
theorem count_pieces (c : UInt8) (s : ByteArray) : countB s ⟨#[c]⟩ + 1 = (pieces c s.data.toList).length := by
  have h := splitB_all ⟨#[c]⟩ (Nat.le_refl 1) 0 _ s rfl
  rw [splitB_pieces, List.length_map] at h
  exact h.symm
theorem pieces_none {c : UInt8} : ∀ {l : BS}, (∀ b ∈ l, b ≠ c) → pieces c l = [l]
  | [], _ => rfl
  | b :: r, h => by
    unfold pieces
    rw [if_neg (h b (by simp)), pieces_none (fun x hx => h x (by simp [hx]))]
theorem pieces_app {c : UInt8} : ∀ {l : BS} (r : BS), (∀ b ∈ l, b ≠ c) → pieces c (l ++ c :: r) = l :: pieces c r
  | [], r, _ => by
    show pieces c (c :: r) = _
    conv => lhs; unfold pieces
    rw [if_pos rfl]
  | b :: l, r, h => by
    show pieces c (b :: (l ++ c :: r)) = _
    conv => lhs; unfold pieces
    rw [if_neg (h b (by simp)), pieces_app r (fun x hx => h x (by simp [hx]))]
/-- put together again -/
def glue (c : UInt8) : List BS → BS
  | [] => []
  | p :: ps => p ++ ps.flatMap fun q => c :: q
theorem glue_cons (c : UInt8) (p : BS) (ps : List BS) : glue c (p :: ps) = p ++ ps.flatMap fun q => c :: q := rfl
theorem glue_pieces (c : UInt8) : ∀ l : BS, glue c (pieces c l) = l
  | [] => rfl
  | b :: r => by
    have ih := glue_pieces c r
    unfold pieces
    split
    · rename_i h
      subst h
      cases hp : pieces b r with
      | nil => exact absurd hp (pieces_ne b r)
      | cons p ps =>
        rw [hp, glue_cons] at ih
        rw [glue_cons, List.nil_append, List.flatMap_cons, List.cons_append, ih]
    · cases hp : pieces c r with
      | nil => exact absurd hp (pieces_ne c r)
      | cons p ps =>
        rw [hp] at ih
        rw [glue_cons] at ih
        rw [glue_cons, List.cons_append, ih]
theorem pieces_all (c : UInt8) : ∀ (l p : BS), p ∈ pieces c l → ∀ b ∈ p, b ≠ c ∧ b ∈ l
  | [], p, h => by simp [pieces] at h; subst h; simp
  | x :: r, p, h => by
    have ih := pieces_all c r
    unfold pieces at h
    split at h
    · rcases List.mem_cons.1 h with rfl | h
      · simp
      · exact fun b hb => ⟨(ih p h b hb).1, List.mem_cons_of_mem _ (ih p h b hb).2⟩
    · rename_i hx
      cases hp : pieces c r with
      | nil => exact absurd hp (pieces_ne c r)
      | cons q ps =>
        rw [hp] at h ih
        rcases List.mem_cons.1 h with rfl | h
        · intro b hb
          rcases List.mem_cons.1 hb with rfl | hb
          · exact ⟨hx, by simp⟩
          · exact ⟨(ih q (by simp) b hb).1, List.mem_cons_of_mem _ (ih q (by simp) b hb).2⟩
        · exact fun b hb => ⟨(ih p (by simp [h]) b hb).1, List.mem_cons_of_mem _ (ih p (by simp [h]) b hb).2⟩
/-! ### steps -/
structure ST where
  kind : Int
  node : Int
  k : Int
  bit : Int
  deriving DecidableEq
structure ST.In (s : ST) : Prop where
  kind : In64 s.kind
  node : In64 s.node
  k : In64 s.k
  bit : In64 s.bit
def kWork : BS := [119, 111, 114, 107]
def kTick : BS := [116, 105, 99, 107]
def kDeliver : BS := [100, 101, 108, 105, 118, 101, 114]
def kDrop : BS := [100, 114, 111, 112]
def kDup : BS := [100, 117, 112]
def kFlip : BS := [102, 108, 105, 112]
def kCrash : BS := [99, 114, 97, 115, 104]
def wordL (k : Int) : BS := if k = 1 then kWork else if k = 2 then kTick else if k = 3 then kDeliver else if k = 4 then kDrop else if k = 5 then kDup else if k = 6 then kFlip else if k = 7 then kCrash else []
def fieldsL (s : ST) : List Int := if s.kind = 1 ∨ s.kind = 7 then [s.node] else if s.kind = 3 ∨ s.kind = 4 ∨ s.kind = 5 then [s.k] else if s.kind = 6 then [s.k, s.bit] else []
/-- a step's own fields -/
def ownL (s : ST) : ST := if s.kind = 1 ∨ s.kind = 7 then ⟨s.kind, s.node, 0, 0⟩ else if s.kind = 3 ∨ s.kind = 4 ∨ s.kind = 5 then ⟨s.kind, 0, s.k, 0⟩ else if s.kind = 6 then ⟨s.kind, 0, s.k, s.bit⟩ else ⟨s.kind, 0, 0, 0⟩
def partsL (s : ST) : List BS := wordL s.kind :: (fieldsL s).map itoa
def lineL (s : ST) : BS := glue 32 (partsL s)
def goodL (s : ST) : Bool := decide (1 ≤ s.kind) && decide (s.kind ≤ 7) && decide (ownL s = s)
theorem goodL_iff {s : ST} : goodL s = true ↔ (1 ≤ s.kind ∧ s.kind ≤ 7) ∧ ownL s = s := by simp [goodL]
theorem itoa_no (c : UInt8) (n : Int) (h : c.toNat < 45 ∨ 57 < c.toNat) : ∀ b ∈ itoa n, b ≠ c := by
  intro b hb e
  subst e
  have := itoa_bytes n b hb
  omega
theorem wordL_no (k : Int) (c : UInt8) (h : c.toNat < 97) : ∀ b ∈ wordL k, b ≠ c := by
  have : ∀ l ∈ [kWork, kTick, kDeliver, kDrop, kDup, kFlip, kCrash, []], ∀ b ∈ l, 97 ≤ b.toNat := by decide
  have hm : wordL k ∈ [kWork, kTick, kDeliver, kDrop, kDup, kFlip, kCrash, []] := by
    unfold wordL
    repeat' split
    all_goals simp
  intro b hb e
  subst e
  have := this _ hm b hb
  omega
theorem pieces_glue {c : UInt8} : ∀ {ps : List BS} {p : BS}, (∀ q ∈ p :: ps, ∀ b ∈ q, b ≠ c) → pieces c (glue c (p :: ps)) = p :: ps
  | [], p, h => by
    rw [glue_cons, List.flatMap_nil, List.append_nil]
    exact pieces_none (h p (by simp))
  | q :: ps, p, h => by
    have ih := pieces_glue (ps := ps) (p := q) (fun x hx => h x (by simp at hx ⊢; exact Or.inr hx))
    rw [glue_cons] at ih
    rw [glue_cons, List.flatMap_cons, List.cons_append, pieces_app _ (h p (by simp)), ih]
theorem pieces_line (s : ST) : pieces 32 (lineL s) = partsL s :=
  pieces_glue (fun q hq => by
    rcases List.mem_cons.1 hq with rfl | hq
    · exact wordL_no _ _ (by decide)
    · obtain ⟨n, _, rfl⟩ := List.mem_map.1 hq
      exact itoa_no 32 n (Or.inl (by decide)))
theorem glue_mem {c b : UInt8} : ∀ {ps : List BS}, b ∈ glue c ps → b = c ∨ ∃ p ∈ ps, b ∈ p
  | [], h => by cases h
  | p :: ps, h => by
    rw [glue_cons] at h
    rcases List.mem_append.1 h with h | h
    · exact Or.inr ⟨p, by simp, h⟩
    · obtain ⟨q, hq, h⟩ := List.mem_flatMap.1 h
      rcases List.mem_cons.1 h with rfl | h
      · exact Or.inl rfl
      · exact Or.inr ⟨q, by simp [hq], h⟩
theorem line_no10 (s : ST) : ∀ b ∈ lineL s, b ≠ 10 := by
  intro b hb
  rcases glue_mem hb with rfl | ⟨p, hp, hb⟩
  · decide
  · rcases List.mem_cons.1 hp with rfl | hp
    · exact wordL_no _ 10 (by decide) b hb
    · obtain ⟨n, _, rfl⟩ := List.mem_map.1 hp
      exact itoa_no 10 n (Or.inl (by decide)) b hb
/-- what is read -/
def stepP : List BS → Option ST
  | [w] => if w = kTick then some ⟨2, 0, 0, 0⟩ else none
  | [w, a] => if w = kWork then (readInt a).map fun n => ⟨1, n, 0, 0⟩
    else if w = kDeliver then (readInt a).map fun n => ⟨3, 0, n, 0⟩
    else if w = kDrop then (readInt a).map fun n => ⟨4, 0, n, 0⟩
    else if w = kDup then (readInt a).map fun n => ⟨5, 0, n, 0⟩
    else if w = kCrash then (readInt a).map fun n => ⟨7, n, 0, 0⟩ else none
  | [w, a, b] => if w = kFlip then (readInt a).bind fun n => (readInt b).map fun m => ⟨6, 0, n, m⟩ else none
  | _ => none
def stepC (x : BS) : Option ST := stepP (pieces 32 x)
theorem stepP_parts {s : ST} (hg : goodL s = true) (hi : s.In) : stepP (partsL s) = some s := by
  obtain ⟨⟨h1, h7⟩, ho⟩ := goodL_iff.1 hg
  obtain ⟨kind, node, k, bit⟩ := s
  have ha := readInt_itoa hi.node
  have hb := readInt_itoa hi.k
  have hc := readInt_itoa hi.bit
  simp only at h1 h7 ha hb hc
  have hk : kind = 1 ∨ kind = 2 ∨ kind = 3 ∨ kind = 4 ∨ kind = 5 ∨ kind = 6 ∨ kind = 7 := by omega
  rcases hk with rfl | rfl | rfl | rfl | rfl | rfl | rfl
  all_goals
    simp [ownL] at ho
    simp [partsL, wordL, fieldsL, stepP, ha, hb, hc, kWork, kTick, kDeliver, kDrop, kDup, kFlip, kCrash]
    try omega
theorem stepP_some {ps : List BS} {s : ST} (h : stepP ps = some s) : goodL s = true ∧ s.In ∧ ps = partsL s := by
  have z : In64 0 := ⟨by omega, by omega⟩
  have zk : ∀ n : Int, 1 ≤ n → n ≤ 7 → In64 n := fun n h1 h2 => ⟨by omega, by omega⟩
  unfold stepP at h
  split at h
  · split at h
    · rename_i hw
      injection h with h
      subst h hw
      exact ⟨by decide, ⟨zk _ (by decide) (by decide), z, z, z⟩, by decide⟩
    · cases h
  · rename_i w a
    have key : ∀ (k : Int) (mk : Int → ST) (W : BS), (∀ n, goodL (mk n) = true) → (∀ n, In64 n → (mk n).In) → (∀ n, partsL (mk n) = [W, itoa n]) → w = W → (readInt a).map mk = some s → goodL s = true ∧ s.In ∧ [w, a] = partsL s := by
      intro k mk W g1 g2 g3 hw hr
      obtain ⟨n, hn, rfl⟩ := Option.map_eq_some_iff.1 hr
      obtain ⟨hin, ha⟩ := readInt_some hn
      exact ⟨g1 n, g2 n hin, by rw [g3, hw, ha]⟩
    have G : ∀ n : Int, goodL ⟨1, n, 0, 0⟩ = true ∧ goodL ⟨3, 0, n, 0⟩ = true ∧ goodL ⟨4, 0, n, 0⟩ = true ∧ goodL ⟨5, 0, n, 0⟩ = true ∧ goodL ⟨7, n, 0, 0⟩ = true := fun n => by simp [goodL, ownL]
    split at h
    · exact key 1 _ kWork (fun n => (G n).1) (fun n hn => ⟨zk _ (by simp) (by simp), hn, z, z⟩) (fun n => by simp [partsL, wordL, fieldsL]) (by assumption) h
    split at h
    · exact key 3 _ kDeliver (fun n => (G n).2.1) (fun n hn => ⟨zk _ (by simp) (by simp), z, hn, z⟩) (fun n => by simp [partsL, wordL, fieldsL]) (by assumption) h
    split at h
    · exact key 4 _ kDrop (fun n => (G n).2.2.1) (fun n hn => ⟨zk _ (by simp) (by simp), z, hn, z⟩) (fun n => by simp [partsL, wordL, fieldsL]) (by assumption) h
    split at h
    · exact key 5 _ kDup (fun n => (G n).2.2.2.1) (fun n hn => ⟨zk _ (by simp) (by simp), z, hn, z⟩) (fun n => by simp [partsL, wordL, fieldsL]) (by assumption) h
    split at h
    · exact key 7 _ kCrash (fun n => (G n).2.2.2.2) (fun n hn => ⟨zk _ (by simp) (by simp), hn, z, z⟩) (fun n => by simp [partsL, wordL, fieldsL]) (by assumption) h
    · cases h
  · rename_i w a b
    split at h
    · rename_i hw
      obtain ⟨n, hn, h⟩ := Option.bind_eq_some_iff.1 h
      obtain ⟨m, hm, rfl⟩ := Option.map_eq_some_iff.1 h
      obtain ⟨hin, ha⟩ := readInt_some hn
      obtain ⟨him, hb⟩ := readInt_some hm
      exact ⟨by simp [goodL, ownL], ⟨zk _ (by simp) (by simp), z, hin, him⟩, by rw [hw, ha, hb]; simp [partsL, wordL, fieldsL]⟩
    · cases h
  · cases h
theorem stepC_iff {x : BS} {s : ST} : stepC x = some s ↔ goodL s = true ∧ s.In ∧ lineL s = x := by
  constructor
  · intro h
    obtain ⟨h1, h2, h3⟩ := stepP_some h
    exact ⟨h1, h2, by unfold lineL; rw [← h3, glue_pieces]⟩
  · rintro ⟨h1, h2, rfl⟩
    unfold stepC
    rw [pieces_line]
    exact stepP_parts h1 h2
end Go.Proofs.YtndpbkhpllmhmaaDoor
