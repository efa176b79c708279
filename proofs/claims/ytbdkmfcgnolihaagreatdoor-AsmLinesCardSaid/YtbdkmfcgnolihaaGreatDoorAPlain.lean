/- asm, plain: jobs as texts: what is written, and what is read. -/
import Derived.Test.YtbdkmfcgnolihaaGreatDoorPieces
namespace Go.Proofs.YtbdkmfcgnolihaaGreatDoor
set_option linter.unusedSimpArgs false
set_option linter.unnecessarySimpa false
set_option linter.unusedVariables false
open Go.Lib
structure IN where
  op : Int
  n : Int
  deriving DecidableEq
structure FN where
  name : BS
  args : Int
  locals : Int
  code : List IN
  deriving DecidableEq
structure JB where
  funcs : List FN
  main : Int
  args : List Int
  fuel : Int
  tasks : Int
  deriving DecidableEq
structure IN.In (i : IN) : Prop where
  op : In64 i.op
  n : In64 i.n
structure FN.In (f : FN) : Prop where
  args : In64 f.args
  locals : In64 f.locals
  code : ∀ i ∈ f.code, i.In
structure JB.In (j : JB) : Prop where
  funcs : ∀ f ∈ j.funcs, f.In
  main : In64 j.main
  args : ∀ n ∈ j.args, In64 n
  fuel : In64 j.fuel
  tasks : In64 j.tasks
/-! ### words -/
theorem nodup_at {α : Type} {l : List α} (h : l.Nodup) {i j : Nat} {hi : i < l.length} {hj : j < l.length} (e : l[i]'hi = l[j]'hj) : i = j := by
  have hp := List.pairwise_iff_getElem.1 h
  rcases Nat.lt_trichotomy i j with h1 | h1 | h1
  · exact absurd e (hp i j hi hj h1)
  · exact h1
  · exact absurd e.symm (hp j i hj hi h1)
def opW : List BS := [[112, 117, 115, 104], [112, 111, 112], [100, 117, 112], [115, 119, 97, 112], [108, 111, 97, 100], [115, 116, 111, 114, 101], [97, 100, 100], [115, 117, 98], [109, 117, 108], [100, 105, 118], [109, 111, 100], [108, 116], [101, 113], [106, 117, 109, 112], [122, 101, 114, 111], [115, 112, 97, 119, 110], [97, 119, 97, 105, 116], [114, 101, 116], [102, 97, 105, 108]]
def opName (op : Int) : BS := if op < 1 ∨ 19 < op then [] else opW.getD (op.toNat - 1) []
def opOf (w : BS) : Option Int := (opW.findIdx? (fun x => x == w)).map fun k => ((k + 1 : Nat) : Int)
def hasN (op : Int) : Bool := decide (op = 1 ∨ op = 5 ∨ op = 6 ∨ op = 14 ∨ op = 15 ∨ op = 16)
theorem opW_len : opW.length = 19 := rfl
theorem opName_cases (op : Int) : opName op = [] ∧ (op < 1 ∨ 19 < op) ∨ ∃ k : Nat, k < 19 ∧ op = ((k + 1 : Nat) : Int) ∧ opW[k]? = some (opName op) := by
  unfold opName
  split
  · rename_i h; exact Or.inl ⟨rfl, h⟩
  · rename_i h
    refine Or.inr ⟨op.toNat - 1, by omega, by omega, ?_⟩
    have hl : op.toNat - 1 < opW.length := by rw [opW_len]; omega
    rw [List.getD_eq_getElem?_getD, List.getElem?_eq_getElem hl]
    rfl
theorem opW_ok : ∀ x ∈ opW, x ≠ [] ∧ x.length ≤ 5 ∧ ∀ b ∈ x, 97 ≤ b.toNat := by decide
theorem opW_nodup : opW.Nodup := by decide
theorem opName_no (op : Int) (c : UInt8) (h : c.toNat < 97) : ∀ b ∈ opName op, b ≠ c := by
  rcases opName_cases op with ⟨h1, _⟩ | ⟨k, _, _, h1⟩
  · rw [h1]; simp
  · intro b hb e
    subst e
    have := (opW_ok _ (List.mem_of_getElem? h1)).2.2 b hb
    omega
theorem opName_len (op : Int) : (opName op).length ≤ 5 := by
  rcases opName_cases op with ⟨h1, _⟩ | ⟨k, _, _, h1⟩
  · rw [h1]; simp
  · exact (opW_ok _ (List.mem_of_getElem? h1)).2.1
theorem opOf_name {op : Int} (h : opName op ≠ []) : opOf (opName op) = some op := by
  rcases opName_cases op with ⟨h1, _⟩ | ⟨k, hk, e, h1⟩
  · exact absurd h1 h
  · unfold opOf
    have hl : k < opW.length := hk
    have hi : opW.findIdx? (fun x => x == opName op) = some k := by
      rw [List.findIdx?_eq_some_iff_getElem]
      refine ⟨hl, by have := (List.getElem?_eq_some_iff.1 h1).2; simp [this], fun j hj => ?_⟩
      have h2 := (List.getElem?_eq_some_iff.1 h1).2
      have : opW[j]'(by omega) ≠ opName op := by
        rw [← h2]
        exact fun e => absurd (nodup_at opW_nodup e) (by omega)
      simpa using this
    rw [hi, e]
    rfl
theorem opOf_some {w : BS} {op : Int} (h : opOf w = some op) : 1 ≤ op ∧ op ≤ 19 ∧ w = opName op := by
  unfold opOf at h
  obtain ⟨k, hk, rfl⟩ := Option.map_eq_some_iff.1 h
  rw [List.findIdx?_eq_some_iff_getElem] at hk
  obtain ⟨hl, h1, _⟩ := hk
  rw [opW_len] at hl
  refine ⟨by omega, by omega, ?_⟩
  unfold opName
  rw [if_neg (by omega), show (((k + 1 : Nat) : Int)).toNat - 1 = k by omega, List.getD_eq_getElem?_getD, List.getElem?_eq_getElem (by rw [opW_len]; exact hl)]
  simpa using (by simpa using h1 : _ = w).symm
/-! ### names -/
def nameC (first : Bool) (b : UInt8) : Bool := (decide (97 ≤ b.toNat) && decide (b.toNat ≤ 122)) || (!first && decide (48 ≤ b.toNat) && decide (b.toNat ≤ 57))
def nameL : BS → Bool
  | [] => false
  | b :: r => nameC true b && r.all (nameC false) && decide (r.length ≤ 19)
theorem nameC_ge {f : Bool} {b : UInt8} (h : nameC f b = true) : 48 ≤ b.toNat := by
  unfold nameC at h
  simp at h
  omega
theorem nameL_no {s : BS} (h : nameL s = true) (c : UInt8) (hc : c.toNat < 48) : ∀ b ∈ s, b ≠ c := by
  cases s with
  | nil => simp
  | cons x r =>
    unfold nameL at h
    simp at h
    intro b hb e
    subst e
    rcases List.mem_cons.1 hb with rfl | hb
    · have := nameC_ge h.1.1; omega
    · have := nameC_ge (h.1.2 b hb); omega
theorem nameL_len {s : BS} (h : nameL s = true) : s.length ≤ 20 := by
  cases s with
  | nil => simp
  | cons x r => unfold nameL at h; simp at h; simp; omega
theorem nameL_ne {s : BS} (h : nameL s = true) : s ≠ [] := by rintro rfl; cases h
/-! ### what can be written -/
def plainI (nf : Nat) (i : IN) : Bool := decide (opName i.op ≠ []) && (hasN i.op || decide (i.n = 0)) && (decide (i.op ≠ 16) || (decide (0 ≤ i.n) && decide (i.n < nf)))
def plainF (nf : Nat) (f : FN) : Bool := nameL f.name && decide (f.code.length ≤ 256) && f.code.all (plainI nf)
/-- of functions that stand behind others -/
def plainFs (nf : Nat) : List BS → List FN → Bool
  | _, [] => true
  | seen, f :: r => !seen.contains f.name && plainF nf f && plainFs nf (seen ++ [f.name]) r
def plainJ (j : JB) : Bool := decide (j.funcs.length ≤ 32) && decide (j.args.length ≤ 8) && decide (0 ≤ j.main) && decide (j.main < j.funcs.length) && plainFs j.funcs.length [] j.funcs
def fnAt (j : JB) (n : Int) : BS := (j.funcs[n.toNat]?.map FN.name).getD []
def insW (j : JB) (i : IN) : List BS := if i.op = 16 then [opName i.op, fnAt j i.n] else if hasN i.op then [opName i.op, itoa i.n] else [opName i.op]
def wJob : BS := [106, 111, 98]
def wMain : BS := [109, 97, 105, 110]
def wFunc : BS := [102, 117, 110, 99]
def wEnd : BS := [101, 110, 100]
def jobLine (j : JB) : BS := glue 32 [wJob, itoa j.fuel, itoa j.tasks]
def mainLine (j : JB) : BS := glue 32 (wMain :: fnAt j j.main :: j.args.map itoa)
def funcLine (f : FN) : BS := glue 32 [wFunc, f.name, itoa f.args, itoa f.locals]
def insLine (j : JB) (i : IN) : BS := [32, 32] ++ glue 32 (insW j i)
def fnLines (j : JB) (f : FN) : List BS := funcLine f :: f.code.map (insLine j)
def linesJ (j : JB) : List BS := jobLine j :: mainLine j :: (j.funcs.flatMap (fnLines j) ++ [wEnd])
def textL (ls : List BS) : BS := ls.flatMap fun l => l ++ [10]
def printJ (j : JB) : BS := if plainJ j then textL (linesJ j) else []
/-! ### what is read -/
structure WT where
  name : BS
  line : Nat
  at_ : Option (Nat × Nat)
  deriving DecidableEq
structure AR where
  funcs : List FN
  args : List Int
  fuel : Int
  tasks : Int
  wants : List WT
  deriving DecidableEq
def AR0 : AR := ⟨[], [], 0, 0, []⟩
def readInts : List BS → Option (List Int)
  | [] => some []
  | w :: r => match readInt w with
    | none => none
    | some n => (readInts r).map fun l => n :: l
def jobR (w : List BS) (r : AR) : Option AR := match w with
  | [a, b, c] => if a = wJob then (match readInt b, readInt c with
    | some x, some y => some { r with fuel := x, tasks := y }
    | _, _ => none) else none
  | _ => none
def mainR (no : Nat) (w : List BS) (r : AR) : Option AR := match w with
  | a :: b :: l => if a = wMain ∧ nameL b = true ∧ l.length ≤ 8 then (match readInts l with
    | some args => some { r with args := args, wants := r.wants ++ [⟨b, no, none⟩] }
    | none => none) else none
  | _ => none
def funcR (w : List BS) (r : AR) : Option AR := match w with
  | [a, b, c, d] => if a = wFunc ∧ nameL b = true ∧ r.funcs.length < 32 ∧ (∀ f ∈ r.funcs, f.name ≠ b) then (match readInt c, readInt d with
    | some x, some y => some { r with funcs := r.funcs ++ [⟨b, x, y, []⟩] }
    | _, _ => none) else none
  | _ => none
def addI (fs : List FN) (i : IN) : List FN := fs.modify (fs.length - 1) fun f => { f with code := f.code ++ [i] }
def lastLen (fs : List FN) : Nat := (fs[fs.length - 1]?.map fun f => f.code.length).getD 0
def insR (no : Nat) (w : List BS) (r : AR) : Option AR :=
  if r.funcs = [] ∨ 256 ≤ lastLen r.funcs then none else match w with
  | [a] => (match opOf a with
    | some op => if hasN op then none else some { r with funcs := addI r.funcs ⟨op, 0⟩ }
    | none => none)
  | [a, b] => (match opOf a with
    | some op => if hasN op = false then none
      else if op = 16 then (if nameL b then some { r with funcs := addI r.funcs ⟨16, 0⟩, wants := r.wants ++ [⟨b, no, some (r.funcs.length - 1, lastLen r.funcs)⟩] } else none)
      else (match readInt b with
        | some n => some { r with funcs := addI r.funcs ⟨op, n⟩ }
        | none => none)
    | none => none)
  | _ => none
def lineR (no : Nat) (l : BS) (r : AR) : Option AR :=
  if no = 1 then jobR (pieces 32 l) r
  else if no = 2 then mainR no (pieces 32 l) r
  else if l.take 2 = [32, 32] then insR no (pieces 32 (l.drop 2)) r
  else funcR (pieces 32 l) r
/-- the lines from number no on -/
def runR : Nat → List BS → AR → Except Nat AR
  | no, [], _ => .error no
  | no, [_], _ => .error no
  | no, l :: l2 :: ls, r =>
    if 3 ≤ no ∧ l = wEnd then (if l2 :: ls = [[]] then .ok r else .error (no + 1))
    else match lineR no l r with
      | none => .error no
      | some r' => runR (no + 1) (l2 :: ls) r'
def findF (fs : List FN) (nm : BS) : Option Nat := fs.findIdx? fun f => f.name == nm
def setN (fs : List FN) (f i : Nat) (k : Int) : List FN := fs.modify f fun g => { g with code := g.code.modify i fun x => { x with n := k } }
def namesR : List WT → List FN → Int → Except Nat (List FN × Int)
  | [], fs, m => .ok (fs, m)
  | x :: xs, fs, m => match findF fs x.name with
    | none => .error x.line
    | some k => match x.at_ with
      | none => namesR xs fs k
      | some (f, i) => namesR xs (setN fs f i k) m
def JB0 : JB := ⟨[], 0, [], 0, 0⟩
structure JR where
  job : JB
  line : Nat
  err : Int
  deriving DecidableEq
def readP (s : BS) : JR := match runR 1 (pieces 10 s) AR0 with
  | .error l => ⟨JB0, l, 2⟩
  | .ok r => match namesR r.wants r.funcs 0 with
    | .error l => ⟨JB0, l, 2⟩
    | .ok (fs, m) => ⟨⟨fs, m, r.args, r.fuel, r.tasks⟩, 0, 0⟩
def readJ (s : BS) : JR := if 131072 < s.length then ⟨JB0, 0, 3⟩ else readP s
end Go.Proofs.YtbdkmfcgnolihaaGreatDoor
