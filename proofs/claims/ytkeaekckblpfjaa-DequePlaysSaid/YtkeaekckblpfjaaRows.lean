/-
  No cell of these rows narrows 'for every input' (looked for: loops, veiled, ifaces, maps, wideKeys, modest, calm, conditions, laid).
  DERIVED. THE GIVEN ROWS OF THIS SEAT. 10 by the template 'for every input the law returns true; each argument reads behind the call as it read before'; 0 by the template 'total and deterministic' (their statements: YtkeaekckblpfjaaTotals.lean).
  GIVEN WITH THE SEED: the statements are not yours to turn. If you find one false, say at which input.
  Laid BY PROGRAM, IN A SANDBOX (cutbox-rows.mjs): the forced cells as the released guide's own fill.sh prints them over the translation 9ca3960f55959fdb… (all of the seat's roots in one cut). By AI agents, Wed Nov 11 2026. No macro, syntax, notation, axiom, sorry.
-/
import Derived.Test.YtkeaekckblpfjaaChecked
import GoSem.Claim
import GoSem.ClaimJoined
import GoSem.ClaimMapViews
import Derived.JoinedTies
import Derived.KernelRfl
namespace Go.Proofs.Ytkeaekckblpfjaa
/- THE CELL 'sum', in the pinned program and in every row, IS THE sha256 OF THE DUMP (.gsa) THAT YtkeaekckblpfjaaProg.lean LOADS. Nothing in Lean hashes anything: it is a label: what it is worth is what the hold of that sum in a sandbox is worth. -/
noncomputable def Try.pinned : Pinned := { name := "ytkeaekckblpfjaa", sum := "9ca3960f55959fdb47c0d0e588260ebee595e0cd0875500b37eccecb9ebd8647", checked := Try.checked }
namespace Rows
def none {H : Type} : Left H := { results := [], args := [] }

/-- 'gleanerlaw14.RingSizes': WHATEVER THE INPUT: true; the input reads as it did. -/
def ringSizesSpec : ChangeSpec := { name := "ringSizes", fn := fun _ => fun
  | [d1, d2, d3] => { results := [.lit (.bool true)], args := [d1, d2, d3] }
  | _ => none }
def ringSizesRow : OpenClaim := { program := "ytkeaekckblpfjaa", sum := "9ca3960f55959fdb47c0d0e588260ebee595e0cd0875500b37eccecb9ebd8647", func := "gleaner/gleanerlaw14.RingSizes", spec := "ringSizes", apart := false }
def RingSizesSaid : Prop := ringSizesRow.holds Try.pinned (OpenSpec.ofChange ringSizesSpec)

/-- ITS FALSE NEIGHBOUR: 'it returns false'. Refute it at one input. -/
def ringSizesWrong : ChangeSpec := { name := "ringSizes", fn := fun _ => fun
  | [d1, d2, d3] => { results := [.lit (.bool false)], args := [d1, d2, d3] }
  | _ => none }
def RingSizesWrongFalsely : Prop := ringSizesRow.holds Try.pinned (OpenSpec.ofChange ringSizesWrong)

/-- 'gleanerlaw14.RingPlays': WHATEVER THE INPUT: true; the input reads as it did. -/
def ringPlaysSpec : ChangeSpec := { name := "ringPlays", fn := fun _ => fun
  | [d1, d2, d3] => { results := [.lit (.bool true)], args := [d1, d2, d3] }
  | _ => none }
def ringPlaysRow : OpenClaim := { program := "ytkeaekckblpfjaa", sum := "9ca3960f55959fdb47c0d0e588260ebee595e0cd0875500b37eccecb9ebd8647", func := "gleaner/gleanerlaw14.RingPlays", spec := "ringPlays", apart := false }
def RingPlaysSaid : Prop := ringPlaysRow.holds Try.pinned (OpenSpec.ofChange ringPlaysSpec)

/-- ITS FALSE NEIGHBOUR: 'it returns false'. Refute it at one input. -/
def ringPlaysWrong : ChangeSpec := { name := "ringPlays", fn := fun _ => fun
  | [d1, d2, d3] => { results := [.lit (.bool false)], args := [d1, d2, d3] }
  | _ => none }
def RingPlaysWrongFalsely : Prop := ringPlaysRow.holds Try.pinned (OpenSpec.ofChange ringPlaysWrong)

/-- 'gleanerlaw14.RingGrows': WHATEVER THE INPUT: true; the input reads as it did. -/
def ringGrowsSpec : ChangeSpec := { name := "ringGrows", fn := fun _ => fun
  | [d1, d2, d3] => { results := [.lit (.bool true)], args := [d1, d2, d3] }
  | _ => none }
def ringGrowsRow : OpenClaim := { program := "ytkeaekckblpfjaa", sum := "9ca3960f55959fdb47c0d0e588260ebee595e0cd0875500b37eccecb9ebd8647", func := "gleaner/gleanerlaw14.RingGrows", spec := "ringGrows", apart := false }
def RingGrowsSaid : Prop := ringGrowsRow.holds Try.pinned (OpenSpec.ofChange ringGrowsSpec)

/-- ITS FALSE NEIGHBOUR: 'it returns false'. Refute it at one input. -/
def ringGrowsWrong : ChangeSpec := { name := "ringGrows", fn := fun _ => fun
  | [d1, d2, d3] => { results := [.lit (.bool false)], args := [d1, d2, d3] }
  | _ => none }
def RingGrowsWrongFalsely : Prop := ringGrowsRow.holds Try.pinned (OpenSpec.ofChange ringGrowsWrong)

/-- 'gleanerlaw15.DequeCalls': WHATEVER THE INPUT: true; the input reads as it did. -/
def dequeCallsSpec : ChangeSpec := { name := "dequeCalls", fn := fun _ => fun
  | [d1, d2] => { results := [.lit (.bool true)], args := [d1, d2] }
  | _ => none }
def dequeCallsRow : OpenClaim := { program := "ytkeaekckblpfjaa", sum := "9ca3960f55959fdb47c0d0e588260ebee595e0cd0875500b37eccecb9ebd8647", func := "gleaner/gleanerlaw15.DequeCalls", spec := "dequeCalls", unfollowed := true, recurses := true, apart := false }
def DequeCallsSaid : Prop := dequeCallsRow.holds Try.pinned (OpenSpec.ofChange dequeCallsSpec)

/-- ITS FALSE NEIGHBOUR: 'it returns false'. Refute it at one input. -/
def dequeCallsWrong : ChangeSpec := { name := "dequeCalls", fn := fun _ => fun
  | [d1, d2] => { results := [.lit (.bool false)], args := [d1, d2] }
  | _ => none }
def DequeCallsWrongFalsely : Prop := dequeCallsRow.holds Try.pinned (OpenSpec.ofChange dequeCallsWrong)

/-- 'gleanerlaw15.DequePlays': WHATEVER THE INPUT: true; the input reads as it did. -/
def dequePlaysSpec : ChangeSpec := { name := "dequePlays", fn := fun _ => fun
  | [d] => { results := [.lit (.bool true)], args := [d] }
  | _ => none }
def dequePlaysRow : OpenClaim := { program := "ytkeaekckblpfjaa", sum := "9ca3960f55959fdb47c0d0e588260ebee595e0cd0875500b37eccecb9ebd8647", func := "gleaner/gleanerlaw15.DequePlays", spec := "dequePlays", unfollowed := true, recurses := true, apart := false }
def DequePlaysSaid : Prop := dequePlaysRow.holds Try.pinned (OpenSpec.ofChange dequePlaysSpec)

/-- ITS FALSE NEIGHBOUR: 'it returns false'. Refute it at one input. -/
def dequePlaysWrong : ChangeSpec := { name := "dequePlays", fn := fun _ => fun
  | [d] => { results := [.lit (.bool false)], args := [d] }
  | _ => none }
def DequePlaysWrongFalsely : Prop := dequePlaysRow.holds Try.pinned (OpenSpec.ofChange dequePlaysWrong)

/-- 'gleanerlaw15.DequeOnce': WHATEVER THE INPUT: true; the input reads as it did. -/
def dequeOnceSpec : ChangeSpec := { name := "dequeOnce", fn := fun _ => fun
  | [d] => { results := [.lit (.bool true)], args := [d] }
  | _ => none }
def dequeOnceRow : OpenClaim := { program := "ytkeaekckblpfjaa", sum := "9ca3960f55959fdb47c0d0e588260ebee595e0cd0875500b37eccecb9ebd8647", func := "gleaner/gleanerlaw15.DequeOnce", spec := "dequeOnce", unfollowed := true, recurses := true, apart := false }
def DequeOnceSaid : Prop := dequeOnceRow.holds Try.pinned (OpenSpec.ofChange dequeOnceSpec)

/-- ITS FALSE NEIGHBOUR: 'it returns false'. Refute it at one input. -/
def dequeOnceWrong : ChangeSpec := { name := "dequeOnce", fn := fun _ => fun
  | [d] => { results := [.lit (.bool false)], args := [d] }
  | _ => none }
def DequeOnceWrongFalsely : Prop := dequeOnceRow.holds Try.pinned (OpenSpec.ofChange dequeOnceWrong)

/-- 'gleanerlaw15.DequeAlone': WHATEVER THE INPUT: true; the input reads as it did. -/
def dequeAloneSpec : ChangeSpec := { name := "dequeAlone", fn := fun _ => fun
  | [d] => { results := [.lit (.bool true)], args := [d] }
  | _ => none }
def dequeAloneRow : OpenClaim := { program := "ytkeaekckblpfjaa", sum := "9ca3960f55959fdb47c0d0e588260ebee595e0cd0875500b37eccecb9ebd8647", func := "gleaner/gleanerlaw15.DequeAlone", spec := "dequeAlone", unfollowed := true, recurses := true, apart := false }
def DequeAloneSaid : Prop := dequeAloneRow.holds Try.pinned (OpenSpec.ofChange dequeAloneSpec)

/-- ITS FALSE NEIGHBOUR: 'it returns false'. Refute it at one input. -/
def dequeAloneWrong : ChangeSpec := { name := "dequeAlone", fn := fun _ => fun
  | [d] => { results := [.lit (.bool false)], args := [d] }
  | _ => none }
def DequeAloneWrongFalsely : Prop := dequeAloneRow.holds Try.pinned (OpenSpec.ofChange dequeAloneWrong)

/-- 'gleanerlaw15.DequeLast': WHATEVER THE INPUT: true; the input reads as it did. -/
def dequeLastSpec : ChangeSpec := { name := "dequeLast", fn := fun _ => fun
  | [d1, d2] => { results := [.lit (.bool true)], args := [d1, d2] }
  | _ => none }
def dequeLastRow : OpenClaim := { program := "ytkeaekckblpfjaa", sum := "9ca3960f55959fdb47c0d0e588260ebee595e0cd0875500b37eccecb9ebd8647", func := "gleaner/gleanerlaw15.DequeLast", spec := "dequeLast", unfollowed := true, recurses := true, apart := false }
def DequeLastSaid : Prop := dequeLastRow.holds Try.pinned (OpenSpec.ofChange dequeLastSpec)

/-- ITS FALSE NEIGHBOUR: 'it returns false'. Refute it at one input. -/
def dequeLastWrong : ChangeSpec := { name := "dequeLast", fn := fun _ => fun
  | [d1, d2] => { results := [.lit (.bool false)], args := [d1, d2] }
  | _ => none }
def DequeLastWrongFalsely : Prop := dequeLastRow.holds Try.pinned (OpenSpec.ofChange dequeLastWrong)

/-- 'gleanerlaw15.DequeGrows': WHATEVER THE INPUT: true; the input reads as it did. -/
def dequeGrowsSpec : ChangeSpec := { name := "dequeGrows", fn := fun _ => fun
  | [d1, d2] => { results := [.lit (.bool true)], args := [d1, d2] }
  | _ => none }
def dequeGrowsRow : OpenClaim := { program := "ytkeaekckblpfjaa", sum := "9ca3960f55959fdb47c0d0e588260ebee595e0cd0875500b37eccecb9ebd8647", func := "gleaner/gleanerlaw15.DequeGrows", spec := "dequeGrows", unfollowed := true, recurses := true, apart := false }
def DequeGrowsSaid : Prop := dequeGrowsRow.holds Try.pinned (OpenSpec.ofChange dequeGrowsSpec)

/-- ITS FALSE NEIGHBOUR: 'it returns false'. Refute it at one input. -/
def dequeGrowsWrong : ChangeSpec := { name := "dequeGrows", fn := fun _ => fun
  | [d1, d2] => { results := [.lit (.bool false)], args := [d1, d2] }
  | _ => none }
def DequeGrowsWrongFalsely : Prop := dequeGrowsRow.holds Try.pinned (OpenSpec.ofChange dequeGrowsWrong)

/-- 'gleanerlaw15.DequeThieves': WHATEVER THE INPUT: true; the input reads as it did. -/
def dequeThievesSpec : ChangeSpec := { name := "dequeThieves", fn := fun _ => fun
  | [d1, d2] => { results := [.lit (.bool true)], args := [d1, d2] }
  | _ => none }
def dequeThievesRow : OpenClaim := { program := "ytkeaekckblpfjaa", sum := "9ca3960f55959fdb47c0d0e588260ebee595e0cd0875500b37eccecb9ebd8647", func := "gleaner/gleanerlaw15.DequeThieves", spec := "dequeThieves", unfollowed := true, recurses := true, apart := false }
def DequeThievesSaid : Prop := dequeThievesRow.holds Try.pinned (OpenSpec.ofChange dequeThievesSpec)

/-- ITS FALSE NEIGHBOUR: 'it returns false'. Refute it at one input. -/
def dequeThievesWrong : ChangeSpec := { name := "dequeThieves", fn := fun _ => fun
  | [d1, d2] => { results := [.lit (.bool false)], args := [d1, d2] }
  | _ => none }
def DequeThievesWrongFalsely : Prop := dequeThievesRow.holds Try.pinned (OpenSpec.ofChange dequeThievesWrong)

/- THE SECOND FORM. 'bulk': how many values and letters a reading holds, each counted each time it is reached (what is shared counts as often as it is met; a slice's spare places count too). A statement '..UptoSaid' is the law's where the arguments, and the package variables that the reading takes, are together of bulk at most 1048576: NARROWER than '..Said'. Prove '..Said' where nothing that the law and all that it calls make is longer than what came in: it says more and counts as full. Else prove '..UptoSaid'. A law counts once. -/
mutual
def uptoBulk {H : Type} : DataW H → Nat
  | .lit (.string bytes) => bytes.length + 1
  | .lit _ => 1
  | .nil => 1
  | .ptr d => uptoBulk d + 1
  | .slice elems spare => uptoBulkAll elems + uptoBulkAll spare + 1
  | .agg parts => uptoBulkAll parts + 1
  | .iface _ d => uptoBulk d + 1
  | .map entries => uptoBulkEntries entries + 1
  | .held _ => 1
def uptoBulkAll {H : Type} : List (DataW H) → Nat
  | [] => 0
  | d :: r => uptoBulk d + uptoBulkAll r
def uptoBulkEntries {H : Type} : List (Lit × DataW H) → Nat
  | [] => 0
  | x :: r => uptoBulkEntry x + uptoBulkEntries r
def uptoBulkEntry {H : Type} : Lit × DataW H → Nat
  | (.string bytes, d) => bytes.length + uptoBulk d + 1
  | (_, d) => uptoBulk d + 1
 end
def uptoSmall : (H : Type) → List (DataW H) → Bool := fun _ ds => decide (uptoBulkAll ds ≤ 1048576)
def OpenSpec.upto (s : _root_.Go.ChangeSpec) : _root_.Go.OpenSpec := { _root_.Go.OpenSpec.ofChange s with cond := some uptoSmall }

/-- 'gleanerlaw14.RingSizes', WHERE WHAT IT READS IS OF BULK AT MOST 1048576: true; the input reads as it did. -/
def ringSizesUptoRow : OpenClaim := { program := "ytkeaekckblpfjaa", sum := "9ca3960f55959fdb47c0d0e588260ebee595e0cd0875500b37eccecb9ebd8647", func := "gleaner/gleanerlaw14.RingSizes", spec := "ringSizes", apart := false, narrowed := true }
def RingSizesUptoSaid : Prop := ringSizesUptoRow.holds Try.pinned (OpenSpec.upto ringSizesSpec)

/-- 'gleanerlaw14.RingPlays', WHERE WHAT IT READS IS OF BULK AT MOST 1048576: true; the input reads as it did. -/
def ringPlaysUptoRow : OpenClaim := { program := "ytkeaekckblpfjaa", sum := "9ca3960f55959fdb47c0d0e588260ebee595e0cd0875500b37eccecb9ebd8647", func := "gleaner/gleanerlaw14.RingPlays", spec := "ringPlays", apart := false, narrowed := true }
def RingPlaysUptoSaid : Prop := ringPlaysUptoRow.holds Try.pinned (OpenSpec.upto ringPlaysSpec)

/-- 'gleanerlaw14.RingGrows', WHERE WHAT IT READS IS OF BULK AT MOST 1048576: true; the input reads as it did. -/
def ringGrowsUptoRow : OpenClaim := { program := "ytkeaekckblpfjaa", sum := "9ca3960f55959fdb47c0d0e588260ebee595e0cd0875500b37eccecb9ebd8647", func := "gleaner/gleanerlaw14.RingGrows", spec := "ringGrows", apart := false, narrowed := true }
def RingGrowsUptoSaid : Prop := ringGrowsUptoRow.holds Try.pinned (OpenSpec.upto ringGrowsSpec)

/-- 'gleanerlaw15.DequeCalls', WHERE WHAT IT READS IS OF BULK AT MOST 1048576: true; the input reads as it did. -/
def dequeCallsUptoRow : OpenClaim := { program := "ytkeaekckblpfjaa", sum := "9ca3960f55959fdb47c0d0e588260ebee595e0cd0875500b37eccecb9ebd8647", func := "gleaner/gleanerlaw15.DequeCalls", spec := "dequeCalls", unfollowed := true, recurses := true, apart := false, narrowed := true }
def DequeCallsUptoSaid : Prop := dequeCallsUptoRow.holds Try.pinned (OpenSpec.upto dequeCallsSpec)

/-- 'gleanerlaw15.DequePlays', WHERE WHAT IT READS IS OF BULK AT MOST 1048576: true; the input reads as it did. -/
def dequePlaysUptoRow : OpenClaim := { program := "ytkeaekckblpfjaa", sum := "9ca3960f55959fdb47c0d0e588260ebee595e0cd0875500b37eccecb9ebd8647", func := "gleaner/gleanerlaw15.DequePlays", spec := "dequePlays", unfollowed := true, recurses := true, apart := false, narrowed := true }
def DequePlaysUptoSaid : Prop := dequePlaysUptoRow.holds Try.pinned (OpenSpec.upto dequePlaysSpec)

/-- 'gleanerlaw15.DequeOnce', WHERE WHAT IT READS IS OF BULK AT MOST 1048576: true; the input reads as it did. -/
def dequeOnceUptoRow : OpenClaim := { program := "ytkeaekckblpfjaa", sum := "9ca3960f55959fdb47c0d0e588260ebee595e0cd0875500b37eccecb9ebd8647", func := "gleaner/gleanerlaw15.DequeOnce", spec := "dequeOnce", unfollowed := true, recurses := true, apart := false, narrowed := true }
def DequeOnceUptoSaid : Prop := dequeOnceUptoRow.holds Try.pinned (OpenSpec.upto dequeOnceSpec)

/-- 'gleanerlaw15.DequeAlone', WHERE WHAT IT READS IS OF BULK AT MOST 1048576: true; the input reads as it did. -/
def dequeAloneUptoRow : OpenClaim := { program := "ytkeaekckblpfjaa", sum := "9ca3960f55959fdb47c0d0e588260ebee595e0cd0875500b37eccecb9ebd8647", func := "gleaner/gleanerlaw15.DequeAlone", spec := "dequeAlone", unfollowed := true, recurses := true, apart := false, narrowed := true }
def DequeAloneUptoSaid : Prop := dequeAloneUptoRow.holds Try.pinned (OpenSpec.upto dequeAloneSpec)

/-- 'gleanerlaw15.DequeLast', WHERE WHAT IT READS IS OF BULK AT MOST 1048576: true; the input reads as it did. -/
def dequeLastUptoRow : OpenClaim := { program := "ytkeaekckblpfjaa", sum := "9ca3960f55959fdb47c0d0e588260ebee595e0cd0875500b37eccecb9ebd8647", func := "gleaner/gleanerlaw15.DequeLast", spec := "dequeLast", unfollowed := true, recurses := true, apart := false, narrowed := true }
def DequeLastUptoSaid : Prop := dequeLastUptoRow.holds Try.pinned (OpenSpec.upto dequeLastSpec)

/-- 'gleanerlaw15.DequeGrows', WHERE WHAT IT READS IS OF BULK AT MOST 1048576: true; the input reads as it did. -/
def dequeGrowsUptoRow : OpenClaim := { program := "ytkeaekckblpfjaa", sum := "9ca3960f55959fdb47c0d0e588260ebee595e0cd0875500b37eccecb9ebd8647", func := "gleaner/gleanerlaw15.DequeGrows", spec := "dequeGrows", unfollowed := true, recurses := true, apart := false, narrowed := true }
def DequeGrowsUptoSaid : Prop := dequeGrowsUptoRow.holds Try.pinned (OpenSpec.upto dequeGrowsSpec)

/-- 'gleanerlaw15.DequeThieves', WHERE WHAT IT READS IS OF BULK AT MOST 1048576: true; the input reads as it did. -/
def dequeThievesUptoRow : OpenClaim := { program := "ytkeaekckblpfjaa", sum := "9ca3960f55959fdb47c0d0e588260ebee595e0cd0875500b37eccecb9ebd8647", func := "gleaner/gleanerlaw15.DequeThieves", spec := "dequeThieves", unfollowed := true, recurses := true, apart := false, narrowed := true }
def DequeThievesUptoSaid : Prop := dequeThievesUptoRow.holds Try.pinned (OpenSpec.upto dequeThievesSpec)

end Rows
end Go.Proofs.Ytkeaekckblpfjaa
