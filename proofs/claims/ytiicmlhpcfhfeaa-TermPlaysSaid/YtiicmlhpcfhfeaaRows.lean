/-
  No cell of these rows narrows 'for every input' (looked for: loops, veiled, ifaces, maps, wideKeys, modest, calm, conditions, laid).
  DERIVED. THE GIVEN ROWS OF THIS SEAT. 5 by the template 'for every input the law returns true; each argument reads behind the call as it read before'; 0 by the template 'total and deterministic' (their statements: YtiicmlhpcfhfeaaTotals.lean).
  GIVEN WITH THE SEED: the statements are not yours to turn. If you find one false, say at which input.
  Laid BY PROGRAM, IN A SANDBOX (cutbox-rows.mjs): the forced cells as the released guide's own fill.sh prints them over the translation 0cfe743c19f2a944… (all of the seat's roots in one cut). By AI agents, Wed Nov 11 2026. No macro, syntax, notation, axiom, sorry.
-/
import Derived.Test.YtiicmlhpcfhfeaaChecked
import GoSem.Claim
import GoSem.ClaimJoined
import GoSem.ClaimMapViews
import Derived.JoinedTies
import Derived.KernelRfl
namespace Go.Proofs.Ytiicmlhpcfhfeaa
/- THE CELL 'sum', in the pinned program and in every row, IS THE sha256 OF THE DUMP (.gsa) THAT YtiicmlhpcfhfeaaProg.lean LOADS. Nothing in Lean hashes anything: it is a label: what it is worth is what the hold of that sum in a sandbox is worth. -/
noncomputable def Try.pinned : Pinned := { name := "ytiicmlhpcfhfeaa", sum := "0cfe743c19f2a944376115a65d770d4bc50cb889c35d6f3e41b32924d1c08cb7", checked := Try.checked }
namespace Rows
def none {H : Type} : Left H := { results := [], args := [] }

/-- 'gleanerlaw25.TermEnds': WHATEVER THE INPUT: true; the input reads as it did. -/
def termEndsSpec : ChangeSpec := { name := "termEnds", fn := fun _ => fun
  | [d1, d2, d3] => { results := [.lit (.bool true)], args := [d1, d2, d3] }
  | _ => none }
def termEndsRow : OpenClaim := { program := "ytiicmlhpcfhfeaa", sum := "0cfe743c19f2a944376115a65d770d4bc50cb889c35d6f3e41b32924d1c08cb7", func := "gleaner/gleanerlaw25.TermEnds", spec := "termEnds", unfollowed := true, recurses := true, apart := false }
def TermEndsSaid : Prop := termEndsRow.holds Try.pinned (OpenSpec.ofChange termEndsSpec)

/-- ITS FALSE NEIGHBOUR: 'it returns false'. Refute it at one input. -/
def termEndsWrong : ChangeSpec := { name := "termEnds", fn := fun _ => fun
  | [d1, d2, d3] => { results := [.lit (.bool false)], args := [d1, d2, d3] }
  | _ => none }
def TermEndsWrongFalsely : Prop := termEndsRow.holds Try.pinned (OpenSpec.ofChange termEndsWrong)

/-- 'gleanerlaw25.TermTrue': WHATEVER THE INPUT: true; the input reads as it did. -/
def termTrueSpec : ChangeSpec := { name := "termTrue", fn := fun _ => fun
  | [d1, d2] => { results := [.lit (.bool true)], args := [d1, d2] }
  | _ => none }
def termTrueRow : OpenClaim := { program := "ytiicmlhpcfhfeaa", sum := "0cfe743c19f2a944376115a65d770d4bc50cb889c35d6f3e41b32924d1c08cb7", func := "gleaner/gleanerlaw25.TermTrue", spec := "termTrue", unfollowed := true, recurses := true, apart := false }
def TermTrueSaid : Prop := termTrueRow.holds Try.pinned (OpenSpec.ofChange termTrueSpec)

/-- ITS FALSE NEIGHBOUR: 'it returns false'. Refute it at one input. -/
def termTrueWrong : ChangeSpec := { name := "termTrue", fn := fun _ => fun
  | [d1, d2] => { results := [.lit (.bool false)], args := [d1, d2] }
  | _ => none }
def TermTrueWrongFalsely : Prop := termTrueRow.holds Try.pinned (OpenSpec.ofChange termTrueWrong)

/-- 'gleanerlaw25.TermChain': WHATEVER THE INPUT: true; the input reads as it did. -/
def termChainSpec : ChangeSpec := { name := "termChain", fn := fun _ => fun
  | [d] => { results := [.lit (.bool true)], args := [d] }
  | _ => none }
def termChainRow : OpenClaim := { program := "ytiicmlhpcfhfeaa", sum := "0cfe743c19f2a944376115a65d770d4bc50cb889c35d6f3e41b32924d1c08cb7", func := "gleaner/gleanerlaw25.TermChain", spec := "termChain", unfollowed := true, recurses := true, apart := false }
def TermChainSaid : Prop := termChainRow.holds Try.pinned (OpenSpec.ofChange termChainSpec)

/-- ITS FALSE NEIGHBOUR: 'it returns false'. Refute it at one input. -/
def termChainWrong : ChangeSpec := { name := "termChain", fn := fun _ => fun
  | [d] => { results := [.lit (.bool false)], args := [d] }
  | _ => none }
def TermChainWrongFalsely : Prop := termChainRow.holds Try.pinned (OpenSpec.ofChange termChainWrong)

/-- 'gleanerlaw25.TermStar': WHATEVER THE INPUT: true; the input reads as it did. -/
def termStarSpec : ChangeSpec := { name := "termStar", fn := fun _ => fun
  | [d1, d2] => { results := [.lit (.bool true)], args := [d1, d2] }
  | _ => none }
def termStarRow : OpenClaim := { program := "ytiicmlhpcfhfeaa", sum := "0cfe743c19f2a944376115a65d770d4bc50cb889c35d6f3e41b32924d1c08cb7", func := "gleaner/gleanerlaw25.TermStar", spec := "termStar", unfollowed := true, recurses := true, apart := false }
def TermStarSaid : Prop := termStarRow.holds Try.pinned (OpenSpec.ofChange termStarSpec)

/-- ITS FALSE NEIGHBOUR: 'it returns false'. Refute it at one input. -/
def termStarWrong : ChangeSpec := { name := "termStar", fn := fun _ => fun
  | [d1, d2] => { results := [.lit (.bool false)], args := [d1, d2] }
  | _ => none }
def TermStarWrongFalsely : Prop := termStarRow.holds Try.pinned (OpenSpec.ofChange termStarWrong)

/-- 'gleanerlaw25.TermPlays': WHATEVER THE INPUT: true; the input reads as it did. -/
def termPlaysSpec : ChangeSpec := { name := "termPlays", fn := fun _ => fun
  | [d1, d2] => { results := [.lit (.bool true)], args := [d1, d2] }
  | _ => none }
def termPlaysRow : OpenClaim := { program := "ytiicmlhpcfhfeaa", sum := "0cfe743c19f2a944376115a65d770d4bc50cb889c35d6f3e41b32924d1c08cb7", func := "gleaner/gleanerlaw25.TermPlays", spec := "termPlays", unfollowed := true, recurses := true, apart := false }
def TermPlaysSaid : Prop := termPlaysRow.holds Try.pinned (OpenSpec.ofChange termPlaysSpec)

/-- ITS FALSE NEIGHBOUR: 'it returns false'. Refute it at one input. -/
def termPlaysWrong : ChangeSpec := { name := "termPlays", fn := fun _ => fun
  | [d1, d2] => { results := [.lit (.bool false)], args := [d1, d2] }
  | _ => none }
def TermPlaysWrongFalsely : Prop := termPlaysRow.holds Try.pinned (OpenSpec.ofChange termPlaysWrong)

/- THE SECOND FORM. 'bulk': how many values and letters a reading holds, each counted each time it is reached (what is shared counts as often as it is met; a slice's spare places count too). A statement '..UptoSaid' is the law's where the arguments, and the package variables that the reading takes, are together of bulk at most 1048576: NARROWER than '..Said'. Prove '..Said' where nothing that the law and all that it calls make is longer than what came in: it says more and counts as full. Else prove '..UptoSaid'. A law counts once. -/
mutual
def uptoBulk {H : Type} : DataW H → Nat
  | .lit (.string bytes) => bytes.length + 1
  | .lit _ => 1
  | .nil => 1
  | .ptr d => uptoBulk d + 1
  | .slice elems spare => uptoBulkAll elems + uptoBulkAll spare + 1
  | .agg parts => uptoBulkAll parts + 1
  | .iface _ d => uptoBulk d + 1
  | .map entries => uptoBulkEntries entries + 1
  | .held _ => 1
def uptoBulkAll {H : Type} : List (DataW H) → Nat
  | [] => 0
  | d :: r => uptoBulk d + uptoBulkAll r
def uptoBulkEntries {H : Type} : List (Lit × DataW H) → Nat
  | [] => 0
  | x :: r => uptoBulkEntry x + uptoBulkEntries r
def uptoBulkEntry {H : Type} : Lit × DataW H → Nat
  | (.string bytes, d) => bytes.length + uptoBulk d + 1
  | (_, d) => uptoBulk d + 1
 end
def uptoSmall : (H : Type) → List (DataW H) → Bool := fun _ ds => decide (uptoBulkAll ds ≤ 1048576)
def OpenSpec.upto (s : _root_.Go.ChangeSpec) : _root_.Go.OpenSpec := { _root_.Go.OpenSpec.ofChange s with cond := some uptoSmall }

/-- 'gleanerlaw25.TermEnds', WHERE WHAT IT READS IS OF BULK AT MOST 1048576: true; the input reads as it did. -/
def termEndsUptoRow : OpenClaim := { program := "ytiicmlhpcfhfeaa", sum := "0cfe743c19f2a944376115a65d770d4bc50cb889c35d6f3e41b32924d1c08cb7", func := "gleaner/gleanerlaw25.TermEnds", spec := "termEnds", unfollowed := true, recurses := true, apart := false, narrowed := true }
def TermEndsUptoSaid : Prop := termEndsUptoRow.holds Try.pinned (OpenSpec.upto termEndsSpec)

/-- 'gleanerlaw25.TermTrue', WHERE WHAT IT READS IS OF BULK AT MOST 1048576: true; the input reads as it did. -/
def termTrueUptoRow : OpenClaim := { program := "ytiicmlhpcfhfeaa", sum := "0cfe743c19f2a944376115a65d770d4bc50cb889c35d6f3e41b32924d1c08cb7", func := "gleaner/gleanerlaw25.TermTrue", spec := "termTrue", unfollowed := true, recurses := true, apart := false, narrowed := true }
def TermTrueUptoSaid : Prop := termTrueUptoRow.holds Try.pinned (OpenSpec.upto termTrueSpec)

/-- 'gleanerlaw25.TermChain', WHERE WHAT IT READS IS OF BULK AT MOST 1048576: true; the input reads as it did. -/
def termChainUptoRow : OpenClaim := { program := "ytiicmlhpcfhfeaa", sum := "0cfe743c19f2a944376115a65d770d4bc50cb889c35d6f3e41b32924d1c08cb7", func := "gleaner/gleanerlaw25.TermChain", spec := "termChain", unfollowed := true, recurses := true, apart := false, narrowed := true }
def TermChainUptoSaid : Prop := termChainUptoRow.holds Try.pinned (OpenSpec.upto termChainSpec)

/-- 'gleanerlaw25.TermStar', WHERE WHAT IT READS IS OF BULK AT MOST 1048576: true; the input reads as it did. -/
def termStarUptoRow : OpenClaim := { program := "ytiicmlhpcfhfeaa", sum := "0cfe743c19f2a944376115a65d770d4bc50cb889c35d6f3e41b32924d1c08cb7", func := "gleaner/gleanerlaw25.TermStar", spec := "termStar", unfollowed := true, recurses := true, apart := false, narrowed := true }
def TermStarUptoSaid : Prop := termStarUptoRow.holds Try.pinned (OpenSpec.upto termStarSpec)

/-- 'gleanerlaw25.TermPlays', WHERE WHAT IT READS IS OF BULK AT MOST 1048576: true; the input reads as it did. -/
def termPlaysUptoRow : OpenClaim := { program := "ytiicmlhpcfhfeaa", sum := "0cfe743c19f2a944376115a65d770d4bc50cb889c35d6f3e41b32924d1c08cb7", func := "gleaner/gleanerlaw25.TermPlays", spec := "termPlays", unfollowed := true, recurses := true, apart := false, narrowed := true }
def TermPlaysUptoSaid : Prop := termPlaysUptoRow.holds Try.pinned (OpenSpec.upto termPlaysSpec)

end Rows
end Go.Proofs.Ytiicmlhpcfhfeaa
