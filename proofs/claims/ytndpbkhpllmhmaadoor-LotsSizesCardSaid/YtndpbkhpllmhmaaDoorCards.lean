/-
  DERIVED. GIVEN WITH THE SEED: THE CARDS: each row of YtndpbkhpllmhmaaDoorRows.lean that lists a variable, with what it lists TIED to the program's text (the seventh form; the later family's looks); each row that meets fmt, with fmt's text TOLD by the authors' own Lean function (tested against real Go, not proved from fmt's source: count such statements apart). THE CARD IS WHAT COUNTS. Prove the row's statement (the work); the ties are given (YtndpbkhpllmhmaaDoorTie.lean); close each card by the builder's one call (the guide's Derived/Test/ToyasCard.lean, 'card_holds'). Laid BY PROGRAM, IN A SANDBOX (cutbox-door.mjs). By AI agents, Wed Nov 11 2026. No macro, syntax, notation, axiom, sorry.
-/
import Derived.Test.YtndpbkhpllmhmaaDoorRows
import GoSem.ClaimSeven
namespace Go.Proofs.YtndpbkhpllmhmaaDoor
namespace Rows

/-- THE TIED CARD OF 'gleanerlaw30.LotsSizes'. -/
def lotsSizesCard : Claim7 := { stood := { row := lotsSizesRow, standIns := [], harness := (true, "9510643ed885a77daaf20ba417caa3564412a7b6fa929a4e91d2840d4ee2ad93"), looks := true }, kinds := [], alts := [], laidByText := true, laidKinds := [.data, .data, .data], laidTests := true, laidLooks := .later }
def LotsSizesCardSaid : Prop := Claim7.holds Tryd.pinned (.plain (OpenSpec.ofChange lotsSizesSpec)) lotsSizesCard

/-- THE TIED CARD OF 'gleanerlaw30.LotsScripts'. -/
def lotsScriptsCard : Claim7 := { stood := { row := lotsScriptsRow, standIns := [], harness := (true, "9510643ed885a77daaf20ba417caa3564412a7b6fa929a4e91d2840d4ee2ad93"), looks := true }, kinds := [], alts := [], laidByText := true, laidKinds := [.data, .data, .data], laidTests := true, laidLooks := .later }
def LotsScriptsCardSaid : Prop := Claim7.holds Tryd.pinned (.plain (OpenSpec.ofChange lotsScriptsSpec)) lotsScriptsCard

/-- THE TIED CARD OF 'gleanerlaw30.LotsBegins'. -/
def lotsBeginsCard : Claim7 := { stood := { row := lotsBeginsRow, standIns := [], harness := (true, "9510643ed885a77daaf20ba417caa3564412a7b6fa929a4e91d2840d4ee2ad93"), looks := true }, kinds := [], alts := [], laidByText := true, laidKinds := [.data, .data, .data], laidTests := true, laidLooks := .later }
def LotsBeginsCardSaid : Prop := Claim7.holds Tryd.pinned (.plain (OpenSpec.ofChange lotsBeginsSpec)) lotsBeginsCard

/-- THE TIED CARD OF 'gleanerlaw26.FairTells'. -/
def fairTellsCard : Claim7 := { stood := { row := fairTellsRow, standIns := [], harness := (true, "9510643ed885a77daaf20ba417caa3564412a7b6fa929a4e91d2840d4ee2ad93"), looks := true }, kinds := [], alts := [], laidByText := true, laidKinds := [.data, .data, .data, .data, .pinned], laidTests := true, laidLooks := .later }
def FairTellsCardSaid : Prop := Claim7.holds Tryd.pinned (.plain (OpenSpec.ofChange fairTellsSpec)) fairTellsCard

/-- THE TIED CARD OF 'gleanerlaw26.FairRounds'. -/
def fairRoundsCard : Claim7 := { stood := { row := fairRoundsRow, standIns := [], harness := (true, "9510643ed885a77daaf20ba417caa3564412a7b6fa929a4e91d2840d4ee2ad93"), looks := true }, kinds := [], alts := [], laidByText := true, laidKinds := [.data, .data, .data, .data, .pinned], laidTests := true, laidLooks := .later }
def FairRoundsCardSaid : Prop := Claim7.holds Tryd.pinned (.plain (OpenSpec.ofChange fairRoundsSpec)) fairRoundsCard

/-- THE TIED CARD OF 'gleanerlaw26.FairPrints'. -/
def fairPrintsCard : Claim7 := { stood := { row := fairPrintsRow, standIns := [], harness := (true, "9510643ed885a77daaf20ba417caa3564412a7b6fa929a4e91d2840d4ee2ad93"), looks := true }, kinds := [], alts := [], laidByText := true, laidKinds := [.data, .data, .data, .data, .sentinel, .sentinel, .pinned], laidTests := true, laidLooks := .later }
def FairPrintsCardSaid : Prop := Claim7.holds Tryd.pinned (.plain (OpenSpec.ofChange fairPrintsSpec)) fairPrintsCard

/-- THE TIED CARD OF 'gleanerlaw26.FairReads'. -/
def fairReadsCard : Claim7 := { stood := { row := fairReadsRow, standIns := [], harness := (true, "9510643ed885a77daaf20ba417caa3564412a7b6fa929a4e91d2840d4ee2ad93"), looks := true }, kinds := [], alts := [], laidByText := true, laidKinds := [.data, .data, .data, .data, .sentinel, .sentinel, .pinned], laidTests := true, laidLooks := .later }
def FairReadsCardSaid : Prop := Claim7.holds Tryd.pinned (.plain (OpenSpec.ofChange fairReadsSpec)) fairReadsCard

/-- THE TIED CARD OF 'gleanerlaw26.FairWords'. -/
def fairWordsCard : Claim7 := { stood := { row := fairWordsRow, standIns := [], harness := (true, "9510643ed885a77daaf20ba417caa3564412a7b6fa929a4e91d2840d4ee2ad93"), looks := true }, kinds := [], alts := [], laidByText := true, laidKinds := [.data, .data, .data, .data, .sentinel, .sentinel, .pinned], laidTests := true, laidLooks := .later }
def FairWordsCardSaid : Prop := Claim7.holds Tryd.pinned (.plain (OpenSpec.ofChange fairWordsSpec)) fairWordsCard

/-- THE TIED CARD OF 'gleanerlaw26.FairBad'. -/
def fairBadCard : Claim7 := { stood := { row := fairBadRow, standIns := [], harness := (true, "9510643ed885a77daaf20ba417caa3564412a7b6fa929a4e91d2840d4ee2ad93"), looks := true }, kinds := [], alts := [], laidByText := true, laidKinds := [.data, .data, .data, .data, .sentinel, .sentinel, .pinned], laidTests := true, laidLooks := .later }
def FairBadCardSaid : Prop := Claim7.holds Tryd.pinned (.plain (OpenSpec.ofChange fairBadSpec)) fairBadCard

/-- THE SECOND FORM's CARD OF 'gleanerlaw30.LotsSizes'. -/
def lotsSizesUptoCard : Claim7 := { stood := { row := lotsSizesUptoRow, standIns := [], harness := (true, "9510643ed885a77daaf20ba417caa3564412a7b6fa929a4e91d2840d4ee2ad93"), looks := true }, kinds := [], alts := [], laidByText := true, laidKinds := [.data, .data, .data], laidTests := true, laidLooks := .later }
def LotsSizesUptoCardSaid : Prop := Claim7.holds Tryd.pinned (.plain (OpenSpec.upto lotsSizesSpec)) lotsSizesUptoCard

/-- THE SECOND FORM's CARD OF 'gleanerlaw30.LotsScripts'. -/
def lotsScriptsUptoCard : Claim7 := { stood := { row := lotsScriptsUptoRow, standIns := [], harness := (true, "9510643ed885a77daaf20ba417caa3564412a7b6fa929a4e91d2840d4ee2ad93"), looks := true }, kinds := [], alts := [], laidByText := true, laidKinds := [.data, .data, .data], laidTests := true, laidLooks := .later }
def LotsScriptsUptoCardSaid : Prop := Claim7.holds Tryd.pinned (.plain (OpenSpec.upto lotsScriptsSpec)) lotsScriptsUptoCard

/-- THE SECOND FORM's CARD OF 'gleanerlaw30.LotsBegins'. -/
def lotsBeginsUptoCard : Claim7 := { stood := { row := lotsBeginsUptoRow, standIns := [], harness := (true, "9510643ed885a77daaf20ba417caa3564412a7b6fa929a4e91d2840d4ee2ad93"), looks := true }, kinds := [], alts := [], laidByText := true, laidKinds := [.data, .data, .data], laidTests := true, laidLooks := .later }
def LotsBeginsUptoCardSaid : Prop := Claim7.holds Tryd.pinned (.plain (OpenSpec.upto lotsBeginsSpec)) lotsBeginsUptoCard

/-- THE SECOND FORM's CARD OF 'gleanerlaw26.FairTells'. -/
def fairTellsUptoCard : Claim7 := { stood := { row := fairTellsUptoRow, standIns := [], harness := (true, "9510643ed885a77daaf20ba417caa3564412a7b6fa929a4e91d2840d4ee2ad93"), looks := true }, kinds := [], alts := [], laidByText := true, laidKinds := [.data, .data, .data, .data, .pinned], laidTests := true, laidLooks := .later }
def FairTellsUptoCardSaid : Prop := Claim7.holds Tryd.pinned (.plain (OpenSpec.upto fairTellsSpec)) fairTellsUptoCard

/-- THE SECOND FORM's CARD OF 'gleanerlaw26.FairRounds'. -/
def fairRoundsUptoCard : Claim7 := { stood := { row := fairRoundsUptoRow, standIns := [], harness := (true, "9510643ed885a77daaf20ba417caa3564412a7b6fa929a4e91d2840d4ee2ad93"), looks := true }, kinds := [], alts := [], laidByText := true, laidKinds := [.data, .data, .data, .data, .pinned], laidTests := true, laidLooks := .later }
def FairRoundsUptoCardSaid : Prop := Claim7.holds Tryd.pinned (.plain (OpenSpec.upto fairRoundsSpec)) fairRoundsUptoCard

/-- THE SECOND FORM's CARD OF 'gleanerlaw26.FairPrints'. -/
def fairPrintsUptoCard : Claim7 := { stood := { row := fairPrintsUptoRow, standIns := [], harness := (true, "9510643ed885a77daaf20ba417caa3564412a7b6fa929a4e91d2840d4ee2ad93"), looks := true }, kinds := [], alts := [], laidByText := true, laidKinds := [.data, .data, .data, .data, .sentinel, .sentinel, .pinned], laidTests := true, laidLooks := .later }
def FairPrintsUptoCardSaid : Prop := Claim7.holds Tryd.pinned (.plain (OpenSpec.upto fairPrintsSpec)) fairPrintsUptoCard

/-- THE SECOND FORM's CARD OF 'gleanerlaw26.FairReads'. -/
def fairReadsUptoCard : Claim7 := { stood := { row := fairReadsUptoRow, standIns := [], harness := (true, "9510643ed885a77daaf20ba417caa3564412a7b6fa929a4e91d2840d4ee2ad93"), looks := true }, kinds := [], alts := [], laidByText := true, laidKinds := [.data, .data, .data, .data, .sentinel, .sentinel, .pinned], laidTests := true, laidLooks := .later }
def FairReadsUptoCardSaid : Prop := Claim7.holds Tryd.pinned (.plain (OpenSpec.upto fairReadsSpec)) fairReadsUptoCard

/-- THE SECOND FORM's CARD OF 'gleanerlaw26.FairWords'. -/
def fairWordsUptoCard : Claim7 := { stood := { row := fairWordsUptoRow, standIns := [], harness := (true, "9510643ed885a77daaf20ba417caa3564412a7b6fa929a4e91d2840d4ee2ad93"), looks := true }, kinds := [], alts := [], laidByText := true, laidKinds := [.data, .data, .data, .data, .sentinel, .sentinel, .pinned], laidTests := true, laidLooks := .later }
def FairWordsUptoCardSaid : Prop := Claim7.holds Tryd.pinned (.plain (OpenSpec.upto fairWordsSpec)) fairWordsUptoCard

/-- THE SECOND FORM's CARD OF 'gleanerlaw26.FairBad'. -/
def fairBadUptoCard : Claim7 := { stood := { row := fairBadUptoRow, standIns := [], harness := (true, "9510643ed885a77daaf20ba417caa3564412a7b6fa929a4e91d2840d4ee2ad93"), looks := true }, kinds := [], alts := [], laidByText := true, laidKinds := [.data, .data, .data, .data, .sentinel, .sentinel, .pinned], laidTests := true, laidLooks := .later }
def FairBadUptoCardSaid : Prop := Claim7.holds Tryd.pinned (.plain (OpenSpec.upto fairBadSpec)) fairBadUptoCard
end Rows
end Go.Proofs.YtndpbkhpllmhmaaDoor
