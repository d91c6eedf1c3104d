/-
  DERIVED. GIVEN WITH THE SEED: THE CARDS: each row of YtbgcaneflfdddaaGreatDoorRows.lean that lists a variable, with what it lists TIED to the program's text (the seventh form; the later family's looks); each row that meets fmt, with fmt's text TOLD by the authors' own Lean function (tested against real Go, not proved from fmt's source: count such statements apart). THE CARD IS WHAT COUNTS. Prove the row's statement (the work); the ties are given (YtbgcaneflfdddaaGreatDoorTie.lean); close each card by the builder's one call (the guide's Derived/Test/ToyasCard.lean, 'card_holds'). Laid BY PROGRAM, IN A SANDBOX (cutbox-door.mjs). By AI agents, Wed Nov 11 2026. No macro, syntax, notation, axiom, sorry.
-/
import Derived.Test.YtbgcaneflfdddaaGreatDoorRows
import GoSem.ClaimSeven
namespace Go.Proofs.YtbgcaneflfdddaaGreatDoor
namespace Rows

/-- THE TIED CARD OF 'laws.FnCounts'. -/
def fnCountsCard : Claim7 := { stood := { row := fnCountsRow, standIns := [], harness := (true, "538413f236a69d6fcbb97119fc1b6478cc9e9901d3c3ea9c780d41d833ca16c7"), looks := true }, kinds := [], alts := [], laidByText := true, laidKinds := [.data, .data, .data, .data, .sentinel, .sentinel, .pinned], laidTests := true, laidLooks := .later }
def FnCountsCardSaid : Prop := Claim7.holds Tryz.pinned (.plain (OpenSpec.ofChange fnCountsSpec)) fnCountsCard

/-- THE TIED CARD OF 'laws.FnLazy'. -/
def fnLazyCard : Claim7 := { stood := { row := fnLazyRow, standIns := [], harness := (true, "538413f236a69d6fcbb97119fc1b6478cc9e9901d3c3ea9c780d41d833ca16c7"), looks := true }, kinds := [], alts := [], laidByText := true, laidKinds := [.data, .data, .data, .data, .sentinel, .sentinel, .pinned], laidTests := true, laidLooks := .later }
def FnLazyCardSaid : Prop := Claim7.holds Tryz.pinned (.plain (OpenSpec.ofChange fnLazySpec)) fnLazyCard

/-- THE TIED CARD OF 'laws.FnTwice'. -/
def fnTwiceCard : Claim7 := { stood := { row := fnTwiceRow, standIns := [], harness := (true, "538413f236a69d6fcbb97119fc1b6478cc9e9901d3c3ea9c780d41d833ca16c7"), looks := true }, kinds := [], alts := [], laidByText := true, laidKinds := [.data, .data, .data, .data, .sentinel, .sentinel, .pinned], laidTests := true, laidLooks := .later }
def FnTwiceCardSaid : Prop := Claim7.holds Tryz.pinned (.plain (OpenSpec.ofChange fnTwiceSpec)) fnTwiceCard

/-- THE TIED CARD OF 'laws.FnPartWants'. -/
def fnPartWantsCard : Claim7 := { stood := { row := fnPartWantsRow, standIns := [], harness := (true, "538413f236a69d6fcbb97119fc1b6478cc9e9901d3c3ea9c780d41d833ca16c7"), looks := true }, kinds := [], alts := [], laidByText := true, laidKinds := [.data, .data, .data, .data, .sentinel, .sentinel, .pinned], laidTests := true, laidLooks := .later }
def FnPartWantsCardSaid : Prop := Claim7.holds Tryz.pinned (.plain (OpenSpec.ofChange fnPartWantsSpec)) fnPartWantsCard

/-- THE TIED CARD OF 'laws.FnHears'. -/
def fnHearsCard : Claim7 := { stood := { row := fnHearsRow, standIns := [], harness := (true, "538413f236a69d6fcbb97119fc1b6478cc9e9901d3c3ea9c780d41d833ca16c7"), looks := true }, kinds := [], alts := [], laidByText := true, laidKinds := [.data, .data, .data, .data, .sentinel, .sentinel, .pinned], laidTests := true, laidLooks := .later }
def FnHearsCardSaid : Prop := Claim7.holds Tryz.pinned (.plain (OpenSpec.ofChange fnHearsSpec)) fnHearsCard

/-- THE TIED CARD OF 'laws.FnReads'. -/
def fnReadsCard : Claim7 := { stood := { row := fnReadsRow, standIns := [], harness := (true, "538413f236a69d6fcbb97119fc1b6478cc9e9901d3c3ea9c780d41d833ca16c7"), looks := true }, kinds := [], alts := [], laidByText := true, laidKinds := [.data, .data, .data, .data, .sentinel, .sentinel, .pinned], laidTests := true, laidLooks := .later }
def FnReadsCardSaid : Prop := Claim7.holds Tryz.pinned (.plain (OpenSpec.ofChange fnReadsSpec)) fnReadsCard

/-- THE TIED CARD OF 'laws.FnThrough'. -/
def fnThroughCard : Claim7 := { stood := { row := fnThroughRow, standIns := [], harness := (true, "538413f236a69d6fcbb97119fc1b6478cc9e9901d3c3ea9c780d41d833ca16c7"), looks := true }, kinds := [], alts := [], laidByText := true, laidKinds := [.data, .data, .data, .data, .sentinel, .sentinel, .pinned], laidTests := true, laidLooks := .later }
def FnThroughCardSaid : Prop := Claim7.holds Tryz.pinned (.plain (OpenSpec.ofChange fnThroughSpec)) fnThroughCard

/-- THE TIED CARD OF 'laws.FnPartKeeps'. -/
def fnPartKeepsCard : Claim7 := { stood := { row := fnPartKeepsRow, standIns := [], harness := (true, "538413f236a69d6fcbb97119fc1b6478cc9e9901d3c3ea9c780d41d833ca16c7"), looks := true }, kinds := [], alts := [], laidByText := true, laidKinds := [.data, .data, .data, .data, .sentinel, .sentinel, .pinned], laidTests := true, laidLooks := .later }
def FnPartKeepsCardSaid : Prop := Claim7.holds Tryz.pinned (.plain (OpenSpec.ofChange fnPartKeepsSpec)) fnPartKeepsCard

/-- THE TIED CARD OF 'laws.FnDoor'. -/
def fnDoorCard : Claim7 := { stood := { row := fnDoorRow, standIns := [], harness := (true, "538413f236a69d6fcbb97119fc1b6478cc9e9901d3c3ea9c780d41d833ca16c7"), looks := true }, kinds := [], alts := [], laidByText := true, laidKinds := [.data, .data, .data, .data, .sentinel, .sentinel, .pinned], laidTests := true, laidLooks := .later }
def FnDoorCardSaid : Prop := Claim7.holds Tryz.pinned (.plain (OpenSpec.ofChange fnDoorSpec)) fnDoorCard

/-- THE TIED CARD OF 'laws.FnExactCallPart'. -/
def fnExactCallPartCard : Claim7 := { stood := { row := fnExactCallPartRow, standIns := [], harness := (true, "538413f236a69d6fcbb97119fc1b6478cc9e9901d3c3ea9c780d41d833ca16c7"), looks := true }, kinds := [], alts := [], laidByText := true, laidKinds := [.data, .data, .data, .data, .sentinel, .sentinel, .pinned], laidTests := true, laidLooks := .later }
def FnExactCallPartCardSaid : Prop := Claim7.holds Tryz.pinned (.plain (OpenSpec.ofChange fnExactCallPartSpec)) fnExactCallPartCard

/-- THE TIED CARD OF 'laws.FnExactCallParts'. -/
def fnExactCallPartsCard : Claim7 := { stood := { row := fnExactCallPartsRow, standIns := [], harness := (true, "538413f236a69d6fcbb97119fc1b6478cc9e9901d3c3ea9c780d41d833ca16c7"), looks := true }, kinds := [], alts := [], laidByText := true, laidKinds := [.data, .data, .data, .data, .sentinel, .sentinel, .pinned], laidTests := true, laidLooks := .later }
def FnExactCallPartsCardSaid : Prop := Claim7.holds Tryz.pinned (.plain (OpenSpec.ofChange fnExactCallPartsSpec)) fnExactCallPartsCard

/-- THE SECOND FORM's CARD OF 'laws.FnCounts'. -/
def fnCountsUptoCard : Claim7 := { stood := { row := fnCountsUptoRow, standIns := [], harness := (true, "538413f236a69d6fcbb97119fc1b6478cc9e9901d3c3ea9c780d41d833ca16c7"), looks := true }, kinds := [], alts := [], laidByText := true, laidKinds := [.data, .data, .data, .data, .sentinel, .sentinel, .pinned], laidTests := true, laidLooks := .later }
def FnCountsUptoCardSaid : Prop := Claim7.holds Tryz.pinned (.plain (OpenSpec.upto fnCountsSpec)) fnCountsUptoCard

/-- THE SECOND FORM's CARD OF 'laws.FnLazy'. -/
def fnLazyUptoCard : Claim7 := { stood := { row := fnLazyUptoRow, standIns := [], harness := (true, "538413f236a69d6fcbb97119fc1b6478cc9e9901d3c3ea9c780d41d833ca16c7"), looks := true }, kinds := [], alts := [], laidByText := true, laidKinds := [.data, .data, .data, .data, .sentinel, .sentinel, .pinned], laidTests := true, laidLooks := .later }
def FnLazyUptoCardSaid : Prop := Claim7.holds Tryz.pinned (.plain (OpenSpec.upto fnLazySpec)) fnLazyUptoCard

/-- THE SECOND FORM's CARD OF 'laws.FnTwice'. -/
def fnTwiceUptoCard : Claim7 := { stood := { row := fnTwiceUptoRow, standIns := [], harness := (true, "538413f236a69d6fcbb97119fc1b6478cc9e9901d3c3ea9c780d41d833ca16c7"), looks := true }, kinds := [], alts := [], laidByText := true, laidKinds := [.data, .data, .data, .data, .sentinel, .sentinel, .pinned], laidTests := true, laidLooks := .later }
def FnTwiceUptoCardSaid : Prop := Claim7.holds Tryz.pinned (.plain (OpenSpec.upto fnTwiceSpec)) fnTwiceUptoCard

/-- THE SECOND FORM's CARD OF 'laws.FnPartWants'. -/
def fnPartWantsUptoCard : Claim7 := { stood := { row := fnPartWantsUptoRow, standIns := [], harness := (true, "538413f236a69d6fcbb97119fc1b6478cc9e9901d3c3ea9c780d41d833ca16c7"), looks := true }, kinds := [], alts := [], laidByText := true, laidKinds := [.data, .data, .data, .data, .sentinel, .sentinel, .pinned], laidTests := true, laidLooks := .later }
def FnPartWantsUptoCardSaid : Prop := Claim7.holds Tryz.pinned (.plain (OpenSpec.upto fnPartWantsSpec)) fnPartWantsUptoCard

/-- THE SECOND FORM's CARD OF 'laws.FnHears'. -/
def fnHearsUptoCard : Claim7 := { stood := { row := fnHearsUptoRow, standIns := [], harness := (true, "538413f236a69d6fcbb97119fc1b6478cc9e9901d3c3ea9c780d41d833ca16c7"), looks := true }, kinds := [], alts := [], laidByText := true, laidKinds := [.data, .data, .data, .data, .sentinel, .sentinel, .pinned], laidTests := true, laidLooks := .later }
def FnHearsUptoCardSaid : Prop := Claim7.holds Tryz.pinned (.plain (OpenSpec.upto fnHearsSpec)) fnHearsUptoCard

/-- THE SECOND FORM's CARD OF 'laws.FnReads'. -/
def fnReadsUptoCard : Claim7 := { stood := { row := fnReadsUptoRow, standIns := [], harness := (true, "538413f236a69d6fcbb97119fc1b6478cc9e9901d3c3ea9c780d41d833ca16c7"), looks := true }, kinds := [], alts := [], laidByText := true, laidKinds := [.data, .data, .data, .data, .sentinel, .sentinel, .pinned], laidTests := true, laidLooks := .later }
def FnReadsUptoCardSaid : Prop := Claim7.holds Tryz.pinned (.plain (OpenSpec.upto fnReadsSpec)) fnReadsUptoCard

/-- THE SECOND FORM's CARD OF 'laws.FnThrough'. -/
def fnThroughUptoCard : Claim7 := { stood := { row := fnThroughUptoRow, standIns := [], harness := (true, "538413f236a69d6fcbb97119fc1b6478cc9e9901d3c3ea9c780d41d833ca16c7"), looks := true }, kinds := [], alts := [], laidByText := true, laidKinds := [.data, .data, .data, .data, .sentinel, .sentinel, .pinned], laidTests := true, laidLooks := .later }
def FnThroughUptoCardSaid : Prop := Claim7.holds Tryz.pinned (.plain (OpenSpec.upto fnThroughSpec)) fnThroughUptoCard

/-- THE SECOND FORM's CARD OF 'laws.FnPartKeeps'. -/
def fnPartKeepsUptoCard : Claim7 := { stood := { row := fnPartKeepsUptoRow, standIns := [], harness := (true, "538413f236a69d6fcbb97119fc1b6478cc9e9901d3c3ea9c780d41d833ca16c7"), looks := true }, kinds := [], alts := [], laidByText := true, laidKinds := [.data, .data, .data, .data, .sentinel, .sentinel, .pinned], laidTests := true, laidLooks := .later }
def FnPartKeepsUptoCardSaid : Prop := Claim7.holds Tryz.pinned (.plain (OpenSpec.upto fnPartKeepsSpec)) fnPartKeepsUptoCard

/-- THE SECOND FORM's CARD OF 'laws.FnDoor'. -/
def fnDoorUptoCard : Claim7 := { stood := { row := fnDoorUptoRow, standIns := [], harness := (true, "538413f236a69d6fcbb97119fc1b6478cc9e9901d3c3ea9c780d41d833ca16c7"), looks := true }, kinds := [], alts := [], laidByText := true, laidKinds := [.data, .data, .data, .data, .sentinel, .sentinel, .pinned], laidTests := true, laidLooks := .later }
def FnDoorUptoCardSaid : Prop := Claim7.holds Tryz.pinned (.plain (OpenSpec.upto fnDoorSpec)) fnDoorUptoCard

/-- THE SECOND FORM's CARD OF 'laws.FnExactCallPart'. -/
def fnExactCallPartUptoCard : Claim7 := { stood := { row := fnExactCallPartUptoRow, standIns := [], harness := (true, "538413f236a69d6fcbb97119fc1b6478cc9e9901d3c3ea9c780d41d833ca16c7"), looks := true }, kinds := [], alts := [], laidByText := true, laidKinds := [.data, .data, .data, .data, .sentinel, .sentinel, .pinned], laidTests := true, laidLooks := .later }
def FnExactCallPartUptoCardSaid : Prop := Claim7.holds Tryz.pinned (.plain (OpenSpec.upto fnExactCallPartSpec)) fnExactCallPartUptoCard

/-- THE SECOND FORM's CARD OF 'laws.FnExactCallParts'. -/
def fnExactCallPartsUptoCard : Claim7 := { stood := { row := fnExactCallPartsUptoRow, standIns := [], harness := (true, "538413f236a69d6fcbb97119fc1b6478cc9e9901d3c3ea9c780d41d833ca16c7"), looks := true }, kinds := [], alts := [], laidByText := true, laidKinds := [.data, .data, .data, .data, .sentinel, .sentinel, .pinned], laidTests := true, laidLooks := .later }
def FnExactCallPartsUptoCardSaid : Prop := Claim7.holds Tryz.pinned (.plain (OpenSpec.upto fnExactCallPartsSpec)) fnExactCallPartsUptoCard
end Rows
end Go.Proofs.YtbgcaneflfdddaaGreatDoor
