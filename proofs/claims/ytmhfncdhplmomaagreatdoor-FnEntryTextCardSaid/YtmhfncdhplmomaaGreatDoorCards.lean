/-
  DERIVED. GIVEN WITH THE SEED: THE CARDS: each row of YtmhfncdhplmomaaGreatDoorRows.lean that lists a variable, with what it lists TIED to the program's text (the seventh form; the later family's looks); each row that meets fmt, with fmt's text TOLD by the authors' own Lean function (tested against real Go, not proved from fmt's source: count such statements apart). THE CARD IS WHAT COUNTS. Prove the row's statement (the work); the ties are given (YtmhfncdhplmomaaGreatDoorTie.lean); close each card by the builder's one call (the guide's Derived/Test/ToyasCard.lean, 'card_holds'). Laid BY PROGRAM, IN A SANDBOX (cutbox-door.mjs). By AI agents, Wed Nov 11 2026. No macro, syntax, notation, axiom, sorry.
-/
import Derived.Test.YtmhfncdhplmomaaGreatDoorRows
import GoSem.ClaimSeven
namespace Go.Proofs.YtmhfncdhplmomaaGreatDoor
namespace Rows

/-- THE TIED CARD OF 'laws.FnRegistry'. -/
def fnRegistryCard : Claim7 := { stood := { row := fnRegistryRow, standIns := [], harness := (true, "e56bed9be7987ed82dc1fb0583f1329bc2e2f2ec4202f2a7a6f6ac75596e4c45"), looks := true }, kinds := [], alts := [], laidByText := true, laidKinds := [.data, .data, .data, .data], laidTests := true, laidLooks := .later }
def FnRegistryCardSaid : Prop := Claim7.holds Tryz.pinned (.plain (OpenSpec.ofChange fnRegistrySpec)) fnRegistryCard

/-- THE TIED CARD OF 'laws.FnEntryText'. -/
def fnEntryTextCard : Claim7 := { stood := { row := fnEntryTextRow, standIns := [], harness := (true, "e56bed9be7987ed82dc1fb0583f1329bc2e2f2ec4202f2a7a6f6ac75596e4c45"), looks := true }, kinds := [], alts := [], laidByText := true, laidKinds := [.data, .data, .data, .data, .sentinel, .sentinel, .data, .pinned], laidTests := true, laidLooks := .later }
def FnEntryTextCardSaid : Prop := Claim7.holds Tryz.pinned (.plain (OpenSpec.ofChange fnEntryTextSpec)) fnEntryTextCard

/-- THE TIED CARD OF 'laws.FnExactParseEvent'. -/
def fnExactParseEventCard : Claim7 := { stood := { row := fnExactParseEventRow, standIns := [], harness := (true, "e56bed9be7987ed82dc1fb0583f1329bc2e2f2ec4202f2a7a6f6ac75596e4c45"), looks := true }, kinds := [], alts := [], laidByText := true, laidKinds := [.data, .data, .data, .data, .sentinel, .sentinel, .data, .pinned], laidTests := true, laidLooks := .later }
def FnExactParseEventCardSaid : Prop := Claim7.holds Tryz.pinned (.plain (OpenSpec.ofChange fnExactParseEventSpec)) fnExactParseEventCard

/-- THE TIED CARD OF 'laws.FnExactParseEntry'. -/
def fnExactParseEntryCard : Claim7 := { stood := { row := fnExactParseEntryRow, standIns := [], harness := (true, "e56bed9be7987ed82dc1fb0583f1329bc2e2f2ec4202f2a7a6f6ac75596e4c45"), looks := true }, kinds := [], alts := [], laidByText := true, laidKinds := [.data, .data, .data, .data, .sentinel, .sentinel, .data, .pinned], laidTests := true, laidLooks := .later }
def FnExactParseEntryCardSaid : Prop := Claim7.holds Tryz.pinned (.plain (OpenSpec.ofChange fnExactParseEntrySpec)) fnExactParseEntryCard

/-- THE SECOND FORM's CARD OF 'laws.FnRegistry'. -/
def fnRegistryUptoCard : Claim7 := { stood := { row := fnRegistryUptoRow, standIns := [], harness := (true, "e56bed9be7987ed82dc1fb0583f1329bc2e2f2ec4202f2a7a6f6ac75596e4c45"), looks := true }, kinds := [], alts := [], laidByText := true, laidKinds := [.data, .data, .data, .data], laidTests := true, laidLooks := .later }
def FnRegistryUptoCardSaid : Prop := Claim7.holds Tryz.pinned (.plain (OpenSpec.upto fnRegistrySpec)) fnRegistryUptoCard

/-- THE SECOND FORM's CARD OF 'laws.FnEntryText'. -/
def fnEntryTextUptoCard : Claim7 := { stood := { row := fnEntryTextUptoRow, standIns := [], harness := (true, "e56bed9be7987ed82dc1fb0583f1329bc2e2f2ec4202f2a7a6f6ac75596e4c45"), looks := true }, kinds := [], alts := [], laidByText := true, laidKinds := [.data, .data, .data, .data, .sentinel, .sentinel, .data, .pinned], laidTests := true, laidLooks := .later }
def FnEntryTextUptoCardSaid : Prop := Claim7.holds Tryz.pinned (.plain (OpenSpec.upto fnEntryTextSpec)) fnEntryTextUptoCard

/-- THE SECOND FORM's CARD OF 'laws.FnExactParseEvent'. -/
def fnExactParseEventUptoCard : Claim7 := { stood := { row := fnExactParseEventUptoRow, standIns := [], harness := (true, "e56bed9be7987ed82dc1fb0583f1329bc2e2f2ec4202f2a7a6f6ac75596e4c45"), looks := true }, kinds := [], alts := [], laidByText := true, laidKinds := [.data, .data, .data, .data, .sentinel, .sentinel, .data, .pinned], laidTests := true, laidLooks := .later }
def FnExactParseEventUptoCardSaid : Prop := Claim7.holds Tryz.pinned (.plain (OpenSpec.upto fnExactParseEventSpec)) fnExactParseEventUptoCard

/-- THE SECOND FORM's CARD OF 'laws.FnExactParseEntry'. -/
def fnExactParseEntryUptoCard : Claim7 := { stood := { row := fnExactParseEntryUptoRow, standIns := [], harness := (true, "e56bed9be7987ed82dc1fb0583f1329bc2e2f2ec4202f2a7a6f6ac75596e4c45"), looks := true }, kinds := [], alts := [], laidByText := true, laidKinds := [.data, .data, .data, .data, .sentinel, .sentinel, .data, .pinned], laidTests := true, laidLooks := .later }
def FnExactParseEntryUptoCardSaid : Prop := Claim7.holds Tryz.pinned (.plain (OpenSpec.upto fnExactParseEntrySpec)) fnExactParseEntryUptoCard
end Rows
end Go.Proofs.YtmhfncdhplmomaaGreatDoor
