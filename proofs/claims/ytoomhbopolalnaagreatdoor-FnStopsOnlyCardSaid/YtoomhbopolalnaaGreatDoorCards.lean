/-
  DERIVED. GIVEN WITH THE SEED: THE CARDS: each row of YtoomhbopolalnaaGreatDoorRows.lean that lists a variable, with what it lists TIED to the program's text (the seventh form; the later family's looks); each row that meets fmt, with fmt's text TOLD by the authors' own Lean function (tested against real Go, not proved from fmt's source: count such statements apart). THE CARD IS WHAT COUNTS. Prove the row's statement (the work); the ties are given (YtoomhbopolalnaaGreatDoorTie.lean); close each card by the builder's one call (the guide's Derived/Test/ToyasCard.lean, 'card_holds'). Laid BY PROGRAM, IN A SANDBOX (cutbox-door.mjs). By AI agents, Wed Nov 11 2026. No macro, syntax, notation, axiom, sorry.
-/
import Derived.Test.YtoomhbopolalnaaGreatDoorRows
import GoSem.ClaimSeven
namespace Go.Proofs.YtoomhbopolalnaaGreatDoor
namespace Rows

/-- THE TIED CARD OF 'laws.FnStopsOnly'. -/
def fnStopsOnlyCard : Claim7 := { stood := { row := fnStopsOnlyRow, standIns := [], harness := (true, "31af1e36ee3fa077f5a9be0d324c2ff9b9fb653e322d75911da85b0c42610dd1"), looks := true }, kinds := [], alts := [], laidByText := true, laidKinds := [.data, .data, .data, .data, .sentinel, .sentinel, .pinned], laidTests := true, laidLooks := .later }
def FnStopsOnlyCardSaid : Prop := Claim7.holds Tryz.pinned (.plain (OpenSpec.ofChange fnStopsOnlySpec)) fnStopsOnlyCard

/-- THE SECOND FORM's CARD OF 'laws.FnStopsOnly'. -/
def fnStopsOnlyUptoCard : Claim7 := { stood := { row := fnStopsOnlyUptoRow, standIns := [], harness := (true, "31af1e36ee3fa077f5a9be0d324c2ff9b9fb653e322d75911da85b0c42610dd1"), looks := true }, kinds := [], alts := [], laidByText := true, laidKinds := [.data, .data, .data, .data, .sentinel, .sentinel, .pinned], laidTests := true, laidLooks := .later }
def FnStopsOnlyUptoCardSaid : Prop := Claim7.holds Tryz.pinned (.plain (OpenSpec.upto fnStopsOnlySpec)) fnStopsOnlyUptoCard
end Rows
end Go.Proofs.YtoomhbopolalnaaGreatDoor
