/-
  DERIVED. GIVEN WITH THE SEED: THE CARDS: each row of YtoomhbopolalnabGreatDoorRows.lean that lists a variable, with what it lists TIED to the program's text (the seventh form; the later family's looks); each row that meets fmt, with fmt's text TOLD by the authors' own Lean function (tested against real Go, not proved from fmt's source: count such statements apart). THE CARD IS WHAT COUNTS. Prove the row's statement (the work); the ties are given (YtoomhbopolalnabGreatDoorTie.lean); close each card by the builder's one call (the guide's Derived/Test/ToyasCard.lean, 'card_holds'). Laid BY PROGRAM, IN A SANDBOX (cutbox-door.mjs). By AI agents, Wed Nov 11 2026. No macro, syntax, notation, axiom, sorry.
-/
import Derived.Test.YtoomhbopolalnabGreatDoorRows
import GoSem.ClaimSeven
namespace Go.Proofs.YtoomhbopolalnabGreatDoor
namespace Rows

/-- THE TIED CARD OF 'laws.FnStartsOnly'. -/
def fnStartsOnlyCard : Claim7 := { stood := { row := fnStartsOnlyRow, standIns := [], harness := (true, "939f1b37289af5aa94ace6d4214f97176871cabbff5b4da9b6851179c2a833df"), looks := true }, kinds := [], alts := [], laidByText := true, laidKinds := [.data, .data, .data, .data, .sentinel, .sentinel, .pinned], laidTests := true, laidLooks := .later }
def FnStartsOnlyCardSaid : Prop := Claim7.holds Tryz.pinned (.plain (OpenSpec.ofChange fnStartsOnlySpec)) fnStartsOnlyCard

/-- THE SECOND FORM's CARD OF 'laws.FnStartsOnly'. -/
def fnStartsOnlyUptoCard : Claim7 := { stood := { row := fnStartsOnlyUptoRow, standIns := [], harness := (true, "939f1b37289af5aa94ace6d4214f97176871cabbff5b4da9b6851179c2a833df"), looks := true }, kinds := [], alts := [], laidByText := true, laidKinds := [.data, .data, .data, .data, .sentinel, .sentinel, .pinned], laidTests := true, laidLooks := .later }
def FnStartsOnlyUptoCardSaid : Prop := Claim7.holds Tryz.pinned (.plain (OpenSpec.upto fnStartsOnlySpec)) fnStartsOnlyUptoCard
end Rows
end Go.Proofs.YtoomhbopolalnabGreatDoor
