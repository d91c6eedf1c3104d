/-
  DERIVED. GIVEN WITH THE SEED: THE CARDS: each row of YtimickglpboilaaGreatDoorRows.lean that lists a variable, with what it lists TIED to the program's text (the seventh form; the later family's looks); each row that meets fmt, with fmt's text TOLD by the authors' own Lean function (tested against real Go, not proved from fmt's source: count such statements apart). THE CARD IS WHAT COUNTS. Prove the row's statement (the work); the ties are given (YtimickglpboilaaGreatDoorTie.lean); close each card by the builder's one call (the guide's Derived/Test/ToyasCard.lean, 'card_holds'). Laid BY PROGRAM, IN A SANDBOX (cutbox-door.mjs). By AI agents, Wed Nov 11 2026. No macro, syntax, notation, axiom, sorry.
-/
import Derived.Test.YtimickglpboilaaGreatDoorRows
import GoSem.ClaimSeven
namespace Go.Proofs.YtimickglpboilaaGreatDoor
namespace Rows

/-- THE TIED CARD OF 'laws.FnExactCallPart'. -/
def fnExactCallPartCard : Claim7 := { stood := { row := fnExactCallPartRow, standIns := [], harness := (true, "93a080b6844ca98170259d558cf861951dbd75939e93f73b1094f0911119b143"), looks := true }, kinds := [], alts := [], laidByText := true, laidKinds := [.data, .data, .data, .data, .sentinel, .sentinel, .pinned], laidTests := true, laidLooks := .later }
def FnExactCallPartCardSaid : Prop := Claim7.holds Tryz.pinned (.plain (OpenSpec.ofChange fnExactCallPartSpec)) fnExactCallPartCard

/-- THE TIED CARD OF 'laws.FnExactCallParts'. -/
def fnExactCallPartsCard : Claim7 := { stood := { row := fnExactCallPartsRow, standIns := [], harness := (true, "93a080b6844ca98170259d558cf861951dbd75939e93f73b1094f0911119b143"), looks := true }, kinds := [], alts := [], laidByText := true, laidKinds := [.data, .data, .data, .data, .sentinel, .sentinel, .pinned], laidTests := true, laidLooks := .later }
def FnExactCallPartsCardSaid : Prop := Claim7.holds Tryz.pinned (.plain (OpenSpec.ofChange fnExactCallPartsSpec)) fnExactCallPartsCard

/-- THE SECOND FORM's CARD OF 'laws.FnExactCallPart'. -/
def fnExactCallPartUptoCard : Claim7 := { stood := { row := fnExactCallPartUptoRow, standIns := [], harness := (true, "93a080b6844ca98170259d558cf861951dbd75939e93f73b1094f0911119b143"), looks := true }, kinds := [], alts := [], laidByText := true, laidKinds := [.data, .data, .data, .data, .sentinel, .sentinel, .pinned], laidTests := true, laidLooks := .later }
def FnExactCallPartUptoCardSaid : Prop := Claim7.holds Tryz.pinned (.plain (OpenSpec.upto fnExactCallPartSpec)) fnExactCallPartUptoCard

/-- THE SECOND FORM's CARD OF 'laws.FnExactCallParts'. -/
def fnExactCallPartsUptoCard : Claim7 := { stood := { row := fnExactCallPartsUptoRow, standIns := [], harness := (true, "93a080b6844ca98170259d558cf861951dbd75939e93f73b1094f0911119b143"), looks := true }, kinds := [], alts := [], laidByText := true, laidKinds := [.data, .data, .data, .data, .sentinel, .sentinel, .pinned], laidTests := true, laidLooks := .later }
def FnExactCallPartsUptoCardSaid : Prop := Claim7.holds Tryz.pinned (.plain (OpenSpec.upto fnExactCallPartsSpec)) fnExactCallPartsUptoCard
end Rows
end Go.Proofs.YtimickglpboilaaGreatDoor
