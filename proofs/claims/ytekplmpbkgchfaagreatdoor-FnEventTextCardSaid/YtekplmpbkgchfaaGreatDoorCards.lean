/-
  DERIVED. GIVEN WITH THE SEED: THE CARDS: each row of YtekplmpbkgchfaaGreatDoorRows.lean that lists a variable, with what it lists TIED to the program's text (the seventh form; the later family's looks); each row that meets fmt, with fmt's text TOLD by the authors' own Lean function (tested against real Go, not proved from fmt's source: count such statements apart). THE CARD IS WHAT COUNTS. Prove the row's statement (the work); the ties are given (YtekplmpbkgchfaaGreatDoorTie.lean); close each card by the builder's one call (the guide's Derived/Test/ToyasCard.lean, 'card_holds'). Laid BY PROGRAM, IN A SANDBOX (cutbox-door.mjs). By AI agents, Wed Nov 11 2026. No macro, syntax, notation, axiom, sorry.
-/
import Derived.Test.YtekplmpbkgchfaaGreatDoorRows
import GoSem.ClaimSeven
namespace Go.Proofs.YtekplmpbkgchfaaGreatDoor
namespace Rows

/-- THE TIED CARD OF 'laws.FnEventText'. -/
def fnEventTextCard : Claim7 := { stood := { row := fnEventTextRow, standIns := [], harness := (true, "be179807385f9ebb98029a0bfc5543399782ef0511b1a9ff867a4bfae37e7c6f"), looks := true }, kinds := [], alts := [], laidByText := true, laidKinds := [.data, .data, .data, .data, .sentinel, .sentinel, .data, .pinned], laidTests := true, laidLooks := .later }
def FnEventTextCardSaid : Prop := Claim7.holds Tryz.pinned (.plain (OpenSpec.ofChange fnEventTextSpec)) fnEventTextCard

/-- THE TIED CARD OF 'laws.FnStopsOnly'. -/
def fnStopsOnlyCard : Claim7 := { stood := { row := fnStopsOnlyRow, standIns := [], harness := (true, "be179807385f9ebb98029a0bfc5543399782ef0511b1a9ff867a4bfae37e7c6f"), looks := true }, kinds := [], alts := [], laidByText := true, laidKinds := [.data, .data, .data, .data, .sentinel, .sentinel, .pinned], laidTests := true, laidLooks := .later }
def FnStopsOnlyCardSaid : Prop := Claim7.holds Tryz.pinned (.plain (OpenSpec.ofChange fnStopsOnlySpec)) fnStopsOnlyCard

/-- THE TIED CARD OF 'laws.FnStartsOnly'. -/
def fnStartsOnlyCard : Claim7 := { stood := { row := fnStartsOnlyRow, standIns := [], harness := (true, "be179807385f9ebb98029a0bfc5543399782ef0511b1a9ff867a4bfae37e7c6f"), looks := true }, kinds := [], alts := [], laidByText := true, laidKinds := [.data, .data, .data, .data, .sentinel, .sentinel, .pinned], laidTests := true, laidLooks := .later }
def FnStartsOnlyCardSaid : Prop := Claim7.holds Tryz.pinned (.plain (OpenSpec.ofChange fnStartsOnlySpec)) fnStartsOnlyCard

/-- THE SECOND FORM's CARD OF 'laws.FnEventText'. -/
def fnEventTextUptoCard : Claim7 := { stood := { row := fnEventTextUptoRow, standIns := [], harness := (true, "be179807385f9ebb98029a0bfc5543399782ef0511b1a9ff867a4bfae37e7c6f"), looks := true }, kinds := [], alts := [], laidByText := true, laidKinds := [.data, .data, .data, .data, .sentinel, .sentinel, .data, .pinned], laidTests := true, laidLooks := .later }
def FnEventTextUptoCardSaid : Prop := Claim7.holds Tryz.pinned (.plain (OpenSpec.upto fnEventTextSpec)) fnEventTextUptoCard

/-- THE SECOND FORM's CARD OF 'laws.FnStopsOnly'. -/
def fnStopsOnlyUptoCard : Claim7 := { stood := { row := fnStopsOnlyUptoRow, standIns := [], harness := (true, "be179807385f9ebb98029a0bfc5543399782ef0511b1a9ff867a4bfae37e7c6f"), looks := true }, kinds := [], alts := [], laidByText := true, laidKinds := [.data, .data, .data, .data, .sentinel, .sentinel, .pinned], laidTests := true, laidLooks := .later }
def FnStopsOnlyUptoCardSaid : Prop := Claim7.holds Tryz.pinned (.plain (OpenSpec.upto fnStopsOnlySpec)) fnStopsOnlyUptoCard

/-- THE SECOND FORM's CARD OF 'laws.FnStartsOnly'. -/
def fnStartsOnlyUptoCard : Claim7 := { stood := { row := fnStartsOnlyUptoRow, standIns := [], harness := (true, "be179807385f9ebb98029a0bfc5543399782ef0511b1a9ff867a4bfae37e7c6f"), looks := true }, kinds := [], alts := [], laidByText := true, laidKinds := [.data, .data, .data, .data, .sentinel, .sentinel, .pinned], laidTests := true, laidLooks := .later }
def FnStartsOnlyUptoCardSaid : Prop := Claim7.holds Tryz.pinned (.plain (OpenSpec.upto fnStartsOnlySpec)) fnStartsOnlyUptoCard
end Rows
end Go.Proofs.YtekplmpbkgchfaaGreatDoor
