/-
  DERIVED. GIVEN WITH THE SEED: THE CARDS: each row of YtmhfncdhplmomaaDoorRows.lean that lists a variable, with what it lists TIED to the program's text (the seventh form; the later family's looks); each row that meets fmt, with fmt's text TOLD by the authors' own Lean function (tested against real Go, not proved from fmt's source: count such statements apart). THE CARD IS WHAT COUNTS. Prove the row's statement (the work); the ties are given (YtmhfncdhplmomaaDoorTie.lean); close each card by the builder's one call (the guide's Derived/Test/ToyasCard.lean, 'card_holds'). Laid BY PROGRAM, IN A SANDBOX (cutbox-door.mjs). By AI agents, Wed Nov 11 2026. No macro, syntax, notation, axiom, sorry.
-/
import Derived.Test.YtmhfncdhplmomaaDoorRows
import GoSem.ClaimSeven
namespace Go.Proofs.YtmhfncdhplmomaaDoor
namespace Rows

/-- THE TIED CARD OF 'laws.FnExactFormatVersion'. -/
def fnExactFormatVersionCard : Claim7 := { stood := { row := fnExactFormatVersionRow, standIns := [], harness := (true, "a2f3d2a0a58dad2f912203fbc74615ac75cb8f6c15f385ee0412b755c937746d"), looks := true }, kinds := [], alts := [], laidByText := true, laidKinds := [.data, .data, .data], laidTests := true, laidLooks := .later }
def FnExactFormatVersionCardSaid : Prop := Claim7.holds Tryd.pinned (.plain (OpenSpec.ofChange fnExactFormatVersionSpec)) fnExactFormatVersionCard

/-- THE TIED CARD OF 'laws.FnExactParseVersion'. -/
def fnExactParseVersionCard : Claim7 := { stood := { row := fnExactParseVersionRow, standIns := [], harness := (true, "a2f3d2a0a58dad2f912203fbc74615ac75cb8f6c15f385ee0412b755c937746d"), looks := true }, kinds := [], alts := [], laidByText := true, laidKinds := [.data, .data, .data, .sentinel, .sentinel], laidTests := true, laidLooks := .later }
def FnExactParseVersionCardSaid : Prop := Claim7.holds Tryd.pinned (.plain (OpenSpec.ofChange fnExactParseVersionSpec)) fnExactParseVersionCard

/-- THE TIED CARD OF 'laws.FnVersionOrder'. -/
def fnVersionOrderCard : Claim7 := { stood := { row := fnVersionOrderRow, standIns := [], harness := (true, "a2f3d2a0a58dad2f912203fbc74615ac75cb8f6c15f385ee0412b755c937746d"), looks := true }, kinds := [], alts := [], laidByText := true, laidKinds := [.data, .data, .data, .sentinel, .sentinel], laidTests := true, laidLooks := .later }
def FnVersionOrderCardSaid : Prop := Claim7.holds Tryd.pinned (.plain (OpenSpec.ofChange fnVersionOrderSpec)) fnVersionOrderCard

/-- THE TIED CARD OF 'laws.FnExactFormatEntry'. -/
def fnExactFormatEntryCard : Claim7 := { stood := { row := fnExactFormatEntryRow, standIns := [], harness := (true, "a2f3d2a0a58dad2f912203fbc74615ac75cb8f6c15f385ee0412b755c937746d"), looks := true }, kinds := [], alts := [], laidByText := true, laidKinds := [.data, .data, .data, .data], laidTests := true, laidLooks := .later }
def FnExactFormatEntryCardSaid : Prop := Claim7.holds Tryd.pinned (.plain (OpenSpec.ofChange fnExactFormatEntrySpec)) fnExactFormatEntryCard

/-- THE TIED CARD OF 'laws.FnExactFormatEvent'. -/
def fnExactFormatEventCard : Claim7 := { stood := { row := fnExactFormatEventRow, standIns := [], harness := (true, "a2f3d2a0a58dad2f912203fbc74615ac75cb8f6c15f385ee0412b755c937746d"), looks := true }, kinds := [], alts := [], laidByText := true, laidKinds := [.data, .data, .data, .data], laidTests := true, laidLooks := .later }
def FnExactFormatEventCardSaid : Prop := Claim7.holds Tryd.pinned (.plain (OpenSpec.ofChange fnExactFormatEventSpec)) fnExactFormatEventCard

/-- THE SECOND FORM's CARD OF 'laws.FnExactFormatVersion'. -/
def fnExactFormatVersionUptoCard : Claim7 := { stood := { row := fnExactFormatVersionUptoRow, standIns := [], harness := (true, "a2f3d2a0a58dad2f912203fbc74615ac75cb8f6c15f385ee0412b755c937746d"), looks := true }, kinds := [], alts := [], laidByText := true, laidKinds := [.data, .data, .data], laidTests := true, laidLooks := .later }
def FnExactFormatVersionUptoCardSaid : Prop := Claim7.holds Tryd.pinned (.plain (OpenSpec.upto fnExactFormatVersionSpec)) fnExactFormatVersionUptoCard

/-- THE SECOND FORM's CARD OF 'laws.FnExactParseVersion'. -/
def fnExactParseVersionUptoCard : Claim7 := { stood := { row := fnExactParseVersionUptoRow, standIns := [], harness := (true, "a2f3d2a0a58dad2f912203fbc74615ac75cb8f6c15f385ee0412b755c937746d"), looks := true }, kinds := [], alts := [], laidByText := true, laidKinds := [.data, .data, .data, .sentinel, .sentinel], laidTests := true, laidLooks := .later }
def FnExactParseVersionUptoCardSaid : Prop := Claim7.holds Tryd.pinned (.plain (OpenSpec.upto fnExactParseVersionSpec)) fnExactParseVersionUptoCard

/-- THE SECOND FORM's CARD OF 'laws.FnVersionOrder'. -/
def fnVersionOrderUptoCard : Claim7 := { stood := { row := fnVersionOrderUptoRow, standIns := [], harness := (true, "a2f3d2a0a58dad2f912203fbc74615ac75cb8f6c15f385ee0412b755c937746d"), looks := true }, kinds := [], alts := [], laidByText := true, laidKinds := [.data, .data, .data, .sentinel, .sentinel], laidTests := true, laidLooks := .later }
def FnVersionOrderUptoCardSaid : Prop := Claim7.holds Tryd.pinned (.plain (OpenSpec.upto fnVersionOrderSpec)) fnVersionOrderUptoCard

/-- THE SECOND FORM's CARD OF 'laws.FnExactFormatEntry'. -/
def fnExactFormatEntryUptoCard : Claim7 := { stood := { row := fnExactFormatEntryUptoRow, standIns := [], harness := (true, "a2f3d2a0a58dad2f912203fbc74615ac75cb8f6c15f385ee0412b755c937746d"), looks := true }, kinds := [], alts := [], laidByText := true, laidKinds := [.data, .data, .data, .data], laidTests := true, laidLooks := .later }
def FnExactFormatEntryUptoCardSaid : Prop := Claim7.holds Tryd.pinned (.plain (OpenSpec.upto fnExactFormatEntrySpec)) fnExactFormatEntryUptoCard

/-- THE SECOND FORM's CARD OF 'laws.FnExactFormatEvent'. -/
def fnExactFormatEventUptoCard : Claim7 := { stood := { row := fnExactFormatEventUptoRow, standIns := [], harness := (true, "a2f3d2a0a58dad2f912203fbc74615ac75cb8f6c15f385ee0412b755c937746d"), looks := true }, kinds := [], alts := [], laidByText := true, laidKinds := [.data, .data, .data, .data], laidTests := true, laidLooks := .later }
def FnExactFormatEventUptoCardSaid : Prop := Claim7.holds Tryd.pinned (.plain (OpenSpec.upto fnExactFormatEventSpec)) fnExactFormatEventUptoCard
end Rows
end Go.Proofs.YtmhfncdhplmomaaDoor
