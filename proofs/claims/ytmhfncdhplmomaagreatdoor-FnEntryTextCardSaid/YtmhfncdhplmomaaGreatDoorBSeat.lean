/- What the rows ask of the seat's program as a whole, decided once. -/
import Derived.Test.YtmhfncdhplmomaaGreatDoorRows
import Derived.JoinedOf
import Derived.KernelRfl
import Derived.Test.YtmhfncdhplmomaaGreatDoorAGlob
namespace Go.Proofs.YtmhfncdhplmomaaGreatDoor
open Go
set_option maxRecDepth 100000
theorem jfOwn : ownKnob Tryz.prog.godebug = none := by kernel_rfl
theorem jfLaid : laidOutB Tryz.prog = true := by kernel_rfl
theorem jfRowed : mapsRowed Tryz.prog = true := by kernel_rfl
theorem jfStops : (Tryz.prog.stops == []) = true := by kernel_rfl
theorem jfKnobs : (Tryz.prog.stopKnobs == []) = true := by kernel_rfl
theorem jfKeys : (Rows.fnRegistryRow.plainKeys == Tryz.prog.plainKeys) = true := by kernel_rfl
theorem jfHeard : Tryz.prog.stopsHeard = true := by kernel_rfl
theorem jfEnter : Tryz.prog.mayEnter = true := by kernel_rfl
theorem jfLifted : (Rows.fnRegistryRow.lifted == Tryz.prog.liftsFinal) = true := by kernel_rfl
theorem jfMake : (Tryz.prog.make == some Rows.fnRegistryRow.make) = true := by kernel_rfl
theorem and_tt {a b : Bool} (ha : a = true) (hb : b = true) : (a && b) = true := by rw [ha, hb]; rfl
end Go.Proofs.YtmhfncdhplmomaaGreatDoor
