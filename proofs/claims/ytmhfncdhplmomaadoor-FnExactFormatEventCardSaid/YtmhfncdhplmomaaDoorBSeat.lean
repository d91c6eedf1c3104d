/- What the rows ask of the seat's program as a whole, decided once. -/
import Derived.Test.YtmhfncdhplmomaaDoorRows
import Derived.JoinedOf
import Derived.KernelRfl
import Derived.Test.YtmhfncdhplmomaaDoorAGlob
namespace Go.Proofs.YtmhfncdhplmomaaDoor
open Go
set_option maxRecDepth 100000
theorem jfOwn : ownKnob Tryd.prog.godebug = none := by kernel_rfl
theorem jfLaid : laidOutB Tryd.prog = true := by kernel_rfl
theorem jfRowed : mapsRowed Tryd.prog = true := by kernel_rfl
theorem jfStops : (Tryd.prog.stops == []) = true := by kernel_rfl
theorem jfKnobs : (Tryd.prog.stopKnobs == []) = true := by kernel_rfl
theorem jfKeys : (Rows.fnExactFormatVersionRow.plainKeys == Tryd.prog.plainKeys) = true := by kernel_rfl
theorem jfHeard : Tryd.prog.stopsHeard = true := by kernel_rfl
theorem jfEnter : Tryd.prog.mayEnter = true := by kernel_rfl
theorem jfLifted : (Rows.fnExactFormatVersionRow.lifted == Tryd.prog.liftsFinal) = true := by kernel_rfl
theorem jfMake : (Tryd.prog.make == some Rows.fnExactFormatVersionRow.make) = true := by kernel_rfl
theorem and_tt {a b : Bool} (ha : a = true) (hb : b = true) : (a && b) = true := by rw [ha, hb]; rfl
end Go.Proofs.YtmhfncdhplmomaaDoor
