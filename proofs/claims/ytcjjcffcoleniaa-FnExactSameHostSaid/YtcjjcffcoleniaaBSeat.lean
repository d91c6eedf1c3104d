/- What the rows ask of the seat's program as a whole, decided once. -/
import Derived.Test.YtcjjcffcoleniaaRows
import Derived.JoinedOf
import Derived.KernelRfl
namespace Go.Proofs.Ytcjjcffcoleniaa
open Go
set_option maxRecDepth 100000
theorem jfOwn : ownKnob Try.prog.godebug = none := by kernel_rfl
theorem jfLaid : laidOutB Try.prog = true := by kernel_rfl
theorem jfRowed : mapsRowed Try.prog = true := by kernel_rfl
theorem jfStops : (Try.prog.stops == []) = true := by kernel_rfl
theorem jfKnobs : (Try.prog.stopKnobs == []) = true := by kernel_rfl
theorem jfKeys : (Rows.fnDealRow.plainKeys == Try.prog.plainKeys) = true := by kernel_rfl
theorem jfHeard : Try.prog.stopsHeard = true := by kernel_rfl
theorem jfEnter : Try.prog.mayEnter = true := by kernel_rfl
theorem jfLifted : (Rows.fnDealRow.lifted == Try.prog.liftsFinal) = true := by kernel_rfl
theorem jfMake : (Try.prog.make == some Rows.fnDealRow.make) = true := by kernel_rfl
theorem and_tt {a b : Bool} (ha : a = true) (hb : b = true) : (a && b) = true := by rw [ha, hb]; rfl
end Go.Proofs.Ytcjjcffcoleniaa
