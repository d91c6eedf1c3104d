/- What the rows ask of the seat's program as a whole, decided once. -/
import Derived.Test.YtgaeigomhhbkfaaGreatRows
import Derived.JoinedOf
import Derived.KernelRfl
import Derived.Test.YtgaeigomhhbkfaaGreatAGlob
namespace Go.Proofs.YtgaeigomhhbkfaaGreat
open Go
set_option maxRecDepth 100000
theorem jfOwn : ownKnob Tryz.prog.godebug = none := by kernel_rfl
theorem jfLaid : laidOutB Tryz.prog = true := by kernel_rfl
theorem jfRowed : mapsRowed Tryz.prog = true := by kernel_rfl
theorem jfStops : (Tryz.prog.stops == []) = true := by kernel_rfl
theorem jfKnobs : (Tryz.prog.stopKnobs == []) = true := by kernel_rfl
theorem jfKeys : (Rows.fnExactIsHostRow.plainKeys == Tryz.prog.plainKeys) = true := by kernel_rfl
theorem jfHeard : Tryz.prog.stopsHeard = true := by kernel_rfl
theorem jfEnter : Tryz.prog.mayEnter = true := by kernel_rfl
theorem jfLifted : (Rows.fnExactIsHostRow.lifted == Tryz.prog.liftsFinal) = true := by kernel_rfl
theorem jfMake : (Tryz.prog.make == some Rows.fnExactIsHostRow.make) = true := by kernel_rfl
theorem and_tt {a b : Bool} (ha : a = true) (hb : b = true) : (a && b) = true := by rw [ha, hb]; rfl
/-- No variable is read here. -/
instance instGC : GC := ⟨fun _ => True, 0, fun _ _ => trivial⟩
end Go.Proofs.YtgaeigomhhbkfaaGreat
