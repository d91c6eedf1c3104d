/- What the rows ask of the seat's program as a whole, decided once. -/
import Derived.Test.YthoafgehfgblaaaRows
import Derived.JoinedOf
import Derived.KernelRfl
import Derived.Test.YthoafgehfgblaaaAGlob
namespace Go.Proofs.Ythoafgehfgblaaa
open Go
set_option maxRecDepth 100000
theorem jfOwn : ownKnob Try.prog.godebug = none := by kernel_rfl
theorem jfLaid : laidOutB Try.prog = true := by kernel_rfl
theorem jfRowed : mapsRowed Try.prog = true := by kernel_rfl
theorem jfStops : (Try.prog.stops == []) = true := by kernel_rfl
theorem jfKnobs : (Try.prog.stopKnobs == []) = true := by kernel_rfl
theorem jfKeys : (Rows.fnMoreEntriesRow.plainKeys == Try.prog.plainKeys) = true := by kernel_rfl
theorem jfHeard : Try.prog.stopsHeard = true := by kernel_rfl
theorem jfEnter : Try.prog.mayEnter = true := by kernel_rfl
theorem jfLifted : (Rows.fnMoreEntriesRow.lifted == Try.prog.liftsFinal) = true := by kernel_rfl
theorem jfMake : (Try.prog.make == some Rows.fnMoreEntriesRow.make) = true := by kernel_rfl
theorem and_tt {a b : Bool} (ha : a = true) (hb : b = true) : (a && b) = true := by rw [ha, hb]; rfl
/-- No variable is read here. -/
instance instGC : GC := ⟨fun _ => True, 0, fun _ _ => trivial⟩
end Go.Proofs.Ythoafgehfgblaaa
