/- Versions. -/
import Derived.Test.YtgaeigomhhbkfaaGreatBTypes
namespace Go.Proofs.YtgaeigomhhbkfaaGreat
open Go.RowKit Go
set_option linter.unusedVariables false
set_option linter.unusedSimpArgs false
set_option linter.unusedSectionVars false
variable [GC]
def Ver.ok (v : Ver) : Bool := decide (0 ≤ v.maj) && decide (v.maj ≤ 99) && decide (0 ≤ v.min) && decide (v.min ≤ 99)
theorem c_spec_IsVersion (v : Ver) : Fun Tryz.prog 78 none [enc v] (.bool v.ok) [] := by
  refine Fun.ofV vc_spec_IsVersion_ok ty_spec_IsVersion_ok rfl ?_ (fun hfit => ?_)
  · simp [ty_spec_IsVersion, HasTys, HasVT, HasV1, enc, ty_Ver]
  simp only [vc_spec_IsVersion, VC.den, E.den, dEq, gsH_nil, and_true, cells_Ver]
  simp [cmpI, Ver.ok]
def Ver.cmp (v u : Ver) : Int := if v.maj < u.maj ∨ (v.maj = u.maj ∧ v.min < u.min) then -1 else if v.maj = u.maj ∧ v.min = u.min then 0 else 1
theorem c_spec_IsFace (f : Int) : Fun Tryz.prog 85 none [.int .i64 f] (.bool (decide (0 ≤ f ∧ f ≤ 63))) [] := by
  refine Fun.ofV vc_spec_IsFace_ok ty_spec_IsFace_ok rfl ?_ (fun hfit => ?_)
  · simp [ty_spec_IsFace, HasTys, HasVT, HasV1, HasTy]
  simp only [vc_spec_IsFace, VC.den, E.den, dEq, gsH_nil, and_true]
  simp [cmpI]
end Go.Proofs.YtgaeigomhhbkfaaGreat
