/- Versions. -/
import Derived.Test.YtmhfncdhplmomaaGreatDoorBTypes
namespace Go.Proofs.YtmhfncdhplmomaaGreatDoor
open Go.RowKit Go
set_option linter.unusedVariables false
set_option linter.unusedSimpArgs false
set_option linter.unusedSectionVars false
variable [GC]
def Ver.ok (v : Ver) : Bool := decide (0 ≤ v.maj) && decide (v.maj ≤ 99) && decide (0 ≤ v.min) && decide (v.min ≤ 99)
theorem c_spec_IsVersion (v : Ver) : Fun Tryz.prog 52 none [enc v] (.bool v.ok) [] := by
  refine Fun.ofV vc_spec_IsVersion_ok ty_spec_IsVersion_ok rfl ?_ (fun hfit => ?_)
  · simp [ty_spec_IsVersion, HasTys, HasVT, HasV1, enc, ty_Ver]
  simp only [vc_spec_IsVersion, VC.den, E.den, List.map_cons, List.map_nil, Option.map_none, Option.map_some, List.getD_cons_zero, List.getD_cons_succ, List.cons_append, List.nil_append, List.append_nil, D.toI_int, D.toB_bool, D.toS_str, D.toA_agg, D.toT_tup, D.toR_sl, enc_toA, encS_toR, encS_len, List.drop_succ_cons, List.drop_zero, List.take_succ_cons, List.take_zero, gsH_nil, and_true, cells_Ver]
  simp [cmpI, Ver.ok]
def Ver.cmp (v u : Ver) : Int := if v.maj < u.maj ∨ (v.maj = u.maj ∧ v.min < u.min) then -1 else if v.maj = u.maj ∧ v.min = u.min then 0 else 1
theorem c_spec_IsFace (f : Int) : Fun Tryz.prog 93 none [.int .i64 f] (.bool (decide (0 ≤ f ∧ f ≤ 63))) [] := by
  refine Fun.ofV vc_spec_IsFace_ok ty_spec_IsFace_ok rfl ?_ (fun hfit => ?_)
  · simp [ty_spec_IsFace, HasTys, HasVT, HasV1, HasTy]
  simp only [vc_spec_IsFace, VC.den, E.den, List.map_cons, List.map_nil, Option.map_none, Option.map_some, List.getD_cons_zero, List.getD_cons_succ, List.cons_append, List.nil_append, List.append_nil, D.toI_int, D.toB_bool, D.toS_str, D.toA_agg, D.toT_tup, D.toR_sl, enc_toA, encS_toR, encS_len, List.drop_succ_cons, List.drop_zero, List.take_succ_cons, List.take_zero, gsH_nil, and_true]
  simp [cmpI]
end Go.Proofs.YtmhfncdhplmomaaGreatDoor
