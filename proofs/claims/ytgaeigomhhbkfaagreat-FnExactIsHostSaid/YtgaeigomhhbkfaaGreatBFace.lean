/- Faces and versions: what the program and the reference compute. -/
import Derived.Test.YtgaeigomhhbkfaaGreatBVer
import Derived.Test.YtgaeigomhhbkfaaGreatFaceMath
namespace Go.Proofs.YtgaeigomhhbkfaaGreat
open Go.RowKit Go
set_option linter.unusedVariables false
set_option linter.unusedSimpArgs false
set_option maxRecDepth 100000
set_option linter.unusedSectionVars false
variable [GC]
theorem Ver.ok_eq (v : Ver) : v.ok = isVersionB v.maj v.min := rfl
theorem Ver.cmp_eq (v u : Ver) : v.cmp u = cmpV v.maj v.min u.maj u.min := rfl
theorem c_impl_IsVersion (v : Ver) : Fun Tryz.prog 94 none [enc v] (.bool v.ok) [] := by
  refine Fun.ofV vc_impl_IsVersion_ok ty_impl_IsVersion_ok rfl ?_ (fun hfit => ?_)
  · simp [ty_impl_IsVersion, HasTys, HasVT, HasV1, enc, ty_Ver]
  simp only [vc_impl_IsVersion, VC.den, E.den, dEq, gsH_nil, and_true, cells_Ver]
  simp [cmpI, Ver.ok]
theorem c_impl_CompareVersions (v u : Ver) : Fun Tryz.prog 132 none [enc v, enc u] (.int .i64 (v.cmp u)) [] := by
  refine Fun.ofV vc_impl_CompareVersions_ok ty_impl_CompareVersions_ok rfl ?_ (fun hfit => ?_)
  · simp [ty_impl_CompareVersions, HasTys, HasVT, HasV1, enc, ty_Ver]
  simp only [vc_impl_CompareVersions, VC.den, E.den, dEq, gsH_nil, and_true, cells_Ver]
  simp [cmpI, eqvL, eqvD, Ver.cmp]
  (repeat' split) <;> omega
theorem c_impl_IsFace (f : Int) : Fun Tryz.prog 99 none [.int .i64 f] (.bool (isFaceB f)) [] := by
  refine Fun.ofV vc_impl_IsFace_ok ty_impl_IsFace_ok rfl ?_ (fun hfit => ?_)
  · simp [ty_impl_IsFace, HasTys, HasVT, HasV1, HasTy]
  simp only [vc_impl_IsFace, VC.den, E.den, dEq, gsH_nil, and_true]
  simp [cmpI, isFaceB]
def sinceV (k : Nat) : Ver := ⟨sinceM k, sinceN k⟩
theorem allow_shl : ∀ k : Fin 6, arI .shl .i64 1 ((k : Nat) : Int) = ((2 ^ (k : Nat) : Nat) : Int) := by decide +kernel
theorem or_af : ∀ n : Fin 64, ∀ k : Fin 6, n.val < 2 ^ k.val → arI .or .i64 ((n : Nat) : Int) ((2 ^ (k : Nat) : Nat) : Int) = ((n.val + 2 ^ k.val : Nat) : Int) := by decide +kernel
theorem bit_of : ∀ n : Fin 64, ∀ k : Fin 6, cmpI .eql (arI .and .i64 (arI .shr .i64 ((n : Nat) : Int) ((k : Nat) : Int)) 1) 1 = n.val.testBit k.val := by decide +kernel
theorem bit_of2 : ∀ n : Fin 64, ∀ k : Fin 6, cmpI .eql (arI .rem .i64 (arI .shr .i64 ((n : Nat) : Int) ((k : Nat) : Int)) 2) 1 = n.val.testBit k.val := by decide +kernel
end Go.Proofs.YtgaeigomhhbkfaaGreat
