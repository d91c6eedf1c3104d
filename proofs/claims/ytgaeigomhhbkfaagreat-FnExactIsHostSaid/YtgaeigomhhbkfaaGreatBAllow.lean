/- What faces a version allows: the program's and the reference's functions. -/
import Derived.Test.YtgaeigomhhbkfaaGreatBFace
import Derived.Test.YtgaeigomhhbkfaaGreatSince
namespace Go.Proofs.YtgaeigomhhbkfaaGreat
open Go.RowKit Go
set_option linter.unusedVariables false
set_option linter.unusedSimpArgs false
set_option maxRecDepth 100000
set_option linter.unusedSectionVars false
variable [GC]
theorem since_fit : ∀ k : Fin 6, (IntKind.i64.min ≤ sinceM k.val ∧ sinceM k.val ≤ IntKind.i64.max) ∧ (IntKind.i64.min ≤ sinceN k.val ∧ sinceN k.val ≤ IntKind.i64.max) := by decide
theorem af_le (a b : Int) : ∀ k, k ≤ 6 → afN a b k < 64 := fun k hk => Nat.lt_of_lt_of_le (afN_lt a b k) (Nat.pow_le_pow_right (by omega) hk)
def lvR (n : Int) : Ver × Bool := if isFaceB n then (⟨(lvN n.toNat 6).1, (lvN n.toNat 6).2⟩, true) else (⟨0, 0⟩, false)
theorem c_spec_l2Has (m k : Nat) (hm : m < 64) (hk : k < 6) : Fun Tryz.prog 82 none [.int .i64 m, .int .i64 k] (.bool (m.testBit k)) [] := by
  refine Fun.ofV vc_spec_l2Has_ok ty_spec_l2Has_ok rfl ?_ (fun hfit => ?_)
  · simp [ty_spec_l2Has, HasTys, HasVT, HasV1, HasTy]
  unfold vc_spec_l2Has
  refine den_cond (fun _ => ?_) (den_cond (fun _ => rfl) (den_ret ?_))
  · simp [E.den, cmpI]
  have hb := bit_of2 ⟨m, hm⟩ ⟨k, hk⟩
  simp only at hb
  simp only [E.den, List.getD_cons_zero, List.getD_cons_succ, D.toI_int, hb]
theorem c_spec_IsFace' (f : Int) : Fun Tryz.prog 85 none [.int .i64 f] (.bool (isFaceB f)) [] := by
  refine Fun.ofV vc_spec_IsFace_ok ty_spec_IsFace_ok rfl ?_ (fun hfit => ?_)
  · simp [ty_spec_IsFace, HasTys, HasVT, HasV1, HasTy]
  simp only [vc_spec_IsFace, VC.den, E.den, dEq, gsH_nil, and_true]
  simp [cmpI, isFaceB]
def offersB (a b : Int) : Bool := isFaceB a && isFaceB b && cmpI .eql (arI .andNot .i64 b a) 0
theorem c_impl_Offers (a b : Int) : Fun Tryz.prog 64 none [.int .i64 a, .int .i64 b] (.bool (offersB a b)) [] := by
  refine Fun.ofV vc_impl_Offers_ok ty_impl_Offers_ok rfl ?_ (fun hfit => ?_)
  · simp [ty_impl_Offers, HasTys, HasVT, HasV1, HasTy]
  unfold vc_impl_Offers
  (apply den_call; (focus (simp only [VC.den, E.den, dEq, gsH_nil, and_true]; try exact rfl)); (focus (exact c_impl_IsFace a)); (focus (simp [HasTys, HasVT, HasV1, HasTy, RowTy, HasVs, enc])); (simp only [List.cons_append, List.nil_append]))
  (apply den_call; (focus (simp only [VC.den, E.den, dEq, gsH_nil, and_true]; try exact rfl)); (focus (exact c_impl_IsFace b)); (focus (simp [HasTys, HasVT, HasV1, HasTy, RowTy, HasVs, enc])); (simp only [List.cons_append, List.nil_append]))
  exact den_ret rfl
def eitherZ (a b : Int) : Int := if isFaceB a && isFaceB b then arI .or .i64 a b else 0
def gainsZ (v u : Ver) : Int := arI .andNot .i64 (afZ u.maj u.min) (afZ v.maj v.min)
end Go.Proofs.YtgaeigomhhbkfaaGreat
