/- GainsOf holds for every input: the walk of the law over the contracts of what it calls, and the row. No condition. -/
import Derived.Test.YthoilclddnjjjaaOpen
import Derived.Test.YthoilclddnjjjaaVer
import Derived.Test.YthoilclddnjjjaaGains
namespace Go.Proofs.Ythoilclddnjjjaa.lawGainsOf
open Go.ChangeShapes Go.WideShapes Go.ChangeAt Go.RowKit
open Go.ChangeMaps (open_string shut_string)
set_option linter.unusedVariables false

theorem walk (a b c d : Int) (w : World) :
    Calls Try.prog 3 #[.agg #[.int .i64 a, .int .i64 b], .agg #[.int .i64 c, .int .i64 d]] w fun e w' => e = .returned (.bool true) ∧ Below w.heap.size w w' := by
  go_enter Try.func3, Try.ntmps3
  go_wp2_with fail
  refine region_quiet (C := Cls w [((⟨w.heap.size, 0, none⟩ : Addr), .int .i64 a), (⟨w.heap.size, 1, none⟩, .int .i64 b), (⟨w.heap.size + 1, 0, none⟩, .int .i64 c), (⟨w.heap.size + 1, 1, none⟩, .int .i64 d)]) (by kernel_rfl) (by kernel_rfl) (Cls.start (by go_grown) (by simp [HoldC, go_sem])) ?_; (repeat (first | go_big_quiet_skip | (go_big_quiet_want; first | (refine BigFrame.quiet_move _ rfl ?_; (try simp only [Act.put]); (try simp only [Act.eval]); (try simp only [Array.getD_eq_getD_getElem?]); (try simp only [List.getElem?_toArray]); (try simp only [List.getElem?_cons_succ]); (try simp only [List.getElem?_cons_zero]); (try simp only [Option.getD_some]); (try simp only [List.setIfInBounds_toArray]); (try simp only [List.set_cons_succ]); (try simp only [List.set_cons_zero]); go_big_quiet_on) | (refine BigFrame.quiet_assign _ rfl ?_; (try simp only [Act.put]); (try simp only [Act.eval]); (try simp only [Array.getD_eq_getD_getElem?]); (try simp only [List.getElem?_toArray]); (try simp only [List.getElem?_cons_succ]); (try simp only [List.getElem?_cons_zero]); (try simp only [Option.getD_some]); (try simp only [List.setIfInBounds_toArray]); (try simp only [List.set_cons_succ]); (try simp only [List.set_cons_zero]); go_big_quiet_on) | (apply quiet_run; (focus (intro w' hC; simp only [Cls, HoldC] at hC; go_split_ands; go_simp; (try exact rfl); done)); (try simp only [Act.put]); (try simp only [List.setIfInBounds_toArray]); (try simp only [List.set_cons_succ]); (try simp only [List.set_cons_zero]); go_big_quiet_on) | (apply quiet_call; (focus (intro w' _; go_simp; first | exact ⟨rfl, rfl⟩ | exact rfl | done)); (focus (intro w' hC; first | exact cls_call hC (laws_toVersion _ _ _) | exact cls_call hC (spec_GainsOf _ _ _ _ _))); (try simp only [Act.put]); (try simp only [List.setIfInBounds_toArray]); (try simp only [List.set_cons_succ]); (try simp only [List.set_cons_zero]); go_big_quiet_on)))); refine wpQuiet_nil ?_; intro w' hC; simp only [Cls, HoldC] at hC; go_split_ands
  go_wp2_with fail
  refine region_quiet (C := Cls w [((⟨w.heap.size, 0, none⟩ : Addr), .int .i64 a), (⟨w.heap.size, 1, none⟩, .int .i64 b), (⟨w.heap.size + 1, 0, none⟩, .int .i64 c), (⟨w.heap.size + 1, 1, none⟩, .int .i64 d)]) (by kernel_rfl) (by kernel_rfl) (Cls.start (by assumption) ⟨by assumption, by assumption, by assumption, by assumption, trivial⟩) ?_; (repeat (first | go_big_quiet_skip | (go_big_quiet_want; first | (refine BigFrame.quiet_move _ rfl ?_; (try simp only [Act.put]); (try simp only [Act.eval]); (try simp only [Array.getD_eq_getD_getElem?]); (try simp only [List.getElem?_toArray]); (try simp only [List.getElem?_cons_succ]); (try simp only [List.getElem?_cons_zero]); (try simp only [Option.getD_some]); (try simp only [List.setIfInBounds_toArray]); (try simp only [List.set_cons_succ]); (try simp only [List.set_cons_zero]); go_big_quiet_on) | (refine BigFrame.quiet_assign _ rfl ?_; (try simp only [Act.put]); (try simp only [Act.eval]); (try simp only [Array.getD_eq_getD_getElem?]); (try simp only [List.getElem?_toArray]); (try simp only [List.getElem?_cons_succ]); (try simp only [List.getElem?_cons_zero]); (try simp only [Option.getD_some]); (try simp only [List.setIfInBounds_toArray]); (try simp only [List.set_cons_succ]); (try simp only [List.set_cons_zero]); go_big_quiet_on) | (apply quiet_run; (focus (intro w' hC; simp only [Cls, HoldC] at hC; go_split_ands; go_simp; (try exact rfl); done)); (try simp only [Act.put]); (try simp only [List.setIfInBounds_toArray]); (try simp only [List.set_cons_succ]); (try simp only [List.set_cons_zero]); go_big_quiet_on) | (apply quiet_call; (focus (intro w' _; go_simp; first | exact ⟨rfl, rfl⟩ | exact rfl | done)); (focus (intro w' hC; first | exact cls_call hC (laws_toVersion _ _ _) | exact cls_call hC (impl_GainsOf _ _ _ _ _))); (try simp only [Act.put]); (try simp only [List.setIfInBounds_toArray]); (try simp only [List.set_cons_succ]); (try simp only [List.set_cons_zero]); go_big_quiet_on)))); refine wpQuiet_nil ?_; intro w' hC; simp only [Cls, HoldC] at hC; go_split_ands
  go_wp2_with fail
  go_ret
  exact ⟨rfl, by assumption⟩

theorem own : ownKnob Try.prog.godebug = none := by kernel_rfl
theorem laidOut : laidOutB Try.prog = true := by kernel_rfl
set_option maxRecDepth 100000 in
theorem lifted (os : Os) (started : os.Started) (H : Type) (enc : TypeId × Value → H) :
    ReturnsInHanded {} Try.checked os 3 .any (Rows.fnExactGainsOfSpec.pre6 enc Try.prog Try.f3 Rows.fnExactGainsOfRow.domain false) (Rows.fnExactGainsOfSpec.post enc Try.prog Try.f3 false true false false) := by
  refine returnsInHanded_of_change (C := Try.checked) own started (by kernel_rfl) Try.func3
    (ChangeSpec.witness6 (enc := enc) (C := Try.checked) false ⟨#[], #[.agg #[.int .i64 0, .int .i64 0], .agg #[.int .i64 0, .int .i64 0]], []⟩ 8 (by kernel_rfl) (by kernel_rfl) (by kernel_rfl) (by kernel_rfl)) ?_
  intro W base args ds gs before hval0 hW hcnd _
  have hval : ∀ (j : Nat) t v, Try.f3.params[j]? = some t → args[j]? = some v → Value.okWide Try.prog W .any base t v := hval0
  have hW' := hW
  obtain ⟨p, q, hA0, hV, rfl, hfz, hnd⟩ := hW
  have hA : DataW.TrodAll enc Try.prog W 0 (fun _ => true) true Try.f3.params.toList args.toList ds p := hA0
  rw [Try.params3] at hA hval
  obtain ⟨v0, vs0, d0, ds0, p0, q0, hargs, rfl, rfl, h0, r0⟩ := trodAll_cons hA
  obtain ⟨v1, vs1, d1, ds1, p1, q1, rfl, rfl, rfl, h1, r1⟩ := trodAll_cons r0
  obtain ⟨rfl, rfl, rfl⟩ := trodAll_nil r1
  obtain rfl : args = #[v0, v1] := by cases args; simp_all
  obtain ⟨rfl, rfl⟩ := trodVars_none hV
  have k0 := h0
  have lt0 : ∀ x ∈ p0, x.block < W.heap.size := by obtain ⟨m, hm⟩ := k0; exact DataW.trod_lt m _ _ _ hm
  have k1 := h1
  have lt1 : ∀ x ∈ p1, x.block < W.heap.size := by obtain ⟨m, hm⟩ := k1; exact DataW.trod_lt m _ _ _ hm
  obtain ⟨a0, b0, rfl, _, _⟩ := open_Version (hval 0 23 v0 rfl rfl) h0
  obtain ⟨c0, d0', rfl, _, _⟩ := open_Version (hval 1 23 v1 rfl rfl) h1
  clear hA0 hval0
  refine (walk a0 b0 c0 d0' W).mono fun e W' ⟨he, bel⟩ => ?_
  subst he
  exact ⟨_, rfl, _, _, _, [], _, [], hW', trodAll_mk1 (shut_bool Try.underlying4 _), (trodAll_cons_mk (Below.trod laidOut (by kernel_rfl) (of_decide_eq_true (by kernel_rfl)) k0 bel lt0) (trodAll_cons_mk (Below.trod laidOut (by kernel_rfl) (of_decide_eq_true (by kernel_rfl)) k1 bel lt1) trodAll_mk0)), rfl, bel.frame _, fun h => by cases h⟩
theorem over : Rows.fnExactGainsOfRow.holds Try.pinned (OpenSpec.ofChange Rows.fnExactGainsOfSpec) :=
  OpenClaim.holds_of_wide 3 Try.f3 rfl rfl rfl rfl rfl rfl rfl ⟨rfl, rfl, rfl, rfl, rfl⟩ rfl rfl rfl rfl rfl (by kernel_rfl) Try.func3 (by kernel_rfl)
    (of_decide_eq_true (by kernel_rfl)) (by unfold Func.isWrapper; first | (rw [if_pos (by decide +kernel)]; kernel_rfl) | (rw [if_neg (by decide +kernel)]; exact ⟨rfl, rfl⟩))
    (fun os started H enc _ => lifted os started H enc)
/-- THE STATEMENT -/
theorem proved : Rows.FnExactGainsOfSaid := over
#print axioms proved
end Go.Proofs.Ythoilclddnjjjaa.lawGainsOf
