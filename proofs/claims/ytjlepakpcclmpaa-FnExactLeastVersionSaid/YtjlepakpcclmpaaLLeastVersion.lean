/- LeastVersion holds for every input: the walk of the law over the contracts of what it calls, and the row. No condition. -/
import Derived.Test.YtjlepakpcclmpaaOpen
import Derived.Test.YtjlepakpcclmpaaAF
namespace Go.Proofs.Ytjlepakpcclmpaa.lawLeastVersion
open Go.ChangeShapes Go.WideShapes Go.ChangeAt Go.RowKit
open Go.ChangeMaps (open_string shut_string)
set_option linter.unusedVariables false

theorem walk (k : Int) (w : World) :
    Calls Try.prog 9 #[.int .i64 k] w fun e w' => e = .returned (.bool true) ∧ Below w.heap.size w w' := by
  by_cases hk : isFaceB k = true
  · obtain ⟨n, rfl, hn⟩ := isFaceB_nat hk
    clear hk
    go_enter Try.func9, Try.ntmps9
    go_wp2_with fail
    refine (spec_LeastVersion _ hn _).mono ?_; rintro e w1 ⟨rfl, hb1⟩
    go_wp2_with fail
    refine (impl_LeastVersion _ hn _).mono ?_; rintro e w2 ⟨rfl, hb2⟩
    obtain ⟨hc2, hf2⟩ := bcell hb2
    (try simp only [World.size_alloc] at hc2 hf2)
    have hz2 : w1.heap.size < w2.heap.size := by have := hb2.size; (try simp only [World.size_alloc] at this) <;> omega
    go_wp2_with fail
    refine (laws_eqVersion _ _ _ _ _).mono ?_; rintro e w3 ⟨rfl, hb3⟩
    go_wp2_with fail
    go_ret
    exact ⟨rfl, below_then1 (below_then1 hb1 hb2 hb1.size) hb3 (by have := hb1.size; omega)⟩
  · have hk' : isFaceB k = false := by simpa using hk
    go_enter Try.func9, Try.ntmps9
    go_wp2_with fail
    refine (spec_LeastVersion_no _ hk' _).mono ?_; rintro e w1 ⟨rfl, hb1⟩
    go_wp2_with fail
    refine (impl_LeastVersion_no _ hk' _).mono ?_; rintro e w2 ⟨rfl, hb2⟩
    obtain ⟨hc2, hf2⟩ := bcell hb2
    (try simp only [World.size_alloc] at hc2 hf2)
    have hz2 : w1.heap.size < w2.heap.size := by have := hb2.size; (try simp only [World.size_alloc] at this) <;> omega
    go_wp2_with fail
    refine (laws_eqVersion _ _ _ _ _).mono ?_; rintro e w3 ⟨rfl, hb3⟩
    go_wp2_with fail
    go_ret
    exact ⟨rfl, below_then1 (below_then1 hb1 hb2 hb1.size) hb3 (by have := hb1.size; omega)⟩

theorem own : ownKnob Try.prog.godebug = none := by kernel_rfl
theorem laidOut : laidOutB Try.prog = true := by kernel_rfl
set_option maxRecDepth 100000 in
theorem lifted (os : Os) (started : os.Started) (H : Type) (enc : TypeId × Value → H) :
    ReturnsInHanded {} Try.checked os 9 .any (Rows.fnExactLeastVersionSpec.pre6 enc Try.prog Try.f9 Rows.fnExactLeastVersionRow.domain false) (Rows.fnExactLeastVersionSpec.post enc Try.prog Try.f9 false true false false) := by
  refine returnsInHanded_of_change (C := Try.checked) own started (by kernel_rfl) Try.func9
    (ChangeSpec.witness6 (enc := enc) (C := Try.checked) false ⟨#[], #[.int .i64 0], []⟩ 8 (by kernel_rfl) (by kernel_rfl) (by kernel_rfl) (by kernel_rfl)) ?_
  intro W base args ds gs before hval0 hW hcnd _
  have hval : ∀ (j : Nat) t v, Try.f9.params[j]? = some t → args[j]? = some v → Value.okWide Try.prog W .any base t v := hval0
  have hW' := hW
  obtain ⟨p, q, hA0, hV, rfl, hfz, hnd⟩ := hW
  have hA : DataW.TrodAll enc Try.prog W 0 (fun _ => true) true Try.f9.params.toList args.toList ds p := hA0
  rw [Try.params9] at hA hval
  obtain ⟨v0, vs0, d0, ds0, p0, q0, hargs, rfl, rfl, h0, r0⟩ := trodAll_cons hA
  obtain ⟨rfl, rfl, rfl⟩ := trodAll_nil r0
  obtain rfl : args = #[v0] := by cases args; simp_all
  obtain ⟨rfl, rfl⟩ := trodVars_none hV
  have k0 := h0
  have lt0 : ∀ x ∈ p0, x.block < W.heap.size := by obtain ⟨m, hm⟩ := k0; exact DataW.trod_lt m _ _ _ hm
  obtain ⟨a0, rfl, rfl, rfl, _⟩ := open_int Try.underlying3 (hval 0 3 v0 rfl rfl) h0
  clear hA0 hval0
  refine (walk a0 W).mono fun e W' ⟨he, bel⟩ => ?_
  subst he
  exact ⟨_, rfl, _, _, _, [], _, [], hW', trodAll_mk1 (shut_bool Try.underlying4 _), (trodAll_cons_mk (Below.trod laidOut (by kernel_rfl) (of_decide_eq_true (by kernel_rfl)) k0 bel lt0) trodAll_mk0), rfl, bel.frame _, fun h => by cases h⟩
theorem over : Rows.fnExactLeastVersionRow.holds Try.pinned (OpenSpec.ofChange Rows.fnExactLeastVersionSpec) :=
  OpenClaim.holds_of_wide 9 Try.f9 rfl rfl rfl rfl rfl rfl rfl ⟨rfl, rfl, rfl, rfl, rfl⟩ rfl rfl rfl rfl rfl (by kernel_rfl) Try.func9 (by kernel_rfl)
    (of_decide_eq_true (by kernel_rfl)) (by unfold Func.isWrapper; first | (rw [if_pos (by decide +kernel)]; kernel_rfl) | (rw [if_neg (by decide +kernel)]; exact ⟨rfl, rfl⟩))
    (fun os started H enc _ => lifted os started H enc)
/-- THE STATEMENT -/
theorem proved : Rows.FnExactLeastVersionSaid := over
#print axioms proved
end Go.Proofs.Ytjlepakpcclmpaa.lawLeastVersion
