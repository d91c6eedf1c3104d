/- FnExactIsNeed holds for every input: the walk of the law over the contracts of what it calls, and the row. No condition. -/
import Derived.Test.YtjlepakpcclmpaaOpen
import Derived.Test.YtjlepakpcclmpaaNeed
namespace Go.Proofs.Ytjlepakpcclmpaa.lawIsNeed
open Go.ChangeShapes Go.WideShapes Go.ChangeAt Go.RowKit
open Go.ChangeMaps (open_string shut_string)
set_option linter.unusedVariables false

theorem walk (f a b : Int) (s : ByteArray) (hs : s.size ≤ maxLen) (w : World) :
    Calls Try.prog 7 #[.agg #[.int .i64 f, .string s, .int .i64 a, .int .i64 b]] w fun e w' => e = .returned (.bool true) ∧ Below w.heap.size w w' := by
  by_cases h : (1048576 : Int) - (s.size : Int) < 0
  · have hx := laws_szNeed f a b 1048576 s hs (by omega) (by omega)
    simp only [h, if_true] at hx
    have HX := Lib.hid hx
    clear hx
    go_enter Try.func7, Try.ntmps7
    go_wp2_with fail; refine (HX.out _).mono ?_; rintro e w1 ⟨rfl, hb1⟩; obtain ⟨hc1, hf1⟩ := bcell hb1; (try simp only [World.size_alloc] at hc1 hf1); (try simp only [World.size_setCell] at hc1 hf1); have hz1 : w.heap.size < w1.heap.size := (by have := hb1.size; (try simp only [World.size_alloc] at this) <;> (try simp only [World.size_setCell] at this) <;> omega)
    go_wp2_with fail
    go_ret
    exact ⟨rfl, below_one (by simpa using hb1)⟩
  · have hx := laws_szNeed f a b 1048576 s hs (by omega) (by omega)
    simp only [h, if_false] at hx
    have HX := Lib.hid hx
    clear hx
    go_enter Try.func7, Try.ntmps7
    go_wp2_with fail; refine (HX.out _).mono ?_; rintro e w1 ⟨rfl, hb1⟩; obtain ⟨hc1, hf1⟩ := bcell hb1; (try simp only [World.size_alloc] at hc1 hf1); (try simp only [World.size_setCell] at hc1 hf1); have hz1 : w.heap.size < w1.heap.size := (by have := hb1.size; (try simp only [World.size_alloc] at this) <;> (try simp only [World.size_setCell] at this) <;> omega)
    go_wp2_with fail; refine (laws_toNeed _ _ _ _ _).mono ?_; rintro e w2 ⟨rfl, hb2⟩; obtain ⟨hc2, hf2⟩ := bcell hb2; (try simp only [World.size_alloc] at hc2 hf2); (try simp only [World.size_setCell] at hc2 hf2); have hz2 : w.heap.size < w2.heap.size := (by have := hb2.size; (try simp only [World.size_alloc] at this) <;> (try simp only [World.size_setCell] at this) <;> omega)
    go_wp2_with fail; refine (spec_IsNeed _ _ _ _ hs _).mono ?_; rintro e w3 ⟨rfl, hb3⟩; obtain ⟨hc3, hf3⟩ := bcell hb3; (try simp only [World.size_alloc] at hc3 hf3); (try simp only [World.size_setCell] at hc3 hf3); have hz3 : w.heap.size < w3.heap.size := (by have := hb3.size; (try simp only [World.size_alloc] at this) <;> (try simp only [World.size_setCell] at this) <;> omega)
    go_wp2_with fail; refine (laws_toNeed _ _ _ _ _).mono ?_; rintro e w4 ⟨rfl, hb4⟩; obtain ⟨hc4, hf4⟩ := bcell hb4; (try simp only [World.size_alloc] at hc4 hf4); (try simp only [World.size_setCell] at hc4 hf4); have hz4 : w.heap.size < w4.heap.size := (by have := hb4.size; (try simp only [World.size_alloc] at this) <;> (try simp only [World.size_setCell] at this) <;> omega)
    go_wp2_with fail; refine (impl_IsNeed _ _ _ _ hs _).mono ?_; rintro e w5 ⟨rfl, hb5⟩; obtain ⟨hc5, hf5⟩ := bcell hb5; (try simp only [World.size_alloc] at hc5 hf5); (try simp only [World.size_setCell] at hc5 hf5); have hz5 : w.heap.size < w5.heap.size := (by have := hb5.size; (try simp only [World.size_alloc] at this) <;> (try simp only [World.size_setCell] at this) <;> omega)
    go_wp2_with fail
    go_ret
    exact ⟨rfl, bt (bt (bt (bt (below_one (by simpa using hb1)) hb2) hb3) hb4) hb5⟩

theorem own : ownKnob Try.prog.godebug = none := by kernel_rfl
theorem laidOut : laidOutB Try.prog = true := by kernel_rfl
set_option maxRecDepth 100000 in
theorem lifted (os : Os) (started : os.Started) (H : Type) (enc : TypeId × Value → H) :
    ReturnsInHanded {} Try.checked os 7 .any (Rows.fnExactIsNeedSpec.pre6 enc Try.prog Try.f7 Rows.fnExactIsNeedRow.domain false) (Rows.fnExactIsNeedSpec.post enc Try.prog Try.f7 false true false false) := by
  refine returnsInHanded_of_change (C := Try.checked) own started (by kernel_rfl) Try.func7
    (ChangeSpec.witness6 (enc := enc) (C := Try.checked) false ⟨#[], #[.agg #[.int .i64 0, .string ⟨#[]⟩, .int .i64 0, .int .i64 0]], []⟩ 8 (by kernel_rfl) (by kernel_rfl) (by kernel_rfl) (by kernel_rfl)) ?_
  intro W base args ds gs before hval0 hW hcnd _
  have hval : ∀ (j : Nat) t v, Try.f7.params[j]? = some t → args[j]? = some v → Value.okWide Try.prog W .any base t v := hval0
  have hW' := hW
  obtain ⟨p, q, hA0, hV, rfl, hfz, hnd⟩ := hW
  have hA : DataW.TrodAll enc Try.prog W 0 (fun _ => true) true Try.f7.params.toList args.toList ds p := hA0
  rw [Try.params7] at hA hval
  obtain ⟨v0, vs0, d0, ds0, p0, q0, hargs, rfl, rfl, h0, r0⟩ := trodAll_cons hA
  obtain ⟨rfl, rfl, rfl⟩ := trodAll_nil r0
  obtain rfl : args = #[v0] := by cases args; simp_all
  obtain ⟨rfl, rfl⟩ := trodVars_none hV
  have k0 := h0
  have lt0 : ∀ x ∈ p0, x.block < W.heap.size := by obtain ⟨m, hm⟩ := k0; exact DataW.trod_lt m _ _ _ hm
  obtain ⟨f0, s0, a0, b0, rfl, ws, _, _, _⟩ := open_Need (hval 0 35 v0 rfl rfl) h0
  clear hA0 hval0
  refine (walk f0 a0 b0 s0 ws W).mono fun e W' ⟨he, bel⟩ => ?_
  subst he
  exact ⟨_, rfl, _, _, _, [], _, [], hW', trodAll_mk1 (shut_bool Try.underlying4 _), (trodAll_cons_mk (Below.trod laidOut (by kernel_rfl) (of_decide_eq_true (by kernel_rfl)) k0 bel lt0) trodAll_mk0), rfl, bel.frame _, fun h => by cases h⟩
theorem over : Rows.fnExactIsNeedRow.holds Try.pinned (OpenSpec.ofChange Rows.fnExactIsNeedSpec) :=
  OpenClaim.holds_of_wide 7 Try.f7 rfl rfl rfl rfl rfl rfl rfl ⟨rfl, rfl, rfl, rfl, rfl⟩ rfl rfl rfl rfl rfl (by kernel_rfl) Try.func7 (by kernel_rfl)
    (of_decide_eq_true (by kernel_rfl)) (by unfold Func.isWrapper; first | (rw [if_pos (by decide +kernel)]; kernel_rfl) | (rw [if_neg (by decide +kernel)]; exact ⟨rfl, rfl⟩))
    (fun os started H enc _ => lifted os started H enc)
/-- THE STATEMENT -/
theorem proved : Rows.FnExactIsNeedSaid := over
#print axioms proved
end Go.Proofs.Ytjlepakpcclmpaa.lawIsNeed
