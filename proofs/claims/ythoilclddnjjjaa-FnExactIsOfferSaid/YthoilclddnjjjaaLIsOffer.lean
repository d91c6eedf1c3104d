/- FnExactIsOffer holds for every input: the walk of the law over the contracts of what it calls, and the row. No condition. -/
import Derived.Test.YthoilclddnjjjaaOpen
import Derived.Test.YthoilclddnjjjaaOffer
import Derived.Test.YthoilclddnjjjaaVers
namespace Go.Proofs.Ythoilclddnjjjaa.lawIsOffer
open Go.ChangeShapes Go.WideShapes Go.ChangeAt Go.RowKit
open Go.ChangeMaps (open_string shut_string)
set_option linter.unusedVariables false
set_option maxRecDepth 100000

theorem walk (a : Option Addr) (len cap : Nat) (l : List Ver) (f : Int) (w : World) (hl : Sl w (· < w.heap.size) a len cap l) :
    Calls Try.prog 4 #[.agg #[.slice a len cap, .int .i64 f]] w fun e w' => e = .returned (.bool true) ∧ Below w.heap.size w w' := by
  have hm : len ≤ maxLen := Nat.le_trans hl.2.1 hl.2.2.1
  have HL := Lib.hid (fun (w0 : World) (h : Below w.heap.size w w0) => hl.up h)
  by_cases h : (1048576 : Int) - (len : Int) < 0
  · have hx := laws_szOffer a len cap f 1048576 hm (by omega) (by omega)
    rw [show szN 1048576 len = -1 by simp [szN, h]] at hx
    have HX := Lib.hid hx
    clear hx
    go_enter Try.func4, Try.ntmps4
    go_wp2_with fail; refine (HX.out _).mono ?_; rintro e w1 ⟨rfl, hb1⟩; obtain ⟨hc1, hf1⟩ := bcell hb1; (try simp only [World.size_alloc] at hc1 hf1); (try simp only [World.size_setCell] at hc1 hf1); have hz1 : w.heap.size < w1.heap.size := (by have := hb1.size; (try simp only [World.size_alloc] at this) <;> (try simp only [World.size_setCell] at this) <;> omega)
    go_wp2_with fail
    go_ret
    exact ⟨rfl, below_one (by simpa using hb1)⟩
  · have hx := laws_szOffer a len cap f 1048576 hm (by omega) (by omega)
    rw [show szN 1048576 len = 1048576 - (len : Int) by simp only [szN, if_neg h]] at hx
    have HX := Lib.hid hx
    clear hx
    go_enter Try.func4, Try.ntmps4
    go_wp2_with fail; refine (HX.out _).mono ?_; rintro e w1 ⟨rfl, hb1⟩; obtain ⟨hc1, hf1⟩ := bcell hb1; (try simp only [World.size_alloc] at hc1 hf1); (try simp only [World.size_setCell] at hc1 hf1); have hz1 : w.heap.size < w1.heap.size := (by have := hb1.size; (try simp only [World.size_alloc] at this) <;> (try simp only [World.size_setCell] at this) <;> omega)
    have hB1 := Lib.hid (below_one (by simpa using hb1) : Below w.heap.size w w1)
    go_wp2_with fail
    refine (laws_toOffer _ _ _ _ _ _ (HL.out _ hB1.out) (by omega)).mono ?_; rintro e w2 ⟨g, rfl, hs2, hb2⟩
    obtain ⟨hc2, hf2⟩ := bcell hb2
    have hz2 : w.heap.size < w2.heap.size := by have := hb2.size; omega
    go_wp2_with fail
    refine (spec_IsOffer _ _ _ _ _ _ (hs2.wide fun b hb => hb.2)).mono ?_; rintro e w3 ⟨rfl, hb3⟩
    obtain ⟨hc3, hf3⟩ := bcell hb3
    have hz3 : w.heap.size < w3.heap.size := by have := hb3.size; omega
    go_wp2_with fail
    have hB3 : Below w.heap.size w w3 := bt (bt hB1.out hb2) hb3
    have hx3 : w3.cell? ⟨w.heap.size, 0, none⟩ = some (.slice a len cap) := (hc3 _ _ (by omega)).trans ((hc2 _ _ (by omega)).trans ((hc1 _ _ (by omega)).trans (by simp [go_sem])))
    have hy3 : w3.cell? ⟨w.heap.size, 1, none⟩ = some (.int .i64 f) := (hc3 _ _ (by omega)).trans ((hc2 _ _ (by omega)).trans ((hc1 _ _ (by omega)).trans (by simp [go_sem])))
    clear hc1 hc2 hc3 hf1 hf2 hf3
    refine (laws_toOffer _ _ _ _ _ _ (HL.out _ hB3) (by omega)).mono ?_; rintro e w4 ⟨g4, rfl, hs4, hb4⟩
    have hx4 := keep_cell hb4 hx3
    have hy4 := keep_cell hb4 hy3
    have hB4 := bt hB3 hb4
    have HS4 := Lib.hid (fun (w0 : World) (h : Below w4.heap.size w4 w0) => (hs4.wide (S' := (· < w4.heap.size)) fun b hb => hb.2).up h)
    clear hs4 hs2
    go_wp2_with fail
    refine (impl_IsOffer _ _ _ _ _ _ (HS4.out _ (by go_grown))).mono ?_; rintro e w6 ⟨rfl, hb6⟩
    obtain ⟨hc6, hf6⟩ := bcell hb6
    simp only [World.size_alloc] at hc6 hf6
    have hp6 : w6.cell? ⟨w4.heap.size, 0, none⟩ = some (.slice (some ⟨g4, 0, none⟩) len len) := (hc6 _ _ (by omega)).trans (by simp [go_sem])
    have hq6 : w6.cell? ⟨w4.heap.size, 1, none⟩ = some (.int .i64 f) := (hc6 _ _ (by omega)).trans (by simp [go_sem])
    have hG : Below w4.heap.size w4 w6 := below_one (by simpa using hb6)
    have hx6 := keep_cell hG hx4
    have hy6 := keep_cell hG hy4
    have hB6 := bt hB4 hG
    clear hc6 hf6 hx4 hy4 hx3 hy3
    go_wp2_with fail
    have HS6 := Lib.hid (fun (w0 : World) (h : Below w6.heap.size w6 w0) => HS4.out w0 (bt hG h))
    have HL6 := Lib.hid (fun (w0 : World) (h : Below w6.heap.size w6 w0) => HL.out w0 (bt hB6 h))
    have hB0 : Below w6.heap.size w6 w6 := Below.refl _ _
    have he1 : eqB l l = true := eqB_refl l
    have he2 : eqB f f = true := eqB_refl f
    go_region_held3 (fun w' => w'.cell? (⟨w4.heap.size, 0, none⟩ : Addr) = some (.slice (some ⟨g4, 0, none⟩) len len) ∧ w'.cell? ⟨w4.heap.size, 1, none⟩ = some (.int .i64 f) ∧ w'.cell? ⟨w.heap.size, 0, none⟩ = some (.slice a len cap) ∧ w'.cell? ⟨w.heap.size, 1, none⟩ = some (.int .i64 f) ∧ Below w6.heap.size w6 w') ((go_split_ands; (repeat' apply And.intro) <;> (first | assumption | exact cell_keep (by assumption) (by assumption) | exact bt' (by assumption) (by first | assumption | exact Below.drew (by assumption)) | exact Below.drew (by assumption)))) (first | (go_at_call 17; refine (laws_toOffer _ _ _ _ _ _ (HL6.out _ (by go_split_ands; assumption)) (by omega)).mono ?_; rintro e w7 ⟨g7, rfl, hs7, hb7⟩) | (go_at_call 19; refine (laws_eqOffer _ _ _ _ _ _ _ _ _ _ _ (HS6.out _ (by go_split_ands; assumption)) (hs7.wide fun b hb => hb.2)).mono ?_; rintro e w8 ⟨rfl, hb8⟩))
    go_wp2_with fail
    go_ret
    go_split_ands
    exact ⟨rfl, bt hB6 (by assumption)⟩

theorem own : ownKnob Try.prog.godebug = none := by kernel_rfl
theorem laidOut : laidOutB Try.prog = true := by kernel_rfl
set_option maxRecDepth 100000 in
theorem lifted (os : Os) (started : os.Started) (H : Type) (enc : TypeId × Value → H) :
    ReturnsInHanded {} Try.checked os 4 .any (Rows.fnExactIsOfferSpec.pre6 enc Try.prog Try.f4 Rows.fnExactIsOfferRow.domain false) (Rows.fnExactIsOfferSpec.post enc Try.prog Try.f4 false true false false) := by
  refine returnsInHanded_of_change (C := Try.checked) own started (by kernel_rfl) Try.func4
    (ChangeSpec.witness6 (enc := enc) (C := Try.checked) false ⟨#[], #[.agg #[.slice none 0 0, .int .i64 0]], []⟩ 8 (by kernel_rfl) (by kernel_rfl) (by kernel_rfl) (by kernel_rfl)) ?_
  intro W base args ds gs before hval0 hW hcnd _
  have hval : ∀ (j : Nat) t v, Try.f4.params[j]? = some t → args[j]? = some v → Value.okWide Try.prog W .any base t v := hval0
  have hW' := hW
  obtain ⟨p, q, hA0, hV, rfl, hfz, hnd⟩ := hW
  have hA : DataW.TrodAll enc Try.prog W 0 (fun _ => true) true Try.f4.params.toList args.toList ds p := hA0
  rw [Try.params4] at hA hval
  obtain ⟨v0, vs0, d0, ds0, p0, q0, hargs, rfl, rfl, h0, r0⟩ := trodAll_cons hA
  obtain ⟨rfl, rfl, rfl⟩ := trodAll_nil r0
  obtain rfl : args = #[v0] := by cases args; simp_all
  obtain ⟨rfl, rfl⟩ := trodVars_none hV
  have k0 := h0
  have lt0 : ∀ x ∈ p0, x.block < W.heap.size := by obtain ⟨m, hm⟩ := k0; exact DataW.trod_lt m _ _ _ hm
  obtain ⟨a0, len0, cap0, l0, f0, rfl, hs0, _⟩ := open_Offer (hval 0 30 v0 rfl rfl) h0
  clear hA0 hval0
  refine (walk a0 len0 cap0 l0 f0 W hs0).mono fun e W' ⟨he, bel⟩ => ?_
  subst he
  exact ⟨_, rfl, _, _, _, [], _, [], hW', trodAll_mk1 (shut_bool Try.underlying4 _), (trodAll_cons_mk (Below.trod laidOut (by kernel_rfl) (of_decide_eq_true (by kernel_rfl)) k0 bel lt0) trodAll_mk0), rfl, bel.frame _, fun h => by cases h⟩
theorem over : Rows.fnExactIsOfferRow.holds Try.pinned (OpenSpec.ofChange Rows.fnExactIsOfferSpec) :=
  OpenClaim.holds_of_wide 4 Try.f4 rfl rfl rfl rfl rfl rfl rfl ⟨rfl, rfl, rfl, rfl, rfl⟩ rfl rfl rfl rfl rfl (by kernel_rfl) Try.func4 (by kernel_rfl)
    (of_decide_eq_true (by kernel_rfl)) (by unfold Func.isWrapper; first | (rw [if_pos (by decide +kernel)]; kernel_rfl) | (rw [if_neg (by decide +kernel)]; exact ⟨rfl, rfl⟩))
    (fun os started H enc _ => lifted os started H enc)
/-- THE STATEMENT -/
theorem proved : Rows.FnExactIsOfferSaid := over
#print axioms proved
end Go.Proofs.Ythoilclddnjjjaa.lawIsOffer
