/- FnExactFindEntry holds for every input: the walk of the law over the contracts of what it calls, and the row. No condition. -/
import Derived.Test.YthoilclddnjjjaaOpens
import Derived.Test.YthoilclddnjjjaaKEntry
import Derived.Test.YthoilclddnjjjaaFind
namespace Go.Proofs.Ythoilclddnjjjaa.lawFindEntry
open Go.ChangeShapes Go.WideShapes Go.ChangeAt Go.RowKit
open Go.ChangeMaps (open_string shut_string)
set_option linter.unusedVariables false
set_option maxRecDepth 100000

theorem walk (a : Option Addr) (len cap : Nat) (l : List Entry) (nm : ByteArray) (hn : nm.size ≤ maxLen) (w : World) (hl : Sl w (· < w.heap.size) a len cap l) :
    Calls Try.prog 6 #[.slice a len cap, .string nm] w fun e w' => e = .returned (.bool true) ∧ Below w.heap.size w w' := by
  have HL := Lib.hid (fun (w0 : World) (h : Below w.heap.size w w0) => hl.up h)
  by_cases hq : (1048576 : Int) < (nm.size : Int)
  · go_enter Try.func6, Try.ntmps6
    go_wp2_with fail
    go_ret
    exact ⟨rfl, by go_grown⟩
  · by_cases h : (1048576 : Int) - (sz l : Int) < 0
    · have hx := fun w0 hb => sz_EntryS_c _ _ _ l 1048576 (by omega) (by omega) w0 (HL.out w0 hb)
      simp only [szF_neg h] at hx
      have HX := Lib.hid hx
      clear hx
      go_enter Try.func6, Try.ntmps6
      go_wp2_with fail; refine (HX.out _ (by go_grown)).mono ?_; rintro e w1 ⟨rfl, hb1⟩; have hB1 : Below w.heap.size w w1 := bt (by go_grown) hb1
      go_wp2_with fail
      go_ret
      exact ⟨rfl, hB1⟩
    · have hx := fun w0 hb => sz_EntryS_c _ _ _ l 1048576 (by omega) (by omega) w0 (HL.out w0 hb)
      simp only [szF_pos h] at hx
      have HX := Lib.hid hx
      clear hx
      have hsm : sz l ≤ 1048576 := by omega
      have he : eqB l l = true := eqB_refl l
      go_enter Try.func6, Try.ntmps6
      go_wp2_with fail; refine (HX.out _ (by go_grown)).mono ?_; rintro e w1 ⟨rfl, hb1⟩; have hB1 : Below w.heap.size w w1 := bt (by go_grown) hb1
      go_wp2_with fail; refine (to_EntryS_c _ _ _ _ _ (HL.out _ hB1) hsm).mono ?_; rintro e w2 ⟨g2, rfl, hs2, hb2⟩; have hB2 : Below w.heap.size w w2 := bt (by go_grown) hb2
      go_wp2_with fail; refine (spec_FindEntry _ _ _ _ _ _ hs2.fr).mono ?_; rintro e w3 ⟨rfl, hb3⟩; have hB3 : Below w.heap.size w w3 := bt (by go_grown) hb3
      go_wp2_with fail; refine (to_EntryS_c _ _ _ _ _ (HL.out _ hB3) hsm).mono ?_; rintro e w4 ⟨g4, rfl, hs4, hb4⟩; have hB4 : Below w.heap.size w w4 := bt (by go_grown) hb4
      have HX4 := Lib.hid (fun (w0 : World) (hb : Below w4.heap.size w4 w0) => hs4.fr.up hb)
      go_wp2_with fail; refine (impl_FindEntry _ _ _ _ _ _ (HX4.out _ (Below.refl _ _))).mono ?_; rintro e w5 ⟨rfl, hb5⟩; have hB5 : Below w.heap.size w w5 := bt (by go_grown) hb5
      go_wp2_with fail; refine (to_EntryS_c _ _ _ _ _ (HL.out _ hB5) hsm).mono ?_; rintro e w6 ⟨g6, rfl, hs6, hb6⟩; have hB6 : Below w.heap.size w w6 := bt (by go_grown) hb6
      go_wp2_with fail; refine (eq_EntryS_c _ _ _ _ _ _ _ _ _ (HX4.out _ (bt hb5 hb6)) hs6.fr).mono ?_; rintro e w7 ⟨rfl, hb7⟩; have hB7 : Below w.heap.size w w7 := bt (by go_grown) hb7
      go_wp2_with fail
      go_ret
      exact ⟨rfl, hB7⟩

theorem own : ownKnob Try.prog.godebug = none := by kernel_rfl
theorem laidOut : laidOutB Try.prog = true := by kernel_rfl
set_option maxRecDepth 100000 in
theorem lifted (os : Os) (started : os.Started) (H : Type) (enc : TypeId × Value → H) :
    ReturnsInHanded {} Try.checked os 6 .any (Rows.fnExactFindEntrySpec.pre6 enc Try.prog Try.f6 Rows.fnExactFindEntryRow.domain false) (Rows.fnExactFindEntrySpec.post enc Try.prog Try.f6 false true false false) := by
  refine returnsInHanded_of_change (C := Try.checked) own started (by kernel_rfl) Try.func6
    (ChangeSpec.witness6 (enc := enc) (C := Try.checked) false ⟨#[], #[.slice none 0 0, .string ⟨#[]⟩], []⟩ 8 (by kernel_rfl) (by kernel_rfl) (by kernel_rfl) (by kernel_rfl)) ?_
  intro W base args ds gs before hval0 hW hcnd _
  have hval : ∀ (j : Nat) t v, Try.f6.params[j]? = some t → args[j]? = some v → Value.okWide Try.prog W .any base t v := hval0
  have hW' := hW
  obtain ⟨p, q, hA0, hV, rfl, hfz, hnd⟩ := hW
  have hA : DataW.TrodAll enc Try.prog W 0 (fun _ => true) true Try.f6.params.toList args.toList ds p := hA0
  rw [Try.params6] at hA hval
  obtain ⟨v0, vs0, d0, ds0, p0, q0, hargs, rfl, rfl, h0, r0⟩ := trodAll_cons hA
  obtain ⟨v1, vs1, d1, ds1, p1, q1, rfl, rfl, rfl, h1, r1⟩ := trodAll_cons r0
  obtain ⟨rfl, rfl, rfl⟩ := trodAll_nil r1
  obtain rfl : args = #[v0, v1] := by cases args; simp_all
  obtain ⟨rfl, rfl⟩ := trodVars_none hV
  have k0 := h0
  have lt0 : ∀ x ∈ p0, x.block < W.heap.size := by obtain ⟨m, hm⟩ := k0; exact DataW.trod_lt m _ _ _ hm
  have k1 := h1
  have lt1 : ∀ x ∈ p1, x.block < W.heap.size := by obtain ⟨m, hm⟩ := k1; exact DataW.trod_lt m _ _ _ hm
  obtain ⟨a0, len0, cap0, l0, rfl, hs0⟩ := opens_EntryS (hval 0 51 v0 rfl rfl) h0
  obtain ⟨s1, rfl, _, _, ws1⟩ := open_string Try.underlying9 (hval 1 9 v1 rfl rfl) h1
  clear hA0 hval0
  refine (walk a0 len0 cap0 l0 s1 ws1 W hs0).mono fun e W' ⟨he, bel⟩ => ?_
  subst he
  exact ⟨_, rfl, _, _, _, [], _, [], hW', trodAll_mk1 (shut_bool Try.underlying4 _), (trodAll_cons_mk (Below.trod laidOut (by kernel_rfl) (of_decide_eq_true (by kernel_rfl)) k0 bel lt0) (trodAll_cons_mk (Below.trod laidOut (by kernel_rfl) (of_decide_eq_true (by kernel_rfl)) k1 bel lt1) trodAll_mk0)), rfl, bel.frame _, fun h => by cases h⟩
theorem over : Rows.fnExactFindEntryRow.holds Try.pinned (OpenSpec.ofChange Rows.fnExactFindEntrySpec) :=
  OpenClaim.holds_of_wide 6 Try.f6 rfl rfl rfl rfl rfl rfl rfl ⟨rfl, rfl, rfl, rfl, rfl⟩ rfl rfl rfl rfl rfl (by kernel_rfl) Try.func6 (by kernel_rfl)
    (of_decide_eq_true (by kernel_rfl)) (by unfold Func.isWrapper; first | (rw [if_pos (by decide +kernel)]; kernel_rfl) | (rw [if_neg (by decide +kernel)]; exact ⟨rfl, rfl⟩))
    (fun os started H enc _ => lifted os started H enc)
/-- THE STATEMENT -/
theorem proved : Rows.FnExactFindEntrySaid := over
#print axioms proved
end Go.Proofs.Ythoilclddnjjjaa.lawFindEntry
