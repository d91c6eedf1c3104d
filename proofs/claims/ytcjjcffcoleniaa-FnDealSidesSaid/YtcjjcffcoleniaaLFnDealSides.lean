/- FnDealSides holds for every input: what the law's condition asks, met by the contracts of what it calls, and the row. No condition. -/
import Derived.Test.YtcjjcffcoleniaaDealMath
import Derived.Test.YtcjjcffcoleniaaBDealDraw
import Derived.Test.YtcjjcffcoleniaaAOpen
import Derived.Test.YtcjjcffcoleniaaRows
namespace Go.Proofs.Ytcjjcffcoleniaa.lawFnDealSides
open Go.ChangeShapes Go.WideShapes Go.ChangeAt Go.RowKit
set_option linter.unusedVariables false
set_option linter.unusedSimpArgs false
set_option maxRecDepth 100000

theorem com_ab {xs : List Offer} {v : Ver} : Com xs v ↔ ∀ x ∈ xs, v ∈ x.vers :=
  ⟨fun h x hx => by obtain ⟨i, hi, e⟩ := mem_nth hx; rw [← e]; exact h i hi, fun h i hi => h _ (nth_mem hi)⟩
theorem all_ok {xs : List Offer} : AllOk xs ↔ ∀ x ∈ xs, x.ok = true :=
  ⟨fun h x hx => by obtain ⟨i, hi, e⟩ := mem_nth hx; rw [← e]; exact h i hi, fun h i hi => h _ (nth_mem hi)⟩
theorem f63 {n : Nat} (h : n < 64) : 63 &&& n = n := (show ∀ n : Fin 64, 63 &&& n.val = n.val by decide +kernel) ⟨n, h⟩
theorem sides {a b : Offer} (ha : a.ok = true) (hb : b.ok = true) : dealOf [a, b] = dealOf [b, a] ∧ dealB [a, b] = dealB [b, a] := by
  obtain ⟨n, hn, hn4⟩ := face_nat ha
  obtain ⟨m, hm, hm4⟩ := face_nat hb
  refine deal_same (by simp) (by simp) (all_ok.2 (by simp [ha, hb])) (all_ok.2 (by simp [ha, hb])) (fun u => by rw [com_ab, com_ab]; simp [and_comm]) ?_
  show faceTo [a, b] 63 2 = faceTo [b, a] 63 2
  rw [faceTo_ok (xs := [a, b]) (k := 1) hb hm, faceTo_ok (xs := [a, b]) (k := 0) ha hn, faceTo_ok (xs := [b, a]) (k := 1) ha hn, faceTo_ok (xs := [b, a]) (k := 0) hb hm]
  show 63 &&& n &&& m = 63 &&& m &&& n
  rw [f63 hn4, f63 hm4, Nat.and_comm]
theorem thrice {a b : Offer} (ha : a.ok = true) (hb : b.ok = true) : dealOf [a, b] = dealOf [b, a, b] ∧ dealB [a, b] = dealB [b, a, b] := by
  obtain ⟨n, hn, hn4⟩ := face_nat ha
  obtain ⟨m, hm, hm4⟩ := face_nat hb
  refine deal_same (by simp) (by simp) (all_ok.2 (by simp [ha, hb])) (all_ok.2 (by simp [ha, hb])) (fun u => by
    rw [com_ab, com_ab]; simp
    try exact ⟨fun ⟨h1, h2⟩ => ⟨h2, h1⟩, fun ⟨h1, h2⟩ => ⟨h2, h1⟩⟩) ?_
  show faceTo [a, b] 63 2 = faceTo [b, a, b] 63 3
  rw [faceTo_ok (xs := [a, b]) (k := 1) hb hm, faceTo_ok (xs := [a, b]) (k := 0) ha hn, faceTo_ok (xs := [b, a, b]) (k := 2) hb hm, faceTo_ok (xs := [b, a, b]) (k := 1) ha hn, faceTo_ok (xs := [b, a, b]) (k := 0) hb hm]
  show 63 &&& n &&& m = 63 &&& m &&& n &&& m
  rw [f63 hn4, f63 hm4, Nat.and_comm m n, Nat.and_assoc n m m, Nat.and_self]
theorem main (ds : List D) (h : HasTys tbl.tab ty_laws_FnDealSides ds) : Fun Try.prog 6 none ds (.bool true) [] := by
  obtain ⟨rows, rfl, hr0, hr⟩ := code_arg rfl h
  refine Fun.ofV vc_laws_FnDealSides_ok ty_laws_FnDealSides_ok rfl ?_ (fun hfit => ?_)
  · exact h
  unfold vc_laws_FnDealSides
  ((first | refine den_call ?_ (c_laws_big rows hr0) (trivial) ?_ | refine den_callR ?_ (c_laws_big rows hr0) (trivial) ?_ | refine den_call ?_ (.ofR (c_laws_big rows hr0)) (trivial) ?_); (focus (simp only [VC.den, E.den, List.map_cons, List.map_nil, Option.map_none, Option.map_some, List.getD_cons_zero, List.getD_cons_succ, List.cons_append, List.nil_append, List.append_nil, D.toI_int, D.toB_bool, D.toS_str, D.toA_agg, D.toT_tup, D.toR_sl, enc_toA, encS_toR, encS_len, List.drop_succ_cons, List.drop_zero, List.take_succ_cons, List.take_zero, gsH_nil, and_true]; try exact rfl)); (simp only [List.cons_append, List.nil_append]))
  refine den_ite (fun _ => den_ret rfl) (fun _ => ?_)
  ((first | refine den_callE ?_ (d_DrawOffers2 hr) (fun _ h => ty_O2 h) ?_ | refine den_callRE ?_ (d_DrawOffers2 hr) (fun _ h => ty_O2 h) ?_ | refine den_callE ?_ (exR (d_DrawOffers2 hr)) (fun _ h => ty_O2 h) ?_); (focus (simp only [VC.den, E.den, List.map_cons, List.map_nil, Option.map_none, Option.map_some, List.getD_cons_zero, List.getD_cons_succ, List.cons_append, List.nil_append, List.append_nil, D.toI_int, D.toB_bool, D.toS_str, D.toA_agg, D.toT_tup, D.toR_sl, enc_toA, encS_toR, encS_len, List.drop_succ_cons, List.drop_zero, List.take_succ_cons, List.take_zero, gsH_nil, and_true]; try exact rfl)); rintro _ ⟨a, b, rfl, ha, hb⟩; (simp only [List.cons_append, List.nil_append]))
  ((first | refine den_call ?_ (c_impl_Negotiate a b) (⟨ty_Deal _, trivial, trivial⟩) ?_ | refine den_callR ?_ (c_impl_Negotiate a b) (⟨ty_Deal _, trivial, trivial⟩) ?_ | refine den_call ?_ (.ofR (c_impl_Negotiate a b)) (⟨ty_Deal _, trivial, trivial⟩) ?_); (focus (simp only [VC.den, E.den, List.map_cons, List.map_nil, Option.map_none, Option.map_some, List.getD_cons_zero, List.getD_cons_succ, List.cons_append, List.nil_append, List.append_nil, D.toI_int, D.toB_bool, D.toS_str, D.toA_agg, D.toT_tup, D.toR_sl, enc_toA, encS_toR, encS_len, List.drop_succ_cons, List.drop_zero, List.take_succ_cons, List.take_zero, gsH_nil, and_true]; try exact rfl)); (simp only [List.cons_append, List.nil_append]))
  ((first | refine den_call ?_ (c_spec_Negotiate a b) (⟨ty_Deal _, trivial, trivial⟩) ?_ | refine den_callR ?_ (c_spec_Negotiate a b) (⟨ty_Deal _, trivial, trivial⟩) ?_ | refine den_call ?_ (.ofR (c_spec_Negotiate a b)) (⟨ty_Deal _, trivial, trivial⟩) ?_); (focus (simp only [VC.den, E.den, List.map_cons, List.map_nil, Option.map_none, Option.map_some, List.getD_cons_zero, List.getD_cons_succ, List.cons_append, List.nil_append, List.append_nil, D.toI_int, D.toB_bool, D.toS_str, D.toA_agg, D.toT_tup, D.toR_sl, enc_toA, encS_toR, encS_len, List.drop_succ_cons, List.drop_zero, List.take_succ_cons, List.take_zero, gsH_nil, and_true]; try exact rfl)); (simp only [List.cons_append, List.nil_append]))
  refine den_ite (fun h => ?_) (fun _ => ?_)
  · simp [E.den] at h
  ((first | refine den_call ?_ (c_impl_Negotiate b a) (⟨ty_Deal _, trivial, trivial⟩) ?_ | refine den_callR ?_ (c_impl_Negotiate b a) (⟨ty_Deal _, trivial, trivial⟩) ?_ | refine den_call ?_ (.ofR (c_impl_Negotiate b a)) (⟨ty_Deal _, trivial, trivial⟩) ?_); (focus (simp only [VC.den, E.den, List.map_cons, List.map_nil, Option.map_none, Option.map_some, List.getD_cons_zero, List.getD_cons_succ, List.cons_append, List.nil_append, List.append_nil, D.toI_int, D.toB_bool, D.toS_str, D.toA_agg, D.toT_tup, D.toR_sl, enc_toA, encS_toR, encS_len, List.drop_succ_cons, List.drop_zero, List.take_succ_cons, List.take_zero, gsH_nil, and_true]; try exact rfl)); (simp only [List.cons_append, List.nil_append]))
  ((first | refine den_call ?_ (c_impl_NegotiateAll [a, b]) (⟨ty_Deal _, trivial, trivial⟩) ?_ | refine den_callR ?_ (c_impl_NegotiateAll [a, b]) (⟨ty_Deal _, trivial, trivial⟩) ?_ | refine den_call ?_ (.ofR (c_impl_NegotiateAll [a, b])) (⟨ty_Deal _, trivial, trivial⟩) ?_); (focus (simp only [VC.den, E.den, List.map_cons, List.map_nil, Option.map_none, Option.map_some, List.getD_cons_zero, List.getD_cons_succ, List.cons_append, List.nil_append, List.append_nil, D.toI_int, D.toB_bool, D.toS_str, D.toA_agg, D.toT_tup, D.toR_sl, enc_toA, encS_toR, encS_len, List.drop_succ_cons, List.drop_zero, List.take_succ_cons, List.take_zero, gsH_nil, and_true]; try exact rfl)); (simp only [List.cons_append, List.nil_append]))
  ((first | refine den_call ?_ (c_impl_NegotiateAll [b, a, b]) (⟨ty_Deal _, trivial, trivial⟩) ?_ | refine den_callR ?_ (c_impl_NegotiateAll [b, a, b]) (⟨ty_Deal _, trivial, trivial⟩) ?_ | refine den_call ?_ (.ofR (c_impl_NegotiateAll [b, a, b])) (⟨ty_Deal _, trivial, trivial⟩) ?_); (focus (simp only [VC.den, E.den, List.map_cons, List.map_nil, Option.map_none, Option.map_some, List.getD_cons_zero, List.getD_cons_succ, List.cons_append, List.nil_append, List.append_nil, D.toI_int, D.toB_bool, D.toS_str, D.toA_agg, D.toT_tup, D.toR_sl, enc_toA, encS_toR, encS_len, List.drop_succ_cons, List.drop_zero, List.take_succ_cons, List.take_zero, gsH_nil, and_true]; try exact rfl)); (simp only [List.cons_append, List.nil_append]))
  refine den_ret ?_
  simp only [E.den, List.getD_cons_zero, List.getD_cons_succ, D.toT_tup, D.toB_bool, enc_toA, eqv_Deal]
  rw [← (sides ha hb).1, ← (sides ha hb).2, ← (thrice ha hb).1, ← (thrice ha hb).2]
  simp

theorem own : ownKnob Try.prog.godebug = none := by kernel_rfl
theorem laidOut : laidOutB Try.prog = true := by kernel_rfl
set_option maxRecDepth 100000 in
theorem lifted (os : Os) (started : os.Started) (H : Type) (enc : TypeId × Value → H) :
    ReturnsInHanded {} Try.checked os 6 .any (Rows.fnDealSidesSpec.pre6 enc Try.prog Try.f6 Rows.fnDealSidesRow.domain false) (Rows.fnDealSidesSpec.post enc Try.prog Try.f6 false true false false) := by
  refine returnsInHanded_of_change (C := Try.checked) own started (by kernel_rfl) Try.func6
    (ChangeSpec.witness6 (enc := enc) (C := Try.checked) false ⟨#[], #[.slice none 0 0], []⟩ 8 (by kernel_rfl) (by kernel_rfl) (by kernel_rfl) (by kernel_rfl)) ?_
  intro W base args ds gs before hval0 hW hcnd _
  have hval : ∀ (j : Nat) t v, Try.f6.params[j]? = some t → args[j]? = some v → Value.okWide Try.prog W .any base t v := hval0
  have hW' := hW
  obtain ⟨p, q, hA0, hV, rfl, hfz, hnd⟩ := hW
  have hA : DataW.TrodAll enc Try.prog W 0 (fun _ => true) true Try.f6.params.toList args.toList ds p := hA0
  rw [Try.params6] at hA hval
  obtain ⟨v0, vs0, d0, ds0, p0, q0, hargs, rfl, rfl, h0, r0⟩ := trodAll_cons hA
  obtain ⟨rfl, rfl, rfl⟩ := trodAll_nil r0
  obtain rfl : args = #[v0] := by cases args; simp_all
  obtain ⟨rfl, rfl⟩ := trodVars_none hV
  have k0 := h0
  have lt0 : ∀ x ∈ p0, x.block < W.heap.size := by obtain ⟨m, hm⟩ := k0; exact DataW.trod_lt m _ _ _ hm
  obtain ⟨x0, y0, z0⟩ := open_arg tbl_ok (by kernel_rfl) (hval 0 22 v0 rfl rfl) h0
  clear hA0 hval0
  refine ((law_run (main [x0] ⟨y0, trivial⟩) (show Rs W M0 [x0] [v0] from ⟨_, _, rfl, z0, rfl⟩))).mono fun e W' ⟨he, bel⟩ => ?_
  subst he
  exact ⟨_, rfl, _, _, _, [], _, [], hW', trodAll_mk1 (shut_bool Try.underlying4 _), (trodAll_cons_mk (Below.trod laidOut (by kernel_rfl) (of_decide_eq_true (by kernel_rfl)) k0 bel lt0) trodAll_mk0), rfl, bel.frame _, fun h => by cases h⟩
theorem over : Rows.fnDealSidesRow.holds Try.pinned (OpenSpec.ofChange Rows.fnDealSidesSpec) :=
  OpenClaim.holds_of_wide 6 Try.f6 rfl rfl rfl rfl rfl rfl rfl ⟨rfl, rfl, rfl, rfl, rfl⟩ rfl rfl rfl rfl rfl (by kernel_rfl) Try.func6 (by kernel_rfl)
    (of_decide_eq_true (by kernel_rfl)) (by unfold Func.isWrapper; first | (rw [if_pos (by decide +kernel)]; kernel_rfl) | (rw [if_neg (by decide +kernel)]; exact ⟨rfl, rfl⟩))
    (fun os started H enc _ => lifted os started H enc)
/-- THE STATEMENT -/
theorem proved : Rows.FnDealSidesSaid := over
#print axioms proved
end Go.Proofs.Ytcjjcffcoleniaa.lawFnDealSides
