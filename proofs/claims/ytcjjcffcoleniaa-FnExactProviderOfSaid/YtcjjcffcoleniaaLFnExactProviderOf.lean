/- FnExactProviderOf holds for every input: what the law's condition asks, met by the contracts of what it calls, and the row. No condition. -/
import Derived.Test.YtcjjcffcoleniaaBEntry
import Derived.Test.YtcjjcffcoleniaaBLaws
import Derived.Test.YtcjjcffcoleniaaAOpen
import Derived.Test.YtcjjcffcoleniaaRows
namespace Go.Proofs.Ytcjjcffcoleniaa.lawFnExactProviderOf
open Go.ChangeShapes Go.WideShapes Go.ChangeAt Go.RowKit
set_option linter.unusedVariables false
set_option linter.unusedSimpArgs false
set_option maxRecDepth 100000

theorem main (ds : List D) (h : HasTys tbl.tab ty_laws_FnExactProviderOf ds) : Fun Try.prog 12 none ds (.bool true) [] := by
  obtain ⟨x0, x1, x2, rfl⟩ : ∃ (x0 : List Entry) (x1 : ByteArray) (x2 : Need), ds = [encS x0, .str x1, enc x2] := by
    match ds, h with
    | [d0, d1, d2], h =>
      obtain ⟨x0, rfl⟩ := decS_laws_Entry (h.1)
      obtain ⟨x1, rfl⟩ := hasTy_str (h.2.1)
      obtain ⟨x2, rfl⟩ := decV_laws_Need (h.2.2.1)
      exact ⟨x0, x1, x2, rfl⟩
  refine Fun.ofV vc_laws_FnExactProviderOf_ok ty_laws_FnExactProviderOf_ok rfl ?_ (fun hfit => ?_)
  · exact h
  unfold vc_laws_FnExactProviderOf
  refine den_ite (fun _ => den_ret rfl) (fun gx1 => ?_)
  ((first | refine den_callE ?_ (z_EntryS x0 1048576 (by omega) (by omega)) (fun _ h => isZ.ty h) ?_ | refine den_callRE ?_ (z_EntryS x0 1048576 (by omega) (by omega)) (fun _ h => isZ.ty h) ?_ | refine den_callE ?_ (exR (z_EntryS x0 1048576 (by omega) (by omega))) (fun _ h => isZ.ty h) ?_); (focus (simp only [VC.den, E.den, List.map_cons, List.map_nil, Option.map_none, Option.map_some, List.getD_cons_zero, List.getD_cons_succ, List.cons_append, List.nil_append, List.append_nil, D.toI_int, D.toB_bool, D.toS_str, D.toA_agg, D.toT_tup, D.toR_sl, enc_toA, encS_toR, encS_len, List.drop_succ_cons, List.drop_zero, List.take_succ_cons, List.take_zero, gsH_nil, and_true]; try exact rfl)); rintro _ ⟨m0, rfl, _, p0, q0⟩; (simp only [List.cons_append, List.nil_append]))
  refine den_ite (fun _ => den_ret rfl) (fun g0 => ?_)
  simp [E.den, cmpI] at g0
  have s0 := q0 g0
  ((first | refine den_callE ?_ (z_Need x2 m0 g0 (by omega)) (fun _ h => isZ.ty h) ?_ | refine den_callRE ?_ (z_Need x2 m0 g0 (by omega)) (fun _ h => isZ.ty h) ?_ | refine den_callE ?_ (exR (z_Need x2 m0 g0 (by omega))) (fun _ h => isZ.ty h) ?_); (focus (simp only [VC.den, E.den, List.map_cons, List.map_nil, Option.map_none, Option.map_some, List.getD_cons_zero, List.getD_cons_succ, List.cons_append, List.nil_append, List.append_nil, D.toI_int, D.toB_bool, D.toS_str, D.toA_agg, D.toT_tup, D.toR_sl, enc_toA, encS_toR, encS_len, List.drop_succ_cons, List.drop_zero, List.take_succ_cons, List.take_zero, gsH_nil, and_true]; try exact rfl)); rintro _ ⟨m2, rfl, _, p2, q2⟩; (simp only [List.cons_append, List.nil_append]))
  refine den_ite (fun _ => den_ret rfl) (fun g2 => ?_)
  simp [E.den, cmpI] at g2
  have s2 := q2 g2
  ((first | refine den_call ?_ (c_laws_toEntryS x0 (sm_list.1 s0).1 (sm_list.1 s0).2) (ty_EntryS _) ?_ | refine den_callR ?_ (c_laws_toEntryS x0 (sm_list.1 s0).1 (sm_list.1 s0).2) (ty_EntryS _) ?_ | refine den_call ?_ (.ofR (c_laws_toEntryS x0 (sm_list.1 s0).1 (sm_list.1 s0).2)) (ty_EntryS _) ?_); (focus (simp only [VC.den, E.den, List.map_cons, List.map_nil, Option.map_none, Option.map_some, List.getD_cons_zero, List.getD_cons_succ, List.cons_append, List.nil_append, List.append_nil, D.toI_int, D.toB_bool, D.toS_str, D.toA_agg, D.toT_tup, D.toR_sl, enc_toA, encS_toR, encS_len, List.drop_succ_cons, List.drop_zero, List.take_succ_cons, List.take_zero, gsH_nil, and_true]; try exact rfl)); (simp only [List.cons_append, List.nil_append]))
  ((first | refine den_call ?_ (c_laws_toNeed x2 s2) (ty_Need _) ?_ | refine den_callR ?_ (c_laws_toNeed x2 s2) (ty_Need _) ?_ | refine den_call ?_ (.ofR (c_laws_toNeed x2 s2)) (ty_Need _) ?_); (focus (simp only [VC.den, E.den, List.map_cons, List.map_nil, Option.map_none, Option.map_some, List.getD_cons_zero, List.getD_cons_succ, List.cons_append, List.nil_append, List.append_nil, D.toI_int, D.toB_bool, D.toS_str, D.toA_agg, D.toT_tup, D.toR_sl, enc_toA, encS_toR, encS_len, List.drop_succ_cons, List.drop_zero, List.take_succ_cons, List.take_zero, gsH_nil, and_true]; try exact rfl)); (simp only [List.cons_append, List.nil_append]))
  ((first | refine den_call ?_ (c_spec_ProviderOf x0 x1 x2) (trivial) ?_ | refine den_callR ?_ (c_spec_ProviderOf x0 x1 x2) (trivial) ?_ | refine den_call ?_ (.ofR (c_spec_ProviderOf x0 x1 x2)) (trivial) ?_); (focus (simp only [VC.den, E.den, List.map_cons, List.map_nil, Option.map_none, Option.map_some, List.getD_cons_zero, List.getD_cons_succ, List.cons_append, List.nil_append, List.append_nil, D.toI_int, D.toB_bool, D.toS_str, D.toA_agg, D.toT_tup, D.toR_sl, enc_toA, encS_toR, encS_len, List.drop_succ_cons, List.drop_zero, List.take_succ_cons, List.take_zero, gsH_nil, and_true]; try exact rfl)); (simp only [List.cons_append, List.nil_append]))
  ((first | refine den_call ?_ (c_laws_toEntryS x0 (sm_list.1 s0).1 (sm_list.1 s0).2) (ty_EntryS _) ?_ | refine den_callR ?_ (c_laws_toEntryS x0 (sm_list.1 s0).1 (sm_list.1 s0).2) (ty_EntryS _) ?_ | refine den_call ?_ (.ofR (c_laws_toEntryS x0 (sm_list.1 s0).1 (sm_list.1 s0).2)) (ty_EntryS _) ?_); (focus (simp only [VC.den, E.den, List.map_cons, List.map_nil, Option.map_none, Option.map_some, List.getD_cons_zero, List.getD_cons_succ, List.cons_append, List.nil_append, List.append_nil, D.toI_int, D.toB_bool, D.toS_str, D.toA_agg, D.toT_tup, D.toR_sl, enc_toA, encS_toR, encS_len, List.drop_succ_cons, List.drop_zero, List.take_succ_cons, List.take_zero, gsH_nil, and_true]; try exact rfl)); (simp only [List.cons_append, List.nil_append]))
  ((first | refine den_call ?_ (c_laws_toNeed x2 s2) (ty_Need _) ?_ | refine den_callR ?_ (c_laws_toNeed x2 s2) (ty_Need _) ?_ | refine den_call ?_ (.ofR (c_laws_toNeed x2 s2)) (ty_Need _) ?_); (focus (simp only [VC.den, E.den, List.map_cons, List.map_nil, Option.map_none, Option.map_some, List.getD_cons_zero, List.getD_cons_succ, List.cons_append, List.nil_append, List.append_nil, D.toI_int, D.toB_bool, D.toS_str, D.toA_agg, D.toT_tup, D.toR_sl, enc_toA, encS_toR, encS_len, List.drop_succ_cons, List.drop_zero, List.take_succ_cons, List.take_zero, gsH_nil, and_true]; try exact rfl)); (simp only [List.cons_append, List.nil_append]))
  ((first | refine den_call ?_ (c_impl_ProviderOf x0 x1 x2) (trivial) ?_ | refine den_callR ?_ (c_impl_ProviderOf x0 x1 x2) (trivial) ?_ | refine den_call ?_ (.ofR (c_impl_ProviderOf x0 x1 x2)) (trivial) ?_); (focus (simp only [VC.den, E.den, List.map_cons, List.map_nil, Option.map_none, Option.map_some, List.getD_cons_zero, List.getD_cons_succ, List.cons_append, List.nil_append, List.append_nil, D.toI_int, D.toB_bool, D.toS_str, D.toA_agg, D.toT_tup, D.toR_sl, enc_toA, encS_toR, encS_len, List.drop_succ_cons, List.drop_zero, List.take_succ_cons, List.take_zero, gsH_nil, and_true]; try exact rfl)); (simp only [List.cons_append, List.nil_append]))
  refine den_ite (fun h => ?_) (fun _ => ?_)
  · simp [E.den, cmpI, cmpS_neq] at h
  ((first | refine den_call ?_ (c_laws_toEntryS x0 (sm_list.1 s0).1 (sm_list.1 s0).2) (ty_EntryS _) ?_ | refine den_callR ?_ (c_laws_toEntryS x0 (sm_list.1 s0).1 (sm_list.1 s0).2) (ty_EntryS _) ?_ | refine den_call ?_ (.ofR (c_laws_toEntryS x0 (sm_list.1 s0).1 (sm_list.1 s0).2)) (ty_EntryS _) ?_); (focus (simp only [VC.den, E.den, List.map_cons, List.map_nil, Option.map_none, Option.map_some, List.getD_cons_zero, List.getD_cons_succ, List.cons_append, List.nil_append, List.append_nil, D.toI_int, D.toB_bool, D.toS_str, D.toA_agg, D.toT_tup, D.toR_sl, enc_toA, encS_toR, encS_len, List.drop_succ_cons, List.drop_zero, List.take_succ_cons, List.take_zero, gsH_nil, and_true]; try exact rfl)); (simp only [List.cons_append, List.nil_append]))
  ((first | refine den_call ?_ (c_laws_eqEntryS x0 x0) (trivial) ?_ | refine den_callR ?_ (c_laws_eqEntryS x0 x0) (trivial) ?_ | refine den_call ?_ (.ofR (c_laws_eqEntryS x0 x0)) (trivial) ?_); (focus (simp only [VC.den, E.den, List.map_cons, List.map_nil, Option.map_none, Option.map_some, List.getD_cons_zero, List.getD_cons_succ, List.cons_append, List.nil_append, List.append_nil, D.toI_int, D.toB_bool, D.toS_str, D.toA_agg, D.toT_tup, D.toR_sl, enc_toA, encS_toR, encS_len, List.drop_succ_cons, List.drop_zero, List.take_succ_cons, List.take_zero, gsH_nil, and_true]; try exact rfl)); (simp only [List.cons_append, List.nil_append]))
  refine den_ite (fun h => ?_) (fun _ => ?_)
  · simp [E.den] at h
  exact den_ret rfl

theorem own : ownKnob Try.prog.godebug = none := by kernel_rfl
theorem laidOut : laidOutB Try.prog = true := by kernel_rfl
set_option maxRecDepth 100000 in
theorem lifted (os : Os) (started : os.Started) (H : Type) (enc : TypeId × Value → H) :
    ReturnsInHanded {} Try.checked os 12 .any (Rows.fnExactProviderOfSpec.pre6 enc Try.prog Try.f12 Rows.fnExactProviderOfRow.domain false) (Rows.fnExactProviderOfSpec.post enc Try.prog Try.f12 false true false false) := by
  refine returnsInHanded_of_change (C := Try.checked) own started (by kernel_rfl) Try.func12
    (ChangeSpec.witness6 (enc := enc) (C := Try.checked) false ⟨#[], #[.slice none 0 0, .string ⟨#[]⟩, .agg #[.int .i64 0, .string ⟨#[]⟩, .int .i64 0, .int .i64 0]], []⟩ 8 (by kernel_rfl) (by kernel_rfl) (by kernel_rfl) (by kernel_rfl)) ?_
  intro W base args ds gs before hval0 hW hcnd _
  have hval : ∀ (j : Nat) t v, Try.f12.params[j]? = some t → args[j]? = some v → Value.okWide Try.prog W .any base t v := hval0
  have hW' := hW
  obtain ⟨p, q, hA0, hV, rfl, hfz, hnd⟩ := hW
  have hA : DataW.TrodAll enc Try.prog W 0 (fun _ => true) true Try.f12.params.toList args.toList ds p := hA0
  rw [Try.params12] at hA hval
  obtain ⟨v0, vs0, d0, ds0, p0, q0, hargs, rfl, rfl, h0, r0⟩ := trodAll_cons hA
  obtain ⟨v1, vs1, d1, ds1, p1, q1, rfl, rfl, rfl, h1, r1⟩ := trodAll_cons r0
  obtain ⟨v2, vs2, d2, ds2, p2, q2, rfl, rfl, rfl, h2, r2⟩ := trodAll_cons r1
  obtain ⟨rfl, rfl, rfl⟩ := trodAll_nil r2
  obtain rfl : args = #[v0, v1, v2] := by cases args; simp_all
  obtain ⟨rfl, rfl⟩ := trodVars_none hV
  have k0 := h0
  have lt0 : ∀ x ∈ p0, x.block < W.heap.size := by obtain ⟨m, hm⟩ := k0; exact DataW.trod_lt m _ _ _ hm
  have k1 := h1
  have lt1 : ∀ x ∈ p1, x.block < W.heap.size := by obtain ⟨m, hm⟩ := k1; exact DataW.trod_lt m _ _ _ hm
  have k2 := h2
  have lt2 : ∀ x ∈ p2, x.block < W.heap.size := by obtain ⟨m, hm⟩ := k2; exact DataW.trod_lt m _ _ _ hm
  obtain ⟨x0, y0, z0⟩ := open_arg tbl_ok (by kernel_rfl) (hval 0 88 v0 rfl rfl) h0
  obtain ⟨x1, y1, z1⟩ := open_arg tbl_ok (by kernel_rfl) (hval 1 9 v1 rfl rfl) h1
  obtain ⟨x2, y2, z2⟩ := open_arg tbl_ok (by kernel_rfl) (hval 2 69 v2 rfl rfl) h2
  clear hA0 hval0
  refine ((law_run (main [x0, x1, x2] ⟨y0, y1, y2, trivial⟩) (show Rs W M0 [x0, x1, x2] [v0, v1, v2] from ⟨_, _, rfl, z0, ⟨_, _, rfl, z1, ⟨_, _, rfl, z2, rfl⟩⟩⟩))).mono fun e W' ⟨he, bel⟩ => ?_
  subst he
  exact ⟨_, rfl, _, _, _, [], _, [], hW', trodAll_mk1 (shut_bool Try.underlying4 _), (trodAll_cons_mk (Below.trod laidOut (by kernel_rfl) (of_decide_eq_true (by kernel_rfl)) k0 bel lt0) (trodAll_cons_mk (Below.trod laidOut (by kernel_rfl) (of_decide_eq_true (by kernel_rfl)) k1 bel lt1) (trodAll_cons_mk (Below.trod laidOut (by kernel_rfl) (of_decide_eq_true (by kernel_rfl)) k2 bel lt2) trodAll_mk0))), rfl, bel.frame _, fun h => by cases h⟩
theorem over : Rows.fnExactProviderOfRow.holds Try.pinned (OpenSpec.ofChange Rows.fnExactProviderOfSpec) :=
  OpenClaim.holds_of_wide 12 Try.f12 rfl rfl rfl rfl rfl rfl rfl ⟨rfl, rfl, rfl, rfl, rfl⟩ rfl rfl rfl rfl rfl (by kernel_rfl) Try.func12 (by kernel_rfl)
    (of_decide_eq_true (by kernel_rfl)) (by unfold Func.isWrapper; first | (rw [if_pos (by decide +kernel)]; kernel_rfl) | (rw [if_neg (by decide +kernel)]; exact ⟨rfl, rfl⟩))
    (fun os started H enc _ => lifted os started H enc)
/-- THE STATEMENT -/
theorem proved : Rows.FnExactProviderOfSaid := over
#print axioms proved
end Go.Proofs.Ytcjjcffcoleniaa.lawFnExactProviderOf
