/- FnExactFormatVersion holds for every input, in every start where the variables hold what the program's text lays: the law's condition, met by the contracts of what it calls; the row; the card. -/
import Derived.Test.YtmhfncdhplmomaaDoorBVerText
import Derived.Test.YtmhfncdhplmomaaDoorBLaws
import Derived.Test.YtmhfncdhplmomaaDoorBDoor
import Derived.Test.YtmhfncdhplmomaaDoorBSeat
namespace Go.Proofs.YtmhfncdhplmomaaDoor.lawFnExactFormatVersion
open Go.ChangeShapes Go.WideShapes Go.ChangeAt Go.RowKit
set_option linter.unusedVariables false
set_option linter.unusedSimpArgs false
set_option maxRecDepth 100000
instance instGC : GC := ⟨fun _ => True, 0, fun _ _ => trivial⟩
theorem main (ds : List D) (h : HasTys tbl.tab ty_laws_FnExactFormatVersion ds) : Fun Tryd.prog 3 none ds (.bool true) [] := by
  obtain ⟨v, rfl⟩ : ∃ v : Ver, ds = [enc v] := by
    match ds, h with
    | [x], h => obtain ⟨a, rfl⟩ := decV_laws_Ver h.1; exact ⟨a, rfl⟩
  refine Fun.ofV vc_laws_FnExactFormatVersion_ok ty_laws_FnExactFormatVersion_ok rfl ?_ (fun hfit => ?_)
  · exact h
  unfold vc_laws_FnExactFormatVersion
  ((first | refine den_call ?_ (c_laws_toVersion v) (ty_Ver v) ?_ | refine den_callR ?_ (c_laws_toVersion v) (ty_Ver v) ?_ | refine den_call ?_ (.ofR (c_laws_toVersion v)) (ty_Ver v) ?_); (focus (simp only [VC.den, E.den, List.map_cons, List.map_nil, Option.map_none, Option.map_some, List.getD_cons_zero, List.getD_cons_succ, List.cons_append, List.nil_append, List.append_nil, D.toI_int, D.toB_bool, D.toS_str, D.toA_agg, D.toT_tup, D.toR_sl, enc_toA, encS_toR, encS_len, List.drop_succ_cons, List.drop_zero, List.take_succ_cons, List.take_zero, gsH_nil, and_true]; try exact rfl)); (simp only [List.cons_append, List.nil_append]))
  ((first | refine den_call ?_ (c_spec_FormatVersion v) (trivial) ?_ | refine den_callR ?_ (c_spec_FormatVersion v) (trivial) ?_ | refine den_call ?_ (.ofR (c_spec_FormatVersion v)) (trivial) ?_); (focus (simp only [VC.den, E.den, List.map_cons, List.map_nil, Option.map_none, Option.map_some, List.getD_cons_zero, List.getD_cons_succ, List.cons_append, List.nil_append, List.append_nil, D.toI_int, D.toB_bool, D.toS_str, D.toA_agg, D.toT_tup, D.toR_sl, enc_toA, encS_toR, encS_len, List.drop_succ_cons, List.drop_zero, List.take_succ_cons, List.take_zero, gsH_nil, and_true]; try exact rfl)); (simp only [List.cons_append, List.nil_append]))
  ((first | refine den_call ?_ (c_laws_toVersion v) (ty_Ver v) ?_ | refine den_callR ?_ (c_laws_toVersion v) (ty_Ver v) ?_ | refine den_call ?_ (.ofR (c_laws_toVersion v)) (ty_Ver v) ?_); (focus (simp only [VC.den, E.den, List.map_cons, List.map_nil, Option.map_none, Option.map_some, List.getD_cons_zero, List.getD_cons_succ, List.cons_append, List.nil_append, List.append_nil, D.toI_int, D.toB_bool, D.toS_str, D.toA_agg, D.toT_tup, D.toR_sl, enc_toA, encS_toR, encS_len, List.drop_succ_cons, List.drop_zero, List.take_succ_cons, List.take_zero, gsH_nil, and_true]; try exact rfl)); (simp only [List.cons_append, List.nil_append]))
  ((first | refine den_call ?_ (c_impl_FormatVersion v) (trivial) ?_ | refine den_callR ?_ (c_impl_FormatVersion v) (trivial) ?_ | refine den_call ?_ (.ofR (c_impl_FormatVersion v)) (trivial) ?_); (focus (simp only [VC.den, E.den, List.map_cons, List.map_nil, Option.map_none, Option.map_some, List.getD_cons_zero, List.getD_cons_succ, List.cons_append, List.nil_append, List.append_nil, D.toI_int, D.toB_bool, D.toS_str, D.toA_agg, D.toT_tup, D.toR_sl, enc_toA, encS_toR, encS_len, List.drop_succ_cons, List.drop_zero, List.take_succ_cons, List.take_zero, gsH_nil, and_true]; try exact rfl)); (simp only [List.cons_append, List.nil_append]))
  refine den_ite (fun h => ?_) (fun _ => den_ret rfl)
  simp [E.den, cmpS] at h

set_option maxRecDepth 100000
theorem jf_wf : (Rows.fnExactFormatVersionRow.wf (OpenSpec.ofChange Rows.fnExactFormatVersionSpec)) = true := by kernel_rfl
theorem jf_reads : (Tryd.f3.params.all (Tryd.prog.readableRec ·)) = true := by kernel_rfl
theorem jf_tie : (namedTie Tryd.prog Rows.fnExactFormatVersionRow.named Rows.fnExactFormatVersionSpec.vars) = true := by kernel_rfl
theorem jf_inPl : ((Rows.fnExactFormatVersionRow.inPlace == Tryd.prog.inPlace 3)) = true := by kernel_rfl
theorem jf_unfol : ((Rows.fnExactFormatVersionRow.unfollowed == Tryd.prog.unfollowed 3)) = true := by kernel_rfl
theorem jf_recur : ((Rows.fnExactFormatVersionRow.recurses == Tryd.prog.recurses 3)) = true := by kernel_rfl
theorem jf_varsN : ((Rows.fnExactFormatVersionRow.named == Tryd.prog.varsNamed 3)) = true := by kernel_rfl
theorem jf_maps : ((Rows.fnExactFormatVersionRow.maps == (Tryd.f3.params.toList ++ Rows.fnExactFormatVersionSpec.plain.varTypes Tryd.prog).any (Tryd.prog.mapsRec ·))) = true := by kernel_rfl
theorem jf_ifaces : ((Rows.fnExactFormatVersionRow.ifaces == (Tryd.f3.params.toList ++ Rows.fnExactFormatVersionSpec.plain.varTypes Tryd.prog).any (Tryd.prog.ifacesRec ·))) = true := by kernel_rfl
theorem jf_mapsO : ((Rows.fnExactFormatVersionRow.mapsOut == Tryd.prog.mapsAmong Tryd.f3.resultTypes.toList)) = true := by kernel_rfl
theorem jf_loops : ((Rows.fnExactFormatVersionRow.loops == (Tryd.f3.params.toList ++ Rows.fnExactFormatVersionSpec.plain.varTypes Tryd.prog).any (Tryd.prog.loopsFrom ·))) = true := by kernel_rfl
theorem jf_wide : ((Rows.fnExactFormatVersionRow.wideKeys == (Tryd.f3.params.toList ++ Rows.fnExactFormatVersionSpec.plain.varTypes Tryd.prog ++ Tryd.f3.resultTypes.toList).any (Tryd.prog.wideKeysFrom ·))) = true := by kernel_rfl
theorem jf_varR : (Rows.fnExactFormatVersionSpec.vars.all (Tryd.prog.varReadable ·)) = true := by kernel_rfl
theorem jf_resT : (Tryd.f3.resultTypes.all (fun t => Tryd.prog.readableRec t && decide (t < Tryd.prog.types.size))) = true := by kernel_rfl
theorem jf_ifO : ((Rows.fnExactFormatVersionRow.ifacesOut == Tryd.f3.resultTypes.toList.any (Tryd.prog.ifacesRec ·))) = true := by kernel_rfl
theorem jf_loO : ((Rows.fnExactFormatVersionRow.loopsOut == Tryd.f3.resultTypes.toList.any (Tryd.prog.loopsFrom ·))) = true := by kernel_rfl
theorem jf_kinds : ((Rows.fnExactFormatVersionRow.kinds == (if Rows.fnExactFormatVersionRow.domain.isEmpty then [] else Tryd.f3.params.toList.map fun t => match Tryd.prog.underlying t with | some (.int k) => some k | _ => none))) = true := by kernel_rfl
theorem jf_veil : ((Rows.fnExactFormatVersionRow.veiled == (Tryd.f3.params.toList ++ Rows.fnExactFormatVersionSpec.plain.varTypes Tryd.prog ++ Tryd.f3.resultTypes.toList).any (Tryd.prog.veiledRec ·))) = true := by kernel_rfl
theorem jf_veilF : (Rows.fnExactFormatVersionRow.veiledFits Tryd.prog Tryd.f3.params.toList (Tryd.f3.params.toList ++ Rows.fnExactFormatVersionSpec.plain.varTypes Tryd.prog ++ Tryd.f3.resultTypes.toList)) = true := by kernel_rfl
theorem closed : joinedFacts Tryd.prog 3 Tryd.f3 Rows.fnExactFormatVersionSpec Rows.fnExactFormatVersionRow = true :=
  (and_tt (and_tt (and_tt (and_tt (and_tt (and_tt (and_tt (and_tt (and_tt (and_tt (and_tt (and_tt (and_tt (and_tt (and_tt (and_tt (and_tt (and_tt (and_tt (and_tt (and_tt (and_tt (and_tt (and_tt (and_tt (and_tt (and_tt (and_tt (and_tt (and_tt (and_tt jf_wf jfLaid) jfRowed) jf_reads) jf_tie) rfl) jfStops) rfl) jfKnobs) jf_inPl) jf_unfol) jf_recur) jf_varsN) jf_maps) jf_ifaces) jf_mapsO) jf_loops) jf_wide) jf_varR) jf_resT) jf_ifO) jf_loO) jfKeys) rfl) jfHeard) jfEnter) jfLifted) jfMake) jf_kinds) rfl) jf_veil) jf_veilF)
noncomputable def low : Nat := (World.holding Tryd.prog default ⟨#[], #[], []⟩).heap.size
/-- A start that fits: the variables as their initialisers lay them. -/
noncomputable def laidWorld (os : Os) : World :=
  let w0 := World.holding Tryd.prog os ⟨#[], #[], []⟩
  { w0 with heap := w0.heap
    |>.modify 6 (fun | .cells _ t f => .cells #[.int .u8 0, .int .u8 1, .int .u8 28, .int .u8 2, .int .u8 29, .int .u8 14, .int .u8 24, .int .u8 3, .int .u8 30, .int .u8 22, .int .u8 20, .int .u8 15, .int .u8 25, .int .u8 17, .int .u8 4, .int .u8 8, .int .u8 31, .int .u8 27, .int .u8 13, .int .u8 23, .int .u8 21, .int .u8 19, .int .u8 16, .int .u8 7, .int .u8 26, .int .u8 12, .int .u8 18, .int .u8 6, .int .u8 11, .int .u8 5, .int .u8 10, .int .u8 9] t f | o => o)
    |>.modify 7 (fun | .cells _ t f => .cells #[.int .u8 0, .int .u8 1, .int .u8 56, .int .u8 2, .int .u8 57, .int .u8 49, .int .u8 28, .int .u8 3, .int .u8 61, .int .u8 58, .int .u8 42, .int .u8 50, .int .u8 38, .int .u8 29, .int .u8 17, .int .u8 4, .int .u8 62, .int .u8 47, .int .u8 59, .int .u8 36, .int .u8 45, .int .u8 43, .int .u8 51, .int .u8 22, .int .u8 53, .int .u8 39, .int .u8 33, .int .u8 30, .int .u8 24, .int .u8 18, .int .u8 12, .int .u8 5, .int .u8 63, .int .u8 55, .int .u8 48, .int .u8 27, .int .u8 60, .int .u8 41, .int .u8 37, .int .u8 16, .int .u8 46, .int .u8 35, .int .u8 44, .int .u8 21, .int .u8 52, .int .u8 32, .int .u8 23, .int .u8 11, .int .u8 54, .int .u8 26, .int .u8 40, .int .u8 15, .int .u8 34, .int .u8 20, .int .u8 31, .int .u8 10, .int .u8 25, .int .u8 14, .int .u8 19, .int .u8 9, .int .u8 13, .int .u8 8, .int .u8 7, .int .u8 6] t f | o => o)
    |>.modify 5 (fun | .cells _ t f => .cells #[.int .u64 1, .int .u64 10, .int .u64 100, .int .u64 1000, .int .u64 10000, .int .u64 100000, .int .u64 1000000, .int .u64 10000000, .int .u64 100000000, .int .u64 1000000000, .int .u64 10000000000, .int .u64 100000000000, .int .u64 1000000000000, .int .u64 10000000000000, .int .u64 100000000000000, .int .u64 1000000000000000, .int .u64 10000000000000000, .int .u64 100000000000000000, .int .u64 1000000000000000000, .int .u64 10000000000000000000] t f | o => o) }
set_option maxRecDepth 100000 in
theorem laid_met (os : Os) (args : Array Value) : laidMet Tryd.prog Rows.fnExactFormatVersionRow.laid ((laidWorld os).forCall (fun _ _ => 0) ⟨#[], args, []⟩).memory :=
  laidMet_of_run' 8 (by kernel_rfl) (by kernel_rfl)
set_option maxRecDepth 100000 in
theorem lifted (os : Os) (started : os.Started) (H : Type) (enc : TypeId × Value → H) :
    ReturnsInHanded {} Tryd.checked os 3 .any (fun w args => (Rows.fnExactFormatVersionSpec.pre enc Tryd.prog Tryd.f3 Rows.fnExactFormatVersionRow.domain false w args ∧ laidMet Tryd.prog Rows.fnExactFormatVersionRow.laid w) ∧ sizedMet enc Tryd.prog Tryd.f3 (OpenSpec.ofChange Rows.fnExactFormatVersionSpec) false w args)
      (Rows.fnExactFormatVersionSpec.post enc Tryd.prog Tryd.f3 false true false false) := by
  refine handed_laid_shaped (C := Tryd.checked) (X := fun w _ => laidMet Tryd.prog Rows.fnExactFormatVersionRow.laid w) (fun _ _ _ hh h => h.of_heap hh) jfOwn started (by kernel_rfl) Tryd.func3
    (ChangeSpec.witness_at (enc := enc) (C := Tryd.checked) (os := os) (X := fun w _ => laidMet Tryd.prog Rows.fnExactFormatVersionRow.laid w) false (laidWorld os) #[.agg #[.int .i64 0, .int .i64 0]] 8 rfl (by kernel_rfl) (by kernel_rfl) (by kernel_rfl) (by kernel_rfl) (by kernel_rfl) (laid_met os _)) ?_
  intro W base args ds gs before hval0 hW _ hsz0 hsh hL _
  have hval : ∀ (j : Nat) t v, Tryd.f3.params[j]? = some t → args[j]? = some v → Value.okWide Tryd.prog W .any base t v := hval0
  have hW' := hW
  obtain ⟨p, q, hA0, hV, rfl, hfz, hnd⟩ := hW
  have hA : DataW.TrodAll enc Tryd.prog W 0 (fun _ => true) true Tryd.f3.params.toList args.toList ds p := hA0
  rw [Tryd.params3] at hA hval
  obtain ⟨v0, vs0, d0, ds0, p0, q0, hargs, rfl, rfl, h0, r0⟩ := trodAll_cons hA
  obtain ⟨rfl, rfl, rfl⟩ := trodAll_nil r0
  obtain rfl : args = #[v0] := by cases args; simp_all
  obtain ⟨rfl, rfl⟩ := trodVars_none hV
  have k0 := h0
  have lt0 : ∀ x ∈ p0, x.block < W.heap.size := by obtain ⟨m, hm⟩ := k0; exact DataW.trod_lt m _ _ _ hm
  obtain ⟨x0, y0, z0⟩ := open_arg tbl_ok (by kernel_rfl) (hval 0 23 v0 rfl rfl) h0
  clear hA0 hval0
  refine ((law_run (main [x0] ⟨y0, trivial⟩) ⟨fun p hp => hp.elim, trivial, Nat.zero_le _⟩ (show Rs W M0 [x0] [v0] from ⟨_, _, rfl, z0, rfl⟩))).mono fun e W' ⟨he, bel⟩ => ?_
  subst he
  exact ⟨_, rfl, _, _, _, [], _, [], hW', trodAll_mk1 (shut_bool Tryd.underlying4 _), (trodAll_cons_mk (Below.trod jfLaid (by kernel_rfl) (of_decide_eq_true (by kernel_rfl)) k0 bel lt0) trodAll_mk0), rfl, bel.frame _, fun h => by cases h⟩
theorem over : Rows.fnExactFormatVersionRow.holds Tryd.pinned (OpenSpec.ofChange Rows.fnExactFormatVersionSpec) :=
  OpenClaim.holds_of_wide 3 Tryd.f3 rfl rfl rfl rfl rfl rfl rfl ⟨rfl, rfl, rfl, rfl, rfl⟩ rfl rfl rfl rfl rfl (by kernel_rfl) Tryd.func3 closed
    (of_decide_eq_true (by kernel_rfl)) (by unfold Func.isWrapper; first | (rw [if_pos (by decide +kernel)]; kernel_rfl) | (rw [if_neg (by decide +kernel)]; exact ⟨rfl, rfl⟩))
    (fun os started H enc _ => lifted os started H enc)

theorem row_tie : Rows.fnExactFormatVersionRow.laidByTextAt .later Tryd.pinned [.data, .data, .data] true := fnExactFormatVersion_row_tie
/-- THE STATEMENT -/
theorem proved : Rows.FnExactFormatVersionCardSaid :=
  Claim7.holds_tied_plain_at .later [] [.data, .data, .data] true Rows.fnExactFormatVersionCard.stood.harness true
    over (fun _ h => by cases h) (by kernel_rfl) (fun _ h => by cases h) row_tie rfl ⟨rfl, rfl⟩ (by kernel_rfl) rfl
    (fun f fn hf hfn => by
      obtain rfl : f = 3 := Option.some.inj ((show Tryd.prog.funcNamed Rows.fnExactFormatVersionRow.func = some 3 by kernel_rfl).symm.trans hf) |>.symm
      obtain rfl : fn = Tryd.f3 := (Option.some.inj (Tryd.func3.symm.trans hfn)).symm
      exact ⟨by kernel_rfl, stand_in (by kernel_rfl)⟩)
    (by kernel_rfl)
#print axioms proved
end Go.Proofs.YtmhfncdhplmomaaDoor.lawFnExactFormatVersion
