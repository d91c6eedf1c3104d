/- FnExactFormatEvent holds for every input, in every start where the variables hold what the program's text lays: the law's condition, met by the contracts of what it calls; the row; the card. -/
import Derived.Test.YtmhfncdhplmomaaDoorBEvText
import Derived.Test.YtmhfncdhplmomaaDoorBLaws
import Derived.Test.YtmhfncdhplmomaaDoorBDoor
import Derived.Test.YtmhfncdhplmomaaDoorBSeat
namespace Go.Proofs.YtmhfncdhplmomaaDoor.lawFnExactFormatEvent
open Go.ChangeShapes Go.WideShapes Go.ChangeAt Go.RowKit
set_option linter.unusedVariables false
set_option linter.unusedSimpArgs false
set_option maxRecDepth 100000
instance instGC : GC where
  inv := fun w => GHas w 0 (fun cs => cs = (words.map Value.string).toArray) ∧ GHas w 5 (fun cs => cs = (Lib.pow10Tab.map fun z => Value.int .u64 z).toArray)
  ng := 5 + 1
  keep := fun h k => ⟨k.1.keep (by decide) h, k.2.keep (by decide) h⟩
instance instWords : HasWords := ⟨fun _ h => h.1⟩
instance instPow : HasPow := ⟨fun _ h => h.2⟩
theorem start {W : World} (hL : laidMet Tryd.prog Rows.fnExactFormatEventRow.laid W) : GInv W ∧ NG ≤ W.heap.size := by
  have h := seat_pow (by kernel_rfl) hL.tail.tail
  exact ⟨⟨seat_words (by kernel_rfl) hL.tail.tail.tail, h⟩, ghas_lt h⟩
theorem main (ds : List D) (h : HasTys tbl.tab ty_laws_FnExactFormatEvent ds) : Fun Tryd.prog 7 none ds (.bool true) [] := by
  obtain ⟨x0, rfl⟩ : ∃ (x0 : Event), ds = [enc x0] := by
    match ds, h with
    | [d0], h =>
      obtain ⟨x0, rfl⟩ := decV_laws_Event (h.1)
      exact ⟨x0, rfl⟩
  refine Fun.ofV vc_laws_FnExactFormatEvent_ok ty_laws_FnExactFormatEvent_ok rfl ?_ (fun hfit => ?_)
  · exact h
  unfold vc_laws_FnExactFormatEvent
  ((first | refine den_callE ?_ (z_Event x0 1048576 (by omega) (by omega)) (fun _ h => isZ.ty h) ?_ | refine den_callRE ?_ (z_Event x0 1048576 (by omega) (by omega)) (fun _ h => isZ.ty h) ?_ | refine den_callE ?_ (exR (z_Event x0 1048576 (by omega) (by omega))) (fun _ h => isZ.ty h) ?_); (focus (simp only [VC.den, E.den, List.map_cons, List.map_nil, Option.map_none, Option.map_some, List.getD_cons_zero, List.getD_cons_succ, List.cons_append, List.nil_append, List.append_nil, D.toI_int, D.toB_bool, D.toS_str, D.toA_agg, D.toT_tup, D.toR_sl, enc_toA, encS_toR, encS_len, List.drop_succ_cons, List.drop_zero, List.take_succ_cons, List.take_zero, gsH_nil, and_true]; try exact rfl)); rintro _ ⟨m0, rfl, _, p0, q0⟩; (simp only [List.cons_append, List.nil_append]))
  refine den_ite (fun _ => den_ret rfl) (fun g0 => ?_)
  simp [E.den, cmpI] at g0
  have s0 := q0 g0
  have jm : x0.call.method.size ≤ 1048576 := s0.2.1.1
  have jt : x0.call.text.size ≤ 1048576 := s0.2.1.2.2
  ((first | refine den_call ?_ (c_laws_toEvent x0 s0) (ty_Event _) ?_ | refine den_callR ?_ (c_laws_toEvent x0 s0) (ty_Event _) ?_ | refine den_call ?_ (.ofR (c_laws_toEvent x0 s0)) (ty_Event _) ?_); (focus (simp only [VC.den, E.den, List.map_cons, List.map_nil, Option.map_none, Option.map_some, List.getD_cons_zero, List.getD_cons_succ, List.cons_append, List.nil_append, List.append_nil, D.toI_int, D.toB_bool, D.toS_str, D.toA_agg, D.toT_tup, D.toR_sl, enc_toA, encS_toR, encS_len, List.drop_succ_cons, List.drop_zero, List.take_succ_cons, List.take_zero, gsH_nil, and_true]; try exact rfl)); (simp only [List.cons_append, List.nil_append]))
  ((first | refine den_call ?_ (c_spec_FormatEvent x0 jm jt) (trivial) ?_ | refine den_callR ?_ (c_spec_FormatEvent x0 jm jt) (trivial) ?_ | refine den_call ?_ (.ofR (c_spec_FormatEvent x0 jm jt)) (trivial) ?_); (focus (simp only [VC.den, E.den, List.map_cons, List.map_nil, Option.map_none, Option.map_some, List.getD_cons_zero, List.getD_cons_succ, List.cons_append, List.nil_append, List.append_nil, D.toI_int, D.toB_bool, D.toS_str, D.toA_agg, D.toT_tup, D.toR_sl, enc_toA, encS_toR, encS_len, List.drop_succ_cons, List.drop_zero, List.take_succ_cons, List.take_zero, gsH_nil, and_true]; try exact rfl)); (simp only [List.cons_append, List.nil_append]))
  ((first | refine den_call ?_ (c_laws_toEvent x0 s0) (ty_Event _) ?_ | refine den_callR ?_ (c_laws_toEvent x0 s0) (ty_Event _) ?_ | refine den_call ?_ (.ofR (c_laws_toEvent x0 s0)) (ty_Event _) ?_); (focus (simp only [VC.den, E.den, List.map_cons, List.map_nil, Option.map_none, Option.map_some, List.getD_cons_zero, List.getD_cons_succ, List.cons_append, List.nil_append, List.append_nil, D.toI_int, D.toB_bool, D.toS_str, D.toA_agg, D.toT_tup, D.toR_sl, enc_toA, encS_toR, encS_len, List.drop_succ_cons, List.drop_zero, List.take_succ_cons, List.take_zero, gsH_nil, and_true]; try exact rfl)); (simp only [List.cons_append, List.nil_append]))
  ((first | refine den_call ?_ (c_impl_FormatEvent x0 jm jt) (trivial) ?_ | refine den_callR ?_ (c_impl_FormatEvent x0 jm jt) (trivial) ?_ | refine den_call ?_ (.ofR (c_impl_FormatEvent x0 jm jt)) (trivial) ?_); (focus (simp only [VC.den, E.den, List.map_cons, List.map_nil, Option.map_none, Option.map_some, List.getD_cons_zero, List.getD_cons_succ, List.cons_append, List.nil_append, List.append_nil, D.toI_int, D.toB_bool, D.toS_str, D.toA_agg, D.toT_tup, D.toR_sl, enc_toA, encS_toR, encS_len, List.drop_succ_cons, List.drop_zero, List.take_succ_cons, List.take_zero, gsH_nil, and_true]; try exact rfl)); (simp only [List.cons_append, List.nil_append]))
  refine den_ite (fun h => ?_) (fun _ => ?_)
  · simp [E.den, cmpI, cmpS_neq] at h
  ((first | refine den_call ?_ (c_laws_toEvent x0 s0) (ty_Event _) ?_ | refine den_callR ?_ (c_laws_toEvent x0 s0) (ty_Event _) ?_ | refine den_call ?_ (.ofR (c_laws_toEvent x0 s0)) (ty_Event _) ?_); (focus (simp only [VC.den, E.den, List.map_cons, List.map_nil, Option.map_none, Option.map_some, List.getD_cons_zero, List.getD_cons_succ, List.cons_append, List.nil_append, List.append_nil, D.toI_int, D.toB_bool, D.toS_str, D.toA_agg, D.toT_tup, D.toR_sl, enc_toA, encS_toR, encS_len, List.drop_succ_cons, List.drop_zero, List.take_succ_cons, List.take_zero, gsH_nil, and_true]; try exact rfl)); (simp only [List.cons_append, List.nil_append]))
  ((first | refine den_call ?_ (c_laws_eqEvent x0 x0) (trivial) ?_ | refine den_callR ?_ (c_laws_eqEvent x0 x0) (trivial) ?_ | refine den_call ?_ (.ofR (c_laws_eqEvent x0 x0)) (trivial) ?_); (focus (simp only [VC.den, E.den, List.map_cons, List.map_nil, Option.map_none, Option.map_some, List.getD_cons_zero, List.getD_cons_succ, List.cons_append, List.nil_append, List.append_nil, D.toI_int, D.toB_bool, D.toS_str, D.toA_agg, D.toT_tup, D.toR_sl, enc_toA, encS_toR, encS_len, List.drop_succ_cons, List.drop_zero, List.take_succ_cons, List.take_zero, gsH_nil, and_true]; try exact rfl)); (simp only [List.cons_append, List.nil_append]))
  refine den_ite (fun h => ?_) (fun _ => ?_)
  · simp [E.den] at h
  exact den_ret rfl

set_option maxRecDepth 100000
theorem jf_wf : (Rows.fnExactFormatEventRow.wf (OpenSpec.ofChange Rows.fnExactFormatEventSpec)) = true := by kernel_rfl
theorem jf_reads : (Tryd.f7.params.all (Tryd.prog.readableRec ·)) = true := by kernel_rfl
theorem jf_tie : (namedTie Tryd.prog Rows.fnExactFormatEventRow.named Rows.fnExactFormatEventSpec.vars) = true := by kernel_rfl
theorem jf_inPl : ((Rows.fnExactFormatEventRow.inPlace == Tryd.prog.inPlace 7)) = true := by kernel_rfl
theorem jf_unfol : ((Rows.fnExactFormatEventRow.unfollowed == Tryd.prog.unfollowed 7)) = true := by kernel_rfl
theorem jf_recur : ((Rows.fnExactFormatEventRow.recurses == Tryd.prog.recurses 7)) = true := by kernel_rfl
theorem jf_varsN : ((Rows.fnExactFormatEventRow.named == Tryd.prog.varsNamed 7)) = true := by kernel_rfl
theorem jf_maps : ((Rows.fnExactFormatEventRow.maps == (Tryd.f7.params.toList ++ Rows.fnExactFormatEventSpec.plain.varTypes Tryd.prog).any (Tryd.prog.mapsRec ·))) = true := by kernel_rfl
theorem jf_ifaces : ((Rows.fnExactFormatEventRow.ifaces == (Tryd.f7.params.toList ++ Rows.fnExactFormatEventSpec.plain.varTypes Tryd.prog).any (Tryd.prog.ifacesRec ·))) = true := by kernel_rfl
theorem jf_mapsO : ((Rows.fnExactFormatEventRow.mapsOut == Tryd.prog.mapsAmong Tryd.f7.resultTypes.toList)) = true := by kernel_rfl
theorem jf_loops : ((Rows.fnExactFormatEventRow.loops == (Tryd.f7.params.toList ++ Rows.fnExactFormatEventSpec.plain.varTypes Tryd.prog).any (Tryd.prog.loopsFrom ·))) = true := by kernel_rfl
theorem jf_wide : ((Rows.fnExactFormatEventRow.wideKeys == (Tryd.f7.params.toList ++ Rows.fnExactFormatEventSpec.plain.varTypes Tryd.prog ++ Tryd.f7.resultTypes.toList).any (Tryd.prog.wideKeysFrom ·))) = true := by kernel_rfl
theorem jf_varR : (Rows.fnExactFormatEventSpec.vars.all (Tryd.prog.varReadable ·)) = true := by kernel_rfl
theorem jf_resT : (Tryd.f7.resultTypes.all (fun t => Tryd.prog.readableRec t && decide (t < Tryd.prog.types.size))) = true := by kernel_rfl
theorem jf_ifO : ((Rows.fnExactFormatEventRow.ifacesOut == Tryd.f7.resultTypes.toList.any (Tryd.prog.ifacesRec ·))) = true := by kernel_rfl
theorem jf_loO : ((Rows.fnExactFormatEventRow.loopsOut == Tryd.f7.resultTypes.toList.any (Tryd.prog.loopsFrom ·))) = true := by kernel_rfl
theorem jf_kinds : ((Rows.fnExactFormatEventRow.kinds == (if Rows.fnExactFormatEventRow.domain.isEmpty then [] else Tryd.f7.params.toList.map fun t => match Tryd.prog.underlying t with | some (.int k) => some k | _ => none))) = true := by kernel_rfl
theorem jf_veil : ((Rows.fnExactFormatEventRow.veiled == (Tryd.f7.params.toList ++ Rows.fnExactFormatEventSpec.plain.varTypes Tryd.prog ++ Tryd.f7.resultTypes.toList).any (Tryd.prog.veiledRec ·))) = true := by kernel_rfl
theorem jf_veilF : (Rows.fnExactFormatEventRow.veiledFits Tryd.prog Tryd.f7.params.toList (Tryd.f7.params.toList ++ Rows.fnExactFormatEventSpec.plain.varTypes Tryd.prog ++ Tryd.f7.resultTypes.toList)) = true := by kernel_rfl
theorem closed : joinedFacts Tryd.prog 7 Tryd.f7 Rows.fnExactFormatEventSpec Rows.fnExactFormatEventRow = true :=
  (and_tt (and_tt (and_tt (and_tt (and_tt (and_tt (and_tt (and_tt (and_tt (and_tt (and_tt (and_tt (and_tt (and_tt (and_tt (and_tt (and_tt (and_tt (and_tt (and_tt (and_tt (and_tt (and_tt (and_tt (and_tt (and_tt (and_tt (and_tt (and_tt (and_tt (and_tt jf_wf jfLaid) jfRowed) jf_reads) jf_tie) rfl) jfStops) rfl) jfKnobs) jf_inPl) jf_unfol) jf_recur) jf_varsN) jf_maps) jf_ifaces) jf_mapsO) jf_loops) jf_wide) jf_varR) jf_resT) jf_ifO) jf_loO) jfKeys) rfl) jfHeard) jfEnter) jfLifted) jfMake) jf_kinds) rfl) jf_veil) jf_veilF)
noncomputable def low : Nat := (World.holding Tryd.prog default ⟨#[], #[], []⟩).heap.size
/-- A start that fits: the variables as their initialisers lay them. -/
noncomputable def laidWorld (os : Os) : World :=
  let w0 := World.holding Tryd.prog os ⟨#[], #[], []⟩
  { w0 with heap := w0.heap
    |>.modify 6 (fun | .cells _ t f => .cells #[.int .u8 0, .int .u8 1, .int .u8 28, .int .u8 2, .int .u8 29, .int .u8 14, .int .u8 24, .int .u8 3, .int .u8 30, .int .u8 22, .int .u8 20, .int .u8 15, .int .u8 25, .int .u8 17, .int .u8 4, .int .u8 8, .int .u8 31, .int .u8 27, .int .u8 13, .int .u8 23, .int .u8 21, .int .u8 19, .int .u8 16, .int .u8 7, .int .u8 26, .int .u8 12, .int .u8 18, .int .u8 6, .int .u8 11, .int .u8 5, .int .u8 10, .int .u8 9] t f | o => o)
    |>.modify 7 (fun | .cells _ t f => .cells #[.int .u8 0, .int .u8 1, .int .u8 56, .int .u8 2, .int .u8 57, .int .u8 49, .int .u8 28, .int .u8 3, .int .u8 61, .int .u8 58, .int .u8 42, .int .u8 50, .int .u8 38, .int .u8 29, .int .u8 17, .int .u8 4, .int .u8 62, .int .u8 47, .int .u8 59, .int .u8 36, .int .u8 45, .int .u8 43, .int .u8 51, .int .u8 22, .int .u8 53, .int .u8 39, .int .u8 33, .int .u8 30, .int .u8 24, .int .u8 18, .int .u8 12, .int .u8 5, .int .u8 63, .int .u8 55, .int .u8 48, .int .u8 27, .int .u8 60, .int .u8 41, .int .u8 37, .int .u8 16, .int .u8 46, .int .u8 35, .int .u8 44, .int .u8 21, .int .u8 52, .int .u8 32, .int .u8 23, .int .u8 11, .int .u8 54, .int .u8 26, .int .u8 40, .int .u8 15, .int .u8 34, .int .u8 20, .int .u8 31, .int .u8 10, .int .u8 25, .int .u8 14, .int .u8 19, .int .u8 9, .int .u8 13, .int .u8 8, .int .u8 7, .int .u8 6] t f | o => o)
    |>.modify 5 (fun | .cells _ t f => .cells #[.int .u64 1, .int .u64 10, .int .u64 100, .int .u64 1000, .int .u64 10000, .int .u64 100000, .int .u64 1000000, .int .u64 10000000, .int .u64 100000000, .int .u64 1000000000, .int .u64 10000000000, .int .u64 100000000000, .int .u64 1000000000000, .int .u64 10000000000000, .int .u64 100000000000000, .int .u64 1000000000000000, .int .u64 10000000000000000, .int .u64 100000000000000000, .int .u64 1000000000000000000, .int .u64 10000000000000000000] t f | o => o)
    |>.modify 0 (fun | .cells _ t f => .cells #[.string ⟨#[]⟩, .string ⟨#[115, 116, 97, 114, 116]⟩, .string ⟨#[115, 116, 111, 112]⟩, .string ⟨#[99, 97, 108, 108]⟩, .string ⟨#[104, 101, 97, 108]⟩, .string ⟨#[115, 119, 97, 112]⟩] t f | o => o) }
set_option maxRecDepth 100000 in
theorem laid_met (os : Os) (args : Array Value) : laidMet Tryd.prog Rows.fnExactFormatEventRow.laid ((laidWorld os).forCall (fun _ _ => 0) ⟨#[], args, []⟩).memory :=
  laidMet_of_run' 8 (by kernel_rfl) (by kernel_rfl)
set_option maxRecDepth 100000 in
theorem lifted (os : Os) (started : os.Started) (H : Type) (enc : TypeId × Value → H) :
    ReturnsInHanded {} Tryd.checked os 7 .any (fun w args => (Rows.fnExactFormatEventSpec.pre enc Tryd.prog Tryd.f7 Rows.fnExactFormatEventRow.domain false w args ∧ laidMet Tryd.prog Rows.fnExactFormatEventRow.laid w) ∧ sizedMet enc Tryd.prog Tryd.f7 (OpenSpec.ofChange Rows.fnExactFormatEventSpec) false w args)
      (Rows.fnExactFormatEventSpec.post enc Tryd.prog Tryd.f7 false true false false) := by
  refine handed_laid_shaped (C := Tryd.checked) (X := fun w _ => laidMet Tryd.prog Rows.fnExactFormatEventRow.laid w) (fun _ _ _ hh h => h.of_heap hh) jfOwn started (by kernel_rfl) Tryd.func7
    (ChangeSpec.witness_at (enc := enc) (C := Tryd.checked) (os := os) (X := fun w _ => laidMet Tryd.prog Rows.fnExactFormatEventRow.laid w) false (laidWorld os) #[.agg #[.int .i64 0, .string ⟨#[]⟩, .string ⟨#[]⟩, .string ⟨#[]⟩, .int .i64 0, .string ⟨#[]⟩, .slice none 0 0]] 8 rfl (by kernel_rfl) (by kernel_rfl) (by kernel_rfl) (by kernel_rfl) (by kernel_rfl) (laid_met os _)) ?_
  intro W base args ds gs before hval0 hW _ hsz0 hsh hL _
  have hval : ∀ (j : Nat) t v, Tryd.f7.params[j]? = some t → args[j]? = some v → Value.okWide Tryd.prog W .any base t v := hval0
  have hW' := hW
  obtain ⟨p, q, hA0, hV, rfl, hfz, hnd⟩ := hW
  have hA : DataW.TrodAll enc Tryd.prog W 0 (fun _ => true) true Tryd.f7.params.toList args.toList ds p := hA0
  rw [Tryd.params7] at hA hval
  obtain ⟨v0, vs0, d0, ds0, p0, q0, hargs, rfl, rfl, h0, r0⟩ := trodAll_cons hA
  obtain ⟨rfl, rfl, rfl⟩ := trodAll_nil r0
  obtain rfl : args = #[v0] := by cases args; simp_all
  have k0 := h0
  have lt0 : ∀ x ∈ p0, x.block < W.heap.size := by obtain ⟨m, hm⟩ := k0; exact DataW.trod_lt m _ _ _ hm
  obtain ⟨x0, y0, z0⟩ := open_arg tbl_ok (by kernel_rfl) (hval 0 54 v0 rfl rfl) h0
  clear hA0 hval0
  refine ((law_run (main [x0] ⟨y0, trivial⟩) ⟨fun p hp => hp.elim, start hL⟩ (show Rs W M0 [x0] [v0] from ⟨_, _, rfl, z0, rfl⟩))).mono fun e W' ⟨he, bel⟩ => ?_
  subst he
  obtain ⟨dv, rfl, pv, vv⟩ := vars_kept jfLaid (g := 0) (t := 87) (by kernel_rfl) (by kernel_rfl) (by kernel_rfl) (of_decide_eq_true (by kernel_rfl)) hV bel
  exact ⟨_, rfl, _, _, _, [], _, pv, hW', trodAll_mk1 (shut_bool Tryd.underlying4 _), (trodAll_cons_mk (Below.trod jfLaid (by kernel_rfl) (of_decide_eq_true (by kernel_rfl)) k0 bel lt0) trodAll_mk0), vv, bel.frame _, fun h => by cases h⟩
theorem over : Rows.fnExactFormatEventRow.holds Tryd.pinned (OpenSpec.ofChange Rows.fnExactFormatEventSpec) :=
  OpenClaim.holds_of_wide 7 Tryd.f7 rfl rfl rfl rfl rfl rfl rfl ⟨rfl, rfl, rfl, rfl, rfl⟩ rfl rfl rfl rfl rfl (by kernel_rfl) Tryd.func7 closed
    (of_decide_eq_true (by kernel_rfl)) (by unfold Func.isWrapper; first | (rw [if_pos (by decide +kernel)]; kernel_rfl) | (rw [if_neg (by decide +kernel)]; exact ⟨rfl, rfl⟩))
    (fun os started H enc _ => lifted os started H enc)

theorem row_tie : Rows.fnExactFormatEventRow.laidByTextAt .later Tryd.pinned [.data, .data, .data, .data] true := fnExactFormatEvent_row_tie
/-- THE STATEMENT -/
theorem proved : Rows.FnExactFormatEventCardSaid :=
  Claim7.holds_tied_plain_at .later [] [.data, .data, .data, .data] true Rows.fnExactFormatEventCard.stood.harness true
    over (fun _ h => by cases h) (by kernel_rfl) (fun _ h => by cases h) row_tie rfl ⟨rfl, rfl⟩ (by kernel_rfl) rfl
    (fun f fn hf hfn => by
      obtain rfl : f = 7 := Option.some.inj ((show Tryd.prog.funcNamed Rows.fnExactFormatEventRow.func = some 7 by kernel_rfl).symm.trans hf) |>.symm
      obtain rfl : fn = Tryd.f7 := (Option.some.inj (Tryd.func7.symm.trans hfn)).symm
      exact ⟨by kernel_rfl, stand_in (by kernel_rfl)⟩)
    (by kernel_rfl)
#print axioms proved
end Go.Proofs.YtmhfncdhplmomaaDoor.lawFnExactFormatEvent
