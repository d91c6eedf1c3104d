/- FnOrder holds for every input: what the law's condition asks, met by the contracts of what it calls, and the row. No condition. -/
import Derived.Test.YthoafgehfgblaaaBRegLaw
import Derived.Test.YthoafgehfgblaaaBSeat
import Derived.Test.YthoafgehfgblaaaAOpen
namespace Go.Proofs.Ythoafgehfgblaaa.lawFnOrder
open Go.ChangeShapes Go.WideShapes Go.ChangeAt Go.RowKit Go
set_option linter.unusedVariables false
set_option linter.unusedSimpArgs false
set_option maxRecDepth 100000
theorem main (ds : List D) (h : HasTys tbl.tab ty_laws_FnOrder ds) : Fun Try.prog 6 none ds (.bool true) [] := by
  obtain ⟨rows, rfl, hr0, hrt⟩ := code_arg rfl h
  refine Fun.ofV vc_laws_FnOrder_ok ty_laws_FnOrder_ok rfl ?_ (fun hfit => ?_)
  · exact h
  unfold vc_laws_FnOrder
  ((first | refine den_call ?_ (c_laws_big rows hr0) (trivial) ?_ | refine den_callR ?_ (c_laws_big rows hr0) (trivial) ?_ | refine den_call ?_ (.ofR (c_laws_big rows hr0)) (trivial) ?_); (focus (simp only [VC.den, E.den, dEq, gsH_nil, and_true]; try exact rfl)); (simp only [List.cons_append, List.nil_append]))
  refine den_ite (fun _ => den_ret rfl) (fun _ => ?_)
  ((first | refine den_callE ?_ (d_DrawRegistry hrt) (fun _ h => isReg.ty h) ?_ | refine den_callRE ?_ (d_DrawRegistry hrt) (fun _ h => isReg.ty h) ?_ | refine den_callE ?_ (exR (d_DrawRegistry hrt)) (fun _ h => isReg.ty h) ?_); (focus (simp only [VC.den, E.den, dEq, gsH_nil, and_true]; try exact rfl)); rintro _ ⟨l, rfl, hr, hfew⟩; (simp only [List.cons_append, List.nil_append]))
  have h6 := (reg_parts hr).1
  have hl20 : l.length ≤ 1048576 := by omega
  ((first | refine den_call ?_ (c_impl_StartOrder l hl20) (ty_strS _) ?_ | refine den_callR ?_ (c_impl_StartOrder l hl20) (ty_strS _) ?_ | refine den_call ?_ (.ofR (c_impl_StartOrder l hl20)) (ty_strS _) ?_); (focus (simp only [VC.den, E.den, dEq, gsH_nil, and_true]; try exact rfl)); (simp only [List.cons_append, List.nil_append]))
  ((first | refine den_call ?_ (c_impl_StuckOf l hl20) (ty_strS _) ?_ | refine den_callR ?_ (c_impl_StuckOf l hl20) (ty_strS _) ?_ | refine den_call ?_ (.ofR (c_impl_StuckOf l hl20)) (ty_strS _) ?_); (focus (simp only [VC.den, E.den, dEq, gsH_nil, and_true]; try exact rfl)); (simp only [List.cons_append, List.nil_append]))
  have hlen := ord_lens hr
  refine den_ite (fun h => ?_) (fun _ => ?_)
  · simp only [E.den, dEq, iEq, sEq] at h
    rw [ar_add (by omega) (by omega)] at h
    simp at h; omega
  refine den_for l.length (fun i => [.int .i64 i]) (fun _ => True) rfl trivial ?_
  intro i hi _ _
  simp only [List.cons_append, List.nil_append]
  refine den_ite (fun h2 => ?_) (fun h2 => den_ret rfl)
  simp only [E.den, dEq, iEq, sEq] at h2
  have h2 : i < l.length := by simp at h2; exact h2
  (refine den_cond (fun hg => ?_) ?_; (focus (simp only [gsH, List.mem_cons, List.not_mem_nil, or_false, forall_eq_or_imp, forall_eq, E.den, dEq, iEq, sEq] at hg ⊢; (try simp only [D.bool.injEq] at hg); (try simp only [D.bool.injEq]); grind)))
  ((first | refine den_call ?_ (c_laws_place (ordN l) (nth l i).name) (rfl) ?_ | refine den_callR ?_ (c_laws_place (ordN l) (nth l i).name) (rfl) ?_ | refine den_call ?_ (.ofR (c_laws_place (ordN l) (nth l i).name)) (rfl) ?_); (focus (simp only [VC.den, E.den, dEq, gsH_nil, and_true, row_Entry, cells_Entry]; try exact rfl)); (simp only [List.cons_append, List.nil_append]))
  (refine den_cond (fun hg => ?_) ?_; (focus (simp only [gsH, List.mem_cons, List.not_mem_nil, or_false, forall_eq_or_imp, forall_eq, E.den, dEq, iEq, sEq] at hg ⊢; (try simp only [D.bool.injEq] at hg); (try simp only [D.bool.injEq]); grind)))
  ((first | refine den_call ?_ (c_laws_has (stuckN l) (nth l i).name) (trivial) ?_ | refine den_callR ?_ (c_laws_has (stuckN l) (nth l i).name) (trivial) ?_ | refine den_call ?_ (.ofR (c_laws_has (stuckN l) (nth l i).name)) (trivial) ?_); (focus (simp only [VC.den, E.den, dEq, gsH_nil, and_true, row_Entry, cells_Entry]; try exact rfl)); (simp only [List.cons_append, List.nil_append]))
  rw [stuck_has hr h2]
  have hps := place_sign hr h2
  refine den_ite (fun h => ?_) (fun _ => ?_)
  · simp only [E.den, dEq, iEq, sEq, hps] at h
    simp at h
  (refine den_cond (fun hg => ?_) ?_; (focus (simp only [gsH, List.mem_cons, List.not_mem_nil, or_false, forall_eq_or_imp, forall_eq, E.den, dEq, iEq, sEq] at hg ⊢; (try simp only [D.bool.injEq] at hg); (try simp only [D.bool.injEq]); grind)))
  ((first | refine den_call ?_ (c_impl_ReachOf l (nth l i).name hl20) (ty_strS _) ?_ | refine den_callR ?_ (c_impl_ReachOf l (nth l i).name hl20) (ty_strS _) ?_ | refine den_call ?_ (.ofR (c_impl_ReachOf l (nth l i).name hl20)) (ty_strS _) ?_); (focus (simp only [VC.den, E.den, dEq, gsH_nil, and_true, row_Entry, cells_Entry]; try exact rfl)); (simp only [List.cons_append, List.nil_append]))
  have hrl := reachN_len (l := l) (nth l i).name
  have hmem : ∀ k, k < (reachN l (nth l i).name).length → ∃ c, c < l.length ∧ reachS l i c = true ∧ nth (reachN l (nth l i).name) k = (nth l c).name := fun k hk => by
    have := nth_mem hk
    have e := reachN_at hr h2
    rw [e] at this
    obtain ⟨c, h7, h8, h9⟩ := names_mem.1 this
    exact ⟨c, h7, h8, by rw [e]; exact h9.symm⟩
  generalize reachN l (nth l i).name = R at hrl hmem
  refine den_for R.length (fun k => [.int .i64 k]) (fun _ => True) rfl trivial ?_
  intro k hk _ _
  simp only [List.cons_append, List.nil_append]
  refine den_ite (fun h3 => ?_) (fun h3 => ?_)
  · simp only [E.den, dEq, iEq, sEq] at h3
    have h3 : 0 ≤ placeI (ordN l) (nth l i).name ∧ k < R.length := by simpa using h3
    obtain ⟨c, hc, hw, hn⟩ := hmem k h3.2
    have hpl := place_lt hr h2 hc h3.1 hw
    refine den_cond (fun _ => ?_) ?_
    · simp only [E.den, dEq, iEq, sEq]; simp; omega
    ((first | refine den_call ?_ (c_laws_place (ordN l) (nth R k)) (rfl) ?_ | refine den_callR ?_ (c_laws_place (ordN l) (nth R k)) (rfl) ?_ | refine den_call ?_ (.ofR (c_laws_place (ordN l) (nth R k))) (rfl) ?_); (focus (simp only [VC.den, E.den, dEq, gsH_nil, and_true, row_str, cells_str]; try exact rfl)); (simp only [List.cons_append, List.nil_append]))
    refine den_cond (fun _ => ?_) ?_
    · simp only [E.den, dEq, iEq, sEq]; simp; omega
    ((first | refine den_call ?_ (c_laws_place (ordN l) (nth R k)) (rfl) ?_ | refine den_callR ?_ (c_laws_place (ordN l) (nth R k)) (rfl) ?_ | refine den_call ?_ (.ofR (c_laws_place (ordN l) (nth R k))) (rfl) ?_); (focus (simp only [VC.den, E.den, dEq, gsH_nil, and_true, row_str, cells_str]; try exact rfl)); (simp only [List.cons_append, List.nil_append]))
    rw [hn]
    refine den_ite (fun h5 => ?_) (fun _ => ?_)
    · simp only [E.den, dEq, iEq, sEq] at h5
      simp at h5; omega
    refine den_next h3.2 ?_ trivial
    simp only [E.den, dEq, iEq, sEq]
    rw [ar_add (by omega) (by omega)]; rfl
  · refine den_next1 h2 ?_ trivial
    simp only [E.den, dEq, iEq, sEq]
    rw [ar_add (by omega) (by omega)]; rfl

set_option maxRecDepth 100000
theorem jf_wf : (Rows.fnOrderRow.wf (OpenSpec.ofChange Rows.fnOrderSpec)) = true := by kernel_rfl
theorem jf_reads : (Try.f6.params.all (Try.prog.readableRec ·)) = true := by kernel_rfl
theorem jf_tie : (namedTie Try.prog Rows.fnOrderRow.named Rows.fnOrderSpec.vars) = true := by kernel_rfl
theorem jf_inPl : ((Rows.fnOrderRow.inPlace == Try.prog.inPlace 6)) = true := by kernel_rfl
theorem jf_unfol : ((Rows.fnOrderRow.unfollowed == Try.prog.unfollowed 6)) = true := by kernel_rfl
theorem jf_recur : ((Rows.fnOrderRow.recurses == Try.prog.recurses 6)) = true := by kernel_rfl
theorem jf_varsN : ((Rows.fnOrderRow.named == Try.prog.varsNamed 6)) = true := by kernel_rfl
theorem jf_maps : ((Rows.fnOrderRow.maps == (Try.f6.params.toList ++ Rows.fnOrderSpec.plain.varTypes Try.prog).any (Try.prog.mapsRec ·))) = true := by kernel_rfl
theorem jf_ifaces : ((Rows.fnOrderRow.ifaces == (Try.f6.params.toList ++ Rows.fnOrderSpec.plain.varTypes Try.prog).any (Try.prog.ifacesRec ·))) = true := by kernel_rfl
theorem jf_mapsO : ((Rows.fnOrderRow.mapsOut == Try.prog.mapsAmong Try.f6.resultTypes.toList)) = true := by kernel_rfl
theorem jf_loops : ((Rows.fnOrderRow.loops == (Try.f6.params.toList ++ Rows.fnOrderSpec.plain.varTypes Try.prog).any (Try.prog.loopsFrom ·))) = true := by kernel_rfl
theorem jf_wide : ((Rows.fnOrderRow.wideKeys == (Try.f6.params.toList ++ Rows.fnOrderSpec.plain.varTypes Try.prog ++ Try.f6.resultTypes.toList).any (Try.prog.wideKeysFrom ·))) = true := by kernel_rfl
theorem jf_varR : (Rows.fnOrderSpec.vars.all (Try.prog.varReadable ·)) = true := by kernel_rfl
theorem jf_resT : (Try.f6.resultTypes.all (fun t => Try.prog.readableRec t && decide (t < Try.prog.types.size))) = true := by kernel_rfl
theorem jf_ifO : ((Rows.fnOrderRow.ifacesOut == Try.f6.resultTypes.toList.any (Try.prog.ifacesRec ·))) = true := by kernel_rfl
theorem jf_loO : ((Rows.fnOrderRow.loopsOut == Try.f6.resultTypes.toList.any (Try.prog.loopsFrom ·))) = true := by kernel_rfl
theorem jf_kinds : ((Rows.fnOrderRow.kinds == (if Rows.fnOrderRow.domain.isEmpty then [] else Try.f6.params.toList.map fun t => match Try.prog.underlying t with | some (.int k) => some k | _ => none))) = true := by kernel_rfl
theorem jf_veil : ((Rows.fnOrderRow.veiled == (Try.f6.params.toList ++ Rows.fnOrderSpec.plain.varTypes Try.prog ++ Try.f6.resultTypes.toList).any (Try.prog.veiledRec ·))) = true := by kernel_rfl
theorem jf_veilF : (Rows.fnOrderRow.veiledFits Try.prog Try.f6.params.toList (Try.f6.params.toList ++ Rows.fnOrderSpec.plain.varTypes Try.prog ++ Try.f6.resultTypes.toList)) = true := by kernel_rfl
theorem closed : joinedFacts Try.prog 6 Try.f6 Rows.fnOrderSpec Rows.fnOrderRow = true :=
  (and_tt (and_tt (and_tt (and_tt (and_tt (and_tt (and_tt (and_tt (and_tt (and_tt (and_tt (and_tt (and_tt (and_tt (and_tt (and_tt (and_tt (and_tt (and_tt (and_tt (and_tt (and_tt (and_tt (and_tt (and_tt (and_tt (and_tt (and_tt (and_tt (and_tt (and_tt jf_wf jfLaid) jfRowed) jf_reads) jf_tie) rfl) jfStops) rfl) jfKnobs) jf_inPl) jf_unfol) jf_recur) jf_varsN) jf_maps) jf_ifaces) jf_mapsO) jf_loops) jf_wide) jf_varR) jf_resT) jf_ifO) jf_loO) jfKeys) rfl) jfHeard) jfEnter) jfLifted) jfMake) jf_kinds) rfl) jf_veil) jf_veilF)
set_option maxRecDepth 100000 in
theorem lifted (os : Os) (started : os.Started) (H : Type) (enc : TypeId × Value → H) :
    ReturnsInHanded {} Try.checked os 6 .any (Rows.fnOrderSpec.pre6 enc Try.prog Try.f6 Rows.fnOrderRow.domain false) (Rows.fnOrderSpec.post enc Try.prog Try.f6 false true false false) := by
  refine returnsInHanded_of_change (C := Try.checked) jfOwn started (by kernel_rfl) Try.func6
    (ChangeSpec.witness6 (enc := enc) (C := Try.checked) false ⟨#[], #[.slice none 0 0], []⟩ 8 (by kernel_rfl) (by kernel_rfl) (by kernel_rfl) (by kernel_rfl)) ?_
  intro W base args ds gs before hval0 hW hcnd _
  have hval : ∀ (j : Nat) t v, Try.f6.params[j]? = some t → args[j]? = some v → Value.okWide Try.prog W .any base t v := hval0
  have hW' := hW
  obtain ⟨p, q, hA0, hV, rfl, hfz, hnd⟩ := hW
  have hA : DataW.TrodAll enc Try.prog W 0 (fun _ => true) true Try.f6.params.toList args.toList ds p := hA0
  rw [Try.params6] at hA hval
  obtain ⟨v0, vs0, d0, ds0, p0, q0, hargs, rfl, rfl, h0, r0⟩ := trodAll_cons hA
  obtain ⟨rfl, rfl, rfl⟩ := trodAll_nil r0
  obtain rfl : args = #[v0] := by cases args; simp_all
  obtain ⟨rfl, rfl⟩ := trodVars_none hV
  have k0 := h0
  have lt0 : ∀ x ∈ p0, x.block < W.heap.size := by obtain ⟨m, hm⟩ := k0; exact DataW.trod_lt m _ _ _ hm
  obtain ⟨x0, y0, z0⟩ := open_arg tbl_ok (by kernel_rfl) (hval 0 22 v0 rfl rfl) h0
  clear hA0 hval0
  refine ((law_run (main [x0] ⟨y0, trivial⟩) ⟨fun p hp => hp.elim, trivial, Nat.zero_le _⟩ (show Rs W M0 [x0] [v0] from ⟨_, _, rfl, z0, rfl⟩))).mono fun e W' ⟨he, bel⟩ => ?_
  subst he
  exact ⟨_, rfl, _, _, _, [], _, [], hW', trodAll_mk1 (shut_bool Try.underlying4 _), (trodAll_cons_mk (Below.trod jfLaid (by kernel_rfl) (of_decide_eq_true (by kernel_rfl)) k0 bel lt0) trodAll_mk0), rfl, bel.frame _, fun h => by cases h⟩
theorem over : Rows.fnOrderRow.holds Try.pinned (OpenSpec.ofChange Rows.fnOrderSpec) :=
  OpenClaim.holds_of_wide 6 Try.f6 rfl rfl rfl rfl rfl rfl rfl ⟨rfl, rfl, rfl, rfl, rfl⟩ rfl rfl rfl rfl rfl (by kernel_rfl) Try.func6 closed
    (of_decide_eq_true (by kernel_rfl)) (by unfold Func.isWrapper; first | (rw [if_pos (by decide +kernel)]; kernel_rfl) | (rw [if_neg (by decide +kernel)]; exact ⟨rfl, rfl⟩))
    (fun os started H enc _ => lifted os started H enc)
/-- THE STATEMENT -/
theorem proved : Rows.FnOrderSaid := over
#print axioms proved
end Go.Proofs.Ythoafgehfgblaaa.lawFnOrder
