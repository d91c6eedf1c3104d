/- FnFirstReady holds for every input: what the law's condition asks, met by the contracts of what it calls, and the row. No condition. -/
import Derived.Test.YthoafgehfgblaaaBRegLaw
import Derived.Test.YthoafgehfgblaaaBSeat
import Derived.Test.YthoafgehfgblaaaAOpen
namespace Go.Proofs.Ythoafgehfgblaaa.lawFnFirstReady
open Go.ChangeShapes Go.WideShapes Go.ChangeAt Go.RowKit Go
set_option linter.unusedVariables false
set_option linter.unusedSimpArgs false
set_option maxRecDepth 100000
theorem main (ds : List D) (h : HasTys tbl.tab ty_laws_FnFirstReady ds) : Fun Try.prog 7 none ds (.bool true) [] := by
  obtain ⟨rows, rfl, hr0, hrt⟩ := code_arg rfl h
  refine Fun.ofV vc_laws_FnFirstReady_ok ty_laws_FnFirstReady_ok rfl ?_ (fun hfit => ?_)
  · exact h
  unfold vc_laws_FnFirstReady
  ((first | refine den_call ?_ (c_laws_big rows hr0) (trivial) ?_ | refine den_callR ?_ (c_laws_big rows hr0) (trivial) ?_ | refine den_call ?_ (.ofR (c_laws_big rows hr0)) (trivial) ?_); (focus (simp only [VC.den, E.den, dEq, gsH_nil, and_true]; try exact rfl)); (simp only [List.cons_append, List.nil_append]))
  refine den_ite (fun _ => den_ret rfl) (fun _ => ?_)
  ((first | refine den_callE ?_ (d_DrawRegistry hrt) (fun _ h => isReg.ty h) ?_ | refine den_callRE ?_ (d_DrawRegistry hrt) (fun _ h => isReg.ty h) ?_ | refine den_callE ?_ (exR (d_DrawRegistry hrt)) (fun _ h => isReg.ty h) ?_); (focus (simp only [VC.den, E.den, dEq, gsH_nil, and_true]; try exact rfl)); rintro _ ⟨l, rfl, hr, hfew⟩; (simp only [List.cons_append, List.nil_append]))
  have h6 := (reg_parts hr).1
  have hl20 : l.length ≤ 1048576 := by omega
  have hlk := linksL_len l
  ((first | refine den_call ?_ (c_impl_StartOrder l hl20) (ty_strS _) ?_ | refine den_callR ?_ (c_impl_StartOrder l hl20) (ty_strS _) ?_ | refine den_call ?_ (.ofR (c_impl_StartOrder l hl20)) (ty_strS _) ?_); (focus (simp only [VC.den, E.den, dEq, gsH_nil, and_true]; try exact rfl)); (simp only [List.cons_append, List.nil_append]))
  ((first | refine den_call ?_ (c_spec_StartOrder l) (ty_strS _) ?_ | refine den_callR ?_ (c_spec_StartOrder l) (ty_strS _) ?_ | refine den_call ?_ (.ofR (c_spec_StartOrder l)) (ty_strS _) ?_); (focus (simp only [VC.den, E.den, dEq, gsH_nil, and_true]; try exact rfl)); (simp only [List.cons_append, List.nil_append]))
  refine den_ite (fun h => ?_) (fun _ => ?_)
  · simp [E.den, cmpI] at h
  ((first | refine den_call ?_ (c_impl_LinksOf l) (ty_LinkS _) ?_ | refine den_callR ?_ (c_impl_LinksOf l) (ty_LinkS _) ?_ | refine den_call ?_ (.ofR (c_impl_LinksOf l)) (ty_LinkS _) ?_); (focus (simp only [VC.den, E.den, dEq, gsH_nil, and_true]; try exact rfl)); (simp only [List.cons_append, List.nil_append]))
  ((first | refine den_call ?_ (c_impl_MissingOf l hl20) (ty_strS _) ?_ | refine den_callR ?_ (c_impl_MissingOf l hl20) (ty_strS _) ?_ | refine den_call ?_ (.ofR (c_impl_MissingOf l hl20)) (ty_strS _) ?_); (focus (simp only [VC.den, E.den, dEq, gsH_nil, and_true]; try exact rfl)); (simp only [List.cons_append, List.nil_append]))
  have hon : ordN l = nmL l (ordL l) := by unfold ordN; rw [if_pos hr]
  have hol := ordN_len l
  have hll : (ordN l).length = (ordL l).length := by rw [hon, nmL_len]
  refine den_for (ordN l).length (fun i => [.int .i64 i]) (fun _ => True) rfl trivial ?_
  intro i hi _ _
  simp only [List.cons_append, List.nil_append]
  refine den_ite (fun h2 => ?_) (fun h2 => den_ret rfl)
  simp only [E.den, dEq, iEq, sEq] at h2
  have h2 : i < (ordN l).length := by simp at h2; exact h2
  have h2' : i < (ordL l).length := by omega
  have hni : nth (ordN l) i = (nth l (ordL l)[i]).name := by rw [hon, nth_nm l _ h2']
  have hlt : (ordL l)[i] < l.length := ord_lt (k := l.length) (List.getElem_mem h2')
  have hpre : cutD (encS (ordN l)) 0 (i : Int) = encS (nmL l ((ordL l).take i)) := by
    rw [← nm_take, ← hon]
    simp [cutD, encS, List.map_take]
  have hpl : ∀ x ∈ (ordL l).take i, x < l.length := fun x hx => ord_lt (k := l.length) (List.mem_of_mem_take hx)
  refine den_for l.length (fun k => [.int .i64 k]) (fun _ => True) rfl trivial ?_
  intro k hk _ _
  simp only [List.cons_append, List.nil_append]
  refine den_cond (fun hg => ?_) (den_cond (fun hg => ?_) ?_)
  · simp only [gsH, List.mem_cons, List.not_mem_nil, or_false, forall_eq_or_imp, forall_eq] at hg
    simp only [E.den, dEq, iEq, sEq] at hg
    simp only [E.den, dEq, iEq, sEq]
    simp at hg ⊢; omega
  · simp only [E.den, dEq, iEq, sEq]; simp; omega
  refine den_ite (fun h3 => ?_) (fun h3 => ?_)
  · simp only [E.den, dEq, iEq, sEq, row_Entry, cells_Entry, row_str, cells_str, hni] at h3
    have h3 : k < l.length ∧ ltB (nth l k).name (nth l (ordL l)[i]).name = true := by simpa using h3
    obtain ⟨hkl, hkn⟩ := h3
    have hki := lt_of_name hr hkl hlt hkn
    have hnr := first_ready h2' hki
    refine den_cond (fun _ => ?_) (den_cond (fun _ => ?_) ?_)
    · simp only [E.den, dEq, iEq, sEq]; simp; omega
    · simp only [E.den, dEq, iEq, sEq]; simp; omega
    ((first | refine den_call ?_ (c_laws_has (nmL l ((ordL l).take i)) (nth l k).name) (trivial) ?_ | refine den_callR ?_ (c_laws_has (nmL l ((ordL l).take i)) (nth l k).name) (trivial) ?_ | refine den_call ?_ (.ofR (c_laws_has (nmL l ((ordL l).take i)) (nth l k).name)) (trivial) ?_); (focus (simp only [VC.den, E.den, dEq, gsH_nil, and_true, row_Entry, cells_Entry, hpre]; try exact rfl)); (simp only [List.cons_append, List.nil_append]))
    refine den_cond (fun _ => ?_) ?_
    · simp only [E.den, dEq, iEq, sEq]; simp; omega
    ((first | refine den_call ?_ (c_laws_has (missN l) (nth l k).name) (trivial) ?_ | refine den_callR ?_ (c_laws_has (missN l) (nth l k).name) (trivial) ?_ | refine den_call ?_ (.ofR (c_laws_has (missN l) (nth l k).name)) (trivial) ?_); (focus (simp only [VC.den, E.den, dEq, gsH_nil, and_true, row_Entry, cells_Entry]; try exact rfl)); (simp only [List.cons_append, List.nil_append]))
    rw [nm_has hr hpl hkl, miss_has hr hkl]
    refine den_for (linksL l).length (fun j => [.bool ((!((ordL l).take i).contains k && !missS l k) && allTo (fun q => !decide ((nth (linksL l) q).frm = (nth l k).name) || hasB (nmL l ((ordL l).take i)) (nth (linksL l) q).to) j), .int .i64 j]) (fun _ => True) ?_ trivial ?_
    · simp only [E.den, dEq, iEq, sEq]; simp [allTo]
    intro j hj _ _
    simp only [List.cons_append, List.nil_append]
    refine den_ite (fun h4 => ?_) (fun h4 => ?_)
    · simp only [E.den, dEq, iEq, sEq] at h4
      have h4 : j < (linksL l).length := by simp at h4; exact h4
      refine den_cond (fun _ => ?_) (den_cond (fun _ => ?_) (den_cond (fun _ => ?_) (den_cond (fun _ => ?_) ?_)))
      · simp only [E.den, dEq, iEq, sEq]; simp; omega
      · simp only [E.den, dEq, iEq, sEq]; simp; omega
      · simp only [E.den, dEq, iEq, sEq]; simp; omega
      · simp only [E.den, dEq, iEq, sEq]; simp; omega
      ((first | refine den_call ?_ (c_laws_has (nmL l ((ordL l).take i)) (nth (linksL l) j).to) (trivial) ?_ | refine den_callR ?_ (c_laws_has (nmL l ((ordL l).take i)) (nth (linksL l) j).to) (trivial) ?_ | refine den_call ?_ (.ofR (c_laws_has (nmL l ((ordL l).take i)) (nth (linksL l) j).to)) (trivial) ?_); (focus (simp only [VC.den, E.den, dEq, gsH_nil, and_true, row_Link, cells_Link, hpre]; try exact rfl)); (simp only [List.cons_append, List.nil_append]))
      refine den_next h4 ?_ trivial
      simp only [E.den, dEq, iEq, sEq, row_Entry, cells_Entry, row_Link, cells_Link]
      rw [ar_add (by omega) (by omega)]
      simp [allTo, Bool.and_assoc]
    · simp only [E.den, dEq, iEq, sEq] at h4
      obtain rfl : j = (linksL l).length := by simp at h4; omega
      have hall : allTo (fun q => !decide ((nth (linksL l) q).frm = (nth l k).name) || hasB (nmL l ((ordL l).take i)) (nth (linksL l) q).to) (linksL l).length = allTo (fun c => !needS l k c || ((ordL l).take i).contains c) l.length := ready_links hr hpl hkl
      have hfin : (!((ordL l).take i).contains k && !missS l k && allTo (fun q => !decide ((nth (linksL l) q).frm = (nth l k).name) || hasB (nmL l ((ordL l).take i)) (nth (linksL l) q).to) (linksL l).length) = false := by
        rw [hall]; exact hnr
      rw [hfin]
      refine den_ite (fun h5 => ?_) (fun _ => ?_)
      · simp [E.den] at h5
      refine den_next1 hkl ?_ trivial
      simp only [E.den, dEq, iEq, sEq]
      rw [ar_add (by omega) (by omega)]; rfl
  · refine den_next1 h2 ?_ trivial
    simp only [E.den, dEq, iEq, sEq]
    rw [ar_add (by omega) (by omega)]; rfl

set_option maxRecDepth 100000
theorem jf_wf : (Rows.fnFirstReadyRow.wf (OpenSpec.ofChange Rows.fnFirstReadySpec)) = true := by kernel_rfl
theorem jf_reads : (Try.f7.params.all (Try.prog.readableRec ·)) = true := by kernel_rfl
theorem jf_tie : (namedTie Try.prog Rows.fnFirstReadyRow.named Rows.fnFirstReadySpec.vars) = true := by kernel_rfl
theorem jf_inPl : ((Rows.fnFirstReadyRow.inPlace == Try.prog.inPlace 7)) = true := by kernel_rfl
theorem jf_unfol : ((Rows.fnFirstReadyRow.unfollowed == Try.prog.unfollowed 7)) = true := by kernel_rfl
theorem jf_recur : ((Rows.fnFirstReadyRow.recurses == Try.prog.recurses 7)) = true := by kernel_rfl
theorem jf_varsN : ((Rows.fnFirstReadyRow.named == Try.prog.varsNamed 7)) = true := by kernel_rfl
theorem jf_maps : ((Rows.fnFirstReadyRow.maps == (Try.f7.params.toList ++ Rows.fnFirstReadySpec.plain.varTypes Try.prog).any (Try.prog.mapsRec ·))) = true := by kernel_rfl
theorem jf_ifaces : ((Rows.fnFirstReadyRow.ifaces == (Try.f7.params.toList ++ Rows.fnFirstReadySpec.plain.varTypes Try.prog).any (Try.prog.ifacesRec ·))) = true := by kernel_rfl
theorem jf_mapsO : ((Rows.fnFirstReadyRow.mapsOut == Try.prog.mapsAmong Try.f7.resultTypes.toList)) = true := by kernel_rfl
theorem jf_loops : ((Rows.fnFirstReadyRow.loops == (Try.f7.params.toList ++ Rows.fnFirstReadySpec.plain.varTypes Try.prog).any (Try.prog.loopsFrom ·))) = true := by kernel_rfl
theorem jf_wide : ((Rows.fnFirstReadyRow.wideKeys == (Try.f7.params.toList ++ Rows.fnFirstReadySpec.plain.varTypes Try.prog ++ Try.f7.resultTypes.toList).any (Try.prog.wideKeysFrom ·))) = true := by kernel_rfl
theorem jf_varR : (Rows.fnFirstReadySpec.vars.all (Try.prog.varReadable ·)) = true := by kernel_rfl
theorem jf_resT : (Try.f7.resultTypes.all (fun t => Try.prog.readableRec t && decide (t < Try.prog.types.size))) = true := by kernel_rfl
theorem jf_ifO : ((Rows.fnFirstReadyRow.ifacesOut == Try.f7.resultTypes.toList.any (Try.prog.ifacesRec ·))) = true := by kernel_rfl
theorem jf_loO : ((Rows.fnFirstReadyRow.loopsOut == Try.f7.resultTypes.toList.any (Try.prog.loopsFrom ·))) = true := by kernel_rfl
theorem jf_kinds : ((Rows.fnFirstReadyRow.kinds == (if Rows.fnFirstReadyRow.domain.isEmpty then [] else Try.f7.params.toList.map fun t => match Try.prog.underlying t with | some (.int k) => some k | _ => none))) = true := by kernel_rfl
theorem jf_veil : ((Rows.fnFirstReadyRow.veiled == (Try.f7.params.toList ++ Rows.fnFirstReadySpec.plain.varTypes Try.prog ++ Try.f7.resultTypes.toList).any (Try.prog.veiledRec ·))) = true := by kernel_rfl
theorem jf_veilF : (Rows.fnFirstReadyRow.veiledFits Try.prog Try.f7.params.toList (Try.f7.params.toList ++ Rows.fnFirstReadySpec.plain.varTypes Try.prog ++ Try.f7.resultTypes.toList)) = true := by kernel_rfl
theorem closed : joinedFacts Try.prog 7 Try.f7 Rows.fnFirstReadySpec Rows.fnFirstReadyRow = true :=
  (and_tt (and_tt (and_tt (and_tt (and_tt (and_tt (and_tt (and_tt (and_tt (and_tt (and_tt (and_tt (and_tt (and_tt (and_tt (and_tt (and_tt (and_tt (and_tt (and_tt (and_tt (and_tt (and_tt (and_tt (and_tt (and_tt (and_tt (and_tt (and_tt (and_tt (and_tt jf_wf jfLaid) jfRowed) jf_reads) jf_tie) rfl) jfStops) rfl) jfKnobs) jf_inPl) jf_unfol) jf_recur) jf_varsN) jf_maps) jf_ifaces) jf_mapsO) jf_loops) jf_wide) jf_varR) jf_resT) jf_ifO) jf_loO) jfKeys) rfl) jfHeard) jfEnter) jfLifted) jfMake) jf_kinds) rfl) jf_veil) jf_veilF)
set_option maxRecDepth 100000 in
theorem lifted (os : Os) (started : os.Started) (H : Type) (enc : TypeId × Value → H) :
    ReturnsInHanded {} Try.checked os 7 .any (Rows.fnFirstReadySpec.pre6 enc Try.prog Try.f7 Rows.fnFirstReadyRow.domain false) (Rows.fnFirstReadySpec.post enc Try.prog Try.f7 false true false false) := by
  refine returnsInHanded_of_change (C := Try.checked) jfOwn started (by kernel_rfl) Try.func7
    (ChangeSpec.witness6 (enc := enc) (C := Try.checked) false ⟨#[], #[.slice none 0 0], []⟩ 8 (by kernel_rfl) (by kernel_rfl) (by kernel_rfl) (by kernel_rfl)) ?_
  intro W base args ds gs before hval0 hW hcnd _
  have hval : ∀ (j : Nat) t v, Try.f7.params[j]? = some t → args[j]? = some v → Value.okWide Try.prog W .any base t v := hval0
  have hW' := hW
  obtain ⟨p, q, hA0, hV, rfl, hfz, hnd⟩ := hW
  have hA : DataW.TrodAll enc Try.prog W 0 (fun _ => true) true Try.f7.params.toList args.toList ds p := hA0
  rw [Try.params7] at hA hval
  obtain ⟨v0, vs0, d0, ds0, p0, q0, hargs, rfl, rfl, h0, r0⟩ := trodAll_cons hA
  obtain ⟨rfl, rfl, rfl⟩ := trodAll_nil r0
  obtain rfl : args = #[v0] := by cases args; simp_all
  obtain ⟨rfl, rfl⟩ := trodVars_none hV
  have k0 := h0
  have lt0 : ∀ x ∈ p0, x.block < W.heap.size := by obtain ⟨m, hm⟩ := k0; exact DataW.trod_lt m _ _ _ hm
  obtain ⟨x0, y0, z0⟩ := open_arg tbl_ok (by kernel_rfl) (hval 0 22 v0 rfl rfl) h0
  clear hA0 hval0
  refine ((law_run (main [x0] ⟨y0, trivial⟩) ⟨fun p hp => hp.elim, trivial, Nat.zero_le _⟩ (show Rs W M0 [x0] [v0] from ⟨_, _, rfl, z0, rfl⟩))).mono fun e W' ⟨he, bel⟩ => ?_
  subst he
  exact ⟨_, rfl, _, _, _, [], _, [], hW', trodAll_mk1 (shut_bool Try.underlying4 _), (trodAll_cons_mk (Below.trod jfLaid (by kernel_rfl) (of_decide_eq_true (by kernel_rfl)) k0 bel lt0) trodAll_mk0), rfl, bel.frame _, fun h => by cases h⟩
theorem over : Rows.fnFirstReadyRow.holds Try.pinned (OpenSpec.ofChange Rows.fnFirstReadySpec) :=
  OpenClaim.holds_of_wide 7 Try.f7 rfl rfl rfl rfl rfl rfl rfl ⟨rfl, rfl, rfl, rfl, rfl⟩ rfl rfl rfl rfl rfl (by kernel_rfl) Try.func7 closed
    (of_decide_eq_true (by kernel_rfl)) (by unfold Func.isWrapper; first | (rw [if_pos (by decide +kernel)]; kernel_rfl) | (rw [if_neg (by decide +kernel)]; exact ⟨rfl, rfl⟩))
    (fun os started H enc _ => lifted os started H enc)
/-- THE STATEMENT -/
theorem proved : Rows.FnFirstReadySaid := over
#print axioms proved
end Go.Proofs.Ythoafgehfgblaaa.lawFnFirstReady
