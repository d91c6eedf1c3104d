/- FnLinks holds for every input: what the law's condition asks, met by the contracts of what it calls, and the row. No condition. -/
import Derived.Test.YthoafgehfgblaaaBRegLaw
import Derived.Test.YthoafgehfgblaaaBSeat
import Derived.Test.YthoafgehfgblaaaAOpen
namespace Go.Proofs.Ythoafgehfgblaaa.lawFnLinks
open Go.ChangeShapes Go.WideShapes Go.ChangeAt Go.RowKit Go
set_option linter.unusedVariables false
set_option linter.unusedSimpArgs false
set_option maxRecDepth 100000
theorem serves_offers {e : Entry} {n : Need} (h : servesB e n = true) : offersB (recF e.recipe) n.face = true := by
  unfold servesB at h
  simp only [Bool.and_eq_true] at h
  exact h.1.2
theorem main (ds : List D) (h : HasTys tbl.tab ty_laws_FnLinks ds) : Fun Try.prog 4 none ds (.bool true) [] := by
  obtain ⟨rows, rfl, hr0, hrt⟩ := code_arg rfl h
  refine Fun.ofV vc_laws_FnLinks_ok ty_laws_FnLinks_ok rfl ?_ (fun hfit => ?_)
  · exact h
  unfold vc_laws_FnLinks
  ((first | refine den_call ?_ (c_laws_big rows hr0) (trivial) ?_ | refine den_callR ?_ (c_laws_big rows hr0) (trivial) ?_ | refine den_call ?_ (.ofR (c_laws_big rows hr0)) (trivial) ?_); (focus (simp only [VC.den, E.den, dEq, gsH_nil, and_true]; try exact rfl)); (simp only [List.cons_append, List.nil_append]))
  refine den_ite (fun _ => den_ret rfl) (fun _ => ?_)
  ((first | refine den_callE ?_ (d_DrawRegistry hrt) (fun _ h => isReg.ty h) ?_ | refine den_callRE ?_ (d_DrawRegistry hrt) (fun _ h => isReg.ty h) ?_ | refine den_callE ?_ (exR (d_DrawRegistry hrt)) (fun _ h => isReg.ty h) ?_); (focus (simp only [VC.den, E.den, dEq, gsH_nil, and_true]; try exact rfl)); rintro _ ⟨l, rfl, hr, hfew⟩; (simp only [List.cons_append, List.nil_append]))
  have h6 := (reg_parts hr).1
  have hl20 : l.length ≤ 1048576 := by omega
  have hlk := linksL_len l
  ((first | refine den_call ?_ (c_impl_LinksOf l) (ty_LinkS _) ?_ | refine den_callR ?_ (c_impl_LinksOf l) (ty_LinkS _) ?_ | refine den_call ?_ (.ofR (c_impl_LinksOf l)) (ty_LinkS _) ?_); (focus (simp only [VC.den, E.den, dEq, gsH_nil, and_true]; try exact rfl)); (simp only [List.cons_append, List.nil_append]))
  ((first | refine den_call ?_ (c_impl_MissingOf l hl20) (ty_strS _) ?_ | refine den_callR ?_ (c_impl_MissingOf l hl20) (ty_strS _) ?_ | refine den_call ?_ (.ofR (c_impl_MissingOf l hl20)) (ty_strS _) ?_); (focus (simp only [VC.den, E.den, dEq, gsH_nil, and_true]; try exact rfl)); (simp only [List.cons_append, List.nil_append]))
  refine den_for l.length (fun i => [.int .i64 ((linksTo l i).length : Nat), .int .i64 i]) (fun _ => True) rfl trivial ?_
  intro i hi _ _
  simp only [List.cons_append, List.nil_append]
  refine den_ite (fun h2 => ?_) (fun h2 => ?_)
  · simp only [E.den, dEq, iEq, sEq] at h2
    have h2 : i < l.length := by simp at h2; exact h2
    have h3n := reg_needs hr h2
    refine den_for (nth l i).needs.length (fun k => [.bool (missTo l i k), .int .i64 ((linksTo l i ++ linksOne l i k).length : Nat), .int .i64 k]) (fun _ => True) ?_ trivial ?_
    · simp only [E.den, dEq, iEq, sEq]; simp [missTo, anyT, linksOne]
    intro k hk _ _
    simp only [List.cons_append, List.nil_append]
    have hfw := links_few hr h2 k hk
    refine den_cond (fun _ => ?_) ?_
    · simp only [E.den, dEq, iEq, sEq]; simp; omega
    refine den_ite (fun h3 => ?_) (fun h3 => ?_)
    · simp only [E.den, dEq, iEq, sEq, row_Entry, cells_Entry] at h3
      have h3 : k < (nth l i).needs.length := by simp at h3; exact h3
      refine den_cond (fun _ => ?_) (den_cond (fun _ => ?_) (den_cond (fun _ => ?_) ?_))
      · simp only [E.den, dEq, iEq, sEq]; simp; omega
      · simp only [E.den, dEq, iEq, sEq]; simp; omega
      · simp only [E.den, dEq, iEq, sEq, row_Entry, cells_Entry]; simp; omega
      ((first | refine den_call ?_ (c_impl_ProviderOf l (nth l i).name (nth (nth l i).needs k)) (trivial) ?_ | refine den_callR ?_ (c_impl_ProviderOf l (nth l i).name (nth (nth l i).needs k)) (trivial) ?_ | refine den_call ?_ (.ofR (c_impl_ProviderOf l (nth l i).name (nth (nth l i).needs k))) (trivial) ?_); (focus (simp only [VC.den, E.den, dEq, gsH_nil, and_true, row_Entry, cells_Entry, row_Need, Int.toNat_natCast]; try exact rfl)); (simp only [List.cons_append, List.nil_append]))
      cases hc : prv l i k with
      | none =>
        rw [provN_none hc]
        refine den_ite (fun _ => ?_) (fun h4 => ?_)
        · refine den_next h3 ?_ trivial
          simp only [E.den, dEq, iEq, sEq]
          rw [ar_add (by omega) (by omega), links_none hc]
          simp [missTo, anyT, hc]
        · simp [E.den, cmpS_eql, noText] at h4
      | some c =>
        rw [provN_some hc]
        obtain ⟨hcl, hcn, hcs, hcf⟩ := prv_facts hc
        have hne := reg_name hr hcl
        unfold noText at hne
        refine den_ite (fun h4 => ?_) (fun _ => ?_)
        · simp [E.den, cmpS_eql, hne] at h4
        obtain ⟨hpos, hat⟩ := links_at hr h2 h3 hc
        generalize hnn : (linksTo l i ++ linksOne l i k).length = nn at hpos hat hfw
        ((first | refine den_call ?_ (c_impl_FindEntry l (nth l c).name) (rfl) ?_ | refine den_callR ?_ (c_impl_FindEntry l (nth l c).name) (rfl) ?_ | refine den_call ?_ (.ofR (c_impl_FindEntry l (nth l c).name)) (rfl) ?_); (focus (simp only [VC.den, E.den, dEq, gsH_nil, and_true]; try exact rfl)); (simp only [List.cons_append, List.nil_append]))
        rw [findI_of hr hcl]
        refine den_cond (fun _ => ?_) (den_cond (fun _ => ?_) (den_cond (fun _ => ?_) (den_cond (fun _ => ?_) (den_cond (fun _ => ?_) ?_))))
        · simp only [E.den, dEq, iEq, sEq]; simp; omega
        · simp only [E.den, dEq, iEq, sEq]; simp; omega
        · simp only [E.den, dEq, iEq, sEq]; simp; omega
        · simp only [E.den, dEq, iEq, sEq, row_Entry, cells_Entry]; simp; omega
        · simp only [E.den, dEq, iEq, sEq]; simp; omega
        have hcells : Enc.cells (nth (linksL l) nn) = [.str (nth l i).name, .str (nth l c).name, .int .i64 (nth (nth l i).needs k).face] := by rw [hat]; rfl
        refine den_ite (fun h5 => ?_) (fun _ => ?_)
        · exfalso
          simp only [E.den, dEq, iEq, sEq, row_Entry, cells_Entry, row_Link, row_Need, cells_Need, hcells] at h5
          simp [eqvL, eqvD, hcn] at h5
          omega
        refine den_cond (fun _ => ?_) ?_
        · simp only [E.den, dEq, iEq, sEq]; simp; omega
        ((first | refine den_call ?_ (c_impl_RecipeFace (nth l c).recipe) (⟨rfl, trivial, trivial⟩) ?_ | refine den_callR ?_ (c_impl_RecipeFace (nth l c).recipe) (⟨rfl, trivial, trivial⟩) ?_ | refine den_call ?_ (.ofR (c_impl_RecipeFace (nth l c).recipe)) (⟨rfl, trivial, trivial⟩) ?_); (focus (simp only [VC.den, E.den, dEq, gsH_nil, and_true, row_Entry, cells_Entry, Int.toNat_natCast]; try exact rfl)); (simp only [List.cons_append, List.nil_append]))
        refine den_cond (fun _ => ?_) (den_cond (fun _ => ?_) (den_cond (fun _ => ?_) ?_))
        · simp only [E.den, dEq, iEq, sEq]; simp; omega
        · simp only [E.den, dEq, iEq, sEq]; simp; omega
        · simp only [E.den, dEq, iEq, sEq, row_Entry, cells_Entry]; simp; omega
        ((first | refine den_call ?_ (c_impl_Serves (nth l c) (nth (nth l i).needs k)) (trivial) ?_ | refine den_callR ?_ (c_impl_Serves (nth l c) (nth (nth l i).needs k)) (trivial) ?_ | refine den_call ?_ (.ofR (c_impl_Serves (nth l c) (nth (nth l i).needs k))) (trivial) ?_); (focus (simp only [VC.den, E.den, dEq, gsH_nil, and_true, row_Entry, cells_Entry, row_Need, Int.toNat_natCast]; try exact rfl)); (simp only [List.cons_append, List.nil_append]))
        refine den_cond (fun _ => ?_) ?_
        · simp only [E.den, dEq, iEq, sEq]; simp; omega
        ((first | refine den_call ?_ (c_impl_Offers (recF (nth l c).recipe) (nth (nth l i).needs k).face) (trivial) ?_ | refine den_callR ?_ (c_impl_Offers (recF (nth l c).recipe) (nth (nth l i).needs k).face) (trivial) ?_ | refine den_call ?_ (.ofR (c_impl_Offers (recF (nth l c).recipe) (nth (nth l i).needs k).face)) (trivial) ?_); (focus (simp only [VC.den, E.den, dEq, gsH_nil, and_true, row_Link, Int.toNat_natCast, hcells]; try exact rfl)); (simp only [List.cons_append, List.nil_append]))
        rw [hcs, serves_offers hcs]
        refine den_ite (fun h5 => ?_) (fun _ => ?_)
        · simp [E.den] at h5
        refine den_for c (fun j => [.int .i64 j]) (fun _ => True) rfl trivial ?_
        intro j hj _ _
        simp only [List.cons_append, List.nil_append]
        refine den_ite (fun h5 => ?_) (fun h5 => ?_)
        · simp only [E.den, dEq, iEq, sEq] at h5
          have h5 : j < c := by simp at h5; exact h5
          refine den_cond (fun _ => ?_) (den_cond (fun _ => ?_) (den_cond (fun _ => ?_) ?_))
          · simp only [E.den, dEq, iEq, sEq]; simp; omega
          · simp only [E.den, dEq, iEq, sEq]; simp; omega
          · simp only [E.den, dEq, iEq, sEq, row_Entry, cells_Entry]; simp; omega
          ((first | refine den_call ?_ (c_impl_Serves (nth l j) (nth (nth l i).needs k)) (trivial) ?_ | refine den_callR ?_ (c_impl_Serves (nth l j) (nth (nth l i).needs k)) (trivial) ?_ | refine den_call ?_ (.ofR (c_impl_Serves (nth l j) (nth (nth l i).needs k))) (trivial) ?_); (focus (simp only [VC.den, E.den, dEq, gsH_nil, and_true, row_Entry, cells_Entry, row_Need, Int.toNat_natCast]; try exact rfl)); (simp only [List.cons_append, List.nil_append]))
          refine den_ite (fun h7 => ?_) (fun _ => ?_)
          · exfalso
            simp only [E.den, dEq, iEq, sEq] at h7
            have h7 : j ≠ i ∧ servesB (nth l j) (nth (nth l i).needs k) = true := by
              simp at h7
              exact ⟨by omega, h7.2⟩
            rcases hcf j h5 with h8 | h8
            · exact h7.1 (reg_inj hr (by omega) h2 h8)
            · rw [h8] at h7; cases h7.2
          refine den_next h5 ?_ trivial
          simp only [E.den, dEq, iEq, sEq]
          rw [ar_add (by omega) (by omega)]; rfl
        · simp only [E.den, dEq, iEq, sEq] at h5
          obtain rfl : j = c := by simp at h5; omega
          refine den_next1 h3 ?_ trivial
          simp only [E.den, dEq, iEq, sEq]
          rw [ar_add (by omega) (by omega), ar_add (by omega) (by omega), links_some hc]
          simp [missTo, anyT, hc, ← hnn]
          omega
    · simp only [E.den, dEq, iEq, sEq, row_Entry, cells_Entry] at h3
      obtain rfl : k = (nth l i).needs.length := by simp at h3; omega
      refine den_cond (fun _ => ?_) ?_
      · simp only [E.den, dEq, iEq, sEq]; simp; omega
      ((first | refine den_call ?_ (c_laws_has (missN l) (nth l i).name) (trivial) ?_ | refine den_callR ?_ (c_laws_has (missN l) (nth l i).name) (trivial) ?_ | refine den_call ?_ (.ofR (c_laws_has (missN l) (nth l i).name)) (trivial) ?_); (focus (simp only [VC.den, E.den, dEq, gsH_nil, and_true, row_Entry, cells_Entry]; try exact rfl)); (simp only [List.cons_append, List.nil_append]))
      rw [miss_has hr h2, show missTo l i (nth l i).needs.length = missS l i from rfl]
      refine den_ite (fun h5 => ?_) (fun _ => ?_)
      · simp [E.den] at h5
      refine den_next1 h2 ?_ trivial
      simp only [E.den, dEq, iEq, sEq]
      rw [ar_add (by omega) (by omega), linksTo_succ]; rfl
  · simp only [E.den, dEq, iEq, sEq] at h2
    obtain rfl : i = l.length := by simp at h2; omega
    refine den_ret ?_
    simp only [E.den, dEq, iEq, sEq]
    unfold linksL
    rw [if_pos hr]
    simp

set_option maxRecDepth 100000
theorem jf_wf : (Rows.fnLinksRow.wf (OpenSpec.ofChange Rows.fnLinksSpec)) = true := by kernel_rfl
theorem jf_reads : (Try.f4.params.all (Try.prog.readableRec ·)) = true := by kernel_rfl
theorem jf_tie : (namedTie Try.prog Rows.fnLinksRow.named Rows.fnLinksSpec.vars) = true := by kernel_rfl
theorem jf_inPl : ((Rows.fnLinksRow.inPlace == Try.prog.inPlace 4)) = true := by kernel_rfl
theorem jf_unfol : ((Rows.fnLinksRow.unfollowed == Try.prog.unfollowed 4)) = true := by kernel_rfl
theorem jf_recur : ((Rows.fnLinksRow.recurses == Try.prog.recurses 4)) = true := by kernel_rfl
theorem jf_varsN : ((Rows.fnLinksRow.named == Try.prog.varsNamed 4)) = true := by kernel_rfl
theorem jf_maps : ((Rows.fnLinksRow.maps == (Try.f4.params.toList ++ Rows.fnLinksSpec.plain.varTypes Try.prog).any (Try.prog.mapsRec ·))) = true := by kernel_rfl
theorem jf_ifaces : ((Rows.fnLinksRow.ifaces == (Try.f4.params.toList ++ Rows.fnLinksSpec.plain.varTypes Try.prog).any (Try.prog.ifacesRec ·))) = true := by kernel_rfl
theorem jf_mapsO : ((Rows.fnLinksRow.mapsOut == Try.prog.mapsAmong Try.f4.resultTypes.toList)) = true := by kernel_rfl
theorem jf_loops : ((Rows.fnLinksRow.loops == (Try.f4.params.toList ++ Rows.fnLinksSpec.plain.varTypes Try.prog).any (Try.prog.loopsFrom ·))) = true := by kernel_rfl
theorem jf_wide : ((Rows.fnLinksRow.wideKeys == (Try.f4.params.toList ++ Rows.fnLinksSpec.plain.varTypes Try.prog ++ Try.f4.resultTypes.toList).any (Try.prog.wideKeysFrom ·))) = true := by kernel_rfl
theorem jf_varR : (Rows.fnLinksSpec.vars.all (Try.prog.varReadable ·)) = true := by kernel_rfl
theorem jf_resT : (Try.f4.resultTypes.all (fun t => Try.prog.readableRec t && decide (t < Try.prog.types.size))) = true := by kernel_rfl
theorem jf_ifO : ((Rows.fnLinksRow.ifacesOut == Try.f4.resultTypes.toList.any (Try.prog.ifacesRec ·))) = true := by kernel_rfl
theorem jf_loO : ((Rows.fnLinksRow.loopsOut == Try.f4.resultTypes.toList.any (Try.prog.loopsFrom ·))) = true := by kernel_rfl
theorem jf_kinds : ((Rows.fnLinksRow.kinds == (if Rows.fnLinksRow.domain.isEmpty then [] else Try.f4.params.toList.map fun t => match Try.prog.underlying t with | some (.int k) => some k | _ => none))) = true := by kernel_rfl
theorem jf_veil : ((Rows.fnLinksRow.veiled == (Try.f4.params.toList ++ Rows.fnLinksSpec.plain.varTypes Try.prog ++ Try.f4.resultTypes.toList).any (Try.prog.veiledRec ·))) = true := by kernel_rfl
theorem jf_veilF : (Rows.fnLinksRow.veiledFits Try.prog Try.f4.params.toList (Try.f4.params.toList ++ Rows.fnLinksSpec.plain.varTypes Try.prog ++ Try.f4.resultTypes.toList)) = true := by kernel_rfl
theorem closed : joinedFacts Try.prog 4 Try.f4 Rows.fnLinksSpec Rows.fnLinksRow = true :=
  (and_tt (and_tt (and_tt (and_tt (and_tt (and_tt (and_tt (and_tt (and_tt (and_tt (and_tt (and_tt (and_tt (and_tt (and_tt (and_tt (and_tt (and_tt (and_tt (and_tt (and_tt (and_tt (and_tt (and_tt (and_tt (and_tt (and_tt (and_tt (and_tt (and_tt (and_tt jf_wf jfLaid) jfRowed) jf_reads) jf_tie) rfl) jfStops) rfl) jfKnobs) jf_inPl) jf_unfol) jf_recur) jf_varsN) jf_maps) jf_ifaces) jf_mapsO) jf_loops) jf_wide) jf_varR) jf_resT) jf_ifO) jf_loO) jfKeys) rfl) jfHeard) jfEnter) jfLifted) jfMake) jf_kinds) rfl) jf_veil) jf_veilF)
set_option maxRecDepth 100000 in
theorem lifted (os : Os) (started : os.Started) (H : Type) (enc : TypeId × Value → H) :
    ReturnsInHanded {} Try.checked os 4 .any (Rows.fnLinksSpec.pre6 enc Try.prog Try.f4 Rows.fnLinksRow.domain false) (Rows.fnLinksSpec.post enc Try.prog Try.f4 false true false false) := by
  refine returnsInHanded_of_change (C := Try.checked) jfOwn started (by kernel_rfl) Try.func4
    (ChangeSpec.witness6 (enc := enc) (C := Try.checked) false ⟨#[], #[.slice none 0 0], []⟩ 8 (by kernel_rfl) (by kernel_rfl) (by kernel_rfl) (by kernel_rfl)) ?_
  intro W base args ds gs before hval0 hW hcnd _
  have hval : ∀ (j : Nat) t v, Try.f4.params[j]? = some t → args[j]? = some v → Value.okWide Try.prog W .any base t v := hval0
  have hW' := hW
  obtain ⟨p, q, hA0, hV, rfl, hfz, hnd⟩ := hW
  have hA : DataW.TrodAll enc Try.prog W 0 (fun _ => true) true Try.f4.params.toList args.toList ds p := hA0
  rw [Try.params4] at hA hval
  obtain ⟨v0, vs0, d0, ds0, p0, q0, hargs, rfl, rfl, h0, r0⟩ := trodAll_cons hA
  obtain ⟨rfl, rfl, rfl⟩ := trodAll_nil r0
  obtain rfl : args = #[v0] := by cases args; simp_all
  obtain ⟨rfl, rfl⟩ := trodVars_none hV
  have k0 := h0
  have lt0 : ∀ x ∈ p0, x.block < W.heap.size := by obtain ⟨m, hm⟩ := k0; exact DataW.trod_lt m _ _ _ hm
  obtain ⟨x0, y0, z0⟩ := open_arg tbl_ok (by kernel_rfl) (hval 0 22 v0 rfl rfl) h0
  clear hA0 hval0
  refine ((law_run (main [x0] ⟨y0, trivial⟩) ⟨fun p hp => hp.elim, trivial, Nat.zero_le _⟩ (show Rs W M0 [x0] [v0] from ⟨_, _, rfl, z0, rfl⟩))).mono fun e W' ⟨he, bel⟩ => ?_
  subst he
  exact ⟨_, rfl, _, _, _, [], _, [], hW', trodAll_mk1 (shut_bool Try.underlying4 _), (trodAll_cons_mk (Below.trod jfLaid (by kernel_rfl) (of_decide_eq_true (by kernel_rfl)) k0 bel lt0) trodAll_mk0), rfl, bel.frame _, fun h => by cases h⟩
theorem over : Rows.fnLinksRow.holds Try.pinned (OpenSpec.ofChange Rows.fnLinksSpec) :=
  OpenClaim.holds_of_wide 4 Try.f4 rfl rfl rfl rfl rfl rfl rfl ⟨rfl, rfl, rfl, rfl, rfl⟩ rfl rfl rfl rfl rfl (by kernel_rfl) Try.func4 closed
    (of_decide_eq_true (by kernel_rfl)) (by unfold Func.isWrapper; first | (rw [if_pos (by decide +kernel)]; kernel_rfl) | (rw [if_neg (by decide +kernel)]; exact ⟨rfl, rfl⟩))
    (fun os started H enc _ => lifted os started H enc)
/-- THE STATEMENT -/
theorem proved : Rows.FnLinksSaid := over
#print axioms proved
end Go.Proofs.Ythoafgehfgblaaa.lawFnLinks
