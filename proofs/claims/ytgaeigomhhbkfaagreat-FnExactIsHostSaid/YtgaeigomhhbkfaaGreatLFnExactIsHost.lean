/- FnExactIsHost holds for every input: what the law's condition asks, met by the contracts of what it calls, and the row. No condition. -/
import Derived.Test.YtgaeigomhhbkfaaGreatBHostB
import Derived.Test.YtgaeigomhhbkfaaGreatBLaws
import Derived.Test.YtgaeigomhhbkfaaGreatAOpen
import Derived.Test.YtgaeigomhhbkfaaGreatBSeat
namespace Go.Proofs.YtgaeigomhhbkfaaGreat.lawFnExactIsHost
open Go.ChangeShapes Go.WideShapes Go.ChangeAt Go.RowKit
set_option linter.unusedVariables false
set_option linter.unusedSimpArgs false
set_option maxRecDepth 100000

theorem main (ds : List D) (h : HasTys tbl.tab ty_laws_FnExactIsHost ds) : Fun Tryz.prog 3 none ds (.bool true) [] := by
  obtain ⟨x0, rfl⟩ : ∃ (x0 : Host), ds = [enc x0] := by
    match ds, h with
    | [d0], h =>
      obtain ⟨x0, rfl⟩ := decV_laws_Host (h.1)
      exact ⟨x0, rfl⟩
  refine Fun.ofV vc_laws_FnExactIsHost_ok ty_laws_FnExactIsHost_ok rfl ?_ (fun hfit => ?_)
  · exact h
  unfold vc_laws_FnExactIsHost
  ((first | refine den_callE ?_ (z_Host x0 1048576 (by omega) (by omega)) (fun _ h => isZ.ty h) ?_ | refine den_callRE ?_ (z_Host x0 1048576 (by omega) (by omega)) (fun _ h => isZ.ty h) ?_ | refine den_callE ?_ (exR (z_Host x0 1048576 (by omega) (by omega))) (fun _ h => isZ.ty h) ?_); (focus (simp only [VC.den, E.den, dEq, gsH_nil, and_true]; try exact rfl)); rintro _ ⟨m0, rfl, _, p0, q0⟩; (simp only [List.cons_append, List.nil_append]))
  refine den_ite (fun _ => den_ret rfl) (fun g0 => ?_)
  simp [E.den, cmpI] at g0
  have s0 := q0 g0
  have he : x0.entries.length ≤ 1048576 := (sm_list.1 s0.1).1
  have hu : x0.up.length ≤ 1048576 := (sm_list.1 s0.2.2.1).1
  have hp : ∀ i, i < x0.parts.length → (nth x0.parts i).layers.length ≤ 1048576 := fun i hi => by
    have h1 := (sm_list.1 s0.2.1).2 i hi
    exact (sm_list.1 h1.2).1
  ((first | refine den_call ?_ (cR_laws_toHost x0 s0) (ty_Host _) ?_ | refine den_callR ?_ (cR_laws_toHost x0 s0) (ty_Host _) ?_ | refine den_call ?_ (.ofR (cR_laws_toHost x0 s0)) (ty_Host _) ?_); (focus (simp only [VC.den, E.den, dEq, gsH_nil, and_true]; try exact rfl)); (simp only [List.cons_append, List.nil_append]))
  ((first | refine den_call ?_ (c_spec_IsHost x0 he hp (by omega)) (trivial) ?_ | refine den_callR ?_ (c_spec_IsHost x0 he hp (by omega)) (trivial) ?_ | refine den_call ?_ (.ofR (c_spec_IsHost x0 he hp (by omega))) (trivial) ?_); (focus (simp only [VC.den, E.den, dEq, gsH_nil, and_true]; try exact rfl)); (simp only [List.cons_append, List.nil_append]))
  ((first | refine den_call ?_ (cR_laws_toHost x0 s0) (ty_Host _) ?_ | refine den_callR ?_ (cR_laws_toHost x0 s0) (ty_Host _) ?_ | refine den_call ?_ (.ofR (cR_laws_toHost x0 s0)) (ty_Host _) ?_); (focus (simp only [VC.den, E.den, dEq, gsH_nil, and_true]; try exact rfl)); (simp only [List.cons_append, List.nil_append]))
  ((first | refine den_call ?_ (c_impl_IsHost x0 he hp) (trivial) ?_ | refine den_callR ?_ (c_impl_IsHost x0 he hp) (trivial) ?_ | refine den_call ?_ (.ofR (c_impl_IsHost x0 he hp)) (trivial) ?_); (focus (simp only [VC.den, E.den, dEq, gsH_nil, and_true]; try exact rfl)); (simp only [List.cons_append, List.nil_append]))
  refine den_ite (fun h => ?_) (fun _ => ?_)
  · simp [E.den, cmpI, cmpS_neq] at h
  ((first | refine den_call ?_ (cR_laws_toHost x0 s0) (ty_Host _) ?_ | refine den_callR ?_ (cR_laws_toHost x0 s0) (ty_Host _) ?_ | refine den_call ?_ (.ofR (cR_laws_toHost x0 s0)) (ty_Host _) ?_); (focus (simp only [VC.den, E.den, dEq, gsH_nil, and_true]; try exact rfl)); (simp only [List.cons_append, List.nil_append]))
  ((first | refine den_call ?_ (c_laws_eqHost x0 x0) (trivial) ?_ | refine den_callR ?_ (c_laws_eqHost x0 x0) (trivial) ?_ | refine den_call ?_ (.ofR (c_laws_eqHost x0 x0)) (trivial) ?_); (focus (simp only [VC.den, E.den, dEq, gsH_nil, and_true]; try exact rfl)); (simp only [List.cons_append, List.nil_append]))
  refine den_ite (fun h => ?_) (fun _ => ?_)
  · simp [E.den] at h
  exact den_ret rfl

set_option maxRecDepth 100000
theorem jf_wf : (Rows.fnExactIsHostRow.wf (OpenSpec.ofChange Rows.fnExactIsHostSpec)) = true := by kernel_rfl
theorem jf_reads : (Tryz.f3.params.all (Tryz.prog.readableRec ·)) = true := by kernel_rfl
theorem jf_tie : (namedTie Tryz.prog Rows.fnExactIsHostRow.named Rows.fnExactIsHostSpec.vars) = true := by kernel_rfl
theorem jf_inPl : ((Rows.fnExactIsHostRow.inPlace == Tryz.prog.inPlace 3)) = true := by kernel_rfl
theorem jf_unfol : ((Rows.fnExactIsHostRow.unfollowed == Tryz.prog.unfollowed 3)) = true := by kernel_rfl
theorem jf_recur : ((Rows.fnExactIsHostRow.recurses == Tryz.prog.recurses 3)) = true := by kernel_rfl
theorem jf_varsN : ((Rows.fnExactIsHostRow.named == Tryz.prog.varsNamed 3)) = true := by kernel_rfl
theorem jf_maps : ((Rows.fnExactIsHostRow.maps == (Tryz.f3.params.toList ++ Rows.fnExactIsHostSpec.plain.varTypes Tryz.prog).any (Tryz.prog.mapsRec ·))) = true := by kernel_rfl
theorem jf_ifaces : ((Rows.fnExactIsHostRow.ifaces == (Tryz.f3.params.toList ++ Rows.fnExactIsHostSpec.plain.varTypes Tryz.prog).any (Tryz.prog.ifacesRec ·))) = true := by kernel_rfl
theorem jf_mapsO : ((Rows.fnExactIsHostRow.mapsOut == Tryz.prog.mapsAmong Tryz.f3.resultTypes.toList)) = true := by kernel_rfl
theorem jf_loops : ((Rows.fnExactIsHostRow.loops == (Tryz.f3.params.toList ++ Rows.fnExactIsHostSpec.plain.varTypes Tryz.prog).any (Tryz.prog.loopsFrom ·))) = true := by kernel_rfl
theorem jf_wide : ((Rows.fnExactIsHostRow.wideKeys == (Tryz.f3.params.toList ++ Rows.fnExactIsHostSpec.plain.varTypes Tryz.prog ++ Tryz.f3.resultTypes.toList).any (Tryz.prog.wideKeysFrom ·))) = true := by kernel_rfl
theorem jf_varR : (Rows.fnExactIsHostSpec.vars.all (Tryz.prog.varReadable ·)) = true := by kernel_rfl
theorem jf_resT : (Tryz.f3.resultTypes.all (fun t => Tryz.prog.readableRec t && decide (t < Tryz.prog.types.size))) = true := by kernel_rfl
theorem jf_ifO : ((Rows.fnExactIsHostRow.ifacesOut == Tryz.f3.resultTypes.toList.any (Tryz.prog.ifacesRec ·))) = true := by kernel_rfl
theorem jf_loO : ((Rows.fnExactIsHostRow.loopsOut == Tryz.f3.resultTypes.toList.any (Tryz.prog.loopsFrom ·))) = true := by kernel_rfl
theorem jf_kinds : ((Rows.fnExactIsHostRow.kinds == (if Rows.fnExactIsHostRow.domain.isEmpty then [] else Tryz.f3.params.toList.map fun t => match Tryz.prog.underlying t with | some (.int k) => some k | _ => none))) = true := by kernel_rfl
theorem jf_veil : ((Rows.fnExactIsHostRow.veiled == (Tryz.f3.params.toList ++ Rows.fnExactIsHostSpec.plain.varTypes Tryz.prog ++ Tryz.f3.resultTypes.toList).any (Tryz.prog.veiledRec ·))) = true := by kernel_rfl
theorem jf_veilF : (Rows.fnExactIsHostRow.veiledFits Tryz.prog Tryz.f3.params.toList (Tryz.f3.params.toList ++ Rows.fnExactIsHostSpec.plain.varTypes Tryz.prog ++ Tryz.f3.resultTypes.toList)) = true := by kernel_rfl
theorem closed : joinedFacts Tryz.prog 3 Tryz.f3 Rows.fnExactIsHostSpec Rows.fnExactIsHostRow = true :=
  (and_tt (and_tt (and_tt (and_tt (and_tt (and_tt (and_tt (and_tt (and_tt (and_tt (and_tt (and_tt (and_tt (and_tt (and_tt (and_tt (and_tt (and_tt (and_tt (and_tt (and_tt (and_tt (and_tt (and_tt (and_tt (and_tt (and_tt (and_tt (and_tt (and_tt (and_tt jf_wf jfLaid) jfRowed) jf_reads) jf_tie) rfl) jfStops) rfl) jfKnobs) jf_inPl) jf_unfol) jf_recur) jf_varsN) jf_maps) jf_ifaces) jf_mapsO) jf_loops) jf_wide) jf_varR) jf_resT) jf_ifO) jf_loO) jfKeys) rfl) jfHeard) jfEnter) jfLifted) jfMake) jf_kinds) rfl) jf_veil) jf_veilF)
set_option maxRecDepth 100000 in
theorem lifted (os : Os) (started : os.Started) (H : Type) (enc : TypeId × Value → H) :
    ReturnsInHanded {} Tryz.checked os 3 .any (Rows.fnExactIsHostSpec.pre6 enc Tryz.prog Tryz.f3 Rows.fnExactIsHostRow.domain false) (Rows.fnExactIsHostSpec.post enc Tryz.prog Tryz.f3 false true false false) := by
  refine returnsInHanded_of_change (C := Tryz.checked) jfOwn started (by kernel_rfl) Tryz.func3
    (ChangeSpec.witness6 (enc := enc) (C := Tryz.checked) false ⟨#[], #[.agg #[.slice none 0 0, .slice none 0 0, .slice none 0 0, .slice none 0 0, .slice none 0 0]], []⟩ 8 (by kernel_rfl) (by kernel_rfl) (by kernel_rfl) (by kernel_rfl)) ?_
  intro W base args ds gs before hval0 hW hcnd _
  have hval : ∀ (j : Nat) t v, Tryz.f3.params[j]? = some t → args[j]? = some v → Value.okWide Tryz.prog W .any base t v := hval0
  have hW' := hW
  obtain ⟨p, q, hA0, hV, rfl, hfz, hnd⟩ := hW
  have hA : DataW.TrodAll enc Tryz.prog W 0 (fun _ => true) true Tryz.f3.params.toList args.toList ds p := hA0
  rw [Tryz.params3] at hA hval
  obtain ⟨v0, vs0, d0, ds0, p0, q0, hargs, rfl, rfl, h0, r0⟩ := trodAll_cons hA
  obtain ⟨rfl, rfl, rfl⟩ := trodAll_nil r0
  obtain rfl : args = #[v0] := by cases args; simp_all
  obtain ⟨rfl, rfl⟩ := trodVars_none hV
  have k0 := h0
  have lt0 : ∀ x ∈ p0, x.block < W.heap.size := by obtain ⟨m, hm⟩ := k0; exact DataW.trod_lt m _ _ _ hm
  obtain ⟨x0, y0, z0⟩ := open_arg tbl_ok (by kernel_rfl) (hval 0 27 v0 rfl rfl) h0
  clear hA0 hval0
  refine ((law_run (main [x0] ⟨y0, trivial⟩) ⟨fun p hp => hp.elim, trivial, Nat.zero_le _⟩ (show Rs W M0 [x0] [v0] from ⟨_, _, rfl, z0, rfl⟩))).mono fun e W' ⟨he, bel⟩ => ?_
  subst he
  exact ⟨_, rfl, _, _, _, [], _, [], hW', trodAll_mk1 (shut_bool Tryz.underlying4 _), (trodAll_cons_mk (Below.trod jfLaid (by kernel_rfl) (of_decide_eq_true (by kernel_rfl)) k0 bel lt0) trodAll_mk0), rfl, bel.frame _, fun h => by cases h⟩
theorem over : Rows.fnExactIsHostRow.holds Tryz.pinned (OpenSpec.ofChange Rows.fnExactIsHostSpec) :=
  OpenClaim.holds_of_wide 3 Tryz.f3 rfl rfl rfl rfl rfl rfl rfl ⟨rfl, rfl, rfl, rfl, rfl⟩ rfl rfl rfl rfl rfl (by kernel_rfl) Tryz.func3 closed
    (of_decide_eq_true (by kernel_rfl)) (by unfold Func.isWrapper; first | (rw [if_pos (by decide +kernel)]; kernel_rfl) | (rw [if_neg (by decide +kernel)]; exact ⟨rfl, rfl⟩))
    (fun os started H enc _ => lifted os started H enc)
/-- THE STATEMENT -/
theorem proved : Rows.FnExactIsHostSaid := over
#print axioms proved
end Go.Proofs.YtgaeigomhhbkfaaGreat.lawFnExactIsHost
