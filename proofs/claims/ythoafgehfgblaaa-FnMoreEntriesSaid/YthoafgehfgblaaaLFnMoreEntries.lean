/- FnMoreEntries: what the law's condition asks, met by the contracts of what it calls. -/
import Derived.Test.YthoafgehfgblaaaBMiss
import Derived.Test.YthoafgehfgblaaaBNamed
import Derived.Test.YthoafgehfgblaaaBSeat
import Derived.Test.YthoafgehfgblaaaBDrawEnt
import Derived.Test.YthoafgehfgblaaaAOpen
namespace Go.Proofs.Ythoafgehfgblaaa.lawFnMoreEntries
open Go.ChangeShapes Go.WideShapes Go.ChangeAt Go.RowKit Go
set_option linter.unusedVariables false
set_option linter.unusedSimpArgs false
set_option maxRecDepth 100000
theorem nth_get {α : Type} [Inhabited α] (l : List α) {i : Nat} (h : i < l.length) : nth l i = l[i] := by simp [nth, List.getD_eq_getElem?_getD, h]
theorem few_fit {e : Entry} (h : e.few) : e.fit := by unfold Entry.few at h; unfold Entry.fit; omega
theorem miss_same (l : List Entry) (s : ByteArray) : s ∈ missN l ↔ s ∈ missL l := by
  unfold missN missL
  split
  · rw [names_mem]
    simp only [List.mem_map, List.mem_filter]
    have key : ∀ i, i < l.length → (missS l i = true ↔ missE l (nth l i) = true) := fun i hi => by
      rw [miss_iff]
      unfold missE
      rw [List.any_eq_true]
      constructor
      · rintro ⟨k, hk, h⟩; exact ⟨_, nth_mem hk, by rw [Option.isNone_iff_eq_none]; exact h⟩
      · rintro ⟨n, hn, h⟩
        obtain ⟨k, hk, rfl⟩ := List.getElem_of_mem hn
        refine ⟨k, hk, ?_⟩
        unfold prv
        rw [Option.isNone_iff_eq_none] at h
        rw [nth_get _ hk]
        exact h
    constructor
    · rintro ⟨i, h1, h2, h3⟩; exact ⟨_, ⟨nth_mem h1, (key i h1).1 h2⟩, h3⟩
    · rintro ⟨y, ⟨h1, h2⟩, h3⟩
      obtain ⟨i, hi, rfl⟩ := List.getElem_of_mem h1
      have e : nth l i = l[i] := nth_get l hi
      rw [← e] at h2 h3
      exact ⟨i, hi, (key i hi).2 h2, h3⟩
  · simp
theorem main (ds : List D) (h : HasTys tbl.tab ty_laws_FnMoreEntries ds) : Fun Try.prog 3 none ds (.bool true) [] := by
  obtain ⟨rows, rfl, hr0, hr⟩ := code_arg rfl h
  refine Fun.ofV vc_laws_FnMoreEntries_ok ty_laws_FnMoreEntries_ok rfl ?_ (fun hfit => ?_)
  · exact h
  unfold vc_laws_FnMoreEntries
  ((first | refine den_call ?_ (c_laws_big rows hr0) (trivial) ?_ | refine den_callR ?_ (c_laws_big rows hr0) (trivial) ?_ | refine den_call ?_ (.ofR (c_laws_big rows hr0)) (trivial) ?_); (focus (simp only [VC.den, E.den, dEq, gsH_nil, and_true]; try exact rfl)); (simp only [List.cons_append, List.nil_append]))
  refine den_ite (fun _ => den_ret rfl) (fun _ => ?_)
  ((first | refine den_callE ?_ (d_DrawAddEntry hr) (fun _ h => ty_AE h) ?_ | refine den_callRE ?_ (d_DrawAddEntry hr) (fun _ h => ty_AE h) ?_ | refine den_callE ?_ (exR (d_DrawAddEntry hr)) (fun _ h => ty_AE h) ?_); (focus (simp only [VC.den, E.den, dEq, gsH_nil, and_true]; try exact rfl)); rintro _ ⟨l, e, rfl, hl8, hlf, hef⟩; (simp only [List.cons_append, List.nil_append]))
  have hl20 : l.length ≤ 1048576 := by omega
  have hfit : ∀ x ∈ l, x.fit := fun x hx => few_fit (hlf x hx)
  ((first | refine den_call ?_ (c_impl_AddEntry l e hl20 hfit (few_fit hef)) (⟨ty_EntryS _, trivial, trivial⟩) ?_ | refine den_callR ?_ (c_impl_AddEntry l e hl20 hfit (few_fit hef)) (⟨ty_EntryS _, trivial, trivial⟩) ?_ | refine den_call ?_ (.ofR (c_impl_AddEntry l e hl20 hfit (few_fit hef))) (⟨ty_EntryS _, trivial, trivial⟩) ?_); (focus (simp only [VC.den, E.den, dEq, gsH_nil, and_true]; try exact rfl)); (simp only [List.cons_append, List.nil_append]))
  ((first | refine den_call ?_ (c_spec_AddEntry l e hl20 hfit (few_fit hef)) (⟨ty_EntryS _, trivial, trivial⟩) ?_ | refine den_callR ?_ (c_spec_AddEntry l e hl20 hfit (few_fit hef)) (⟨ty_EntryS _, trivial, trivial⟩) ?_ | refine den_call ?_ (.ofR (c_spec_AddEntry l e hl20 hfit (few_fit hef))) (⟨ty_EntryS _, trivial, trivial⟩) ?_); (focus (simp only [VC.den, E.den, dEq, gsH_nil, and_true]; try exact rfl)); (simp only [List.cons_append, List.nil_append]))
  refine den_ite (fun h => ?_) (fun _ => ?_)
  · simp [E.den] at h
  refine den_ite (fun _ => den_ret rfl) (fun h1 => ?_)
  have ho : addOk l e = true := by simpa [E.den] using h1
  have hadd : addL l e = insE l e := by simp [addL, ho]
  have hi20 : (insE l e).length ≤ 1048576 := by
    have h1 := List.length_take_le (atOf l e.name) l
    unfold insE
    simp
    omega
  ((first | refine den_call ?_ (c_impl_MissingOf l hl20) (ty_strS _) ?_ | refine den_callR ?_ (c_impl_MissingOf l hl20) (ty_strS _) ?_ | refine den_call ?_ (.ofR (c_impl_MissingOf l hl20)) (ty_strS _) ?_); (focus (simp only [VC.den, E.den, dEq, gsH_nil, and_true]; try exact rfl)); (simp only [List.cons_append, List.nil_append]))
  ((first | refine den_call ?_ (c_impl_MissingOf (insE l e) hi20) (ty_strS _) ?_ | refine den_callR ?_ (c_impl_MissingOf (insE l e) hi20) (ty_strS _) ?_ | refine den_call ?_ (.ofR (c_impl_MissingOf (insE l e) hi20)) (ty_strS _) ?_); (focus (simp only [VC.den, E.den, dEq, gsH_nil, and_true, hadd]; try exact rfl)); (simp only [List.cons_append, List.nil_append]))
  have hml : ∀ s ∈ missN (insE l e), s = e.name ∨ s ∈ missN l := fun s hs => by
    rw [miss_same] at hs ⊢
    exact missL_more ho s hs
  have hnl : (missN (insE l e)).length ≤ 1048576 := by
    unfold missN
    split
    · exact Nat.le_trans (namesTo_len _ _ _) hi20
    · simp
  generalize missN (insE l e) = now at hml hnl
  generalize missN l = was at hml
  refine den_loop Nat (fun k => [.int .i64 k]) (fun k => k ≤ now.length) (fun k => now.length - k) 0 (fun s s' h => by simp at h; omega) rfl (by omega) ?_
  intro k hk hf
  simp only [List.cons_append, List.nil_append]
  refine den_ite (fun h2 => ?_) (fun h2 => den_ret rfl)
  simp only [E.den, dEq, iEq, sEq] at h2
  have h2 : k < now.length := by simp at h2; exact h2
  (refine den_cond (fun hg => ?_) ?_; (focus (simp only [gsH, List.mem_cons, List.not_mem_nil, or_false, forall_eq_or_imp, forall_eq, E.den, dEq, iEq, sEq] at hg ⊢; (try simp only [D.bool.injEq] at hg); (try simp only [D.bool.injEq]); grind)))
  (refine den_cond (fun hg => ?_) ?_; (focus (simp only [gsH, List.mem_cons, List.not_mem_nil, or_false, forall_eq_or_imp, forall_eq, E.den, dEq, iEq, sEq] at hg ⊢; (try simp only [D.bool.injEq] at hg); (try simp only [D.bool.injEq]); grind)))
  ((first | refine den_call ?_ (c_laws_has was (nth now k)) (trivial) ?_ | refine den_callR ?_ (c_laws_has was (nth now k)) (trivial) ?_ | refine den_call ?_ (.ofR (c_laws_has was (nth now k))) (trivial) ?_); (focus (simp only [VC.den, E.den, dEq, gsH_nil, and_true, row_str, cells_str, Int.toNat_natCast]; try exact rfl)); (simp only [List.cons_append, List.nil_append]))
  refine den_ite (fun h3 => ?_) (fun h3 => ?_)
  · exfalso
    simp only [E.den, dEq, iEq, sEq, row_str, cells_str, cells_Entry] at h3
    rcases hml _ (nth_mem h2) with h4 | h4
    · rw [h4] at h3; simp at h3
    · have : hasB was (nth now k) = true := by
        unfold hasB; rw [List.any_eq_true]; exact ⟨_, h4, by simp⟩
      rw [this] at h3; simp at h3
  · refine den_again (k + 1) ?_ (by omega) (by omega)
    simp only [E.den, dEq, iEq, sEq]
    rw [ar_add (by omega) (by omega)]; rfl

set_option maxRecDepth 100000
theorem jf_wf : (Rows.fnMoreEntriesRow.wf (OpenSpec.ofChange Rows.fnMoreEntriesSpec)) = true := by kernel_rfl
theorem jf_reads : (Try.f3.params.all (Try.prog.readableRec ·)) = true := by kernel_rfl
theorem jf_tie : (namedTie Try.prog Rows.fnMoreEntriesRow.named Rows.fnMoreEntriesSpec.vars) = true := by kernel_rfl
theorem jf_inPl : ((Rows.fnMoreEntriesRow.inPlace == Try.prog.inPlace 3)) = true := by kernel_rfl
theorem jf_unfol : ((Rows.fnMoreEntriesRow.unfollowed == Try.prog.unfollowed 3)) = true := by kernel_rfl
theorem jf_recur : ((Rows.fnMoreEntriesRow.recurses == Try.prog.recurses 3)) = true := by kernel_rfl
theorem jf_varsN : ((Rows.fnMoreEntriesRow.named == Try.prog.varsNamed 3)) = true := by kernel_rfl
theorem jf_maps : ((Rows.fnMoreEntriesRow.maps == (Try.f3.params.toList ++ Rows.fnMoreEntriesSpec.plain.varTypes Try.prog).any (Try.prog.mapsRec ·))) = true := by kernel_rfl
theorem jf_ifaces : ((Rows.fnMoreEntriesRow.ifaces == (Try.f3.params.toList ++ Rows.fnMoreEntriesSpec.plain.varTypes Try.prog).any (Try.prog.ifacesRec ·))) = true := by kernel_rfl
theorem jf_mapsO : ((Rows.fnMoreEntriesRow.mapsOut == Try.prog.mapsAmong Try.f3.resultTypes.toList)) = true := by kernel_rfl
theorem jf_loops : ((Rows.fnMoreEntriesRow.loops == (Try.f3.params.toList ++ Rows.fnMoreEntriesSpec.plain.varTypes Try.prog).any (Try.prog.loopsFrom ·))) = true := by kernel_rfl
theorem jf_wide : ((Rows.fnMoreEntriesRow.wideKeys == (Try.f3.params.toList ++ Rows.fnMoreEntriesSpec.plain.varTypes Try.prog ++ Try.f3.resultTypes.toList).any (Try.prog.wideKeysFrom ·))) = true := by kernel_rfl
theorem jf_varR : (Rows.fnMoreEntriesSpec.vars.all (Try.prog.varReadable ·)) = true := by kernel_rfl
theorem jf_resT : (Try.f3.resultTypes.all (fun t => Try.prog.readableRec t && decide (t < Try.prog.types.size))) = true := by kernel_rfl
theorem jf_ifO : ((Rows.fnMoreEntriesRow.ifacesOut == Try.f3.resultTypes.toList.any (Try.prog.ifacesRec ·))) = true := by kernel_rfl
theorem jf_loO : ((Rows.fnMoreEntriesRow.loopsOut == Try.f3.resultTypes.toList.any (Try.prog.loopsFrom ·))) = true := by kernel_rfl
theorem jf_kinds : ((Rows.fnMoreEntriesRow.kinds == (if Rows.fnMoreEntriesRow.domain.isEmpty then [] else Try.f3.params.toList.map fun t => match Try.prog.underlying t with | some (.int k) => some k | _ => none))) = true := by kernel_rfl
theorem jf_veil : ((Rows.fnMoreEntriesRow.veiled == (Try.f3.params.toList ++ Rows.fnMoreEntriesSpec.plain.varTypes Try.prog ++ Try.f3.resultTypes.toList).any (Try.prog.veiledRec ·))) = true := by kernel_rfl
theorem jf_veilF : (Rows.fnMoreEntriesRow.veiledFits Try.prog Try.f3.params.toList (Try.f3.params.toList ++ Rows.fnMoreEntriesSpec.plain.varTypes Try.prog ++ Try.f3.resultTypes.toList)) = true := by kernel_rfl
theorem closed : joinedFacts Try.prog 3 Try.f3 Rows.fnMoreEntriesSpec Rows.fnMoreEntriesRow = true :=
  (and_tt (and_tt (and_tt (and_tt (and_tt (and_tt (and_tt (and_tt (and_tt (and_tt (and_tt (and_tt (and_tt (and_tt (and_tt (and_tt (and_tt (and_tt (and_tt (and_tt (and_tt (and_tt (and_tt (and_tt (and_tt (and_tt (and_tt (and_tt (and_tt (and_tt (and_tt jf_wf jfLaid) jfRowed) jf_reads) jf_tie) rfl) jfStops) rfl) jfKnobs) jf_inPl) jf_unfol) jf_recur) jf_varsN) jf_maps) jf_ifaces) jf_mapsO) jf_loops) jf_wide) jf_varR) jf_resT) jf_ifO) jf_loO) jfKeys) rfl) jfHeard) jfEnter) jfLifted) jfMake) jf_kinds) rfl) jf_veil) jf_veilF)
set_option maxRecDepth 100000 in
theorem lifted (os : Os) (started : os.Started) (H : Type) (enc : TypeId × Value → H) :
    ReturnsInHanded {} Try.checked os 3 .any (Rows.fnMoreEntriesSpec.pre6 enc Try.prog Try.f3 Rows.fnMoreEntriesRow.domain false) (Rows.fnMoreEntriesSpec.post enc Try.prog Try.f3 false true false false) := by
  refine returnsInHanded_of_change (C := Try.checked) jfOwn started (by kernel_rfl) Try.func3
    (ChangeSpec.witness6 (enc := enc) (C := Try.checked) false ⟨#[], #[.slice none 0 0], []⟩ 8 (by kernel_rfl) (by kernel_rfl) (by kernel_rfl) (by kernel_rfl)) ?_
  intro W base args ds gs before hval0 hW hcnd _
  have hval : ∀ (j : Nat) t v, Try.f3.params[j]? = some t → args[j]? = some v → Value.okWide Try.prog W .any base t v := hval0
  have hW' := hW
  obtain ⟨p, q, hA0, hV, rfl, hfz, hnd⟩ := hW
  have hA : DataW.TrodAll enc Try.prog W 0 (fun _ => true) true Try.f3.params.toList args.toList ds p := hA0
  rw [Try.params3] at hA hval
  obtain ⟨v0, vs0, d0, ds0, p0, q0, hargs, rfl, rfl, h0, r0⟩ := trodAll_cons hA
  obtain ⟨rfl, rfl, rfl⟩ := trodAll_nil r0
  obtain rfl : args = #[v0] := by cases args; simp_all
  obtain ⟨rfl, rfl⟩ := trodVars_none hV
  have k0 := h0
  have lt0 : ∀ x ∈ p0, x.block < W.heap.size := by obtain ⟨m, hm⟩ := k0; exact DataW.trod_lt m _ _ _ hm
  obtain ⟨x0, y0, z0⟩ := open_arg tbl_ok (by kernel_rfl) (hval 0 22 v0 rfl rfl) h0
  clear hA0 hval0
  refine ((law_run (main [x0] ⟨y0, trivial⟩) ⟨fun p hp => hp.elim, trivial, Nat.zero_le _⟩ (show Rs W M0 [x0] [v0] from ⟨_, _, rfl, z0, rfl⟩))).mono fun e W' ⟨he, bel⟩ => ?_
  subst he
  exact ⟨_, rfl, _, _, _, [], _, [], hW', trodAll_mk1 (shut_bool Try.underlying4 _), (trodAll_cons_mk (Below.trod jfLaid (by kernel_rfl) (of_decide_eq_true (by kernel_rfl)) k0 bel lt0) trodAll_mk0), rfl, bel.frame _, fun h => by cases h⟩
theorem over : Rows.fnMoreEntriesRow.holds Try.pinned (OpenSpec.ofChange Rows.fnMoreEntriesSpec) :=
  OpenClaim.holds_of_wide 3 Try.f3 rfl rfl rfl rfl rfl rfl rfl ⟨rfl, rfl, rfl, rfl, rfl⟩ rfl rfl rfl rfl rfl (by kernel_rfl) Try.func3 closed
    (of_decide_eq_true (by kernel_rfl)) (by unfold Func.isWrapper; first | (rw [if_pos (by decide +kernel)]; kernel_rfl) | (rw [if_neg (by decide +kernel)]; exact ⟨rfl, rfl⟩))
    (fun os started H enc _ => lifted os started H enc)
/-- THE STATEMENT -/
theorem proved : Rows.FnMoreEntriesSaid := over
#print axioms proved
end Go.Proofs.Ythoafgehfgblaaa.lawFnMoreEntries
