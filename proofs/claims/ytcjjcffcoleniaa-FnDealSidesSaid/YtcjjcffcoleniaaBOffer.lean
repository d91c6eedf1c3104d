/- Offers: sizes, equality, membership. -/
import Derived.Test.YtcjjcffcoleniaaBAllow
namespace Go.Proofs.Ytcjjcffcoleniaa
open Go.RowKit Go
set_option linter.unusedVariables false
set_option linter.unusedSimpArgs false
set_option maxRecDepth 100000
theorem hl_Vers {l : List Ver} (h : Fits (encS l)) : l.length ≤ 9223372036854775807 := fits_encS h
theorem c_spec_l5In (l : List Ver) (v : Ver) : Fun Try.prog 75 none [encS l, enc v] (.bool (decide (v ∈ l))) [] := by
  refine Fun.ofV vc_spec_l5In_ok ty_spec_l5In_ok rfl ?_ (fun hfit => ?_)
  · exact ⟨ty_VerS l, ty_Ver v, trivial⟩
  have hl := hl_Vers hfit.1
  unfold vc_spec_l5In
  refine den_loop Nat ix (fun k => k ≤ l.length ∧ ∀ i, i < k → nth l i ≠ v) (fun k => l.length - k) 0 (fun s s' h => by rw [ix_inj _ _ h]) rfl ⟨by omega, by omega⟩ ?_
  rintro k ⟨hk, hI⟩ -
  simp only [ix, List.cons_append, List.nil_append]
  refine den_ite (fun h2 => ?_) (fun h2 => ?_)
  · simp [E.den, cmpI] at h2
    refine den_cond (fun hg => ?_) ?_
    · simp [E.den]; omega
    have ev : (E.ae (.row [.int .i64, .int .i64] (.var 0) (.var 2)) (.var 1)).den [encS l, enc v, .int .i64 k] = .bool (decide (nth l k = v)) := by
      simp only [E.den, List.getD_cons_zero, List.getD_cons_succ, D.toI_int, encS_toR, List.map_cons, List.map_nil, row_Ver, Int.toNat_natCast, enc_toA, eqv_Ver]
    refine den_ite (fun h3 => ?_) (fun h3 => ?_)
    · rw [ev] at h3
      simp at h3
      refine den_ret ?_
      have : v ∈ l := h3 ▸ nth_mem h2
      simp [E.den, this]
    · rw [ev] at h3
      simp at h3
      refine den_again (k + 1) ?_ ⟨by omega, fun i hi => ?_⟩ (by omega)
      · simp [E.den, ix]; rw [ar_add (by omega) (by omega)]
      rcases Nat.lt_or_ge i k with h' | h'
      · exact hI i h'
      · obtain rfl : i = k := by omega
        exact h3
  · simp [E.den, cmpI] at h2
    obtain rfl : k = l.length := by omega
    refine den_ret ?_
    have : v ∉ l := fun h => by obtain ⟨i, hi, e⟩ := mem_nth h; exact hI i hi e
    simp [E.den, this]
theorem c_impl_hasVersion (l : List Ver) (v : Ver) : Fun Try.prog 73 none [encS l, enc v] (.bool (decide (v ∈ l))) [] := by
  refine Fun.ofV vc_impl_hasVersion_ok ty_impl_hasVersion_ok rfl ?_ (fun hfit => ?_)
  · exact ⟨ty_VerS l, ty_Ver v, trivial⟩
  have hl := hl_Vers hfit.1
  unfold vc_impl_hasVersion
  refine den_loop Nat ix (fun k => k ≤ l.length ∧ ∀ i, i < k → nth l i ≠ v) (fun k => l.length - k) 0 (fun s s' h => by rw [ix_inj _ _ h]) rfl ⟨by omega, by omega⟩ ?_
  rintro k ⟨hk, hI⟩ -
  simp only [ix, List.cons_append, List.nil_append]
  refine den_ite (fun h2 => ?_) (fun h2 => ?_)
  · simp [E.den, cmpI] at h2
    refine den_cond (fun hg => ?_) ?_
    · simp [E.den]; omega
    have ev : (E.ae (.row [.int .i64, .int .i64] (.var 0) (.var 2)) (.var 1)).den [encS l, enc v, .int .i64 k] = .bool (decide (nth l k = v)) := by
      simp only [E.den, List.getD_cons_zero, List.getD_cons_succ, D.toI_int, encS_toR, List.map_cons, List.map_nil, row_Ver, Int.toNat_natCast, enc_toA, eqv_Ver]
    refine den_ite (fun h3 => ?_) (fun h3 => ?_)
    · rw [ev] at h3
      simp at h3
      refine den_ret ?_
      have : v ∈ l := h3 ▸ nth_mem h2
      simp [E.den, this]
    · rw [ev] at h3
      simp at h3
      refine den_again (k + 1) ?_ ⟨by omega, fun i hi => ?_⟩ (by omega)
      · simp [E.den, ix]; rw [ar_add (by omega) (by omega)]
      rcases Nat.lt_or_ge i k with h' | h'
      · exact hI i h'
      · obtain rfl : i = k := by omega
        exact h3
  · simp [E.den, cmpI] at h2
    obtain rfl : k = l.length := by omega
    refine den_ret ?_
    have : v ∉ l := fun h => by obtain ⟨i, hi, e⟩ := mem_nth h; exact hI i hi e
    simp [E.den, this]
theorem c_impl_IsOffer (o : Offer) : Fun Try.prog 72 none [enc o] (.bool o.ok) [] := by
  refine Fun.ofV vc_impl_IsOffer_ok ty_impl_IsOffer_ok rfl ?_ (fun hfit => ?_)
  · exact ⟨ty_Offer o, trivial⟩
  have hl : o.vers.length ≤ 9223372036854775807 := by simp [FitsL, enc, Fits, cells_Offer] at hfit; exact fits_encS hfit.1
  unfold vc_impl_IsOffer
  (apply den_call; (focus (simp only [VC.den, E.den, List.map_cons, List.map_nil, Option.map_none, Option.map_some, List.getD_cons_zero, List.getD_cons_succ, List.cons_append, List.nil_append, List.append_nil, D.toI_int, D.toB_bool, D.toS_str, D.toA_agg, D.toT_tup, D.toR_sl, enc_toA, encS_toR, encS_len, List.drop_succ_cons, List.drop_zero, List.take_succ_cons, List.take_zero, gsH_nil, and_true, cells_Offer]; try exact rfl)); (focus (exact c_impl_IsFace o.face)); (focus (simp [HasTys, HasVT, HasV1, HasTy, RowTy, HasVs, enc])); (simp only [List.cons_append, List.nil_append]))
  refine den_ite (fun h => ?_) (fun h => ?_)
  · simp [E.den, cmpI, cells_Offer] at h
    refine den_ret ?_
    rcases h with h | h
    · have : ¬ o.vers.length ≤ 4 := by omega
      simp [E.den, Offer.ok, this]
    · have : ¬ (0 ≤ o.face ∧ o.face ≤ 63) := by simpa [isFaceB] using h
      simp [E.den, Offer.ok]
      intro _ _ h2; omega
  simp [E.den, cmpI, cells_Offer] at h
  have hfc : 0 ≤ o.face ∧ o.face ≤ 63 := by simpa [isFaceB] using h.2
  have hl4 : o.vers.length ≤ 4 := by omega
  refine den_loop Nat ix (fun k => k ≤ o.vers.length ∧ ∀ i, i < k → o.verOk i = true) (fun k => o.vers.length - k) 0 (fun s s' h => by rw [ix_inj _ _ h]) rfl ⟨by omega, by omega⟩ ?_
  rintro k ⟨hk, hI⟩ -
  simp only [ix, List.cons_append, List.nil_append]
  refine den_ite (fun h2 => ?_) (fun h2 => ?_)
  · simp [E.den, cells_Offer, cmpI] at h2
    refine den_cond (fun hg => ?_) ?_
    · simp [E.den, cells_Offer]; omega
    (apply den_call; (focus (simp only [VC.den, E.den, List.map_cons, List.map_nil, Option.map_none, Option.map_some, List.getD_cons_zero, List.getD_cons_succ, List.cons_append, List.nil_append, List.append_nil, D.toI_int, D.toB_bool, D.toS_str, D.toA_agg, D.toT_tup, D.toR_sl, enc_toA, encS_toR, encS_len, List.drop_succ_cons, List.drop_zero, List.take_succ_cons, List.take_zero, gsH_nil, and_true, row_Ver, cells_Offer, Int.toNat_natCast]; try exact rfl)); (focus (exact c_impl_IsVersion _)); (focus (simp [HasTys, HasVT, HasV1, HasTy, RowTy, HasVs, enc])); (simp only [List.cons_append, List.nil_append]))
    refine den_cond (fun hg => ?_) ?_
    · simp [gsH, E.den, cells_Offer, cmpI] at hg ⊢
      rw [ar_sub (by omega) (by omega)]; omega
    have hs : 0 < k → (arI .sub .i64 k 1).toNat = k - 1 := fun h => by rw [ar_sub (by omega) (by omega)]; omega
    (apply den_call; (focus (simp only [VC.den, E.den, List.map_cons, List.map_nil, Option.map_none, Option.map_some, List.getD_cons_zero, List.getD_cons_succ, List.cons_append, List.nil_append, List.append_nil, D.toI_int, D.toB_bool, D.toS_str, D.toA_agg, D.toT_tup, D.toR_sl, enc_toA, encS_toR, encS_len, List.drop_succ_cons, List.drop_zero, List.take_succ_cons, List.take_zero, gsH_nil, and_true, row_Ver, cells_Offer, Int.toNat_natCast]; try exact rfl)); (focus (exact c_impl_CompareVersions _ _)); (focus (simp [HasTys, HasVT, HasV1, HasTy, RowTy, HasVs, enc])); (simp only [List.cons_append, List.nil_append]))
    refine den_ite (fun h => ?_) (fun h => ?_)
    · refine den_ret ?_
      simp [E.den, cmpI] at h ⊢
      have hb : o.verOk k = false := by
        rcases h with h | ⟨h, h2⟩
        · simp [Offer.verOk, h]
        · rw [hs h] at h2; simp [Offer.verOk]; intro _; exact ⟨by omega, h2⟩
      have : (List.range o.vers.length).all o.verOk = false := by
        rw [List.all_eq_false]; exact ⟨k, by simp; omega, by simp [hb]⟩
      simp [Offer.ok, this]
    · simp [E.den, cmpI] at h
      refine den_again (k + 1) ?_ ⟨by omega, fun i hi => ?_⟩ (by omega)
      · simp [E.den, ix]; rw [ar_add (by omega) (by omega)]
      rcases Nat.lt_or_ge i k with h' | h'
      · exact hI i h'
      obtain rfl : i = k := by omega
      simp only [Offer.verOk, h.1, Bool.true_and, Bool.or_eq_true, beq_iff_eq, decide_eq_true_eq]
      rcases Nat.eq_zero_or_pos i with h0 | h0
      · exact Or.inl h0
      · right; have := h.2 h0; rwa [hs h0] at this
  · simp [E.den, cells_Offer, cmpI] at h2
    obtain rfl : k = o.vers.length := by omega
    refine den_ret ?_
    have : (List.range o.vers.length).all o.verOk = true := by simpa using hI
    simp only [Offer.ok, this, Bool.true_and]
    simp [E.den, hfc, hl4]
end Go.Proofs.Ytcjjcffcoleniaa
