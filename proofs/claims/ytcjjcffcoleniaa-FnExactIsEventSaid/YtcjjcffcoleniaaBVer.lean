/- Versions. -/
import Derived.Test.YtcjjcffcoleniaaBTypes
namespace Go.Proofs.Ytcjjcffcoleniaa
open Go.RowKit Go
set_option linter.unusedVariables false
set_option linter.unusedSimpArgs false
def Ver.ok (v : Ver) : Bool := decide (0 ≤ v.maj) && decide (v.maj ≤ 99) && decide (0 ≤ v.min) && decide (v.min ≤ 99)
theorem c_spec_IsVersion (v : Ver) : Fun Try.prog 85 none [enc v] (.bool v.ok) [] := by
  refine Fun.ofV vc_spec_IsVersion_ok ty_spec_IsVersion_ok rfl ?_ (fun hfit => ?_)
  · simp [ty_spec_IsVersion, HasTys, HasVT, HasV1, enc, ty_Ver]
  simp only [vc_spec_IsVersion, VC.den, E.den, List.map_cons, List.map_nil, Option.map_none, Option.map_some, List.getD_cons_zero, List.getD_cons_succ, List.cons_append, List.nil_append, List.append_nil, D.toI_int, D.toB_bool, D.toS_str, D.toA_agg, D.toT_tup, D.toR_sl, enc_toA, encS_toR, encS_len, List.drop_succ_cons, List.drop_zero, List.take_succ_cons, List.take_zero, gsH_nil, and_true, cells_Ver]
  simp [cmpI, Ver.ok]
def Ver.cmp (v u : Ver) : Int := if v.maj < u.maj ∨ (v.maj = u.maj ∧ v.min < u.min) then -1 else if v.maj = u.maj ∧ v.min = u.min then 0 else 1
theorem c_spec_CompareVersions (v u : Ver) : Fun Try.prog 133 none [enc v, enc u] (.int .i64 (v.cmp u)) [] := by
  refine Fun.ofV vc_spec_CompareVersions_ok ty_spec_CompareVersions_ok rfl ?_ (fun hfit => ?_)
  · simp [ty_spec_CompareVersions, HasTys, HasVT, HasV1, enc, ty_Ver]
  simp only [vc_spec_CompareVersions, VC.den, E.den, List.map_cons, List.map_nil, Option.map_none, Option.map_some, List.getD_cons_zero, List.getD_cons_succ, List.cons_append, List.nil_append, List.append_nil, D.toI_int, D.toB_bool, D.toS_str, D.toA_agg, D.toT_tup, D.toR_sl, enc_toA, encS_toR, encS_len, List.drop_succ_cons, List.drop_zero, List.take_succ_cons, List.take_zero, gsH_nil, and_true, cells_Ver]
  simp [cmpI, eqvL, eqvD, Ver.cmp]
  (repeat' split) <;> omega
theorem c_spec_IsFace (f : Int) : Fun Try.prog 134 none [.int .i64 f] (.bool (decide (0 ≤ f ∧ f ≤ 63))) [] := by
  refine Fun.ofV vc_spec_IsFace_ok ty_spec_IsFace_ok rfl ?_ (fun hfit => ?_)
  · simp [ty_spec_IsFace, HasTys, HasVT, HasV1, HasTy]
  simp only [vc_spec_IsFace, VC.den, E.den, List.map_cons, List.map_nil, Option.map_none, Option.map_some, List.getD_cons_zero, List.getD_cons_succ, List.cons_append, List.nil_append, List.append_nil, D.toI_int, D.toB_bool, D.toS_str, D.toA_agg, D.toT_tup, D.toR_sl, enc_toA, encS_toR, encS_len, List.drop_succ_cons, List.drop_zero, List.take_succ_cons, List.take_zero, gsH_nil, and_true]
  simp [cmpI]
def Offer.verOk (o : Offer) (k : Nat) : Bool := (nth o.vers k).ok && (k == 0 || decide ((nth o.vers (k - 1)).cmp (nth o.vers k) < 0))
def Offer.ok (o : Offer) : Bool := (List.range o.vers.length).all o.verOk && decide (o.vers.length ≤ 4) && decide (0 ≤ o.face ∧ o.face ≤ 63)
theorem c_spec_IsOffer (o : Offer) : Fun Try.prog 66 none [enc o] (.bool o.ok) [] := by
  refine Fun.ofV vc_spec_IsOffer_ok ty_spec_IsOffer_ok rfl ?_ (fun hfit => ?_)
  · simp [ty_spec_IsOffer, HasTys, HasVT, HasV1, enc, cells_Offer, RowTy, ty_VerS, HasTy]
  have hl : o.vers.length ≤ 9223372036854775807 := by simp [FitsL, enc, Fits, cells_Offer] at hfit; exact fits_encS hfit.1
  unfold vc_spec_IsOffer
  refine den_loop Nat ix (fun k => k ≤ o.vers.length ∧ ∀ i, i < k → o.verOk i = true) (fun k => o.vers.length - k) 0 (fun s s' h => by rw [ix_inj _ _ h]) rfl ⟨by omega, by omega⟩ ?_
  rintro k ⟨hk, hI⟩ -
  simp only [ix, List.cons_append, List.nil_append]
  refine den_ite (fun h => ?_) (fun h => ?_)
  · simp [E.den, cells_Offer, cmpI] at h
    refine den_cond (fun hg => ?_) ?_
    · simp [E.den, cells_Offer]; omega
    (apply den_call; (focus (simp only [VC.den, E.den, List.map_cons, List.map_nil, Option.map_none, Option.map_some, List.getD_cons_zero, List.getD_cons_succ, List.cons_append, List.nil_append, List.append_nil, D.toI_int, D.toB_bool, D.toS_str, D.toA_agg, D.toT_tup, D.toR_sl, enc_toA, encS_toR, encS_len, List.drop_succ_cons, List.drop_zero, List.take_succ_cons, List.take_zero, gsH_nil, and_true, row_Ver, cells_Offer, Int.toNat_natCast]; try exact rfl)); (focus (exact c_spec_IsVersion _)); (focus (simp [HasTys, HasVT, HasV1, HasTy, RowTy, HasVs, enc])); (simp only [List.cons_append, List.nil_append]))
    refine den_cond (fun hg => ?_) ?_
    · simp [gsH, E.den, cells_Offer, cmpI] at hg ⊢
      rw [ar_sub (by omega) (by omega)]; omega
    have hs : 0 < k → (arI .sub .i64 k 1).toNat = k - 1 := fun h => by rw [ar_sub (by omega) (by omega)]; omega
    (apply den_call; (focus (simp only [VC.den, E.den, List.map_cons, List.map_nil, Option.map_none, Option.map_some, List.getD_cons_zero, List.getD_cons_succ, List.cons_append, List.nil_append, List.append_nil, D.toI_int, D.toB_bool, D.toS_str, D.toA_agg, D.toT_tup, D.toR_sl, enc_toA, encS_toR, encS_len, List.drop_succ_cons, List.drop_zero, List.take_succ_cons, List.take_zero, gsH_nil, and_true, row_Ver, cells_Offer, Int.toNat_natCast]; try exact rfl)); (focus (exact c_spec_CompareVersions _ _)); (focus (simp [HasTys, HasVT, HasV1, HasTy, RowTy, HasVs, enc])); (simp only [List.cons_append, List.nil_append]))
    refine den_ite (fun h => ?_) (fun h => ?_)
    · refine den_ret ?_
      simp [E.den, cmpI] at h ⊢
      have hb : o.verOk k = false := by
        rcases h with h | ⟨h, h2⟩
        · simp [Offer.verOk, h]
        · rw [hs h] at h2; simp [Offer.verOk]; intro _; exact ⟨by omega, h2⟩
      have : (List.range o.vers.length).all o.verOk = false := by
        rw [List.all_eq_false]; exact ⟨k, by simp; omega, by simp [hb]⟩
      simp [Offer.ok, this]
    · simp [E.den, cmpI] at h
      refine den_again (k + 1) ?_ ⟨by omega, fun i hi => ?_⟩ (by omega)
      · simp [E.den, ix]; rw [ar_add (by omega) (by omega)]
      rcases Nat.lt_or_ge i k with h' | h'
      · exact hI i h'
      obtain rfl : i = k := by omega
      simp only [Offer.verOk, h.1, Bool.true_and, Bool.or_eq_true, beq_iff_eq, decide_eq_true_eq]
      rcases Nat.eq_zero_or_pos i with h0 | h0
      · exact Or.inl h0
      · right; have := h.2 h0; rwa [hs h0] at this
  · simp [E.den, cells_Offer, cmpI] at h
    obtain rfl : k = o.vers.length := by omega
    (apply den_call; (focus (simp only [VC.den, E.den, List.map_cons, List.map_nil, Option.map_none, Option.map_some, List.getD_cons_zero, List.getD_cons_succ, List.cons_append, List.nil_append, List.append_nil, D.toI_int, D.toB_bool, D.toS_str, D.toA_agg, D.toT_tup, D.toR_sl, enc_toA, encS_toR, encS_len, List.drop_succ_cons, List.drop_zero, List.take_succ_cons, List.take_zero, gsH_nil, and_true, cells_Offer]; try exact rfl)); (focus (exact c_spec_IsFace _)); (focus (simp [HasTys, HasVT, HasV1, HasTy, RowTy, HasVs, enc])); (simp only [List.cons_append, List.nil_append]))
    refine den_ret ?_
    have : (List.range o.vers.length).all o.verOk = true := by simpa using hI
    simp only [Offer.ok, this, Bool.true_and]
    simp [E.den, cmpI, cells_Offer]
    simp only [show ((o.vers.length : Int) ≤ 4) = (o.vers.length ≤ 4) from propext (by omega)]
end Go.Proofs.Ytcjjcffcoleniaa
