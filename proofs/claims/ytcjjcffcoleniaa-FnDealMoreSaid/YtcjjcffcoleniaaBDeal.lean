/- Deals: what the program and the reference make of offers. -/
import Derived.Test.YtcjjcffcoleniaaBNego
import Derived.Test.YtcjjcffcoleniaaNegoM
namespace Go.Proofs.Ytcjjcffcoleniaa
open Go.RowKit Go
set_option linter.unusedVariables false
set_option linter.unusedSimpArgs false
set_option maxRecDepth 100000
theorem and_nat : ∀ n m : Fin 64, arI .and .i64 ((n.val : Nat) : Int) ((m.val : Nat) : Int) = ((n.val &&& m.val : Nat) : Int) := by decide +kernel
theorem c_impl_NegotiateAll (xs : List Offer) : Fun Try.prog 23 none [encS xs] (.tup [enc (dealOf xs), .bool (dealB xs)]) [] := by
  refine Fun.ofV vc_impl_NegotiateAll_ok ty_impl_NegotiateAll_ok rfl ?_ (fun hfit => ?_)
  · exact ⟨ty_OfferS xs, trivial⟩
  have hl : xs.length ≤ 9223372036854775807 := fits_encS hfit.1
  unfold vc_impl_NegotiateAll
  refine den_loop Nat (fun k => [.int .i64 (faceTo xs 63 k), .int .i64 k]) (fun k => k ≤ xs.length ∧ allTo (fun i => okO (nth xs i)) k = true) (fun k => xs.length - k) 0 (fun s s' h => by simp at h; omega) rfl ⟨by omega, rfl⟩ ?_
  rintro k ⟨hk, hI⟩ -
  simp only [List.cons_append, List.nil_append]
  refine den_ite (fun h => ?_) (fun h => ?_)
  · simp [E.den, cmpI] at h
    refine den_cond (fun hg => ?_) ?_
    · simp [E.den]; omega
    (apply den_call; (focus (simp only [VC.den, E.den, List.map_cons, List.map_nil, Option.map_none, Option.map_some, List.getD_cons_zero, List.getD_cons_succ, List.cons_append, List.nil_append, List.append_nil, D.toI_int, D.toB_bool, D.toS_str, D.toA_agg, D.toT_tup, D.toR_sl, enc_toA, encS_toR, encS_len, List.drop_succ_cons, List.drop_zero, List.take_succ_cons, List.take_zero, gsH_nil, and_true, row_Offer, Int.toNat_natCast]; try exact rfl)); (focus (exact c_impl_IsOffer _)); (focus (simp [HasTys, HasVT, HasV1, HasTy, RowTy, HasVs, enc])); (simp only [List.cons_append, List.nil_append]))
    refine den_ite (fun h2 => ?_) (fun h2 => ?_)
    · simp [E.den] at h2
      have hno : dealAt xs = none := by
        unfold dealAt
        rw [if_pos (Or.inr (allTo_bad h (by simpa [okO] using h2)))]
      refine den_ret ?_
      rw [(dealOf_none hno).1, (dealOf_none hno).2]
      rfl
    · simp [E.den] at h2
      refine den_again (k + 1) ?_ ⟨by omega, by show (allTo _ k && okO (nth xs k)) = true; rw [hI]; exact h2⟩ (by omega)
      have hf := okO_face (x := nth xs k) h2
      obtain ⟨m, hm, hm64⟩ := isFaceB_nat hf
      have hft := faceTo_lt (xs := xs) (s := 63) (by omega) k
      have e := and_nat ⟨_, hft⟩ ⟨m, hm64⟩
      simp only at e
      have e2 : faceTo xs 63 (k + 1) = faceTo xs 63 k &&& m := by
        show bothF (faceTo xs 63 k) (nth xs k).face = _
        rw [bothF_face (faceB_nat hft) hf, hm]; simp
      simp only [E.den, List.map_cons, List.map_nil, List.getD_cons_zero, List.getD_cons_succ, D.toI_int, encS_toR, row_Offer, Int.toNat_natCast, enc_toA, cells_Offer, hm]
      rw [e, e2, ar_add (by omega) (by omega)]
      rfl
  · simp [E.den, cmpI] at h
    obtain rfl : k = xs.length := by omega
    refine den_ite (fun h0 => ?_) (fun h0 => ?_)
    · simp [E.den, cmpI] at h0
      have hno : dealAt xs = none := by
        unfold dealAt
        rw [if_pos (Or.inl (by simp [h0]))]
      refine den_ret ?_
      rw [(dealOf_none hno).1, (dealOf_none hno).2]
      rfl
    simp [E.den, cmpI] at h0
    have hpos : 0 < xs.length := List.length_pos_iff.2 h0
    have hat : dealAt xs = lastAt (comV xs) (nth xs 0).vers.length := by
      unfold dealAt
      rw [if_neg (by rintro (h | h); omega; rw [hI] at h; cases h)]
    have hl0 : (nth xs 0).vers.length ≤ 9223372036854775807 := fits_encS (fits_nth hfit.1 hpos).1
    refine den_cond (fun hg => ?_) ?_
    · simp [E.den]; exact hpos
    refine den_loop Nat (fun j => [.int .i64 ((j : Int) - 1)]) (fun j => j ≤ (nth xs 0).vers.length ∧ lastAt (comV xs) (nth xs 0).vers.length = lastAt (comV xs) j) (fun j => j) (nth xs 0).vers.length (fun s s' h => by simp at h; omega) ?_ ⟨by omega, rfl⟩ ?_
    · have e : arI .sub .i64 ((nth xs 0).vers.length : Int) 1 = ((nth xs 0).vers.length : Int) - 1 := ar_sub (by omega) (by omega)
      simp only [E.den, List.map_cons, List.map_nil, List.getD_cons_zero, List.getD_cons_succ, D.toI_int, encS_toR, row_Offer, enc_toA, cells_Offer, encS_len, Int.toNat_zero, e]
    rintro j ⟨hj, hJ⟩ -
    simp only [List.cons_append, List.nil_append]
    refine den_ite (fun h1 => ?_) (fun h1 => ?_)
    · simp [E.den, cmpI] at h1
      obtain ⟨i, rfl⟩ : ∃ i, j = i + 1 := ⟨j - 1, by omega⟩
      rw [show (((i + 1 : Nat) : Int) - 1) = (i : Int) by omega]
      refine den_cond (fun hg => ?_) (den_cond (fun hg => ?_) ?_)
      · simp [E.den]; exact hpos
      · simp only [E.den, List.getD_cons_zero, List.getD_cons_succ, D.toI_int, encS_toR, List.map_cons, List.map_nil, row_Offer, enc_toA, cells_Offer, encS_len, Int.toNat_zero]
        simp; omega
      refine den_loop Nat (fun k => [.bool (allTo (fun i' => hasV (nth xs i').vers (nth (nth xs 0).vers i)) k), .int .i64 k]) (fun k => k ≤ xs.length) (fun k => xs.length - k) 0 (fun s s' h => by simp at h; omega) rfl (by omega) ?_
      rintro k hk' -
      simp only [List.cons_append, List.nil_append]
      refine den_ite (fun h2 => ?_) (fun h2 => ?_)
      · simp [E.den, cmpI] at h2
        refine den_cond (fun hg => ?_) ?_
        · simp [E.den]; omega
        (apply den_call; (focus (simp only [VC.den, E.den, List.map_cons, List.map_nil, Option.map_none, Option.map_some, List.getD_cons_zero, List.getD_cons_succ, List.cons_append, List.nil_append, List.append_nil, D.toI_int, D.toB_bool, D.toS_str, D.toA_agg, D.toT_tup, D.toR_sl, enc_toA, encS_toR, encS_len, List.drop_succ_cons, List.drop_zero, List.take_succ_cons, List.take_zero, gsH_nil, and_true, row_Offer, row_Ver, cells_Offer, Int.toNat_natCast, Int.toNat_zero]; try exact rfl)); (focus (exact c_impl_hasVersion (nth xs k).vers (nth (nth xs 0).vers i))); (focus (simp [HasTys, HasVT, HasV1, HasTy, RowTy, HasVs, enc])); (simp only [List.cons_append, List.nil_append]))
        refine den_again (k + 1) ?_ (by omega) (by omega)
        simp only [E.den, List.map_cons, List.map_nil, List.getD_cons_zero, List.getD_cons_succ, D.toI_int, D.toB_bool]
        rw [ar_add (by omega) (by omega)]
        rfl
      · simp [E.den, cmpI] at h2
        obtain rfl : k = xs.length := by omega
        refine den_ite (fun h3 => ?_) (fun h3 => ?_)
        · simp only [E.den, List.getD_cons_zero, List.getD_cons_succ, D.toB_bool] at h3
          have hd : dealAt xs = some i := by rw [hat, hJ]; exact lastAt_yes h3
          (apply den_call; (focus (simp only [VC.den, E.den, List.map_cons, List.map_nil, Option.map_none, Option.map_some, List.getD_cons_zero, List.getD_cons_succ, List.cons_append, List.nil_append, List.append_nil, D.toI_int, D.toB_bool, D.toS_str, D.toA_agg, D.toT_tup, D.toR_sl, enc_toA, encS_toR, encS_len, List.drop_succ_cons, List.drop_zero, List.take_succ_cons, List.take_zero, gsH_nil, and_true, row_Offer, row_Ver, cells_Offer, Int.toNat_natCast, Int.toNat_zero]; try exact rfl)); (focus (exact c_impl_AllowedFace (nth (nth xs 0).vers i))); (focus (simp [HasTys, HasVT, HasV1, HasTy, RowTy, HasVs, enc])); (simp only [List.cons_append, List.nil_append]))
          refine den_ret ?_
          have hft := faceTo_lt (xs := xs) (s := 63) (by omega) xs.length
          have ha := afV_eq (nth (nth xs 0).vers i)
          have e := and_nat ⟨_, hft⟩ ⟨_, ha.2⟩
          simp only at e
          rw [(dealOf_some hd).1, (dealOf_some hd).2]
          simp only [E.den, List.map_cons, List.map_nil, List.getD_cons_zero, List.getD_cons_succ, D.toI_int, D.toA_agg, D.toT_tup, encS_toR, row_Offer, row_Ver, enc_toA, cells_Offer, cells_Ver, Int.toNat_natCast, Int.toNat_zero, ha.1, e]
          rfl
        · simp only [E.den, List.getD_cons_zero, List.getD_cons_succ, D.toB_bool] at h3
          refine ⟨i, ?_, ⟨by omega, by rw [hJ]; exact lastAt_no h3⟩, by omega⟩
          have e : arI .sub .i64 (i : Int) 1 = (i : Int) - 1 := ar_sub (by omega) (by omega)
          simp only [E.den, List.map_cons, List.map_nil, List.getD_cons_zero, List.getD_cons_succ, D.toI_int, e]
    · simp [E.den, cmpI] at h1
      obtain rfl : j = 0 := by omega
      have hno : dealAt xs = none := by rw [hat, hJ]; rfl
      refine den_ret ?_
      rw [(dealOf_none hno).1, (dealOf_none hno).2]
      rfl
theorem c_impl_Negotiate (a b : Offer) : Fun Try.prog 17 none [enc a, enc b] (.tup [enc (dealOf [a, b]), .bool (dealB [a, b])]) [] := by
  refine Fun.ofV vc_impl_Negotiate_ok ty_impl_Negotiate_ok rfl ?_ (fun hfit => ?_)
  · exact ⟨ty_Offer a, ty_Offer b, trivial⟩
  unfold vc_impl_Negotiate
  refine den_call (r := .tup [enc (dealOf [a, b]), .bool (dealB [a, b])]) (xs := [encS [a, b]]) rfl (c_impl_NegotiateAll [a, b]) ⟨ty_Deal _, trivial, trivial⟩ (den_ret rfl)
def up (xs : List Offer) (i : Nat) : Deal × Bool := match lastAt (comV xs) i with
  | some k => (dealAs xs k, true)
  | none => (deal0, false)
theorem up_deal {xs : List Offer} (h : dealAt xs = lastAt (comV xs) (nth xs 0).vers.length) : (dealOf xs, dealB xs) = up xs (nth xs 0).vers.length := by
  unfold up dealOf dealB
  rw [h]
  cases lastAt (comV xs) (nth xs 0).vers.length <;> rfl
theorem bothZ_nat {n m : Nat} (hn : n < 64) (hm : m < 64) : bothZ n m = ((n &&& m : Nat) : Int) := by
  simp [bothZ, faceB_nat hn, faceB_nat hm, made_both hn hm]
theorem c_spec_Negotiate (a b : Offer) : Fun Try.prog 25 none [enc a, enc b] (.tup [enc (dealOf [a, b]), .bool (dealB [a, b])]) [] := by
  refine Fun.ofV vc_spec_Negotiate_ok ty_spec_Negotiate_ok rfl ?_ (fun hfit => ?_)
  · exact ⟨ty_Offer a, ty_Offer b, trivial⟩
  have hl : a.vers.length ≤ 9223372036854775807 := fits_encS hfit.1.1
  unfold vc_spec_Negotiate
  (apply den_call; (focus (simp only [VC.den, E.den, List.map_cons, List.map_nil, Option.map_none, Option.map_some, List.getD_cons_zero, List.getD_cons_succ, List.cons_append, List.nil_append, List.append_nil, D.toI_int, D.toB_bool, D.toS_str, D.toA_agg, D.toT_tup, D.toR_sl, enc_toA, encS_toR, encS_len, List.drop_succ_cons, List.drop_zero, List.take_succ_cons, List.take_zero, gsH_nil, and_true]; try exact rfl)); (focus (exact c_spec_IsOffer a)); (focus (simp [HasTys, HasVT, HasV1, HasTy, RowTy, HasVs, enc])); (simp only [List.cons_append, List.nil_append]))
  (apply den_call; (focus (simp only [VC.den, E.den, List.map_cons, List.map_nil, Option.map_none, Option.map_some, List.getD_cons_zero, List.getD_cons_succ, List.cons_append, List.nil_append, List.append_nil, D.toI_int, D.toB_bool, D.toS_str, D.toA_agg, D.toT_tup, D.toR_sl, enc_toA, encS_toR, encS_len, List.drop_succ_cons, List.drop_zero, List.take_succ_cons, List.take_zero, gsH_nil, and_true]; try exact rfl)); (focus (exact c_spec_IsOffer b)); (focus (simp [HasTys, HasVT, HasV1, HasTy, RowTy, HasVs, enc])); (simp only [List.cons_append, List.nil_append]))
  refine den_ite (fun h => ?_) (fun h => ?_)
  · simp [E.den] at h
    have hno : dealAt [a, b] = none := by
      unfold dealAt
      rw [if_pos]
      right
      rcases h with h | h <;> simp [allTo, nth, okO, h]
    refine den_ret ?_
    rw [(dealOf_none hno).1, (dealOf_none hno).2]
    rfl
  simp [E.den] at h
  have hat : dealAt [a, b] = lastAt (comV [a, b]) a.vers.length := by
    unfold dealAt
    rw [if_neg (by rintro (h' | h'); simp at h'; simp [allTo, nth, okO, h] at h')]
    rfl
  refine den_loop Nat (fun i => [.bool (up [a, b] i).2, .int .i64 i, .int .i64 (up [a, b] i).1.ver.maj, .int .i64 (up [a, b] i).1.ver.min, .int .i64 (up [a, b] i).1.face]) (fun i => i ≤ a.vers.length) (fun i => a.vers.length - i) 0 (fun s s' h => by simp at h; omega) rfl (by omega) ?_
  rintro i hi -
  simp only [List.cons_append, List.nil_append]
  refine den_ite (fun h2 => ?_) (fun h2 => ?_)
  · simp [E.den, cmpI, cells_Offer] at h2
    refine den_cond (fun hg => ?_) ?_
    · simp [E.den, cells_Offer]; omega
    (apply den_call; (focus (simp only [VC.den, E.den, List.map_cons, List.map_nil, Option.map_none, Option.map_some, List.getD_cons_zero, List.getD_cons_succ, List.cons_append, List.nil_append, List.append_nil, D.toI_int, D.toB_bool, D.toS_str, D.toA_agg, D.toT_tup, D.toR_sl, enc_toA, encS_toR, encS_len, List.drop_succ_cons, List.drop_zero, List.take_succ_cons, List.take_zero, gsH_nil, and_true, row_Ver, cells_Offer, Int.toNat_natCast]; try exact rfl)); (focus (exact c_spec_l5In b.vers (nth a.vers i))); (focus (simp [HasTys, HasVT, HasV1, HasTy, RowTy, HasVs, enc])); (simp only [List.cons_append, List.nil_append]))
    have hin : nth a.vers i ∈ a.vers := nth_mem h2
    have hcom : comV [a, b] i = decide (nth a.vers i ∈ b.vers) := by
      simp [comV, allTo, nth, hasV]
      intro _; simpa [nth] using hin
    refine den_ite (fun h3 => ?_) (fun h3 => ?_)
    · simp only [E.den, List.getD_cons_zero, List.getD_cons_succ, D.toB_bool] at h3
      (apply den_call; (focus (simp only [VC.den, E.den, List.map_cons, List.map_nil, Option.map_none, Option.map_some, List.getD_cons_zero, List.getD_cons_succ, List.cons_append, List.nil_append, List.append_nil, D.toI_int, D.toB_bool, D.toS_str, D.toA_agg, D.toT_tup, D.toR_sl, enc_toA, encS_toR, encS_len, List.drop_succ_cons, List.drop_zero, List.take_succ_cons, List.take_zero, gsH_nil, and_true, cells_Offer]; try exact rfl)); (focus (exact c_spec_BothFaces a.face b.face)); (focus (simp [HasTys, HasVT, HasV1, HasTy, RowTy, HasVs, enc])); (simp only [List.cons_append, List.nil_append]))
      (apply den_call; (focus (simp only [VC.den, E.den, List.map_cons, List.map_nil, Option.map_none, Option.map_some, List.getD_cons_zero, List.getD_cons_succ, List.cons_append, List.nil_append, List.append_nil, D.toI_int, D.toB_bool, D.toS_str, D.toA_agg, D.toT_tup, D.toR_sl, enc_toA, encS_toR, encS_len, List.drop_succ_cons, List.drop_zero, List.take_succ_cons, List.take_zero, gsH_nil, and_true, row_Ver, cells_Offer, Int.toNat_natCast]; try exact rfl)); (focus (exact c_spec_AllowedFace (nth a.vers i))); (focus (simp [HasTys, HasVT, HasV1, HasTy, RowTy, HasVs, enc])); (simp only [List.cons_append, List.nil_append]))
      (apply den_call; (focus (simp only [VC.den, E.den, List.map_cons, List.map_nil, Option.map_none, Option.map_some, List.getD_cons_zero, List.getD_cons_succ, List.cons_append, List.nil_append, List.append_nil, D.toI_int, D.toB_bool, D.toS_str, D.toA_agg, D.toT_tup, D.toR_sl, enc_toA, encS_toR, encS_len, List.drop_succ_cons, List.drop_zero, List.take_succ_cons, List.take_zero, gsH_nil, and_true]; try exact rfl)); (focus (exact c_spec_BothFaces _ _)); (focus (simp [HasTys, HasVT, HasV1, HasTy, RowTy, HasVs, enc])); (simp only [List.cons_append, List.nil_append]))
      refine den_again (i + 1) ?_ (by omega) (by omega)
      have hu : up [a, b] (i + 1) = (dealAs [a, b] i, true) := by
        unfold up; rw [lastAt_yes (by rw [hcom]; exact h3)]
      obtain ⟨m, hm, hm64⟩ := isFaceB_nat (okO_face (x := a) h.1)
      obtain ⟨m', hm', hm64'⟩ := isFaceB_nat (okO_face (x := b) h.2)
      have ha := afV_eq (nth a.vers i)
      have hf : (dealAs [a, b] i).face = bothZ (bothZ a.face b.face) (afZ (nth a.vers i).maj (nth a.vers i).min) := by
        rw [hm, hm', ha.1, bothZ_nat hm64 hm64', bothZ_nat (and_lt64 hm64) ha.2]
        have e1 : faceTo [a, b] 63 2 = m &&& m' := by
          show bothF ((bothF 63 a.face : Nat) : Int) b.face = _
          have q : bothF 63 a.face = m := by
            rw [bothF_face (a := 63) (by decide) (okO_face (x := a) h.1), hm]
            exact (show ∀ n : Fin 64, 63 &&& n.val = n.val by decide +kernel) ⟨m, hm64⟩
          rw [q, bothF_face (faceB_nat hm64) (okO_face (x := b) h.2), hm']
          simp
        show ((faceTo [a, b] 63 2 &&& afV (nth a.vers i) : Nat) : Int) = _
        rw [e1]
      have hv : (dealAs [a, b] i).ver = nth a.vers i := rfl
      simp only [E.den, List.map_cons, List.map_nil, List.getD_cons_zero, List.getD_cons_succ, D.toI_int, D.toA_agg, encS_toR, row_Ver, enc_toA, cells_Offer, cells_Ver, Int.toNat_natCast, hu, hf, hv, List.cons_append, List.nil_append]
      rw [ar_add (by omega) (by omega)]
      rfl
    · simp only [E.den, List.getD_cons_zero, List.getD_cons_succ, D.toB_bool] at h3
      refine den_again (i + 1) ?_ (by omega) (by omega)
      have hu : up [a, b] (i + 1) = up [a, b] i := by
        unfold up; rw [lastAt_no (by rw [hcom]; exact h3)]
      simp only [E.den, List.map_cons, List.map_nil, List.getD_cons_zero, List.getD_cons_succ, D.toI_int, hu]
      rw [ar_add (by omega) (by omega)]
      rfl
  · simp [E.den, cmpI, cells_Offer] at h2
    obtain rfl : i = a.vers.length := by omega
    refine den_ret ?_
    have e := up_deal (xs := [a, b]) hat
    simp only [Prod.ext_iff] at e
    rw [e.1, e.2]
    rfl
end Go.Proofs.Ytcjjcffcoleniaa
