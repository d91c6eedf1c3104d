/- The deal of many offers, as the reference makes it. -/
import Derived.Test.YtcjjcffcoleniaaDealMath
namespace Go.Proofs.Ytcjjcffcoleniaa
open Go.RowKit Go
set_option linter.unusedVariables false
set_option linter.unusedSimpArgs false
set_option maxRecDepth 100000
theorem bothZ_eq (a b : Int) : bothZ a b = ((bothF a b : Nat) : Int) := by
  unfold bothZ bothF
  cases ha : isFaceB a with
  | false => rfl
  | true =>
    cases hb : isFaceB b with
    | false => rfl
    | true =>
      obtain ⟨n, rfl, hn⟩ := isFaceB_nat ha
      obtain ⟨m, rfl, hm⟩ := isFaceB_nat hb
      simp [made_both hn hm]
def inAll (xs : List Offer) (i j : Nat) : Bool := okO (nth xs j) && hasV (nth xs j).vers (nth (nth xs 0).vers i)
def upAll (xs : List Offer) (i : Nat) : Deal × Bool := match lastAt (fun i => allTo (inAll xs i) xs.length) i with
  | some k => (⟨nth (nth xs 0).vers k, ((faceTo xs (afV (nth (nth xs 0).vers k)) xs.length : Nat) : Int)⟩, true)
  | none => (deal0, false)
theorem upAll_deal {xs : List Offer} (hp : 0 < xs.length) : upAll xs (nth xs 0).vers.length = (dealOf xs, dealB xs) := by
  unfold upAll dealOf dealB dealAt
  by_cases hok : allTo (fun i => okO (nth xs i)) xs.length = true
  · rw [if_neg (by rintro (h | h); omega; rw [hok] at h; cases h)]
    have e : (fun i => allTo (inAll xs i) xs.length) = comV xs := by
      funext i
      rw [Bool.eq_iff_iff]
      unfold comV inAll
      rw [allTo_iff, allTo_iff]
      rw [allTo_iff] at hok
      exact ⟨fun h j hj => by have := h j hj; simp only [Bool.and_eq_true] at this; exact this.2, fun h j hj => by rw [hok j hj, h j hj]; rfl⟩
    rw [e]
    cases hl : lastAt (comV xs) (nth xs 0).vers.length with
    | none => rfl
    | some k =>
      simp only [dealAs, Option.isSome_some]
      rw [faceTo_and (afV_eq _).2 hok]
  · rw [if_pos (.inr (by simpa using hok))]
    have e : (fun i => allTo (inAll xs i) xs.length) = fun _ => false := by
      funext i
      cases h : allTo (inAll xs i) xs.length with
      | false => rfl
      | true =>
        exfalso
        refine hok (allTo_iff.2 fun j hj => ?_)
        have := allTo_iff.1 h j hj
        unfold inAll at this
        simp only [Bool.and_eq_true] at this
        exact this.1
    rw [e, lastAt_none (fun _ => rfl)]
    rfl
theorem c_spec_NegotiateAll (xs : List Offer) : Fun Try.prog 30 none [encS xs] (.tup [enc (dealOf xs), .bool (dealB xs)]) [] := by
  refine Fun.ofV vc_spec_NegotiateAll_ok ty_spec_NegotiateAll_ok rfl ?_ (fun hfit => ?_)
  · exact ⟨ty_OfferS xs, trivial⟩
  have hl : xs.length ≤ 9223372036854775807 := fits_encS hfit.1
  unfold vc_spec_NegotiateAll
  refine den_cond (fun hg => ?_) ?_
  · simp [gsH, E.den, cmpI] at hg ⊢
    exact List.length_pos_iff.2 hg
  ((first | refine den_call ?_ (c_spec_IsOffer (nth xs 0)) (trivial) ?_ | refine den_callR ?_ (c_spec_IsOffer (nth xs 0)) (trivial) ?_ | refine den_call ?_ (.ofR (c_spec_IsOffer (nth xs 0))) (trivial) ?_); (focus (simp only [VC.den, E.den, List.map_cons, List.map_nil, Option.map_none, Option.map_some, List.getD_cons_zero, List.getD_cons_succ, List.cons_append, List.nil_append, List.append_nil, D.toI_int, D.toB_bool, D.toS_str, D.toA_agg, D.toT_tup, D.toR_sl, enc_toA, encS_toR, encS_len, List.drop_succ_cons, List.drop_zero, List.take_succ_cons, List.take_zero, gsH_nil, and_true, row_Offer, Int.toNat_zero]; try exact rfl)); (simp only [List.cons_append, List.nil_append]))
  refine den_ite (fun h => ?_) (fun h => ?_)
  · simp [E.den, cmpI] at h
    have hno : dealAt xs = none := by
      unfold dealAt
      rw [if_pos]
      rcases h with h | h
      · left; simp [h]
      · by_cases e : xs.length = 0
        · exact .inl e
        · exact .inr (allTo_bad (k := 0) (by omega) (by simpa [okO] using h))
    refine den_ret ?_
    rw [(dealOf_none hno).1, (dealOf_none hno).2]
    rfl
  simp [E.den, cmpI] at h
  have hp : 0 < xs.length := List.length_pos_iff.2 h.1
  have hl0 : (nth xs 0).vers.length ≤ 9223372036854775807 := fits_encS (fits_nth hfit.1 hp).1
  refine den_cond (fun hg => ?_) ?_
  · simp [E.den]; exact hp
  refine den_for (nth xs 0).vers.length (fun i => [.bool (upAll xs i).2, .int .i64 i, .int .i64 (upAll xs i).1.ver.maj, .int .i64 (upAll xs i).1.ver.min, .int .i64 (upAll xs i).1.face]) (fun _ => True) rfl trivial ?_
  intro i hi _ _
  simp only [List.cons_append, List.nil_append]
  refine den_ite (fun h2 => ?_) (fun h2 => ?_)
  · simp only [E.den, List.map_cons, List.map_nil, List.getD_cons_zero, List.getD_cons_succ, D.toI_int, encS_toR, Int.toNat_zero, row_Offer, enc_toA, cells_Offer, encS_len, D.toB_bool, cmpI_lss] at h2
    replace h2 : i < (nth xs 0).vers.length := by simpa using h2
    refine den_cond (fun _ => ?_) ?_
    · simp only [E.den, List.map_cons, List.map_nil, List.getD_cons_zero, List.getD_cons_succ, D.toI_int, encS_toR, row_Offer, enc_toA, cells_Offer, encS_len, Int.toNat_zero]
      simp; omega
    ((first | refine den_call ?_ (c_spec_AllowedFace (nth (nth xs 0).vers i)) (rfl) ?_ | refine den_callR ?_ (c_spec_AllowedFace (nth (nth xs 0).vers i)) (rfl) ?_ | refine den_call ?_ (.ofR (c_spec_AllowedFace (nth (nth xs 0).vers i))) (rfl) ?_); (focus (simp only [VC.den, E.den, List.map_cons, List.map_nil, Option.map_none, Option.map_some, List.getD_cons_zero, List.getD_cons_succ, List.cons_append, List.nil_append, List.append_nil, D.toI_int, D.toB_bool, D.toS_str, D.toA_agg, D.toT_tup, D.toR_sl, enc_toA, encS_toR, encS_len, List.drop_succ_cons, List.drop_zero, List.take_succ_cons, List.take_zero, gsH_nil, and_true, row_Offer, row_Ver, cells_Offer, Int.toNat_zero, Int.toNat_natCast]; try exact rfl)); (simp only [List.cons_append, List.nil_append]))
    refine den_for xs.length (fun j => [.bool (allTo (inAll xs i) j), .int .i64 (faceTo xs (afV (nth (nth xs 0).vers i)) j), .int .i64 j]) (fun _ => True) ?_ trivial ?_
    · simp [E.den, allTo, faceTo, (afV_eq (nth (nth xs 0).vers i)).1]
    intro j hj _ _
    simp only [List.cons_append, List.nil_append]
    refine den_ite (fun h3 => ?_) (fun h3 => ?_)
    · simp [E.den, cmpI] at h3
      refine den_cond (fun _ => ?_) ?_
      · simp [E.den]; omega
      ((first | refine den_call ?_ (c_spec_IsOffer (nth xs j)) (trivial) ?_ | refine den_callR ?_ (c_spec_IsOffer (nth xs j)) (trivial) ?_ | refine den_call ?_ (.ofR (c_spec_IsOffer (nth xs j))) (trivial) ?_); (focus (simp only [VC.den, E.den, List.map_cons, List.map_nil, Option.map_none, Option.map_some, List.getD_cons_zero, List.getD_cons_succ, List.cons_append, List.nil_append, List.append_nil, D.toI_int, D.toB_bool, D.toS_str, D.toA_agg, D.toT_tup, D.toR_sl, enc_toA, encS_toR, encS_len, List.drop_succ_cons, List.drop_zero, List.take_succ_cons, List.take_zero, gsH_nil, and_true, row_Offer, Int.toNat_natCast]; try exact rfl)); (simp only [List.cons_append, List.nil_append]))
      ((first | refine den_call ?_ (c_spec_l5In (nth xs j).vers (nth (nth xs 0).vers i)) (trivial) ?_ | refine den_callR ?_ (c_spec_l5In (nth xs j).vers (nth (nth xs 0).vers i)) (trivial) ?_ | refine den_call ?_ (.ofR (c_spec_l5In (nth xs j).vers (nth (nth xs 0).vers i))) (trivial) ?_); (focus (simp only [VC.den, E.den, List.map_cons, List.map_nil, Option.map_none, Option.map_some, List.getD_cons_zero, List.getD_cons_succ, List.cons_append, List.nil_append, List.append_nil, D.toI_int, D.toB_bool, D.toS_str, D.toA_agg, D.toT_tup, D.toR_sl, enc_toA, encS_toR, encS_len, List.drop_succ_cons, List.drop_zero, List.take_succ_cons, List.take_zero, gsH_nil, and_true, row_Offer, row_Ver, cells_Offer, Int.toNat_zero, Int.toNat_natCast]; try exact rfl)); (simp only [List.cons_append, List.nil_append]))
      ((first | refine den_call ?_ (c_spec_BothFaces (faceTo xs (afV (nth (nth xs 0).vers i)) j : Nat) (nth xs j).face) (rfl) ?_ | refine den_callR ?_ (c_spec_BothFaces (faceTo xs (afV (nth (nth xs 0).vers i)) j : Nat) (nth xs j).face) (rfl) ?_ | refine den_call ?_ (.ofR (c_spec_BothFaces (faceTo xs (afV (nth (nth xs 0).vers i)) j : Nat) (nth xs j).face)) (rfl) ?_); (focus (simp only [VC.den, E.den, List.map_cons, List.map_nil, Option.map_none, Option.map_some, List.getD_cons_zero, List.getD_cons_succ, List.cons_append, List.nil_append, List.append_nil, D.toI_int, D.toB_bool, D.toS_str, D.toA_agg, D.toT_tup, D.toR_sl, enc_toA, encS_toR, encS_len, List.drop_succ_cons, List.drop_zero, List.take_succ_cons, List.take_zero, gsH_nil, and_true, row_Offer, cells_Offer, Int.toNat_natCast]; try exact rfl)); (simp only [List.cons_append, List.nil_append]))
      refine den_next h3 ?_ trivial
      simp only [E.den, List.map_cons, List.map_nil, List.getD_cons_zero, List.getD_cons_succ, D.toI_int, D.toB_bool, bothZ_eq]
      rw [ar_add (by omega) (by omega)]
      simp [allTo, inAll, okO, hasV, faceTo, Bool.and_assoc]
    · simp [E.den, cmpI] at h3
      obtain rfl : j = xs.length := by omega
      refine den_ite (fun h4 => ?_) (fun h4 => ?_)
      · simp only [E.den, List.getD_cons_zero, List.getD_cons_succ, D.toB_bool] at h4
        have hu : upAll xs (i + 1) = (⟨nth (nth xs 0).vers i, ((faceTo xs (afV (nth (nth xs 0).vers i)) xs.length : Nat) : Int)⟩, true) := by
          unfold upAll; rw [lastAt_yes (p := fun i => allTo (inAll xs i) xs.length) h4]
        refine ⟨h2, ?_, trivial⟩
        simp only [E.den, List.map_cons, List.map_nil, List.getD_cons_zero, List.getD_cons_succ, D.toI_int, D.toA_agg, encS_toR, row_Offer, row_Ver, enc_toA, cells_Offer, cells_Ver, Int.toNat_natCast, Int.toNat_zero, hu, List.cons_append, List.nil_append]
        rw [ar_add (by omega) (by omega)]
        rfl
      · simp only [E.den, List.getD_cons_zero, List.getD_cons_succ, D.toB_bool] at h4
        have hu : upAll xs (i + 1) = upAll xs i := by unfold upAll; rw [lastAt_no (p := fun i => allTo (inAll xs i) xs.length) h4]
        refine ⟨h2, ?_, trivial⟩
        simp only [E.den, List.map_cons, List.map_nil, List.getD_cons_zero, List.getD_cons_succ, D.toI_int, hu]
        rw [ar_add (by omega) (by omega)]
        rfl
  · simp only [E.den, List.map_cons, List.map_nil, List.getD_cons_zero, List.getD_cons_succ, D.toI_int, encS_toR, row_Offer, enc_toA, cells_Offer, encS_len, Int.toNat_zero, D.toB_bool, cmpI_lss] at h2
    simp at h2
    obtain rfl : i = (nth xs 0).vers.length := by omega
    refine den_ret ?_
    have e := upAll_deal hp
    simp only [Prod.ext_iff] at e
    rw [← e.1, ← e.2]
    rfl
end Go.Proofs.Ytcjjcffcoleniaa
