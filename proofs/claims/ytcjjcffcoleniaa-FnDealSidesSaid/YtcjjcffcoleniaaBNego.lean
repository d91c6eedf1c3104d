/- What two offers have in common: the reference's and the program's functions. -/
import Derived.Test.YtcjjcffcoleniaaBOffer
import Derived.Test.YtcjjcffcoleniaaAEx
namespace Go.Proofs.Ytcjjcffcoleniaa
open Go.RowKit Go
set_option linter.unusedVariables false
set_option linter.unusedSimpArgs false
set_option maxRecDepth 100000
theorem add_pow : ∀ n : Fin 64, ∀ k : Fin 6, n.val < 2 ^ k.val → arI .add .i64 ((n : Nat) : Int) ((2 ^ (k : Nat) : Nat) : Int) = ((n.val + 2 ^ k.val : Nat) : Int) := by decide +kernel
theorem c_spec_AllowedFace (v : Ver) : Fun Try.prog 77 none [enc v] (.int .i64 (afZ v.maj v.min)) [] := by
  refine Fun.ofV vc_spec_AllowedFace_ok ty_spec_AllowedFace_ok rfl ?_ (fun hfit => ?_)
  · exact ⟨ty_Ver v, trivial⟩
  unfold vc_spec_AllowedFace
  by_cases h : v.ok = true
  · refine den_loop Nat (fun k => [.int .i64 (afN v.maj v.min k), .int .i64 k]) (fun k => k ≤ 6) (fun k => 6 - k) 0 (fun s s' h => by simp at h; omega) rfl (by omega) ?_
    intro k hk _
    simp only [List.cons_append, List.nil_append]
    (apply den_call; (focus (simp only [VC.den, E.den, List.map_cons, List.map_nil, Option.map_none, Option.map_some, List.getD_cons_zero, List.getD_cons_succ, List.cons_append, List.nil_append, List.append_nil, D.toI_int, D.toB_bool, D.toS_str, D.toA_agg, D.toT_tup, D.toR_sl, enc_toA, encS_toR, encS_len, List.drop_succ_cons, List.drop_zero, List.take_succ_cons, List.take_zero, gsH_nil, and_true]; try exact rfl)); (focus (exact c_spec_IsVersion v)); (focus (simp [HasTys, HasVT, HasV1, HasTy, RowTy, HasVs, enc])); (simp only [List.cons_append, List.nil_append]))
    refine den_ite (fun h2 => ?_) (fun h2 => ?_)
    · simp [E.den, cmpI, h] at h2
      have h2 : k < 6 := by omega
      (apply den_call; (focus (simp only [VC.den, E.den, List.map_cons, List.map_nil, Option.map_none, Option.map_some, List.getD_cons_zero, List.getD_cons_succ, List.cons_append, List.nil_append, List.append_nil, D.toI_int, D.toB_bool, D.toS_str, D.toA_agg, D.toT_tup, D.toR_sl, enc_toA, encS_toR, encS_len, List.drop_succ_cons, List.drop_zero, List.take_succ_cons, List.take_zero, gsH_nil, and_true]; try exact rfl)); (focus (exact c_spec_SinceOf k h2)); (focus (simp [HasTys, HasVT, HasV1, HasTy, RowTy, HasVs, enc, ty_Ver])); (simp only [List.cons_append, List.nil_append]))
      (apply den_call; (focus (simp only [VC.den, E.den, List.map_cons, List.map_nil, Option.map_none, Option.map_some, List.getD_cons_zero, List.getD_cons_succ, List.cons_append, List.nil_append, List.append_nil, D.toI_int, D.toB_bool, D.toS_str, D.toA_agg, D.toT_tup, D.toR_sl, enc_toA, encS_toR, encS_len, List.drop_succ_cons, List.drop_zero, List.take_succ_cons, List.take_zero, gsH_nil, and_true]; try exact rfl)); (focus (exact c_spec_CompareVersions (sinceV k) v)); (focus (simp [HasTys, HasVT, HasV1, HasTy, RowTy, HasVs, enc])); (simp only [List.cons_append, List.nil_append]))
      refine den_ite (fun h3 => ?_) (fun h3 => ?_)
      · simp [E.den, cmpI] at h3
        refine den_cond (fun _ => ?_) ?_
        · simp [E.den, cmpI]
        refine den_again (k + 1) ?_ (by omega) (by omega)
        have e1 := allow_shl ⟨k, h2⟩
        have e2 := add_pow ⟨afN v.maj v.min k, af_le _ _ k hk⟩ ⟨k, h2⟩ (afN_lt _ _ _)
        simp only at e1 e2
        simp only [E.den, List.map_cons, List.map_nil, List.getD_cons_zero, List.getD_cons_succ, D.toI_int]
        rw [e1, e2, ar_add (by omega) (by omega), afN_yes (by simp [allows]; exact h3)]
        rfl
      · simp [E.den, cmpI] at h3
        refine den_again (k + 1) ?_ (by omega) (by omega)
        simp only [E.den, List.map_cons, List.map_nil, List.getD_cons_zero, List.getD_cons_succ, D.toI_int]
        rw [ar_add (by omega) (by omega), afN_no (by simp [allows]; exact h3)]
        rfl
    · simp [E.den, cmpI, h] at h2
      obtain rfl : k = 6 := by omega
      exact den_ret (by rw [Ver.ok_eq] at h; simp [E.den, afZ, h])
  · have h : v.ok = false := by simpa using h
    refine den_loop Unit (fun _ => [.int .i64 0, .int .i64 0]) (fun k => True) (fun k => 0) () (fun s s' h => rfl) rfl trivial ?_
    intro k hk _
    simp only [List.cons_append, List.nil_append]
    (apply den_call; (focus (simp only [VC.den, E.den, List.map_cons, List.map_nil, Option.map_none, Option.map_some, List.getD_cons_zero, List.getD_cons_succ, List.cons_append, List.nil_append, List.append_nil, D.toI_int, D.toB_bool, D.toS_str, D.toA_agg, D.toT_tup, D.toR_sl, enc_toA, encS_toR, encS_len, List.drop_succ_cons, List.drop_zero, List.take_succ_cons, List.take_zero, gsH_nil, and_true]; try exact rfl)); (focus (exact c_spec_IsVersion v)); (focus (simp [HasTys, HasVT, HasV1, HasTy, RowTy, HasVs, enc])); (simp only [List.cons_append, List.nil_append]))
    refine den_ite (fun h2 => ?_) (fun h2 => ?_)
    · simp [E.den, cmpI, h] at h2
    · exact den_ret (by rw [Ver.ok_eq] at h; simp [E.den, afZ, h])
theorem c_spec_l2Has' (n k : Nat) (hm : n < 64) (hk : k < 6) : Fun Try.prog 143 none [.int .i64 n, .int .i64 k] (.bool (n.testBit k)) [] := c_spec_l2Has n k hm hk
def bothZ (a b : Int) : Int := if isFaceB a && isFaceB b then ((madeN cBoth a.toNat b.toNat 6 : Nat) : Int) else 0
theorem c_spec_l2Made (a b : Int) : Fun Try.prog 137 none [.int .i64 a, .int .i64 b, .int .i64 0] (.int .i64 (bothZ a b)) [] := by
  refine Fun.ofV vc_spec_l2Made_ok ty_spec_l2Made_ok rfl ?_ (fun hfit => ?_)
  · exact ⟨rfl, rfl, rfl, trivial⟩
  unfold vc_spec_l2Made
  (apply den_call; (focus (simp only [VC.den, E.den, List.map_cons, List.map_nil, Option.map_none, Option.map_some, List.getD_cons_zero, List.getD_cons_succ, List.cons_append, List.nil_append, List.append_nil, D.toI_int, D.toB_bool, D.toS_str, D.toA_agg, D.toT_tup, D.toR_sl, enc_toA, encS_toR, encS_len, List.drop_succ_cons, List.drop_zero, List.take_succ_cons, List.take_zero, gsH_nil, and_true]; try exact rfl)); (focus (exact c_spec_IsFace' a)); (focus (simp [HasTys, HasVT, HasV1, HasTy, RowTy, HasVs, enc])); (simp only [List.cons_append, List.nil_append]))
  (apply den_call; (focus (simp only [VC.den, E.den, List.map_cons, List.map_nil, Option.map_none, Option.map_some, List.getD_cons_zero, List.getD_cons_succ, List.cons_append, List.nil_append, List.append_nil, D.toI_int, D.toB_bool, D.toS_str, D.toA_agg, D.toT_tup, D.toR_sl, enc_toA, encS_toR, encS_len, List.drop_succ_cons, List.drop_zero, List.take_succ_cons, List.take_zero, gsH_nil, and_true]; try exact rfl)); (focus (exact c_spec_IsFace' b)); (focus (simp [HasTys, HasVT, HasV1, HasTy, RowTy, HasVs, enc])); (simp only [List.cons_append, List.nil_append]))
  refine den_ite (fun h => ?_) (fun h => ?_)
  · simp [E.den] at h
    refine den_ret ?_
    rcases h with h | h <;> simp [E.den, bothZ, h]
  simp [E.den] at h
  obtain ⟨n, rfl, hn⟩ := isFaceB_nat h.1
  obtain ⟨m, rfl, hm⟩ := isFaceB_nat h.2
  have hlt : ∀ k, k ≤ 6 → madeN cBoth n m k < 64 := fun k hk => Nat.lt_of_lt_of_le (madeN_lt _ _ _ k) (Nat.pow_le_pow_right (by omega) hk)
  refine den_loop Nat (fun k => [.int .i64 (madeN cBoth n m k), .int .i64 k]) (fun k => k ≤ 6) (fun k => 6 - k) 0 (fun s s' h => by simp at h; omega) rfl (by omega) ?_
  intro k hk _
  simp only [List.cons_append, List.nil_append]
  refine den_ite (fun h2 => ?_) (fun h2 => ?_)
  · simp [E.den, cmpI] at h2
    have h2 : k < 6 := by omega
    (apply den_call; (focus (simp only [VC.den, E.den, List.map_cons, List.map_nil, Option.map_none, Option.map_some, List.getD_cons_zero, List.getD_cons_succ, List.cons_append, List.nil_append, List.append_nil, D.toI_int, D.toB_bool, D.toS_str, D.toA_agg, D.toT_tup, D.toR_sl, enc_toA, encS_toR, encS_len, List.drop_succ_cons, List.drop_zero, List.take_succ_cons, List.take_zero, gsH_nil, and_true]; try exact rfl)); (focus (exact c_spec_l2Has n k hn h2)); (focus (simp [HasTys, HasVT, HasV1, HasTy, RowTy, HasVs, enc])); (simp only [List.cons_append, List.nil_append]))
    (apply den_call; (focus (simp only [VC.den, E.den, List.map_cons, List.map_nil, Option.map_none, Option.map_some, List.getD_cons_zero, List.getD_cons_succ, List.cons_append, List.nil_append, List.append_nil, D.toI_int, D.toB_bool, D.toS_str, D.toA_agg, D.toT_tup, D.toR_sl, enc_toA, encS_toR, encS_len, List.drop_succ_cons, List.drop_zero, List.take_succ_cons, List.take_zero, gsH_nil, and_true]; try exact rfl)); (focus (exact c_spec_l2Has m k hm h2)); (focus (simp [HasTys, HasVT, HasV1, HasTy, RowTy, HasVs, enc])); (simp only [List.cons_append, List.nil_append]))
    refine den_ite (fun h3 => ?_) (fun h3 => ?_)
    · simp [E.den, cmpI] at h3
      refine den_cond (fun _ => ?_) ?_
      · simp [E.den, cmpI]
      refine den_again (k + 1) ?_ (by omega) (by omega)
      have e1 := allow_shl ⟨k, h2⟩
      have e2 := add_pow ⟨madeN cBoth n m k, hlt k hk⟩ ⟨k, h2⟩ (madeN_lt _ _ _ _)
      simp only at e1 e2
      simp only [E.den, List.map_cons, List.map_nil, List.getD_cons_zero, List.getD_cons_succ, D.toI_int]
      rw [e1, e2, ar_add (by omega) (by omega), madeN_yes (by simp [cBoth, h3])]
      rfl
    · simp [E.den, cmpI] at h3
      refine den_again (k + 1) ?_ (by omega) (by omega)
      simp only [E.den, List.map_cons, List.map_nil, List.getD_cons_zero, List.getD_cons_succ, D.toI_int]
      rw [ar_add (by omega) (by omega), madeN_no (by simpa [cBoth] using h3)]
      rfl
  · simp [E.den, cmpI] at h2
    obtain rfl : k = 6 := by omega
    exact den_ret (by simp [E.den, bothZ, h])
theorem c_spec_BothFaces (a b : Int) : Fun Try.prog 76 none [.int .i64 a, .int .i64 b] (.int .i64 (bothZ a b)) [] := by
  refine Fun.ofV vc_spec_BothFaces_ok ty_spec_BothFaces_ok rfl ?_ (fun hfit => ?_)
  · exact ⟨rfl, rfl, trivial⟩
  unfold vc_spec_BothFaces
  (apply den_call; (focus (simp only [VC.den, E.den, List.map_cons, List.map_nil, Option.map_none, Option.map_some, List.getD_cons_zero, List.getD_cons_succ, List.cons_append, List.nil_append, List.append_nil, D.toI_int, D.toB_bool, D.toS_str, D.toA_agg, D.toT_tup, D.toR_sl, enc_toA, encS_toR, encS_len, List.drop_succ_cons, List.drop_zero, List.take_succ_cons, List.take_zero, gsH_nil, and_true]; try exact rfl)); (focus (exact c_spec_l2Made a b)); (focus (simp [HasTys, HasVT, HasV1, HasTy, RowTy, HasVs, enc])); (simp only [List.cons_append, List.nil_append]))
  exact den_ret rfl
end Go.Proofs.Ytcjjcffcoleniaa
