/- Contracts: versions as texts. -/
import Derived.Test.YtmhfncdhplmomaaGreatDoorBNum
import Derived.Test.YtmhfncdhplmomaaGreatDoorBAllow
namespace Go.Proofs.YtmhfncdhplmomaaGreatDoor
open Go.RowKit Go
set_option linter.unusedVariables false
set_option linter.unusedSimpArgs false
set_option maxRecDepth 100000
set_option linter.unusedSectionVars false
variable [GC]
def verL (v : Ver) : List UInt8 := dig3 v.maj.toNat ++ (46 :: dig3 v.min.toNat)
def verS (v : Ver) : ByteArray := if v.ok then bs (verL v) else bs []
theorem Ver.nats {v : Ver} (h : v.ok = true) : ∃ a b : Nat, a < 100 ∧ b < 100 ∧ v = ⟨a, b⟩ := by
  unfold Ver.ok at h
  simp at h
  obtain ⟨a, b⟩ := v
  simp at h
  exact ⟨a.toNat, b.toNat, by omega, by omega, by simp; omega⟩
theorem dot_bs : (⟨#[46]⟩ : ByteArray) = bs [46] := rfl
theorem empty_bs : (⟨#[]⟩ : ByteArray) = bs [] := rfl
theorem verL_le {a b : Nat} (ha : a < 100) (hb : b < 100) : (verL ⟨a, b⟩).length ≤ 7 := by
  have h1 := dig3_le (n := a) (by omega)
  have h2 := dig3_le (n := b) (by omega)
  simp [verL]; omega
theorem c_impl_FormatVersion (v : Ver) : Fun Tryz.prog 44 none [enc v] (.str (verS v)) [] := by
  refine Fun.ofV vc_impl_FormatVersion_ok ty_impl_FormatVersion_ok rfl ?_ (fun hfit => ?_)
  · simp [ty_impl_FormatVersion, HasTys, HasVT, HasV1, enc, ty_Ver]
  unfold vc_impl_FormatVersion
  ((first | refine den_call ?_ (c_impl_IsVersion v) (trivial) ?_ | refine den_callR ?_ (c_impl_IsVersion v) (trivial) ?_ | refine den_call ?_ (.ofR (c_impl_IsVersion v)) (trivial) ?_); (focus (simp only [VC.den, E.den, List.map_cons, List.map_nil, Option.map_none, Option.map_some, List.getD_cons_zero, List.getD_cons_succ, List.cons_append, List.nil_append, List.append_nil, D.toI_int, D.toB_bool, D.toS_str, D.toA_agg, D.toT_tup, D.toR_sl, enc_toA, encS_toR, encS_len, List.drop_succ_cons, List.drop_zero, List.take_succ_cons, List.take_zero, gsH_nil, and_true]; try exact rfl)); (simp only [List.cons_append, List.nil_append]))
  refine den_ite (fun h => den_ret ?_) (fun h => ?_)
  · simp [E.den] at h
    simp only [E.den, List.map_cons, List.map_nil, Option.map_none, Option.map_some, List.getD_cons_zero, List.getD_cons_succ, List.cons_append, List.nil_append, List.append_nil, D.toI_int, D.toB_bool, D.toS_str, D.toA_agg, D.toT_tup, D.toR_sl, enc_toA, encS_toR, encS_len, List.drop_succ_cons, List.drop_zero, List.take_succ_cons, List.take_zero, len_str, at_byte, cmpI_lss, cmpI_leq, cmpI_gtr, cmpI_geq, cmpI_eql, cmpI_neq, cmpS_eql, cmpS_neq, cmpS_lss, cmpS_geq, Int.toNat_natCast, Int.toNat_zero]
    rw [verS, if_neg (by simp [h]), empty_bs]
  · simp [E.den] at h
    obtain ⟨a, b, ha, hb, rfl⟩ := Ver.nats h
    have h1 := dig3_le (n := a) (by omega)
    have h2 := dig3_le (n := b) (by omega)
    ((first | refine den_call ?_ (c_impl_FormatNumber_small (n := a) (by omega)) (trivial) ?_ | refine den_callR ?_ (c_impl_FormatNumber_small (n := a) (by omega)) (trivial) ?_ | refine den_call ?_ (.ofR (c_impl_FormatNumber_small (n := a) (by omega))) (trivial) ?_); (focus (simp only [VC.den, E.den, List.map_cons, List.map_nil, Option.map_none, Option.map_some, List.getD_cons_zero, List.getD_cons_succ, List.cons_append, List.nil_append, List.append_nil, D.toI_int, D.toB_bool, D.toS_str, D.toA_agg, D.toT_tup, D.toR_sl, enc_toA, encS_toR, encS_len, List.drop_succ_cons, List.drop_zero, List.take_succ_cons, List.take_zero, gsH_nil, and_true, cells_Ver]; try exact rfl)); (simp only [List.cons_append, List.nil_append]))
    refine den_cond (fun _ => ?_) ?_
    · simp only [E.den, List.map_cons, List.map_nil, Option.map_none, Option.map_some, List.getD_cons_zero, List.getD_cons_succ, List.cons_append, List.nil_append, List.append_nil, D.toI_int, D.toB_bool, D.toS_str, D.toA_agg, D.toT_tup, D.toR_sl, enc_toA, encS_toR, encS_len, List.drop_succ_cons, List.drop_zero, List.take_succ_cons, List.take_zero, len_str, at_byte, cmpI_lss, cmpI_leq, cmpI_gtr, cmpI_geq, cmpI_eql, cmpI_neq, cmpS_eql, cmpS_neq, cmpS_lss, cmpS_geq, Int.toNat_natCast, Int.toNat_zero]
      rw [dot_bs, bs_size, bs_size]; simp; unfold maxLen; omega
    ((first | refine den_call ?_ (c_impl_FormatNumber_small (n := b) (by omega)) (trivial) ?_ | refine den_callR ?_ (c_impl_FormatNumber_small (n := b) (by omega)) (trivial) ?_ | refine den_call ?_ (.ofR (c_impl_FormatNumber_small (n := b) (by omega))) (trivial) ?_); (focus (simp only [VC.den, E.den, List.map_cons, List.map_nil, Option.map_none, Option.map_some, List.getD_cons_zero, List.getD_cons_succ, List.cons_append, List.nil_append, List.append_nil, D.toI_int, D.toB_bool, D.toS_str, D.toA_agg, D.toT_tup, D.toR_sl, enc_toA, encS_toR, encS_len, List.drop_succ_cons, List.drop_zero, List.take_succ_cons, List.take_zero, gsH_nil, and_true, cells_Ver]; try exact rfl)); (simp only [List.cons_append, List.nil_append]))
    refine den_cond (fun _ => ?_) (den_ret ?_)
    · simp only [E.den, List.map_cons, List.map_nil, Option.map_none, Option.map_some, List.getD_cons_zero, List.getD_cons_succ, List.cons_append, List.nil_append, List.append_nil, D.toI_int, D.toB_bool, D.toS_str, D.toA_agg, D.toT_tup, D.toR_sl, enc_toA, encS_toR, encS_len, List.drop_succ_cons, List.drop_zero, List.take_succ_cons, List.take_zero, len_str, at_byte, cmpI_lss, cmpI_leq, cmpI_gtr, cmpI_geq, cmpI_eql, cmpI_neq, cmpS_eql, cmpS_neq, cmpS_lss, cmpS_geq, Int.toNat_natCast, Int.toNat_zero]
      rw [dot_bs, bs_append, bs_size, bs_size]; simp; unfold maxLen; omega
    · simp only [E.den, List.map_cons, List.map_nil, Option.map_none, Option.map_some, List.getD_cons_zero, List.getD_cons_succ, List.cons_append, List.nil_append, List.append_nil, D.toI_int, D.toB_bool, D.toS_str, D.toA_agg, D.toT_tup, D.toR_sl, enc_toA, encS_toR, encS_len, List.drop_succ_cons, List.drop_zero, List.take_succ_cons, List.take_zero, len_str, at_byte, cmpI_lss, cmpI_leq, cmpI_gtr, cmpI_geq, cmpI_eql, cmpI_neq, cmpS_eql, cmpS_neq, cmpS_lss, cmpS_geq, Int.toNat_natCast, Int.toNat_zero]
      rw [dot_bs, bs_append, bs_append, verS, if_pos h]
      simp [verL]

theorem c_spec_FormatVersion (v : Ver) : Fun Tryz.prog 94 none [enc v] (.str (verS v)) [] := by
  refine Fun.ofV vc_spec_FormatVersion_ok ty_spec_FormatVersion_ok rfl ?_ (fun hfit => ?_)
  · simp [ty_spec_FormatVersion, HasTys, HasVT, HasV1, enc, ty_Ver]
  unfold vc_spec_FormatVersion
  ((first | refine den_call ?_ (c_spec_IsVersion v) (trivial) ?_ | refine den_callR ?_ (c_spec_IsVersion v) (trivial) ?_ | refine den_call ?_ (.ofR (c_spec_IsVersion v)) (trivial) ?_); (focus (simp only [VC.den, E.den, List.map_cons, List.map_nil, Option.map_none, Option.map_some, List.getD_cons_zero, List.getD_cons_succ, List.cons_append, List.nil_append, List.append_nil, D.toI_int, D.toB_bool, D.toS_str, D.toA_agg, D.toT_tup, D.toR_sl, enc_toA, encS_toR, encS_len, List.drop_succ_cons, List.drop_zero, List.take_succ_cons, List.take_zero, gsH_nil, and_true]; try exact rfl)); (simp only [List.cons_append, List.nil_append]))
  refine den_ite (fun h => den_ret ?_) (fun h => ?_)
  · simp [E.den] at h
    simp only [E.den, List.map_cons, List.map_nil, Option.map_none, Option.map_some, List.getD_cons_zero, List.getD_cons_succ, List.cons_append, List.nil_append, List.append_nil, D.toI_int, D.toB_bool, D.toS_str, D.toA_agg, D.toT_tup, D.toR_sl, enc_toA, encS_toR, encS_len, List.drop_succ_cons, List.drop_zero, List.take_succ_cons, List.take_zero, len_str, at_byte, cmpI_lss, cmpI_leq, cmpI_gtr, cmpI_geq, cmpI_eql, cmpI_neq, cmpS_eql, cmpS_neq, cmpS_lss, cmpS_geq, Int.toNat_natCast, Int.toNat_zero]
    rw [verS, if_neg (by simp [h]), empty_bs]
  · simp [E.den] at h
    obtain ⟨a, b, ha, hb, rfl⟩ := Ver.nats h
    have h1 := dig3_le (n := a) (by omega)
    have h2 := dig3_le (n := b) (by omega)
    ((first | refine den_call ?_ (c_spec_FormatNumber (n := a) (by omega)) (trivial) ?_ | refine den_callR ?_ (c_spec_FormatNumber (n := a) (by omega)) (trivial) ?_ | refine den_call ?_ (.ofR (c_spec_FormatNumber (n := a) (by omega))) (trivial) ?_); (focus (simp only [VC.den, E.den, List.map_cons, List.map_nil, Option.map_none, Option.map_some, List.getD_cons_zero, List.getD_cons_succ, List.cons_append, List.nil_append, List.append_nil, D.toI_int, D.toB_bool, D.toS_str, D.toA_agg, D.toT_tup, D.toR_sl, enc_toA, encS_toR, encS_len, List.drop_succ_cons, List.drop_zero, List.take_succ_cons, List.take_zero, gsH_nil, and_true, cells_Ver]; try exact rfl)); (simp only [List.cons_append, List.nil_append]))
    refine den_cond (fun _ => ?_) ?_
    · simp only [E.den, List.map_cons, List.map_nil, Option.map_none, Option.map_some, List.getD_cons_zero, List.getD_cons_succ, List.cons_append, List.nil_append, List.append_nil, D.toI_int, D.toB_bool, D.toS_str, D.toA_agg, D.toT_tup, D.toR_sl, enc_toA, encS_toR, encS_len, List.drop_succ_cons, List.drop_zero, List.take_succ_cons, List.take_zero, len_str, at_byte, cmpI_lss, cmpI_leq, cmpI_gtr, cmpI_geq, cmpI_eql, cmpI_neq, cmpS_eql, cmpS_neq, cmpS_lss, cmpS_geq, Int.toNat_natCast, Int.toNat_zero]
      rw [dot_bs, bs_size, bs_size]; simp; unfold maxLen; omega
    ((first | refine den_call ?_ (c_spec_FormatNumber (n := b) (by omega)) (trivial) ?_ | refine den_callR ?_ (c_spec_FormatNumber (n := b) (by omega)) (trivial) ?_ | refine den_call ?_ (.ofR (c_spec_FormatNumber (n := b) (by omega))) (trivial) ?_); (focus (simp only [VC.den, E.den, List.map_cons, List.map_nil, Option.map_none, Option.map_some, List.getD_cons_zero, List.getD_cons_succ, List.cons_append, List.nil_append, List.append_nil, D.toI_int, D.toB_bool, D.toS_str, D.toA_agg, D.toT_tup, D.toR_sl, enc_toA, encS_toR, encS_len, List.drop_succ_cons, List.drop_zero, List.take_succ_cons, List.take_zero, gsH_nil, and_true, cells_Ver]; try exact rfl)); (simp only [List.cons_append, List.nil_append]))
    refine den_cond (fun _ => ?_) (den_ret ?_)
    · simp only [E.den, List.map_cons, List.map_nil, Option.map_none, Option.map_some, List.getD_cons_zero, List.getD_cons_succ, List.cons_append, List.nil_append, List.append_nil, D.toI_int, D.toB_bool, D.toS_str, D.toA_agg, D.toT_tup, D.toR_sl, enc_toA, encS_toR, encS_len, List.drop_succ_cons, List.drop_zero, List.take_succ_cons, List.take_zero, len_str, at_byte, cmpI_lss, cmpI_leq, cmpI_gtr, cmpI_geq, cmpI_eql, cmpI_neq, cmpS_eql, cmpS_neq, cmpS_lss, cmpS_geq, Int.toNat_natCast, Int.toNat_zero]
      rw [dot_bs, bs_append, bs_size, bs_size]; simp; unfold maxLen; omega
    · simp only [E.den, List.map_cons, List.map_nil, Option.map_none, Option.map_some, List.getD_cons_zero, List.getD_cons_succ, List.cons_append, List.nil_append, List.append_nil, D.toI_int, D.toB_bool, D.toS_str, D.toA_agg, D.toT_tup, D.toR_sl, enc_toA, encS_toR, encS_len, List.drop_succ_cons, List.drop_zero, List.take_succ_cons, List.take_zero, len_str, at_byte, cmpI_lss, cmpI_leq, cmpI_gtr, cmpI_geq, cmpI_eql, cmpI_neq, cmpS_eql, cmpS_neq, cmpS_lss, cmpS_geq, Int.toNat_natCast, Int.toNat_zero]
      rw [dot_bs, bs_append, bs_append, verS, if_pos h]
      simp [verL]

end Go.Proofs.YtmhfncdhplmomaaGreatDoor
