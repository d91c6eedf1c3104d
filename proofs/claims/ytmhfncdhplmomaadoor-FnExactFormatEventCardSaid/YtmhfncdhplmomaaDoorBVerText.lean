/- Contracts: versions as texts. -/
import Derived.Test.YtmhfncdhplmomaaDoorBSplit
import Derived.Test.YtmhfncdhplmomaaDoorBAllow
namespace Go.Proofs.YtmhfncdhplmomaaDoor
open Go.RowKit Go
set_option linter.unusedVariables false
set_option linter.unusedSimpArgs false
set_option maxRecDepth 100000
set_option linter.unusedSectionVars false
variable [GC]
def verL (v : Ver) : List UInt8 := dig3 v.maj.toNat ++ (46 :: dig3 v.min.toNat)
def verS (v : Ver) : ByteArray := if v.ok then bs (verL v) else bs []
theorem Ver.nats {v : Ver} (h : v.ok = true) : ∃ a b : Nat, a < 100 ∧ b < 100 ∧ v = ⟨a, b⟩ := by
  unfold Ver.ok at h
  simp at h
  obtain ⟨a, b⟩ := v
  simp at h
  exact ⟨a.toNat, b.toNat, by omega, by omega, by simp; omega⟩
theorem dot_bs : (⟨#[46]⟩ : ByteArray) = bs [46] := rfl
theorem empty_bs : (⟨#[]⟩ : ByteArray) = bs [] := rfl
theorem verL_le {a b : Nat} (ha : a < 100) (hb : b < 100) : (verL ⟨a, b⟩).length ≤ 7 := by
  have h1 := dig3_le (n := a) (by omega)
  have h2 := dig3_le (n := b) (by omega)
  simp [verL]; omega
theorem c_impl_FormatVersion (v : Ver) : Fun Tryd.prog 10 none [enc v] (.str (verS v)) [] := by
  refine Fun.ofV vc_impl_FormatVersion_ok ty_impl_FormatVersion_ok rfl ?_ (fun hfit => ?_)
  · simp [ty_impl_FormatVersion, HasTys, HasVT, HasV1, enc, ty_Ver]
  unfold vc_impl_FormatVersion
  ((first | refine den_call ?_ (c_impl_IsVersion v) (trivial) ?_ | refine den_callR ?_ (c_impl_IsVersion v) (trivial) ?_ | refine den_call ?_ (.ofR (c_impl_IsVersion v)) (trivial) ?_); (focus (simp only [VC.den, E.den, List.map_cons, List.map_nil, Option.map_none, Option.map_some, List.getD_cons_zero, List.getD_cons_succ, List.cons_append, List.nil_append, List.append_nil, D.toI_int, D.toB_bool, D.toS_str, D.toA_agg, D.toT_tup, D.toR_sl, enc_toA, encS_toR, encS_len, List.drop_succ_cons, List.drop_zero, List.take_succ_cons, List.take_zero, gsH_nil, and_true]; try exact rfl)); (simp only [List.cons_append, List.nil_append]))
  refine den_ite (fun h => den_ret ?_) (fun h => ?_)
  · simp [E.den] at h
    simp only [E.den, List.map_cons, List.map_nil, Option.map_none, Option.map_some, List.getD_cons_zero, List.getD_cons_succ, List.cons_append, List.nil_append, List.append_nil, D.toI_int, D.toB_bool, D.toS_str, D.toA_agg, D.toT_tup, D.toR_sl, enc_toA, encS_toR, encS_len, List.drop_succ_cons, List.drop_zero, List.take_succ_cons, List.take_zero, len_str, at_byte, cmpI_lss, cmpI_leq, cmpI_gtr, cmpI_geq, cmpI_eql, cmpI_neq, cmpS_eql, cmpS_neq, cmpS_lss, cmpS_geq, Int.toNat_natCast, Int.toNat_zero]
    rw [verS, if_neg (by simp [h]), empty_bs]
  · simp [E.den] at h
    obtain ⟨a, b, ha, hb, rfl⟩ := Ver.nats h
    have h1 := dig3_le (n := a) (by omega)
    have h2 := dig3_le (n := b) (by omega)
    ((first | refine den_call ?_ (c_impl_FormatNumber_small (n := a) (by omega)) (trivial) ?_ | refine den_callR ?_ (c_impl_FormatNumber_small (n := a) (by omega)) (trivial) ?_ | refine den_call ?_ (.ofR (c_impl_FormatNumber_small (n := a) (by omega))) (trivial) ?_); (focus (simp only [VC.den, E.den, List.map_cons, List.map_nil, Option.map_none, Option.map_some, List.getD_cons_zero, List.getD_cons_succ, List.cons_append, List.nil_append, List.append_nil, D.toI_int, D.toB_bool, D.toS_str, D.toA_agg, D.toT_tup, D.toR_sl, enc_toA, encS_toR, encS_len, List.drop_succ_cons, List.drop_zero, List.take_succ_cons, List.take_zero, gsH_nil, and_true, cells_Ver]; try exact rfl)); (simp only [List.cons_append, List.nil_append]))
    refine den_cond (fun _ => ?_) ?_
    · simp only [E.den, List.map_cons, List.map_nil, Option.map_none, Option.map_some, List.getD_cons_zero, List.getD_cons_succ, List.cons_append, List.nil_append, List.append_nil, D.toI_int, D.toB_bool, D.toS_str, D.toA_agg, D.toT_tup, D.toR_sl, enc_toA, encS_toR, encS_len, List.drop_succ_cons, List.drop_zero, List.take_succ_cons, List.take_zero, len_str, at_byte, cmpI_lss, cmpI_leq, cmpI_gtr, cmpI_geq, cmpI_eql, cmpI_neq, cmpS_eql, cmpS_neq, cmpS_lss, cmpS_geq, Int.toNat_natCast, Int.toNat_zero]
      rw [dot_bs, bs_size, bs_size]; simp; unfold maxLen; omega
    ((first | refine den_call ?_ (c_impl_FormatNumber_small (n := b) (by omega)) (trivial) ?_ | refine den_callR ?_ (c_impl_FormatNumber_small (n := b) (by omega)) (trivial) ?_ | refine den_call ?_ (.ofR (c_impl_FormatNumber_small (n := b) (by omega))) (trivial) ?_); (focus (simp only [VC.den, E.den, List.map_cons, List.map_nil, Option.map_none, Option.map_some, List.getD_cons_zero, List.getD_cons_succ, List.cons_append, List.nil_append, List.append_nil, D.toI_int, D.toB_bool, D.toS_str, D.toA_agg, D.toT_tup, D.toR_sl, enc_toA, encS_toR, encS_len, List.drop_succ_cons, List.drop_zero, List.take_succ_cons, List.take_zero, gsH_nil, and_true, cells_Ver]; try exact rfl)); (simp only [List.cons_append, List.nil_append]))
    refine den_cond (fun _ => ?_) (den_ret ?_)
    · simp only [E.den, List.map_cons, List.map_nil, Option.map_none, Option.map_some, List.getD_cons_zero, List.getD_cons_succ, List.cons_append, List.nil_append, List.append_nil, D.toI_int, D.toB_bool, D.toS_str, D.toA_agg, D.toT_tup, D.toR_sl, enc_toA, encS_toR, encS_len, List.drop_succ_cons, List.drop_zero, List.take_succ_cons, List.take_zero, len_str, at_byte, cmpI_lss, cmpI_leq, cmpI_gtr, cmpI_geq, cmpI_eql, cmpI_neq, cmpS_eql, cmpS_neq, cmpS_lss, cmpS_geq, Int.toNat_natCast, Int.toNat_zero]
      rw [dot_bs, bs_append, bs_size, bs_size]; simp; unfold maxLen; omega
    · simp only [E.den, List.map_cons, List.map_nil, Option.map_none, Option.map_some, List.getD_cons_zero, List.getD_cons_succ, List.cons_append, List.nil_append, List.append_nil, D.toI_int, D.toB_bool, D.toS_str, D.toA_agg, D.toT_tup, D.toR_sl, enc_toA, encS_toR, encS_len, List.drop_succ_cons, List.drop_zero, List.take_succ_cons, List.take_zero, len_str, at_byte, cmpI_lss, cmpI_leq, cmpI_gtr, cmpI_geq, cmpI_eql, cmpI_neq, cmpS_eql, cmpS_neq, cmpS_lss, cmpS_geq, Int.toNat_natCast, Int.toNat_zero]
      rw [dot_bs, bs_append, bs_append, verS, if_pos h]
      simp [verL]

theorem c_spec_FormatVersion (v : Ver) : Fun Tryd.prog 8 none [enc v] (.str (verS v)) [] := by
  refine Fun.ofV vc_spec_FormatVersion_ok ty_spec_FormatVersion_ok rfl ?_ (fun hfit => ?_)
  · simp [ty_spec_FormatVersion, HasTys, HasVT, HasV1, enc, ty_Ver]
  unfold vc_spec_FormatVersion
  ((first | refine den_call ?_ (c_spec_IsVersion v) (trivial) ?_ | refine den_callR ?_ (c_spec_IsVersion v) (trivial) ?_ | refine den_call ?_ (.ofR (c_spec_IsVersion v)) (trivial) ?_); (focus (simp only [VC.den, E.den, List.map_cons, List.map_nil, Option.map_none, Option.map_some, List.getD_cons_zero, List.getD_cons_succ, List.cons_append, List.nil_append, List.append_nil, D.toI_int, D.toB_bool, D.toS_str, D.toA_agg, D.toT_tup, D.toR_sl, enc_toA, encS_toR, encS_len, List.drop_succ_cons, List.drop_zero, List.take_succ_cons, List.take_zero, gsH_nil, and_true]; try exact rfl)); (simp only [List.cons_append, List.nil_append]))
  refine den_ite (fun h => den_ret ?_) (fun h => ?_)
  · simp [E.den] at h
    simp only [E.den, List.map_cons, List.map_nil, Option.map_none, Option.map_some, List.getD_cons_zero, List.getD_cons_succ, List.cons_append, List.nil_append, List.append_nil, D.toI_int, D.toB_bool, D.toS_str, D.toA_agg, D.toT_tup, D.toR_sl, enc_toA, encS_toR, encS_len, List.drop_succ_cons, List.drop_zero, List.take_succ_cons, List.take_zero, len_str, at_byte, cmpI_lss, cmpI_leq, cmpI_gtr, cmpI_geq, cmpI_eql, cmpI_neq, cmpS_eql, cmpS_neq, cmpS_lss, cmpS_geq, Int.toNat_natCast, Int.toNat_zero]
    rw [verS, if_neg (by simp [h]), empty_bs]
  · simp [E.den] at h
    obtain ⟨a, b, ha, hb, rfl⟩ := Ver.nats h
    have h1 := dig3_le (n := a) (by omega)
    have h2 := dig3_le (n := b) (by omega)
    ((first | refine den_call ?_ (c_spec_FormatNumber (n := a) (by omega)) (trivial) ?_ | refine den_callR ?_ (c_spec_FormatNumber (n := a) (by omega)) (trivial) ?_ | refine den_call ?_ (.ofR (c_spec_FormatNumber (n := a) (by omega))) (trivial) ?_); (focus (simp only [VC.den, E.den, List.map_cons, List.map_nil, Option.map_none, Option.map_some, List.getD_cons_zero, List.getD_cons_succ, List.cons_append, List.nil_append, List.append_nil, D.toI_int, D.toB_bool, D.toS_str, D.toA_agg, D.toT_tup, D.toR_sl, enc_toA, encS_toR, encS_len, List.drop_succ_cons, List.drop_zero, List.take_succ_cons, List.take_zero, gsH_nil, and_true, cells_Ver]; try exact rfl)); (simp only [List.cons_append, List.nil_append]))
    refine den_cond (fun _ => ?_) ?_
    · simp only [E.den, List.map_cons, List.map_nil, Option.map_none, Option.map_some, List.getD_cons_zero, List.getD_cons_succ, List.cons_append, List.nil_append, List.append_nil, D.toI_int, D.toB_bool, D.toS_str, D.toA_agg, D.toT_tup, D.toR_sl, enc_toA, encS_toR, encS_len, List.drop_succ_cons, List.drop_zero, List.take_succ_cons, List.take_zero, len_str, at_byte, cmpI_lss, cmpI_leq, cmpI_gtr, cmpI_geq, cmpI_eql, cmpI_neq, cmpS_eql, cmpS_neq, cmpS_lss, cmpS_geq, Int.toNat_natCast, Int.toNat_zero]
      rw [dot_bs, bs_size, bs_size]; simp; unfold maxLen; omega
    ((first | refine den_call ?_ (c_spec_FormatNumber (n := b) (by omega)) (trivial) ?_ | refine den_callR ?_ (c_spec_FormatNumber (n := b) (by omega)) (trivial) ?_ | refine den_call ?_ (.ofR (c_spec_FormatNumber (n := b) (by omega))) (trivial) ?_); (focus (simp only [VC.den, E.den, List.map_cons, List.map_nil, Option.map_none, Option.map_some, List.getD_cons_zero, List.getD_cons_succ, List.cons_append, List.nil_append, List.append_nil, D.toI_int, D.toB_bool, D.toS_str, D.toA_agg, D.toT_tup, D.toR_sl, enc_toA, encS_toR, encS_len, List.drop_succ_cons, List.drop_zero, List.take_succ_cons, List.take_zero, gsH_nil, and_true, cells_Ver]; try exact rfl)); (simp only [List.cons_append, List.nil_append]))
    refine den_cond (fun _ => ?_) (den_ret ?_)
    · simp only [E.den, List.map_cons, List.map_nil, Option.map_none, Option.map_some, List.getD_cons_zero, List.getD_cons_succ, List.cons_append, List.nil_append, List.append_nil, D.toI_int, D.toB_bool, D.toS_str, D.toA_agg, D.toT_tup, D.toR_sl, enc_toA, encS_toR, encS_len, List.drop_succ_cons, List.drop_zero, List.take_succ_cons, List.take_zero, len_str, at_byte, cmpI_lss, cmpI_leq, cmpI_gtr, cmpI_geq, cmpI_eql, cmpI_neq, cmpS_eql, cmpS_neq, cmpS_lss, cmpS_geq, Int.toNat_natCast, Int.toNat_zero]
      rw [dot_bs, bs_append, bs_size, bs_size]; simp; unfold maxLen; omega
    · simp only [E.den, List.map_cons, List.map_nil, Option.map_none, Option.map_some, List.getD_cons_zero, List.getD_cons_succ, List.cons_append, List.nil_append, List.append_nil, D.toI_int, D.toB_bool, D.toS_str, D.toA_agg, D.toT_tup, D.toR_sl, enc_toA, encS_toR, encS_len, List.drop_succ_cons, List.drop_zero, List.take_succ_cons, List.take_zero, len_str, at_byte, cmpI_lss, cmpI_leq, cmpI_gtr, cmpI_geq, cmpI_eql, cmpI_neq, cmpS_eql, cmpS_neq, cmpS_lss, cmpS_geq, Int.toNat_natCast, Int.toNat_zero]
      rw [dot_bs, bs_append, bs_append, verS, if_pos h]
      simp [verL]

/-! Versions, read -/
theorem len_two {α : Type} {l : List α} (h : l.length = 2) : ∃ a b, l = [a, b] := match l, h with | [a, b], _ => ⟨a, b, rfl⟩
theorem one_toNat : (1 : Int).toNat = 1 := rfl
theorem no_dot {n : Nat} (h : n < 1000) : (46 : UInt8) ∉ dig3 n := by
  intro hm
  have := List.all_eq_true.1 (dig3_dig h) _ hm
  simp [isDig] at this
def pvA (s : ByteArray) : ByteArray := bs (Lib.cut s.data.toList [46]).1
def pvZ (s : ByteArray) : ByteArray := bs (Lib.cut s.data.toList [46]).2.1
def pvI (s : ByteArray) : Ver := ⟨numI (pvA s), numI (pvZ s)⟩
def pvB (s : ByteArray) : Bool := ((Lib.cut s.data.toList [46]).2.2 && numK (pvA s) && numK (pvZ s)) && (pvI s).ok
/-- What the versions' reader gives. -/
def pvV (s : ByteArray) : Ver := if pvB s then pvI s else ⟨0, 0⟩
def pvD (s : ByteArray) : D := .tup [enc (pvV s), .bool (pvB s)]
theorem pv_of {v : Ver} (h : v.ok = true) : pvB (verS v) = true ∧ pvV (verS v) = v := by
  obtain ⟨a, b, ha, hb, rfl⟩ := Ver.nats h
  have hc : Lib.cut (verS ⟨a, b⟩).data.toList [46] = (dig3 a, dig3 b, true) := by
    rw [verS, if_pos h, bs_toList]
    exact cut_app (t := []) (rest := dig3 b) (no_dot (n := a) (by omega))
  have hA : pvA (verS ⟨a, b⟩) = bs (dig3 a) := by unfold pvA; rw [hc]
  have hZ : pvZ (verS ⟨a, b⟩) = bs (dig3 b) := by unfold pvZ; rw [hc]
  have hI : pvI (verS ⟨a, b⟩) = ⟨a, b⟩ := by unfold pvI; rw [hA, hZ, numI_dig (n := a) (by omega), numI_dig (n := b) (by omega)]
  have hB : pvB (verS ⟨a, b⟩) = true := by
    unfold pvB
    rw [hc, hA, hZ, hI, numK_dig (n := a) (by omega), numK_dig (n := b) (by omega), h]; rfl
  exact ⟨hB, by unfold pvV; rw [if_pos hB, hI]⟩
theorem pv_back {s : ByteArray} (h : pvB s = true) : (pvV s).ok = true ∧ verS (pvV s) = s := by
  have hV : pvV s = pvI s := by unfold pvV; rw [if_pos h]
  unfold pvB at h
  simp only [Bool.and_eq_true] at h
  obtain ⟨⟨⟨h1, h2⟩, h3⟩, h4⟩ := h
  obtain ⟨a, ha, ea, ia⟩ := numK_true h2
  obtain ⟨b, hb, eb, ib⟩ := numK_true h3
  rw [hV]
  refine ⟨h4, ?_⟩
  rw [verS, if_pos h4]
  have hs := cut_back h1
  have e1 := bs_inj ea
  have e2 := bs_inj eb
  rw [e1, e2] at hs
  have e : verL (pvI s) = s.data.toList := by
    rw [hs]
    simp [verL, pvI, ia, ib]
  rw [e, bs_data]
theorem ty_pvD (s : ByteArray) : HasVT tbl.tab (.tup [.agg [.int .i64, .int .i64], .c .bool]) (pvD s) := ⟨ty_Ver _, trivial, trivial⟩
theorem c_impl_ParseVersion [HasMax] [HasPow] [HasErr] (s : ByteArray) (hs : s.size < 4294967281) : Fun Tryd.prog 12 none [.str s] (pvD s) [] := by
  refine Fun.ofV vc_impl_ParseVersion_ok ty_impl_ParseVersion_ok rfl ?_ (fun hfit => ?_)
  · simp [ty_impl_ParseVersion, HasTys, HasVT, HasV1, HasTy]
  unfold vc_impl_ParseVersion
  ((first | refine den_call ?_ (c_Cut s [46] hs) (⟨trivial, trivial, trivial, trivial⟩) ?_ | refine den_callR ?_ (c_Cut s [46] hs) (⟨trivial, trivial, trivial, trivial⟩) ?_ | refine den_call ?_ (.ofR (c_Cut s [46] hs)) (⟨trivial, trivial, trivial, trivial⟩) ?_); (focus (simp only [VC.den, E.den, List.map_cons, List.map_nil, Option.map_none, Option.map_some, List.getD_cons_zero, List.getD_cons_succ, List.cons_append, List.nil_append, List.append_nil, D.toI_int, D.toB_bool, D.toS_str, D.toA_agg, D.toT_tup, D.toR_sl, enc_toA, encS_toR, encS_len, List.drop_succ_cons, List.drop_zero, List.take_succ_cons, List.take_zero, gsH_nil, and_true]; try exact rfl)); (simp only [List.cons_append, List.nil_append]))
  ((first | refine den_call ?_ (c_impl_ParseNumber (pvA s)) (ty_numD _) ?_ | refine den_callR ?_ (c_impl_ParseNumber (pvA s)) (ty_numD _) ?_ | refine den_call ?_ (.ofR (c_impl_ParseNumber (pvA s))) (ty_numD _) ?_); (focus (simp only [VC.den, E.den, List.map_cons, List.map_nil, Option.map_none, Option.map_some, List.getD_cons_zero, List.getD_cons_succ, List.cons_append, List.nil_append, List.append_nil, D.toI_int, D.toB_bool, D.toS_str, D.toA_agg, D.toT_tup, D.toR_sl, enc_toA, encS_toR, encS_len, List.drop_succ_cons, List.drop_zero, List.take_succ_cons, List.take_zero, gsH_nil, and_true, cutD3]; try exact rfl)); (simp only [List.cons_append, List.nil_append]))
  ((first | refine den_call ?_ (c_impl_ParseNumber (pvZ s)) (ty_numD _) ?_ | refine den_callR ?_ (c_impl_ParseNumber (pvZ s)) (ty_numD _) ?_ | refine den_call ?_ (.ofR (c_impl_ParseNumber (pvZ s))) (ty_numD _) ?_); (focus (simp only [VC.den, E.den, List.map_cons, List.map_nil, Option.map_none, Option.map_some, List.getD_cons_zero, List.getD_cons_succ, List.cons_append, List.nil_append, List.append_nil, D.toI_int, D.toB_bool, D.toS_str, D.toA_agg, D.toT_tup, D.toR_sl, enc_toA, encS_toR, encS_len, List.drop_succ_cons, List.drop_zero, List.take_succ_cons, List.take_zero, gsH_nil, and_true, cutD3]; try exact rfl)); (simp only [List.cons_append, List.nil_append]))
  ((first | refine den_call ?_ (c_impl_IsVersion (pvI s)) (trivial) ?_ | refine den_callR ?_ (c_impl_IsVersion (pvI s)) (trivial) ?_ | refine den_call ?_ (.ofR (c_impl_IsVersion (pvI s))) (trivial) ?_); (focus (simp only [VC.den, E.den, List.map_cons, List.map_nil, Option.map_none, Option.map_some, List.getD_cons_zero, List.getD_cons_succ, List.cons_append, List.nil_append, List.append_nil, D.toI_int, D.toB_bool, D.toS_str, D.toA_agg, D.toT_tup, D.toR_sl, enc_toA, encS_toR, encS_len, List.drop_succ_cons, List.drop_zero, List.take_succ_cons, List.take_zero, gsH_nil, and_true, numD]; try exact rfl)); (simp only [List.cons_append, List.nil_append]))
  refine den_ite (fun h => den_ret ?_) (fun h => den_ret ?_)
  · simp only [E.den, List.map_cons, List.map_nil, Option.map_none, Option.map_some, List.getD_cons_zero, List.getD_cons_succ, List.cons_append, List.nil_append, List.append_nil, D.toI_int, D.toB_bool, D.toS_str, D.toA_agg, D.toT_tup, D.toR_sl, enc_toA, encS_toR, encS_len, List.drop_succ_cons, List.drop_zero, List.take_succ_cons, List.take_zero, len_str, at_byte, cmpI_lss, cmpI_leq, cmpI_gtr, cmpI_geq, cmpI_eql, cmpI_neq, cmpS_eql, cmpS_neq, cmpS_lss, cmpS_geq, Int.toNat_natCast, Int.toNat_zero, cutD3, numD] at h ⊢
    have hB : pvB s = false := by
      unfold pvB
      grind
    rw [pvD, pvV, hB]
    rfl
  · simp only [E.den, List.map_cons, List.map_nil, Option.map_none, Option.map_some, List.getD_cons_zero, List.getD_cons_succ, List.cons_append, List.nil_append, List.append_nil, D.toI_int, D.toB_bool, D.toS_str, D.toA_agg, D.toT_tup, D.toR_sl, enc_toA, encS_toR, encS_len, List.drop_succ_cons, List.drop_zero, List.take_succ_cons, List.take_zero, len_str, at_byte, cmpI_lss, cmpI_leq, cmpI_gtr, cmpI_geq, cmpI_eql, cmpI_neq, cmpS_eql, cmpS_neq, cmpS_lss, cmpS_geq, Int.toNat_natCast, Int.toNat_zero, cutD3, numD] at h ⊢
    have hB : pvB s = true := by
      unfold pvB
      grind
    rw [pvD, pvV, hB]
    rfl
theorem c_spec_ParseVersion (s : ByteArray) (hs : s.size < 4294967281) : Fun Tryd.prog 11 none [.str s] (pvD s) [] := by
  refine Fun.ofV vc_spec_ParseVersion_ok ty_spec_ParseVersion_ok rfl ?_ (fun hfit => ?_)
  · simp [ty_spec_ParseVersion, HasTys, HasVT, HasV1, HasTy]
  unfold vc_spec_ParseVersion
  ((first | refine den_call ?_ (c_spec_SplitAt s [46] (by simp) (by simp) hs) (ty_txtS rfl _) ?_ | refine den_callR ?_ (c_spec_SplitAt s [46] (by simp) (by simp) hs) (ty_txtS rfl _) ?_ | refine den_call ?_ (.ofR (c_spec_SplitAt s [46] (by simp) (by simp) hs)) (ty_txtS rfl _) ?_); (focus (simp only [VC.den, E.den, List.map_cons, List.map_nil, Option.map_none, Option.map_some, List.getD_cons_zero, List.getD_cons_succ, List.cons_append, List.nil_append, List.append_nil, D.toI_int, D.toB_bool, D.toS_str, D.toA_agg, D.toT_tup, D.toR_sl, enc_toA, encS_toR, encS_len, List.drop_succ_cons, List.drop_zero, List.take_succ_cons, List.take_zero, gsH_nil, and_true]; try exact rfl)); (simp only [List.cons_append, List.nil_append]))
  have hz : pvB s = false → D.tup ([] ++ [.agg ([.int .i64 0] ++ ([.int .i64 0] ++ []))] ++ [.bool false]) = pvD s := fun h => by rw [pvD, pvV, h]; rfl
  -- a version that is written: two pieces
  have hyes : pvB s = true → Lib.split s.data.toList [46] = [(dig3 (pvV s).maj.toNat), (dig3 (pvV s).min.toNat)] ∧ numI (bs (dig3 (pvV s).maj.toNat)) = (pvV s).maj ∧ numI (bs (dig3 (pvV s).min.toNat)) = (pvV s).min := fun h => by
    obtain ⟨h1, h2⟩ := pv_back h
    generalize pvV s = v at h1 h2
    obtain ⟨a, b, ha, hb, rfl⟩ := Ver.nats h1
    rw [verS, if_pos h1] at h2
    rw [← h2, bs_toList]
    refine ⟨?_, numI_dig (n := a) (by omega), numI_dig (n := b) (by omega)⟩
    have hj := split_join (c := 46) (t := []) (l := [dig3 a, dig3 b]) (by simp) (fun x hx => by
      simp at hx; rcases hx with rfl | rfl
      · exact no_dot (by omega)
      · exact no_dot (by omega))
    have e : verL ⟨a, b⟩ = Lib.join [dig3 a, dig3 b] [46] := by simp [verL, Lib.join_cons, Lib.joinTail]
    rw [e, hj]
    simp
  refine den_ite (fun h => den_ret ?_) (fun h => ?_)
  · simp only [E.den, List.map_cons, List.map_nil, Option.map_none, Option.map_some, List.getD_cons_zero, List.getD_cons_succ, List.cons_append, List.nil_append, List.append_nil, D.toI_int, D.toB_bool, D.toS_str, D.toA_agg, D.toT_tup, D.toR_sl, enc_toA, encS_toR, encS_len, List.drop_succ_cons, List.drop_zero, List.take_succ_cons, List.take_zero, len_str, at_byte, cmpI_lss, cmpI_leq, cmpI_gtr, cmpI_geq, cmpI_eql, cmpI_neq, cmpS_eql, cmpS_neq, cmpS_lss, cmpS_geq, Int.toNat_natCast, Int.toNat_zero, txtS_len] at h ⊢
    refine hz ?_
    cases hb : pvB s with
    | false => rfl
    | true => rw [(hyes hb).1] at h; simp at h
  · simp only [E.den, List.map_cons, List.map_nil, Option.map_none, Option.map_some, List.getD_cons_zero, List.getD_cons_succ, List.cons_append, List.nil_append, List.append_nil, D.toI_int, D.toB_bool, D.toS_str, D.toA_agg, D.toT_tup, D.toR_sl, enc_toA, encS_toR, encS_len, List.drop_succ_cons, List.drop_zero, List.take_succ_cons, List.take_zero, len_str, at_byte, cmpI_lss, cmpI_leq, cmpI_gtr, cmpI_geq, cmpI_eql, cmpI_neq, cmpS_eql, cmpS_neq, cmpS_lss, cmpS_geq, Int.toNat_natCast, Int.toNat_zero, txtS_len] at h
    have hl : (Lib.split s.data.toList [46]).length = 2 := by simp at h; omega
    obtain ⟨p0, p1, hp⟩ := len_two hl
    refine den_cond (fun _ => ?_) ?_
    · simp only [E.den, List.map_cons, List.map_nil, Option.map_none, Option.map_some, List.getD_cons_zero, List.getD_cons_succ, List.cons_append, List.nil_append, List.append_nil, D.toI_int, D.toB_bool, D.toS_str, D.toA_agg, D.toT_tup, D.toR_sl, enc_toA, encS_toR, encS_len, List.drop_succ_cons, List.drop_zero, List.take_succ_cons, List.take_zero, len_str, at_byte, cmpI_lss, cmpI_leq, cmpI_gtr, cmpI_geq, cmpI_eql, cmpI_neq, cmpS_eql, cmpS_neq, cmpS_lss, cmpS_geq, Int.toNat_natCast, Int.toNat_zero, txtS_len]; simp [hl]
    ((first | refine den_call ?_ (c_spec_ParseNumber (bs p0)) (ty_numD _) ?_ | refine den_callR ?_ (c_spec_ParseNumber (bs p0)) (ty_numD _) ?_ | refine den_call ?_ (.ofR (c_spec_ParseNumber (bs p0))) (ty_numD _) ?_); (focus (simp only [VC.den, E.den, List.map_cons, List.map_nil, Option.map_none, Option.map_some, List.getD_cons_zero, List.getD_cons_succ, List.cons_append, List.nil_append, List.append_nil, D.toI_int, D.toB_bool, D.toS_str, D.toA_agg, D.toT_tup, D.toR_sl, enc_toA, encS_toR, encS_len, List.drop_succ_cons, List.drop_zero, List.take_succ_cons, List.take_zero, gsH_nil, and_true, txtS_toR, hp, txtR, List.getElem?_cons_zero, Int.toNat_zero, Option.getD_some]; try exact rfl)); (simp only [List.cons_append, List.nil_append]))
    refine den_cond (fun _ => ?_) ?_
    · simp only [E.den, List.map_cons, List.map_nil, Option.map_none, Option.map_some, List.getD_cons_zero, List.getD_cons_succ, List.cons_append, List.nil_append, List.append_nil, D.toI_int, D.toB_bool, D.toS_str, D.toA_agg, D.toT_tup, D.toR_sl, enc_toA, encS_toR, encS_len, List.drop_succ_cons, List.drop_zero, List.take_succ_cons, List.take_zero, len_str, at_byte, cmpI_lss, cmpI_leq, cmpI_gtr, cmpI_geq, cmpI_eql, cmpI_neq, cmpS_eql, cmpS_neq, cmpS_lss, cmpS_geq, Int.toNat_natCast, Int.toNat_zero, txtS_len]; simp [hl]
    ((first | refine den_call ?_ (c_spec_ParseNumber (bs p1)) (ty_numD _) ?_ | refine den_callR ?_ (c_spec_ParseNumber (bs p1)) (ty_numD _) ?_ | refine den_call ?_ (.ofR (c_spec_ParseNumber (bs p1))) (ty_numD _) ?_); (focus (simp only [VC.den, E.den, List.map_cons, List.map_nil, Option.map_none, Option.map_some, List.getD_cons_zero, List.getD_cons_succ, List.cons_append, List.nil_append, List.append_nil, D.toI_int, D.toB_bool, D.toS_str, D.toA_agg, D.toT_tup, D.toR_sl, enc_toA, encS_toR, encS_len, List.drop_succ_cons, List.drop_zero, List.take_succ_cons, List.take_zero, gsH_nil, and_true, txtS_toR, hp, txtR, one_toNat, List.getElem?_cons_succ, List.getElem?_cons_zero, Option.getD_some]; try exact rfl)); (simp only [List.cons_append, List.nil_append]))
    ((first | refine den_call ?_ (c_spec_FormatVersion ⟨numI (bs p0), numI (bs p1)⟩) (trivial) ?_ | refine den_callR ?_ (c_spec_FormatVersion ⟨numI (bs p0), numI (bs p1)⟩) (trivial) ?_ | refine den_call ?_ (.ofR (c_spec_FormatVersion ⟨numI (bs p0), numI (bs p1)⟩)) (trivial) ?_); (focus (simp only [VC.den, E.den, List.map_cons, List.map_nil, Option.map_none, Option.map_some, List.getD_cons_zero, List.getD_cons_succ, List.cons_append, List.nil_append, List.append_nil, D.toI_int, D.toB_bool, D.toS_str, D.toA_agg, D.toT_tup, D.toR_sl, enc_toA, encS_toR, encS_len, List.drop_succ_cons, List.drop_zero, List.take_succ_cons, List.take_zero, gsH_nil, and_true, numD]; try exact rfl)); (simp only [List.cons_append, List.nil_append]))
    refine den_ite (fun h => den_ret ?_) (fun h => den_ret ?_)
    · simp only [E.den, List.map_cons, List.map_nil, Option.map_none, Option.map_some, List.getD_cons_zero, List.getD_cons_succ, List.cons_append, List.nil_append, List.append_nil, D.toI_int, D.toB_bool, D.toS_str, D.toA_agg, D.toT_tup, D.toR_sl, enc_toA, encS_toR, encS_len, List.drop_succ_cons, List.drop_zero, List.take_succ_cons, List.take_zero, len_str, at_byte, cmpI_lss, cmpI_leq, cmpI_gtr, cmpI_geq, cmpI_eql, cmpI_neq, cmpS_eql, cmpS_neq, cmpS_lss, cmpS_geq, Int.toNat_natCast, Int.toNat_zero, numD] at h ⊢
      refine hz ?_
      cases hb : pvB s with
      | false => rfl
      | true =>
        exfalso
        obtain ⟨q1, q2, q3⟩ := hyes hb
        rw [hp] at q1
        simp at q1
        obtain ⟨rfl, rfl⟩ := q1
        rw [q2, q3] at h
        have := (pv_back hb).2
        simp [this] at h
    · simp only [E.den, List.map_cons, List.map_nil, Option.map_none, Option.map_some, List.getD_cons_zero, List.getD_cons_succ, List.cons_append, List.nil_append, List.append_nil, D.toI_int, D.toB_bool, D.toS_str, D.toA_agg, D.toT_tup, D.toR_sl, enc_toA, encS_toR, encS_len, List.drop_succ_cons, List.drop_zero, List.take_succ_cons, List.take_zero, len_str, at_byte, cmpI_lss, cmpI_leq, cmpI_gtr, cmpI_geq, cmpI_eql, cmpI_neq, cmpS_eql, cmpS_neq, cmpS_lss, cmpS_geq, Int.toNat_natCast, Int.toNat_zero, numD] at h ⊢
      have hv : verS ⟨numI (bs p0), numI (bs p1)⟩ = s := by simpa using h
      have hok : (⟨numI (bs p0), numI (bs p1)⟩ : Ver).ok = true := by
        cases hk : (⟨numI (bs p0), numI (bs p1)⟩ : Ver).ok with
        | true => rfl
        | false =>
          rw [verS, hk] at hv
          simp only [Bool.false_eq_true, if_false] at hv
          rw [← hv, bs_toList] at hp
          have : Lib.split ([] : List UInt8) [46] = [[]] := rfl
          rw [this] at hp
          simp at hp
      obtain ⟨q1, q2⟩ := pv_of hok
      rw [hv] at q1 q2
      rw [pvD, q1, q2]
      rfl
end Go.Proofs.YtmhfncdhplmomaaDoor
