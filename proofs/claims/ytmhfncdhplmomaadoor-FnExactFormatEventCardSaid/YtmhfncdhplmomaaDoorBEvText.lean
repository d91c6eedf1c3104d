/- Contracts: events as texts. -/
import Derived.Test.YtmhfncdhplmomaaDoorBEntText
import Derived.Test.YtmhfncdhplmomaaDoorBEvent
namespace Go.Proofs.YtmhfncdhplmomaaDoor
open Go.RowKit Go
set_option linter.unusedVariables false
set_option linter.unusedSimpArgs false
set_option maxRecDepth 100000
set_option linter.unusedSectionVars false
variable [GC]
def tPut : ByteArray := ⟨#[80, 117, 116, 32]⟩
def tGet : ByteArray := ⟨#[71, 101, 116, 32]⟩
def tHear : ByteArray := ⟨#[72, 101, 97, 114, 32]⟩
def tLoad : ByteArray := ⟨#[76, 111, 97, 100, 32]⟩
theorem tPut_eq : (⟨#[80, 117, 116, 32]⟩ : ByteArray) = tPut := rfl
theorem tGet_eq : (⟨#[71, 101, 116, 32]⟩ : ByteArray) = tGet := rfl
theorem tHear_eq : (⟨#[72, 101, 97, 114, 32]⟩ : ByteArray) = tHear := rfl
theorem tLoad_eq : (⟨#[76, 111, 97, 100, 32]⟩ : ByteArray) = tLoad := rfl
theorem mPut_eq : (⟨#[80, 117, 116]⟩ : ByteArray) = mPut := rfl
theorem mGet_eq : (⟨#[71, 101, 116]⟩ : ByteArray) = mGet := rfl
theorem mHear_eq : (⟨#[72, 101, 97, 114]⟩ : ByteArray) = mHear := rfl
theorem mLoad_eq : (⟨#[76, 111, 97, 100]⟩ : ByteArray) = mLoad := rfl
theorem tPut_size : tPut.size = 4 := rfl
theorem tGet_size : tGet.size = 4 := rfl
theorem tHear_size : tHear.size = 5 := rfl
theorem tLoad_size : tLoad.size = 5 := rfl
def valT (c : Call) : ByteArray := bs (dig3 c.val.toNat)
def callT (c : Call) : ByteArray :=
  if callB c then (if c.method = mPut then tPut ++ c.key ++ tSp ++ valT c else if c.method = mGet then tGet ++ c.key else if c.method = mHear then tHear ++ valT c else if c.method = mLoad then tLoad ++ c.text else c.method) else noText
theorem callB_val {c : Call} (h : callB c = true) : 0 ≤ c.val ∧ c.val ≤ 999 := by
  unfold callB at h
  simp only [Bool.and_eq_true, Bool.or_eq_true, decide_eq_true_eq] at h
  rcases h.2 with h1 | h1 <;> omega
theorem callB_key {c : Call} (h : callB c = true) : c.key.size ≤ 8 := by
  unfold callB at h
  simp only [Bool.and_eq_true, Bool.or_eq_true, decide_eq_true_eq] at h
  rcases h.1.2 with h1 | h1
  · exact nameB_le h1.2
  · rw [h1.2]; decide
theorem valT_size {c : Call} (h : callB c = true) : (valT c).size ≤ 3 := by
  have := callB_val h
  unfold valT
  rw [bs_size]
  exact dig3_le (by omega)
theorem callT_size {c : Call} (h1 : c.method.size ≤ 1048576) (h2 : c.text.size ≤ 1048576) : (callT c).size ≤ 2097152 := by
  unfold callT
  split
  · rename_i h
    have h3 := callB_key h
    have h4 := valT_size h
    repeat' split
    all_goals (try simp only [ByteArray.size_append, tPut_size, tGet_size, tHear_size, tLoad_size, tSp_size]) <;> omega
  · decide
theorem m_ne' : mGet ≠ mLoad ∧ mPut ≠ mLoad ∧ mHear ≠ mLoad := by decide
theorem c_impl_FormatCall [HasPow] (c : Call) (ht : c.text.size ≤ 1048576) : Fun Tryd.prog 56 none [enc c] (.str (callT c)) [] := by
  refine Fun.ofV vc_impl_FormatCall_ok ty_impl_FormatCall_ok rfl ?_ (fun hfit => ?_)
  · exact ⟨ty_Call c, trivial⟩
  have hn := m_ne
  have hn' := m_ne'
  unfold vc_impl_FormatCall
  ((first | refine den_call ?_ (c_impl_IsCall c) (trivial) ?_ | refine den_callR ?_ (c_impl_IsCall c) (trivial) ?_ | refine den_call ?_ (.ofR (c_impl_IsCall c)) (trivial) ?_); (focus (simp only [VC.den, E.den, List.map_cons, List.map_nil, Option.map_none, Option.map_some, List.getD_cons_zero, List.getD_cons_succ, List.cons_append, List.nil_append, List.append_nil, D.toI_int, D.toB_bool, D.toS_str, D.toA_agg, D.toT_tup, D.toR_sl, enc_toA, encS_toR, encS_len, List.drop_succ_cons, List.drop_zero, List.take_succ_cons, List.take_zero, gsH_nil, and_true]; try exact rfl)); (simp only [List.cons_append, List.nil_append]))
  refine den_ite (fun h => den_ret ?_) (fun h => ?_)
  · simp only [E.den, List.map_cons, List.map_nil, Option.map_none, Option.map_some, List.getD_cons_zero, List.getD_cons_succ, List.cons_append, List.nil_append, List.append_nil, D.toI_int, D.toB_bool, D.toS_str, D.toA_agg, D.toT_tup, D.toR_sl, enc_toA, encS_toR, encS_len, List.drop_succ_cons, List.drop_zero, List.take_succ_cons, List.take_zero, len_str, at_byte, cmpI_lss, cmpI_leq, cmpI_gtr, cmpI_geq, cmpI_eql, cmpI_neq, cmpS_eql, cmpS_neq, cmpS_lss, cmpS_geq, Int.toNat_natCast, Int.toNat_zero] at h ⊢
    rw [callT, if_neg (by grind)]; rfl
  simp only [E.den, List.map_cons, List.map_nil, Option.map_none, Option.map_some, List.getD_cons_zero, List.getD_cons_succ, List.cons_append, List.nil_append, List.append_nil, D.toI_int, D.toB_bool, D.toS_str, D.toA_agg, D.toT_tup, D.toR_sl, enc_toA, encS_toR, encS_len, List.drop_succ_cons, List.drop_zero, List.take_succ_cons, List.take_zero, len_str, at_byte, cmpI_lss, cmpI_leq, cmpI_gtr, cmpI_geq, cmpI_eql, cmpI_neq, cmpS_eql, cmpS_neq, cmpS_lss, cmpS_geq, Int.toNat_natCast, Int.toNat_zero] at h
  have h : callB c = true := by grind
  have h3 := callB_key h
  have h4 := valT_size h
  have hv := callB_val h
  have hv' : ((c.val.toNat : Nat) : Int) = c.val := by omega
  have hlt : c.val.toNat < 1000 := by omega
  refine den_ite (fun g1 => ?_) (fun g1 => ?_)
  · simp only [E.den, List.map_cons, List.map_nil, Option.map_none, Option.map_some, List.getD_cons_zero, List.getD_cons_succ, List.cons_append, List.nil_append, List.append_nil, D.toI_int, D.toB_bool, D.toS_str, D.toA_agg, D.toT_tup, D.toR_sl, enc_toA, encS_toR, encS_len, List.drop_succ_cons, List.drop_zero, List.take_succ_cons, List.take_zero, len_str, at_byte, cmpI_lss, cmpI_leq, cmpI_gtr, cmpI_geq, cmpI_eql, cmpI_neq, cmpS_eql, cmpS_neq, cmpS_lss, cmpS_geq, Int.toNat_natCast, Int.toNat_zero, cells_Call, mPut_eq] at g1
    have g1 : c.method = mPut := by grind
    refine den_cond (fun _ => ?_) ?_
    · simp only [E.den, List.map_cons, List.map_nil, Option.map_none, Option.map_some, List.getD_cons_zero, List.getD_cons_succ, List.cons_append, List.nil_append, List.append_nil, D.toI_int, D.toB_bool, D.toS_str, D.toA_agg, D.toT_tup, D.toR_sl, enc_toA, encS_toR, encS_len, List.drop_succ_cons, List.drop_zero, List.take_succ_cons, List.take_zero, len_str, at_byte, cmpI_lss, cmpI_leq, cmpI_gtr, cmpI_geq, cmpI_eql, cmpI_neq, cmpS_eql, cmpS_neq, cmpS_lss, cmpS_geq, Int.toNat_natCast, Int.toNat_zero, cells_Call, tPut_eq, tSp_eq]; refine dec_ok ?_; simp only [ByteArray.size_append, tPut_size, tSp_size]; unfold maxLen; omega
    refine den_cond (fun _ => ?_) ?_
    · simp only [E.den, List.map_cons, List.map_nil, Option.map_none, Option.map_some, List.getD_cons_zero, List.getD_cons_succ, List.cons_append, List.nil_append, List.append_nil, D.toI_int, D.toB_bool, D.toS_str, D.toA_agg, D.toT_tup, D.toR_sl, enc_toA, encS_toR, encS_len, List.drop_succ_cons, List.drop_zero, List.take_succ_cons, List.take_zero, len_str, at_byte, cmpI_lss, cmpI_leq, cmpI_gtr, cmpI_geq, cmpI_eql, cmpI_neq, cmpS_eql, cmpS_neq, cmpS_lss, cmpS_geq, Int.toNat_natCast, Int.toNat_zero, cells_Call, tPut_eq, tSp_eq]; refine dec_ok ?_; simp only [ByteArray.size_append, tPut_size, tSp_size]; unfold maxLen; omega
    ((first | refine den_call ?_ (c_impl_FormatNumber (n := c.val.toNat) hlt) (trivial) ?_ | refine den_callR ?_ (c_impl_FormatNumber (n := c.val.toNat) hlt) (trivial) ?_ | refine den_call ?_ (.ofR (c_impl_FormatNumber (n := c.val.toNat) hlt)) (trivial) ?_); (focus (simp only [VC.den, E.den, List.map_cons, List.map_nil, Option.map_none, Option.map_some, List.getD_cons_zero, List.getD_cons_succ, List.cons_append, List.nil_append, List.append_nil, D.toI_int, D.toB_bool, D.toS_str, D.toA_agg, D.toT_tup, D.toR_sl, enc_toA, encS_toR, encS_len, List.drop_succ_cons, List.drop_zero, List.take_succ_cons, List.take_zero, gsH_nil, and_true, cells_Call, hv']; try exact rfl)); (simp only [List.cons_append, List.nil_append]))
    refine den_cond (fun _ => ?_) (den_ret ?_)
    · simp only [E.den, List.map_cons, List.map_nil, Option.map_none, Option.map_some, List.getD_cons_zero, List.getD_cons_succ, List.cons_append, List.nil_append, List.append_nil, D.toI_int, D.toB_bool, D.toS_str, D.toA_agg, D.toT_tup, D.toR_sl, enc_toA, encS_toR, encS_len, List.drop_succ_cons, List.drop_zero, List.take_succ_cons, List.take_zero, len_str, at_byte, cmpI_lss, cmpI_leq, cmpI_gtr, cmpI_geq, cmpI_eql, cmpI_neq, cmpS_eql, cmpS_neq, cmpS_lss, cmpS_geq, Int.toNat_natCast, Int.toNat_zero, cells_Call, tPut_eq, tSp_eq]; refine dec_ok ?_; simp only [ByteArray.size_append, tPut_size, tSp_size]; unfold valT at h4; unfold maxLen; omega
    · simp only [E.den, List.map_cons, List.map_nil, Option.map_none, Option.map_some, List.getD_cons_zero, List.getD_cons_succ, List.cons_append, List.nil_append, List.append_nil, D.toI_int, D.toB_bool, D.toS_str, D.toA_agg, D.toT_tup, D.toR_sl, enc_toA, encS_toR, encS_len, List.drop_succ_cons, List.drop_zero, List.take_succ_cons, List.take_zero, len_str, at_byte, cmpI_lss, cmpI_leq, cmpI_gtr, cmpI_geq, cmpI_eql, cmpI_neq, cmpS_eql, cmpS_neq, cmpS_lss, cmpS_geq, Int.toNat_natCast, Int.toNat_zero, cells_Call, tPut_eq, tSp_eq]
      rw [callT, if_pos h, if_pos g1]; rfl
  simp only [E.den, List.map_cons, List.map_nil, Option.map_none, Option.map_some, List.getD_cons_zero, List.getD_cons_succ, List.cons_append, List.nil_append, List.append_nil, D.toI_int, D.toB_bool, D.toS_str, D.toA_agg, D.toT_tup, D.toR_sl, enc_toA, encS_toR, encS_len, List.drop_succ_cons, List.drop_zero, List.take_succ_cons, List.take_zero, len_str, at_byte, cmpI_lss, cmpI_leq, cmpI_gtr, cmpI_geq, cmpI_eql, cmpI_neq, cmpS_eql, cmpS_neq, cmpS_lss, cmpS_geq, Int.toNat_natCast, Int.toNat_zero, cells_Call, mPut_eq] at g1
  have g1 : c.method ≠ mPut := by grind
  refine den_ite (fun g2 => ?_) (fun g2 => ?_)
  · simp only [E.den, List.map_cons, List.map_nil, Option.map_none, Option.map_some, List.getD_cons_zero, List.getD_cons_succ, List.cons_append, List.nil_append, List.append_nil, D.toI_int, D.toB_bool, D.toS_str, D.toA_agg, D.toT_tup, D.toR_sl, enc_toA, encS_toR, encS_len, List.drop_succ_cons, List.drop_zero, List.take_succ_cons, List.take_zero, len_str, at_byte, cmpI_lss, cmpI_leq, cmpI_gtr, cmpI_geq, cmpI_eql, cmpI_neq, cmpS_eql, cmpS_neq, cmpS_lss, cmpS_geq, Int.toNat_natCast, Int.toNat_zero, cells_Call, mGet_eq] at g2
    have g2 : c.method = mGet := by grind
    refine den_cond (fun _ => ?_) (den_ret ?_)
    · simp only [E.den, List.map_cons, List.map_nil, Option.map_none, Option.map_some, List.getD_cons_zero, List.getD_cons_succ, List.cons_append, List.nil_append, List.append_nil, D.toI_int, D.toB_bool, D.toS_str, D.toA_agg, D.toT_tup, D.toR_sl, enc_toA, encS_toR, encS_len, List.drop_succ_cons, List.drop_zero, List.take_succ_cons, List.take_zero, len_str, at_byte, cmpI_lss, cmpI_leq, cmpI_gtr, cmpI_geq, cmpI_eql, cmpI_neq, cmpS_eql, cmpS_neq, cmpS_lss, cmpS_geq, Int.toNat_natCast, Int.toNat_zero, cells_Call, tGet_eq]; refine dec_ok ?_; simp only [ByteArray.size_append, tGet_size]; unfold maxLen; omega
    · simp only [E.den, List.map_cons, List.map_nil, Option.map_none, Option.map_some, List.getD_cons_zero, List.getD_cons_succ, List.cons_append, List.nil_append, List.append_nil, D.toI_int, D.toB_bool, D.toS_str, D.toA_agg, D.toT_tup, D.toR_sl, enc_toA, encS_toR, encS_len, List.drop_succ_cons, List.drop_zero, List.take_succ_cons, List.take_zero, len_str, at_byte, cmpI_lss, cmpI_leq, cmpI_gtr, cmpI_geq, cmpI_eql, cmpI_neq, cmpS_eql, cmpS_neq, cmpS_lss, cmpS_geq, Int.toNat_natCast, Int.toNat_zero, cells_Call, tGet_eq]
      rw [callT, if_pos h, if_neg g1, if_pos g2]
  simp only [E.den, List.map_cons, List.map_nil, Option.map_none, Option.map_some, List.getD_cons_zero, List.getD_cons_succ, List.cons_append, List.nil_append, List.append_nil, D.toI_int, D.toB_bool, D.toS_str, D.toA_agg, D.toT_tup, D.toR_sl, enc_toA, encS_toR, encS_len, List.drop_succ_cons, List.drop_zero, List.take_succ_cons, List.take_zero, len_str, at_byte, cmpI_lss, cmpI_leq, cmpI_gtr, cmpI_geq, cmpI_eql, cmpI_neq, cmpS_eql, cmpS_neq, cmpS_lss, cmpS_geq, Int.toNat_natCast, Int.toNat_zero, cells_Call, mGet_eq] at g2
  have g2 : c.method ≠ mGet := by grind
  refine den_ite (fun g3 => ?_) (fun g3 => ?_)
  · simp only [E.den, List.map_cons, List.map_nil, Option.map_none, Option.map_some, List.getD_cons_zero, List.getD_cons_succ, List.cons_append, List.nil_append, List.append_nil, D.toI_int, D.toB_bool, D.toS_str, D.toA_agg, D.toT_tup, D.toR_sl, enc_toA, encS_toR, encS_len, List.drop_succ_cons, List.drop_zero, List.take_succ_cons, List.take_zero, len_str, at_byte, cmpI_lss, cmpI_leq, cmpI_gtr, cmpI_geq, cmpI_eql, cmpI_neq, cmpS_eql, cmpS_neq, cmpS_lss, cmpS_geq, Int.toNat_natCast, Int.toNat_zero, cells_Call, mHear_eq] at g3
    have g3 : c.method = mHear := by grind
    ((first | refine den_call ?_ (c_impl_FormatNumber (n := c.val.toNat) hlt) (trivial) ?_ | refine den_callR ?_ (c_impl_FormatNumber (n := c.val.toNat) hlt) (trivial) ?_ | refine den_call ?_ (.ofR (c_impl_FormatNumber (n := c.val.toNat) hlt)) (trivial) ?_); (focus (simp only [VC.den, E.den, List.map_cons, List.map_nil, Option.map_none, Option.map_some, List.getD_cons_zero, List.getD_cons_succ, List.cons_append, List.nil_append, List.append_nil, D.toI_int, D.toB_bool, D.toS_str, D.toA_agg, D.toT_tup, D.toR_sl, enc_toA, encS_toR, encS_len, List.drop_succ_cons, List.drop_zero, List.take_succ_cons, List.take_zero, gsH_nil, and_true, cells_Call, hv']; try exact rfl)); (simp only [List.cons_append, List.nil_append]))
    refine den_cond (fun _ => ?_) (den_ret ?_)
    · simp only [E.den, List.map_cons, List.map_nil, Option.map_none, Option.map_some, List.getD_cons_zero, List.getD_cons_succ, List.cons_append, List.nil_append, List.append_nil, D.toI_int, D.toB_bool, D.toS_str, D.toA_agg, D.toT_tup, D.toR_sl, enc_toA, encS_toR, encS_len, List.drop_succ_cons, List.drop_zero, List.take_succ_cons, List.take_zero, len_str, at_byte, cmpI_lss, cmpI_leq, cmpI_gtr, cmpI_geq, cmpI_eql, cmpI_neq, cmpS_eql, cmpS_neq, cmpS_lss, cmpS_geq, Int.toNat_natCast, Int.toNat_zero, cells_Call, tHear_eq]; refine dec_ok ?_; simp only [ByteArray.size_append, tHear_size]; unfold valT at h4; unfold maxLen; omega
    · simp only [E.den, List.map_cons, List.map_nil, Option.map_none, Option.map_some, List.getD_cons_zero, List.getD_cons_succ, List.cons_append, List.nil_append, List.append_nil, D.toI_int, D.toB_bool, D.toS_str, D.toA_agg, D.toT_tup, D.toR_sl, enc_toA, encS_toR, encS_len, List.drop_succ_cons, List.drop_zero, List.take_succ_cons, List.take_zero, len_str, at_byte, cmpI_lss, cmpI_leq, cmpI_gtr, cmpI_geq, cmpI_eql, cmpI_neq, cmpS_eql, cmpS_neq, cmpS_lss, cmpS_geq, Int.toNat_natCast, Int.toNat_zero, cells_Call, tHear_eq]
      rw [callT, if_pos h, if_neg g1, if_neg g2, if_pos g3]; rfl
  simp only [E.den, List.map_cons, List.map_nil, Option.map_none, Option.map_some, List.getD_cons_zero, List.getD_cons_succ, List.cons_append, List.nil_append, List.append_nil, D.toI_int, D.toB_bool, D.toS_str, D.toA_agg, D.toT_tup, D.toR_sl, enc_toA, encS_toR, encS_len, List.drop_succ_cons, List.drop_zero, List.take_succ_cons, List.take_zero, len_str, at_byte, cmpI_lss, cmpI_leq, cmpI_gtr, cmpI_geq, cmpI_eql, cmpI_neq, cmpS_eql, cmpS_neq, cmpS_lss, cmpS_geq, Int.toNat_natCast, Int.toNat_zero, cells_Call, mHear_eq] at g3
  have g3 : c.method ≠ mHear := by grind
  refine den_ite (fun g4 => ?_) (fun g4 => ?_)
  · simp only [E.den, List.map_cons, List.map_nil, Option.map_none, Option.map_some, List.getD_cons_zero, List.getD_cons_succ, List.cons_append, List.nil_append, List.append_nil, D.toI_int, D.toB_bool, D.toS_str, D.toA_agg, D.toT_tup, D.toR_sl, enc_toA, encS_toR, encS_len, List.drop_succ_cons, List.drop_zero, List.take_succ_cons, List.take_zero, len_str, at_byte, cmpI_lss, cmpI_leq, cmpI_gtr, cmpI_geq, cmpI_eql, cmpI_neq, cmpS_eql, cmpS_neq, cmpS_lss, cmpS_geq, Int.toNat_natCast, Int.toNat_zero, cells_Call, mLoad_eq] at g4
    have g4 : c.method = mLoad := by grind
    refine den_cond (fun _ => ?_) (den_ret ?_)
    · simp only [E.den, List.map_cons, List.map_nil, Option.map_none, Option.map_some, List.getD_cons_zero, List.getD_cons_succ, List.cons_append, List.nil_append, List.append_nil, D.toI_int, D.toB_bool, D.toS_str, D.toA_agg, D.toT_tup, D.toR_sl, enc_toA, encS_toR, encS_len, List.drop_succ_cons, List.drop_zero, List.take_succ_cons, List.take_zero, len_str, at_byte, cmpI_lss, cmpI_leq, cmpI_gtr, cmpI_geq, cmpI_eql, cmpI_neq, cmpS_eql, cmpS_neq, cmpS_lss, cmpS_geq, Int.toNat_natCast, Int.toNat_zero, cells_Call, tLoad_eq]; refine dec_ok ?_; simp only [ByteArray.size_append, tLoad_size]; unfold maxLen; omega
    · simp only [E.den, List.map_cons, List.map_nil, Option.map_none, Option.map_some, List.getD_cons_zero, List.getD_cons_succ, List.cons_append, List.nil_append, List.append_nil, D.toI_int, D.toB_bool, D.toS_str, D.toA_agg, D.toT_tup, D.toR_sl, enc_toA, encS_toR, encS_len, List.drop_succ_cons, List.drop_zero, List.take_succ_cons, List.take_zero, len_str, at_byte, cmpI_lss, cmpI_leq, cmpI_gtr, cmpI_geq, cmpI_eql, cmpI_neq, cmpS_eql, cmpS_neq, cmpS_lss, cmpS_geq, Int.toNat_natCast, Int.toNat_zero, cells_Call, tLoad_eq]
      rw [callT, if_pos h, if_neg g1, if_neg g2, if_neg g3, if_pos g4]
  simp only [E.den, List.map_cons, List.map_nil, Option.map_none, Option.map_some, List.getD_cons_zero, List.getD_cons_succ, List.cons_append, List.nil_append, List.append_nil, D.toI_int, D.toB_bool, D.toS_str, D.toA_agg, D.toT_tup, D.toR_sl, enc_toA, encS_toR, encS_len, List.drop_succ_cons, List.drop_zero, List.take_succ_cons, List.take_zero, len_str, at_byte, cmpI_lss, cmpI_leq, cmpI_gtr, cmpI_geq, cmpI_eql, cmpI_neq, cmpS_eql, cmpS_neq, cmpS_lss, cmpS_geq, Int.toNat_natCast, Int.toNat_zero, cells_Call, mLoad_eq] at g4
  have g4 : c.method ≠ mLoad := by grind
  refine den_ret ?_
  simp only [E.den, List.map_cons, List.map_nil, Option.map_none, Option.map_some, List.getD_cons_zero, List.getD_cons_succ, List.cons_append, List.nil_append, List.append_nil, D.toI_int, D.toB_bool, D.toS_str, D.toA_agg, D.toT_tup, D.toR_sl, enc_toA, encS_toR, encS_len, List.drop_succ_cons, List.drop_zero, List.take_succ_cons, List.take_zero, len_str, at_byte, cmpI_lss, cmpI_leq, cmpI_gtr, cmpI_geq, cmpI_eql, cmpI_neq, cmpS_eql, cmpS_neq, cmpS_lss, cmpS_geq, Int.toNat_natCast, Int.toNat_zero, cells_Call]
  rw [callT, if_pos h, if_neg g1, if_neg g2, if_neg g3, if_neg g4]
theorem c_spec_FormatCall (c : Call) (ht : c.text.size ≤ 1048576) : Fun Tryd.prog 53 none [enc c] (.str (callT c)) [] := by
  refine Fun.ofV vc_spec_FormatCall_ok ty_spec_FormatCall_ok rfl ?_ (fun hfit => ?_)
  · exact ⟨ty_Call c, trivial⟩
  have hn := m_ne
  have hn' := m_ne'
  unfold vc_spec_FormatCall
  ((first | refine den_call ?_ (c_spec_IsCall c) (trivial) ?_ | refine den_callR ?_ (c_spec_IsCall c) (trivial) ?_ | refine den_call ?_ (.ofR (c_spec_IsCall c)) (trivial) ?_); (focus (simp only [VC.den, E.den, List.map_cons, List.map_nil, Option.map_none, Option.map_some, List.getD_cons_zero, List.getD_cons_succ, List.cons_append, List.nil_append, List.append_nil, D.toI_int, D.toB_bool, D.toS_str, D.toA_agg, D.toT_tup, D.toR_sl, enc_toA, encS_toR, encS_len, List.drop_succ_cons, List.drop_zero, List.take_succ_cons, List.take_zero, gsH_nil, and_true]; try exact rfl)); (simp only [List.cons_append, List.nil_append]))
  refine den_ite (fun h => den_ret ?_) (fun h => ?_)
  · simp only [E.den, List.map_cons, List.map_nil, Option.map_none, Option.map_some, List.getD_cons_zero, List.getD_cons_succ, List.cons_append, List.nil_append, List.append_nil, D.toI_int, D.toB_bool, D.toS_str, D.toA_agg, D.toT_tup, D.toR_sl, enc_toA, encS_toR, encS_len, List.drop_succ_cons, List.drop_zero, List.take_succ_cons, List.take_zero, len_str, at_byte, cmpI_lss, cmpI_leq, cmpI_gtr, cmpI_geq, cmpI_eql, cmpI_neq, cmpS_eql, cmpS_neq, cmpS_lss, cmpS_geq, Int.toNat_natCast, Int.toNat_zero] at h ⊢
    rw [callT, if_neg (by grind)]; rfl
  simp only [E.den, List.map_cons, List.map_nil, Option.map_none, Option.map_some, List.getD_cons_zero, List.getD_cons_succ, List.cons_append, List.nil_append, List.append_nil, D.toI_int, D.toB_bool, D.toS_str, D.toA_agg, D.toT_tup, D.toR_sl, enc_toA, encS_toR, encS_len, List.drop_succ_cons, List.drop_zero, List.take_succ_cons, List.take_zero, len_str, at_byte, cmpI_lss, cmpI_leq, cmpI_gtr, cmpI_geq, cmpI_eql, cmpI_neq, cmpS_eql, cmpS_neq, cmpS_lss, cmpS_geq, Int.toNat_natCast, Int.toNat_zero] at h
  have h : callB c = true := by grind
  have h3 := callB_key h
  have h4 := valT_size h
  have hv := callB_val h
  have hv' : ((c.val.toNat : Nat) : Int) = c.val := by omega
  have hlt : c.val.toNat < 1000 := by omega
  refine den_ite (fun g2 => ?_) (fun g2 => ?_)
  · simp only [E.den, List.map_cons, List.map_nil, Option.map_none, Option.map_some, List.getD_cons_zero, List.getD_cons_succ, List.cons_append, List.nil_append, List.append_nil, D.toI_int, D.toB_bool, D.toS_str, D.toA_agg, D.toT_tup, D.toR_sl, enc_toA, encS_toR, encS_len, List.drop_succ_cons, List.drop_zero, List.take_succ_cons, List.take_zero, len_str, at_byte, cmpI_lss, cmpI_leq, cmpI_gtr, cmpI_geq, cmpI_eql, cmpI_neq, cmpS_eql, cmpS_neq, cmpS_lss, cmpS_geq, Int.toNat_natCast, Int.toNat_zero, cells_Call, mGet_eq] at g2
    have g2 : c.method = mGet := by grind
    have g1 : c.method ≠ mPut := by rw [g2]; exact hn.1
    refine den_cond (fun _ => ?_) (den_ret ?_)
    · simp only [E.den, List.map_cons, List.map_nil, Option.map_none, Option.map_some, List.getD_cons_zero, List.getD_cons_succ, List.cons_append, List.nil_append, List.append_nil, D.toI_int, D.toB_bool, D.toS_str, D.toA_agg, D.toT_tup, D.toR_sl, enc_toA, encS_toR, encS_len, List.drop_succ_cons, List.drop_zero, List.take_succ_cons, List.take_zero, len_str, at_byte, cmpI_lss, cmpI_leq, cmpI_gtr, cmpI_geq, cmpI_eql, cmpI_neq, cmpS_eql, cmpS_neq, cmpS_lss, cmpS_geq, Int.toNat_natCast, Int.toNat_zero, cells_Call, tGet_eq]; refine dec_ok ?_; simp only [ByteArray.size_append, tGet_size]; unfold maxLen; omega
    · simp only [E.den, List.map_cons, List.map_nil, Option.map_none, Option.map_some, List.getD_cons_zero, List.getD_cons_succ, List.cons_append, List.nil_append, List.append_nil, D.toI_int, D.toB_bool, D.toS_str, D.toA_agg, D.toT_tup, D.toR_sl, enc_toA, encS_toR, encS_len, List.drop_succ_cons, List.drop_zero, List.take_succ_cons, List.take_zero, len_str, at_byte, cmpI_lss, cmpI_leq, cmpI_gtr, cmpI_geq, cmpI_eql, cmpI_neq, cmpS_eql, cmpS_neq, cmpS_lss, cmpS_geq, Int.toNat_natCast, Int.toNat_zero, cells_Call, tGet_eq]
      rw [callT, if_pos h, if_neg g1, if_pos g2]
  simp only [E.den, List.map_cons, List.map_nil, Option.map_none, Option.map_some, List.getD_cons_zero, List.getD_cons_succ, List.cons_append, List.nil_append, List.append_nil, D.toI_int, D.toB_bool, D.toS_str, D.toA_agg, D.toT_tup, D.toR_sl, enc_toA, encS_toR, encS_len, List.drop_succ_cons, List.drop_zero, List.take_succ_cons, List.take_zero, len_str, at_byte, cmpI_lss, cmpI_leq, cmpI_gtr, cmpI_geq, cmpI_eql, cmpI_neq, cmpS_eql, cmpS_neq, cmpS_lss, cmpS_geq, Int.toNat_natCast, Int.toNat_zero, cells_Call, mGet_eq] at g2
  have g2 : c.method ≠ mGet := by grind
  refine den_ite (fun g1 => ?_) (fun g1 => ?_)
  · simp only [E.den, List.map_cons, List.map_nil, Option.map_none, Option.map_some, List.getD_cons_zero, List.getD_cons_succ, List.cons_append, List.nil_append, List.append_nil, D.toI_int, D.toB_bool, D.toS_str, D.toA_agg, D.toT_tup, D.toR_sl, enc_toA, encS_toR, encS_len, List.drop_succ_cons, List.drop_zero, List.take_succ_cons, List.take_zero, len_str, at_byte, cmpI_lss, cmpI_leq, cmpI_gtr, cmpI_geq, cmpI_eql, cmpI_neq, cmpS_eql, cmpS_neq, cmpS_lss, cmpS_geq, Int.toNat_natCast, Int.toNat_zero, cells_Call, mPut_eq] at g1
    have g1 : c.method = mPut := by grind
    refine den_cond (fun _ => ?_) ?_
    · simp only [E.den, List.map_cons, List.map_nil, Option.map_none, Option.map_some, List.getD_cons_zero, List.getD_cons_succ, List.cons_append, List.nil_append, List.append_nil, D.toI_int, D.toB_bool, D.toS_str, D.toA_agg, D.toT_tup, D.toR_sl, enc_toA, encS_toR, encS_len, List.drop_succ_cons, List.drop_zero, List.take_succ_cons, List.take_zero, len_str, at_byte, cmpI_lss, cmpI_leq, cmpI_gtr, cmpI_geq, cmpI_eql, cmpI_neq, cmpS_eql, cmpS_neq, cmpS_lss, cmpS_geq, Int.toNat_natCast, Int.toNat_zero, cells_Call, tPut_eq, tSp_eq]; refine dec_ok ?_; simp only [ByteArray.size_append, tPut_size, tSp_size]; unfold maxLen; omega
    refine den_cond (fun _ => ?_) ?_
    · simp only [E.den, List.map_cons, List.map_nil, Option.map_none, Option.map_some, List.getD_cons_zero, List.getD_cons_succ, List.cons_append, List.nil_append, List.append_nil, D.toI_int, D.toB_bool, D.toS_str, D.toA_agg, D.toT_tup, D.toR_sl, enc_toA, encS_toR, encS_len, List.drop_succ_cons, List.drop_zero, List.take_succ_cons, List.take_zero, len_str, at_byte, cmpI_lss, cmpI_leq, cmpI_gtr, cmpI_geq, cmpI_eql, cmpI_neq, cmpS_eql, cmpS_neq, cmpS_lss, cmpS_geq, Int.toNat_natCast, Int.toNat_zero, cells_Call, tPut_eq, tSp_eq]; refine dec_ok ?_; simp only [ByteArray.size_append, tPut_size, tSp_size]; unfold maxLen; omega
    ((first | refine den_call ?_ (c_spec_FormatNumber (n := c.val.toNat) hlt) (trivial) ?_ | refine den_callR ?_ (c_spec_FormatNumber (n := c.val.toNat) hlt) (trivial) ?_ | refine den_call ?_ (.ofR (c_spec_FormatNumber (n := c.val.toNat) hlt)) (trivial) ?_); (focus (simp only [VC.den, E.den, List.map_cons, List.map_nil, Option.map_none, Option.map_some, List.getD_cons_zero, List.getD_cons_succ, List.cons_append, List.nil_append, List.append_nil, D.toI_int, D.toB_bool, D.toS_str, D.toA_agg, D.toT_tup, D.toR_sl, enc_toA, encS_toR, encS_len, List.drop_succ_cons, List.drop_zero, List.take_succ_cons, List.take_zero, gsH_nil, and_true, cells_Call, hv']; try exact rfl)); (simp only [List.cons_append, List.nil_append]))
    refine den_cond (fun _ => ?_) (den_ret ?_)
    · simp only [E.den, List.map_cons, List.map_nil, Option.map_none, Option.map_some, List.getD_cons_zero, List.getD_cons_succ, List.cons_append, List.nil_append, List.append_nil, D.toI_int, D.toB_bool, D.toS_str, D.toA_agg, D.toT_tup, D.toR_sl, enc_toA, encS_toR, encS_len, List.drop_succ_cons, List.drop_zero, List.take_succ_cons, List.take_zero, len_str, at_byte, cmpI_lss, cmpI_leq, cmpI_gtr, cmpI_geq, cmpI_eql, cmpI_neq, cmpS_eql, cmpS_neq, cmpS_lss, cmpS_geq, Int.toNat_natCast, Int.toNat_zero, cells_Call, tPut_eq, tSp_eq]; refine dec_ok ?_; simp only [ByteArray.size_append, tPut_size, tSp_size]; unfold valT at h4; unfold maxLen; omega
    · simp only [E.den, List.map_cons, List.map_nil, Option.map_none, Option.map_some, List.getD_cons_zero, List.getD_cons_succ, List.cons_append, List.nil_append, List.append_nil, D.toI_int, D.toB_bool, D.toS_str, D.toA_agg, D.toT_tup, D.toR_sl, enc_toA, encS_toR, encS_len, List.drop_succ_cons, List.drop_zero, List.take_succ_cons, List.take_zero, len_str, at_byte, cmpI_lss, cmpI_leq, cmpI_gtr, cmpI_geq, cmpI_eql, cmpI_neq, cmpS_eql, cmpS_neq, cmpS_lss, cmpS_geq, Int.toNat_natCast, Int.toNat_zero, cells_Call, tPut_eq, tSp_eq]
      rw [callT, if_pos h, if_pos g1]; rfl
  simp only [E.den, List.map_cons, List.map_nil, Option.map_none, Option.map_some, List.getD_cons_zero, List.getD_cons_succ, List.cons_append, List.nil_append, List.append_nil, D.toI_int, D.toB_bool, D.toS_str, D.toA_agg, D.toT_tup, D.toR_sl, enc_toA, encS_toR, encS_len, List.drop_succ_cons, List.drop_zero, List.take_succ_cons, List.take_zero, len_str, at_byte, cmpI_lss, cmpI_leq, cmpI_gtr, cmpI_geq, cmpI_eql, cmpI_neq, cmpS_eql, cmpS_neq, cmpS_lss, cmpS_geq, Int.toNat_natCast, Int.toNat_zero, cells_Call, mPut_eq] at g1
  have g1 : c.method ≠ mPut := by grind
  refine den_ite (fun g3 => ?_) (fun g3 => ?_)
  · simp only [E.den, List.map_cons, List.map_nil, Option.map_none, Option.map_some, List.getD_cons_zero, List.getD_cons_succ, List.cons_append, List.nil_append, List.append_nil, D.toI_int, D.toB_bool, D.toS_str, D.toA_agg, D.toT_tup, D.toR_sl, enc_toA, encS_toR, encS_len, List.drop_succ_cons, List.drop_zero, List.take_succ_cons, List.take_zero, len_str, at_byte, cmpI_lss, cmpI_leq, cmpI_gtr, cmpI_geq, cmpI_eql, cmpI_neq, cmpS_eql, cmpS_neq, cmpS_lss, cmpS_geq, Int.toNat_natCast, Int.toNat_zero, cells_Call, mHear_eq] at g3
    have g3 : c.method = mHear := by grind
    ((first | refine den_call ?_ (c_spec_FormatNumber (n := c.val.toNat) hlt) (trivial) ?_ | refine den_callR ?_ (c_spec_FormatNumber (n := c.val.toNat) hlt) (trivial) ?_ | refine den_call ?_ (.ofR (c_spec_FormatNumber (n := c.val.toNat) hlt)) (trivial) ?_); (focus (simp only [VC.den, E.den, List.map_cons, List.map_nil, Option.map_none, Option.map_some, List.getD_cons_zero, List.getD_cons_succ, List.cons_append, List.nil_append, List.append_nil, D.toI_int, D.toB_bool, D.toS_str, D.toA_agg, D.toT_tup, D.toR_sl, enc_toA, encS_toR, encS_len, List.drop_succ_cons, List.drop_zero, List.take_succ_cons, List.take_zero, gsH_nil, and_true, cells_Call, hv']; try exact rfl)); (simp only [List.cons_append, List.nil_append]))
    refine den_cond (fun _ => ?_) (den_ret ?_)
    · simp only [E.den, List.map_cons, List.map_nil, Option.map_none, Option.map_some, List.getD_cons_zero, List.getD_cons_succ, List.cons_append, List.nil_append, List.append_nil, D.toI_int, D.toB_bool, D.toS_str, D.toA_agg, D.toT_tup, D.toR_sl, enc_toA, encS_toR, encS_len, List.drop_succ_cons, List.drop_zero, List.take_succ_cons, List.take_zero, len_str, at_byte, cmpI_lss, cmpI_leq, cmpI_gtr, cmpI_geq, cmpI_eql, cmpI_neq, cmpS_eql, cmpS_neq, cmpS_lss, cmpS_geq, Int.toNat_natCast, Int.toNat_zero, cells_Call, tHear_eq]; refine dec_ok ?_; simp only [ByteArray.size_append, tHear_size]; unfold valT at h4; unfold maxLen; omega
    · simp only [E.den, List.map_cons, List.map_nil, Option.map_none, Option.map_some, List.getD_cons_zero, List.getD_cons_succ, List.cons_append, List.nil_append, List.append_nil, D.toI_int, D.toB_bool, D.toS_str, D.toA_agg, D.toT_tup, D.toR_sl, enc_toA, encS_toR, encS_len, List.drop_succ_cons, List.drop_zero, List.take_succ_cons, List.take_zero, len_str, at_byte, cmpI_lss, cmpI_leq, cmpI_gtr, cmpI_geq, cmpI_eql, cmpI_neq, cmpS_eql, cmpS_neq, cmpS_lss, cmpS_geq, Int.toNat_natCast, Int.toNat_zero, cells_Call, tHear_eq]
      rw [callT, if_pos h, if_neg g1, if_neg g2, if_pos g3]; rfl
  simp only [E.den, List.map_cons, List.map_nil, Option.map_none, Option.map_some, List.getD_cons_zero, List.getD_cons_succ, List.cons_append, List.nil_append, List.append_nil, D.toI_int, D.toB_bool, D.toS_str, D.toA_agg, D.toT_tup, D.toR_sl, enc_toA, encS_toR, encS_len, List.drop_succ_cons, List.drop_zero, List.take_succ_cons, List.take_zero, len_str, at_byte, cmpI_lss, cmpI_leq, cmpI_gtr, cmpI_geq, cmpI_eql, cmpI_neq, cmpS_eql, cmpS_neq, cmpS_lss, cmpS_geq, Int.toNat_natCast, Int.toNat_zero, cells_Call, mHear_eq] at g3
  have g3 : c.method ≠ mHear := by grind
  refine den_ite (fun g4 => ?_) (fun g4 => ?_)
  · simp only [E.den, List.map_cons, List.map_nil, Option.map_none, Option.map_some, List.getD_cons_zero, List.getD_cons_succ, List.cons_append, List.nil_append, List.append_nil, D.toI_int, D.toB_bool, D.toS_str, D.toA_agg, D.toT_tup, D.toR_sl, enc_toA, encS_toR, encS_len, List.drop_succ_cons, List.drop_zero, List.take_succ_cons, List.take_zero, len_str, at_byte, cmpI_lss, cmpI_leq, cmpI_gtr, cmpI_geq, cmpI_eql, cmpI_neq, cmpS_eql, cmpS_neq, cmpS_lss, cmpS_geq, Int.toNat_natCast, Int.toNat_zero, cells_Call, mLoad_eq] at g4
    have g4 : c.method = mLoad := by grind
    refine den_cond (fun _ => ?_) (den_ret ?_)
    · simp only [E.den, List.map_cons, List.map_nil, Option.map_none, Option.map_some, List.getD_cons_zero, List.getD_cons_succ, List.cons_append, List.nil_append, List.append_nil, D.toI_int, D.toB_bool, D.toS_str, D.toA_agg, D.toT_tup, D.toR_sl, enc_toA, encS_toR, encS_len, List.drop_succ_cons, List.drop_zero, List.take_succ_cons, List.take_zero, len_str, at_byte, cmpI_lss, cmpI_leq, cmpI_gtr, cmpI_geq, cmpI_eql, cmpI_neq, cmpS_eql, cmpS_neq, cmpS_lss, cmpS_geq, Int.toNat_natCast, Int.toNat_zero, cells_Call, tLoad_eq]; refine dec_ok ?_; simp only [ByteArray.size_append, tLoad_size]; unfold maxLen; omega
    · simp only [E.den, List.map_cons, List.map_nil, Option.map_none, Option.map_some, List.getD_cons_zero, List.getD_cons_succ, List.cons_append, List.nil_append, List.append_nil, D.toI_int, D.toB_bool, D.toS_str, D.toA_agg, D.toT_tup, D.toR_sl, enc_toA, encS_toR, encS_len, List.drop_succ_cons, List.drop_zero, List.take_succ_cons, List.take_zero, len_str, at_byte, cmpI_lss, cmpI_leq, cmpI_gtr, cmpI_geq, cmpI_eql, cmpI_neq, cmpS_eql, cmpS_neq, cmpS_lss, cmpS_geq, Int.toNat_natCast, Int.toNat_zero, cells_Call, tLoad_eq]
      rw [callT, if_pos h, if_neg g1, if_neg g2, if_neg g3, if_pos g4]
  simp only [E.den, List.map_cons, List.map_nil, Option.map_none, Option.map_some, List.getD_cons_zero, List.getD_cons_succ, List.cons_append, List.nil_append, List.append_nil, D.toI_int, D.toB_bool, D.toS_str, D.toA_agg, D.toT_tup, D.toR_sl, enc_toA, encS_toR, encS_len, List.drop_succ_cons, List.drop_zero, List.take_succ_cons, List.take_zero, len_str, at_byte, cmpI_lss, cmpI_leq, cmpI_gtr, cmpI_geq, cmpI_eql, cmpI_neq, cmpS_eql, cmpS_neq, cmpS_lss, cmpS_geq, Int.toNat_natCast, Int.toNat_zero, cells_Call, mLoad_eq] at g4
  have g4 : c.method ≠ mLoad := by grind
  refine den_ret ?_
  simp only [E.den, List.map_cons, List.map_nil, Option.map_none, Option.map_some, List.getD_cons_zero, List.getD_cons_succ, List.cons_append, List.nil_append, List.append_nil, D.toI_int, D.toB_bool, D.toS_str, D.toA_agg, D.toT_tup, D.toR_sl, enc_toA, encS_toR, encS_len, List.drop_succ_cons, List.drop_zero, List.take_succ_cons, List.take_zero, len_str, at_byte, cmpI_lss, cmpI_leq, cmpI_gtr, cmpI_geq, cmpI_eql, cmpI_neq, cmpS_eql, cmpS_neq, cmpS_lss, cmpS_geq, Int.toNat_natCast, Int.toNat_zero, cells_Call]
  rw [callT, if_pos h, if_neg g1, if_neg g2, if_neg g3, if_neg g4]
def words : List ByteArray := [⟨#[]⟩, ⟨#[115, 116, 97, 114, 116]⟩, ⟨#[115, 116, 111, 112]⟩, ⟨#[99, 97, 108, 108]⟩, ⟨#[104, 101, 97, 108]⟩, ⟨#[115, 119, 97, 112]⟩]
class HasWords : Prop where
  h : ∀ w : World, GInv w → GHas w 0 fun cs => cs = (words.map Value.string).toArray
theorem words_size (k : Nat) : (nth words k).size ≤ 5 := by
  by_cases h : k < 6
  · obtain rfl | rfl | rfl | rfl | rfl | rfl : k = 0 ∨ k = 1 ∨ k = 2 ∨ k = 3 ∨ k = 4 ∨ k = 5 := by omega
    all_goals decide
  · unfold nth
    rw [List.getD_eq_getElem?_getD, List.getElem?_eq_none (by simp [words]; omega)]
    decide
def eventT (e : Event) : ByteArray :=
  if eventB e then (if e.kind = 3 then nth words e.kind.toNat ++ tSp ++ e.name ++ tSp ++ callT e.call else if e.kind = 5 then nth words e.kind.toNat ++ tSp ++ e.name ++ tSp ++ joinB e.recipe tSp else nth words e.kind.toNat ++ tSp ++ e.name) else noText
theorem eventB_kind {e : Event} (h : eventB e = true) : 1 ≤ e.kind ∧ e.kind ≤ 5 ∧ e.name.size ≤ 8 := by
  unfold eventB at h
  simp only [Bool.and_eq_true, decide_eq_true_eq] at h
  exact ⟨h.1.1.1.1, h.1.1.1.2, nameB_le h.1.1.2⟩
theorem eventB_rec {e : Event} (h : eventB e = true) (h5 : e.kind = 5) : recOk e.recipe = true := by
  unfold eventB at h
  simp only [Bool.and_eq_true, Bool.or_eq_true, decide_eq_true_eq] at h
  rcases h.2 with h1 | h1
  · exact h1.2
  · simp [h5] at h1
def wordE : E := .put (.put (.put (.put (.put (.put (.nilS 9) (.ag1 (.ls ⟨#[]⟩))) (.ag1 (.ls ⟨#[115, 116, 97, 114, 116]⟩))) (.ag1 (.ls ⟨#[115, 116, 111, 112]⟩))) (.ag1 (.ls ⟨#[99, 97, 108, 108]⟩))) (.ag1 (.ls ⟨#[104, 101, 97, 108]⟩))) (.ag1 (.ls ⟨#[115, 119, 97, 112]⟩))
theorem wordE_eq : (E.put (.put (.put (.put (.put (.put (.nilS 9) (.ag1 (.ls ⟨#[]⟩))) (.ag1 (.ls ⟨#[115, 116, 97, 114, 116]⟩))) (.ag1 (.ls ⟨#[115, 116, 111, 112]⟩))) (.ag1 (.ls ⟨#[99, 97, 108, 108]⟩))) (.ag1 (.ls ⟨#[104, 101, 97, 108]⟩))) (.ag1 (.ls ⟨#[115, 119, 97, 112]⟩))) = wordE := rfl
theorem wordE_den (env : List D) : wordE.den env = encS words := rfl
theorem words_len : words.length = 6 := rfl
theorem c_impl_FormatEvent [HasPow] [HasWords] (e : Event) (hm : e.call.method.size ≤ 1048576) (ht : e.call.text.size ≤ 1048576) : Fun Tryd.prog 28 none [enc e] (.str (eventT e)) [] := by
  refine Fun.ofV vc_impl_FormatEvent_ok ty_impl_FormatEvent_ok rfl ?_ (fun hfit => ?_)
  · exact ⟨ty_Event e, trivial⟩
  unfold vc_impl_FormatEvent
  ((first | refine den_call ?_ (c_impl_IsEvent e) (trivial) ?_ | refine den_callR ?_ (c_impl_IsEvent e) (trivial) ?_ | refine den_call ?_ (.ofR (c_impl_IsEvent e)) (trivial) ?_); (focus (simp only [VC.den, E.den, List.map_cons, List.map_nil, Option.map_none, Option.map_some, List.getD_cons_zero, List.getD_cons_succ, List.cons_append, List.nil_append, List.append_nil, D.toI_int, D.toB_bool, D.toS_str, D.toA_agg, D.toT_tup, D.toR_sl, enc_toA, encS_toR, encS_len, List.drop_succ_cons, List.drop_zero, List.take_succ_cons, List.take_zero, gsH_nil, and_true]; try exact rfl)); (simp only [List.cons_append, List.nil_append]))
  refine den_ite (fun h => den_ret ?_) (fun h => ?_)
  · simp only [E.den, List.map_cons, List.map_nil, Option.map_none, Option.map_some, List.getD_cons_zero, List.getD_cons_succ, List.cons_append, List.nil_append, List.append_nil, D.toI_int, D.toB_bool, D.toS_str, D.toA_agg, D.toT_tup, D.toR_sl, enc_toA, encS_toR, encS_len, List.drop_succ_cons, List.drop_zero, List.take_succ_cons, List.take_zero, len_str, at_byte, cmpI_lss, cmpI_leq, cmpI_gtr, cmpI_geq, cmpI_eql, cmpI_neq, cmpS_eql, cmpS_neq, cmpS_lss, cmpS_geq, Int.toNat_natCast, Int.toNat_zero] at h ⊢
    rw [eventT, if_neg (by grind)]; rfl
  simp only [E.den, List.map_cons, List.map_nil, Option.map_none, Option.map_some, List.getD_cons_zero, List.getD_cons_succ, List.cons_append, List.nil_append, List.append_nil, D.toI_int, D.toB_bool, D.toS_str, D.toA_agg, D.toT_tup, D.toR_sl, enc_toA, encS_toR, encS_len, List.drop_succ_cons, List.drop_zero, List.take_succ_cons, List.take_zero, len_str, at_byte, cmpI_lss, cmpI_leq, cmpI_gtr, cmpI_geq, cmpI_eql, cmpI_neq, cmpS_eql, cmpS_neq, cmpS_lss, cmpS_geq, Int.toNat_natCast, Int.toNat_zero] at h
  have h : eventB e = true := by grind
  obtain ⟨k1, k2, k3⟩ := eventB_kind h
  have k4 := words_size e.kind.toNat
  have k5 := callT_size hm ht
  refine den_glob (.agg (words.map .str)) (glob_strs (by decide) HasWords.h) ⟨trivial, trivial, trivial, trivial, trivial, trivial, trivial⟩ (fun _ => ?_) ?_
  · simp only [E.den, List.getD_cons_zero, enc_toA, cells_Event, D.toI_int]; omega
  simp only [List.cons_append, List.nil_append]
  refine den_cond (fun _ => ?_) ?_
  · simp only [E.den, List.map_cons, List.map_nil, Option.map_none, Option.map_some, List.getD_cons_zero, List.getD_cons_succ, List.cons_append, List.nil_append, List.append_nil, D.toI_int, D.toB_bool, D.toS_str, D.toA_agg, D.toT_tup, D.toR_sl, enc_toA, encS_toR, encS_len, List.drop_succ_cons, List.drop_zero, List.take_succ_cons, List.take_zero, len_str, at_byte, cmpI_lss, cmpI_leq, cmpI_gtr, cmpI_geq, cmpI_eql, cmpI_neq, cmpS_eql, cmpS_neq, cmpS_lss, cmpS_geq, Int.toNat_natCast, Int.toNat_zero, cells_Event, sel_strs, tSp_eq]; refine dec_ok ?_; simp only [ByteArray.size_append, tSp_size]; unfold maxLen; omega
  refine den_cond (fun _ => ?_) ?_
  · simp only [E.den, List.map_cons, List.map_nil, Option.map_none, Option.map_some, List.getD_cons_zero, List.getD_cons_succ, List.cons_append, List.nil_append, List.append_nil, D.toI_int, D.toB_bool, D.toS_str, D.toA_agg, D.toT_tup, D.toR_sl, enc_toA, encS_toR, encS_len, List.drop_succ_cons, List.drop_zero, List.take_succ_cons, List.take_zero, len_str, at_byte, cmpI_lss, cmpI_leq, cmpI_gtr, cmpI_geq, cmpI_eql, cmpI_neq, cmpS_eql, cmpS_neq, cmpS_lss, cmpS_geq, Int.toNat_natCast, Int.toNat_zero, cells_Event, sel_strs, tSp_eq]; refine dec_ok ?_; simp only [ByteArray.size_append, tSp_size]; unfold maxLen; omega
  refine den_ite (fun g1 => ?_) (fun g1 => ?_)
  · simp only [E.den, List.map_cons, List.map_nil, Option.map_none, Option.map_some, List.getD_cons_zero, List.getD_cons_succ, List.cons_append, List.nil_append, List.append_nil, D.toI_int, D.toB_bool, D.toS_str, D.toA_agg, D.toT_tup, D.toR_sl, enc_toA, encS_toR, encS_len, List.drop_succ_cons, List.drop_zero, List.take_succ_cons, List.take_zero, len_str, at_byte, cmpI_lss, cmpI_leq, cmpI_gtr, cmpI_geq, cmpI_eql, cmpI_neq, cmpS_eql, cmpS_neq, cmpS_lss, cmpS_geq, Int.toNat_natCast, Int.toNat_zero, cells_Event] at g1
    have g1 : e.kind = 3 := by grind
    ((first | refine den_call ?_ (c_impl_FormatCall e.call ht) (trivial) ?_ | refine den_callR ?_ (c_impl_FormatCall e.call ht) (trivial) ?_ | refine den_call ?_ (.ofR (c_impl_FormatCall e.call ht)) (trivial) ?_); (focus (simp only [VC.den, E.den, List.map_cons, List.map_nil, Option.map_none, Option.map_some, List.getD_cons_zero, List.getD_cons_succ, List.cons_append, List.nil_append, List.append_nil, D.toI_int, D.toB_bool, D.toS_str, D.toA_agg, D.toT_tup, D.toR_sl, enc_toA, encS_toR, encS_len, List.drop_succ_cons, List.drop_zero, List.take_succ_cons, List.take_zero, gsH_nil, and_true, cells_Event, cells_Call]; try exact rfl)); (simp only [List.cons_append, List.nil_append]))
    refine den_cond (fun _ => ?_) ?_
    · simp only [E.den, List.map_cons, List.map_nil, Option.map_none, Option.map_some, List.getD_cons_zero, List.getD_cons_succ, List.cons_append, List.nil_append, List.append_nil, D.toI_int, D.toB_bool, D.toS_str, D.toA_agg, D.toT_tup, D.toR_sl, enc_toA, encS_toR, encS_len, List.drop_succ_cons, List.drop_zero, List.take_succ_cons, List.take_zero, len_str, at_byte, cmpI_lss, cmpI_leq, cmpI_gtr, cmpI_geq, cmpI_eql, cmpI_neq, cmpS_eql, cmpS_neq, cmpS_lss, cmpS_geq, Int.toNat_natCast, Int.toNat_zero, cells_Event, sel_strs, tSp_eq]; refine dec_ok ?_; simp only [ByteArray.size_append, tSp_size]; unfold maxLen; omega
    refine den_cond (fun _ => ?_) (den_ret ?_)
    · simp only [E.den, List.map_cons, List.map_nil, Option.map_none, Option.map_some, List.getD_cons_zero, List.getD_cons_succ, List.cons_append, List.nil_append, List.append_nil, D.toI_int, D.toB_bool, D.toS_str, D.toA_agg, D.toT_tup, D.toR_sl, enc_toA, encS_toR, encS_len, List.drop_succ_cons, List.drop_zero, List.take_succ_cons, List.take_zero, len_str, at_byte, cmpI_lss, cmpI_leq, cmpI_gtr, cmpI_geq, cmpI_eql, cmpI_neq, cmpS_eql, cmpS_neq, cmpS_lss, cmpS_geq, Int.toNat_natCast, Int.toNat_zero, cells_Event, sel_strs, tSp_eq]; refine dec_ok ?_; simp only [ByteArray.size_append, tSp_size]; unfold maxLen; omega
    · simp only [E.den, List.map_cons, List.map_nil, Option.map_none, Option.map_some, List.getD_cons_zero, List.getD_cons_succ, List.cons_append, List.nil_append, List.append_nil, D.toI_int, D.toB_bool, D.toS_str, D.toA_agg, D.toT_tup, D.toR_sl, enc_toA, encS_toR, encS_len, List.drop_succ_cons, List.drop_zero, List.take_succ_cons, List.take_zero, len_str, at_byte, cmpI_lss, cmpI_leq, cmpI_gtr, cmpI_geq, cmpI_eql, cmpI_neq, cmpS_eql, cmpS_neq, cmpS_lss, cmpS_geq, Int.toNat_natCast, Int.toNat_zero, cells_Event, sel_strs, tSp_eq]
      rw [eventT, if_pos h, if_pos g1]
      simp [ByteArray.append_assoc]
  simp only [E.den, List.map_cons, List.map_nil, Option.map_none, Option.map_some, List.getD_cons_zero, List.getD_cons_succ, List.cons_append, List.nil_append, List.append_nil, D.toI_int, D.toB_bool, D.toS_str, D.toA_agg, D.toT_tup, D.toR_sl, enc_toA, encS_toR, encS_len, List.drop_succ_cons, List.drop_zero, List.take_succ_cons, List.take_zero, len_str, at_byte, cmpI_lss, cmpI_leq, cmpI_gtr, cmpI_geq, cmpI_eql, cmpI_neq, cmpS_eql, cmpS_neq, cmpS_lss, cmpS_geq, Int.toNat_natCast, Int.toNat_zero, cells_Event] at g1
  have g1 : e.kind ≠ 3 := by grind
  refine den_ite (fun g2 => ?_) (fun g2 => den_ret ?_)
  · simp only [E.den, List.map_cons, List.map_nil, Option.map_none, Option.map_some, List.getD_cons_zero, List.getD_cons_succ, List.cons_append, List.nil_append, List.append_nil, D.toI_int, D.toB_bool, D.toS_str, D.toA_agg, D.toT_tup, D.toR_sl, enc_toA, encS_toR, encS_len, List.drop_succ_cons, List.drop_zero, List.take_succ_cons, List.take_zero, len_str, at_byte, cmpI_lss, cmpI_leq, cmpI_gtr, cmpI_geq, cmpI_eql, cmpI_neq, cmpS_eql, cmpS_neq, cmpS_lss, cmpS_geq, Int.toNat_natCast, Int.toNat_zero, cells_Event] at g2
    have g2 : e.kind = 5 := by grind
    obtain ⟨hN, hR⟩ := rec_join (eventB_rec h g2)
    ((first | refine den_call ?_ (c_impl_JoinWith e.recipe tSp (by omega) (by omega)) (trivial) ?_ | refine den_callR ?_ (c_impl_JoinWith e.recipe tSp (by omega) (by omega)) (trivial) ?_ | refine den_call ?_ (.ofR (c_impl_JoinWith e.recipe tSp (by omega) (by omega))) (trivial) ?_); (focus (simp only [VC.den, E.den, List.map_cons, List.map_nil, Option.map_none, Option.map_some, List.getD_cons_zero, List.getD_cons_succ, List.cons_append, List.nil_append, List.append_nil, D.toI_int, D.toB_bool, D.toS_str, D.toA_agg, D.toT_tup, D.toR_sl, enc_toA, encS_toR, encS_len, List.drop_succ_cons, List.drop_zero, List.take_succ_cons, List.take_zero, gsH_nil, and_true, cells_Event]; try exact rfl)); (simp only [List.cons_append, List.nil_append]))
    refine den_cond (fun _ => ?_) ?_
    · simp only [E.den, List.map_cons, List.map_nil, Option.map_none, Option.map_some, List.getD_cons_zero, List.getD_cons_succ, List.cons_append, List.nil_append, List.append_nil, D.toI_int, D.toB_bool, D.toS_str, D.toA_agg, D.toT_tup, D.toR_sl, enc_toA, encS_toR, encS_len, List.drop_succ_cons, List.drop_zero, List.take_succ_cons, List.take_zero, len_str, at_byte, cmpI_lss, cmpI_leq, cmpI_gtr, cmpI_geq, cmpI_eql, cmpI_neq, cmpS_eql, cmpS_neq, cmpS_lss, cmpS_geq, Int.toNat_natCast, Int.toNat_zero, cells_Event, sel_strs, tSp_eq]; refine dec_ok ?_; simp only [ByteArray.size_append, tSp_size]; unfold maxLen; omega
    refine den_cond (fun _ => ?_) (den_ret ?_)
    · simp only [E.den, List.map_cons, List.map_nil, Option.map_none, Option.map_some, List.getD_cons_zero, List.getD_cons_succ, List.cons_append, List.nil_append, List.append_nil, D.toI_int, D.toB_bool, D.toS_str, D.toA_agg, D.toT_tup, D.toR_sl, enc_toA, encS_toR, encS_len, List.drop_succ_cons, List.drop_zero, List.take_succ_cons, List.take_zero, len_str, at_byte, cmpI_lss, cmpI_leq, cmpI_gtr, cmpI_geq, cmpI_eql, cmpI_neq, cmpS_eql, cmpS_neq, cmpS_lss, cmpS_geq, Int.toNat_natCast, Int.toNat_zero, cells_Event, sel_strs, tSp_eq]; refine dec_ok ?_; simp only [ByteArray.size_append, tSp_size]; unfold maxLen; omega
    · simp only [E.den, List.map_cons, List.map_nil, Option.map_none, Option.map_some, List.getD_cons_zero, List.getD_cons_succ, List.cons_append, List.nil_append, List.append_nil, D.toI_int, D.toB_bool, D.toS_str, D.toA_agg, D.toT_tup, D.toR_sl, enc_toA, encS_toR, encS_len, List.drop_succ_cons, List.drop_zero, List.take_succ_cons, List.take_zero, len_str, at_byte, cmpI_lss, cmpI_leq, cmpI_gtr, cmpI_geq, cmpI_eql, cmpI_neq, cmpS_eql, cmpS_neq, cmpS_lss, cmpS_geq, Int.toNat_natCast, Int.toNat_zero, cells_Event, sel_strs, tSp_eq]
      rw [eventT, if_pos h, if_neg g1, if_pos g2]
      simp [ByteArray.append_assoc]
  simp only [E.den, List.map_cons, List.map_nil, Option.map_none, Option.map_some, List.getD_cons_zero, List.getD_cons_succ, List.cons_append, List.nil_append, List.append_nil, D.toI_int, D.toB_bool, D.toS_str, D.toA_agg, D.toT_tup, D.toR_sl, enc_toA, encS_toR, encS_len, List.drop_succ_cons, List.drop_zero, List.take_succ_cons, List.take_zero, len_str, at_byte, cmpI_lss, cmpI_leq, cmpI_gtr, cmpI_geq, cmpI_eql, cmpI_neq, cmpS_eql, cmpS_neq, cmpS_lss, cmpS_geq, Int.toNat_natCast, Int.toNat_zero, cells_Event] at g2
  have g2 : e.kind ≠ 5 := by grind
  simp only [E.den, List.map_cons, List.map_nil, Option.map_none, Option.map_some, List.getD_cons_zero, List.getD_cons_succ, List.cons_append, List.nil_append, List.append_nil, D.toI_int, D.toB_bool, D.toS_str, D.toA_agg, D.toT_tup, D.toR_sl, enc_toA, encS_toR, encS_len, List.drop_succ_cons, List.drop_zero, List.take_succ_cons, List.take_zero, len_str, at_byte, cmpI_lss, cmpI_leq, cmpI_gtr, cmpI_geq, cmpI_eql, cmpI_neq, cmpS_eql, cmpS_neq, cmpS_lss, cmpS_geq, Int.toNat_natCast, Int.toNat_zero, cells_Event, sel_strs, tSp_eq]
  rw [eventT, if_pos h, if_neg g1, if_neg g2]
theorem c_spec_FormatEvent (e : Event) (hm : e.call.method.size ≤ 1048576) (ht : e.call.text.size ≤ 1048576) : Fun Tryd.prog 26 none [enc e] (.str (eventT e)) [] := by
  refine Fun.ofV vc_spec_FormatEvent_ok ty_spec_FormatEvent_ok rfl ?_ (fun hfit => ?_)
  · exact ⟨ty_Event e, trivial⟩
  unfold vc_spec_FormatEvent
  simp only [wordE_eq]
  ((first | refine den_call ?_ (c_spec_IsEvent e) (trivial) ?_ | refine den_callR ?_ (c_spec_IsEvent e) (trivial) ?_ | refine den_call ?_ (.ofR (c_spec_IsEvent e)) (trivial) ?_); (focus (simp only [VC.den, E.den, List.map_cons, List.map_nil, Option.map_none, Option.map_some, List.getD_cons_zero, List.getD_cons_succ, List.cons_append, List.nil_append, List.append_nil, D.toI_int, D.toB_bool, D.toS_str, D.toA_agg, D.toT_tup, D.toR_sl, enc_toA, encS_toR, encS_len, List.drop_succ_cons, List.drop_zero, List.take_succ_cons, List.take_zero, gsH_nil, and_true]; try exact rfl)); (simp only [List.cons_append, List.nil_append]))
  refine den_ite (fun h => den_ret ?_) (fun h => ?_)
  · simp only [E.den, List.map_cons, List.map_nil, Option.map_none, Option.map_some, List.getD_cons_zero, List.getD_cons_succ, List.cons_append, List.nil_append, List.append_nil, D.toI_int, D.toB_bool, D.toS_str, D.toA_agg, D.toT_tup, D.toR_sl, enc_toA, encS_toR, encS_len, List.drop_succ_cons, List.drop_zero, List.take_succ_cons, List.take_zero, len_str, at_byte, cmpI_lss, cmpI_leq, cmpI_gtr, cmpI_geq, cmpI_eql, cmpI_neq, cmpS_eql, cmpS_neq, cmpS_lss, cmpS_geq, Int.toNat_natCast, Int.toNat_zero] at h ⊢
    rw [eventT, if_neg (by grind)]; rfl
  simp only [E.den, List.map_cons, List.map_nil, Option.map_none, Option.map_some, List.getD_cons_zero, List.getD_cons_succ, List.cons_append, List.nil_append, List.append_nil, D.toI_int, D.toB_bool, D.toS_str, D.toA_agg, D.toT_tup, D.toR_sl, enc_toA, encS_toR, encS_len, List.drop_succ_cons, List.drop_zero, List.take_succ_cons, List.take_zero, len_str, at_byte, cmpI_lss, cmpI_leq, cmpI_gtr, cmpI_geq, cmpI_eql, cmpI_neq, cmpS_eql, cmpS_neq, cmpS_lss, cmpS_geq, Int.toNat_natCast, Int.toNat_zero] at h
  have h : eventB e = true := by grind
  obtain ⟨k1, k2, k3⟩ := eventB_kind h
  have k4 := words_size e.kind.toNat
  have k5 := callT_size hm ht
  refine den_cond (fun _ => ?_) ?_
  · simp only [E.den, List.map_cons, List.map_nil, Option.map_none, Option.map_some, List.getD_cons_zero, List.getD_cons_succ, List.cons_append, List.nil_append, List.append_nil, D.toI_int, D.toB_bool, D.toS_str, D.toA_agg, D.toT_tup, D.toR_sl, enc_toA, encS_toR, encS_len, List.drop_succ_cons, List.drop_zero, List.take_succ_cons, List.take_zero, len_str, at_byte, cmpI_lss, cmpI_leq, cmpI_gtr, cmpI_geq, cmpI_eql, cmpI_neq, cmpS_eql, cmpS_neq, cmpS_lss, cmpS_geq, Int.toNat_natCast, Int.toNat_zero, cells_Event, wordE_den, words_len]; simp; omega
  refine den_cond (fun _ => ?_) ?_
  · simp only [E.den, List.map_cons, List.map_nil, Option.map_none, Option.map_some, List.getD_cons_zero, List.getD_cons_succ, List.cons_append, List.nil_append, List.append_nil, D.toI_int, D.toB_bool, D.toS_str, D.toA_agg, D.toT_tup, D.toR_sl, enc_toA, encS_toR, encS_len, List.drop_succ_cons, List.drop_zero, List.take_succ_cons, List.take_zero, len_str, at_byte, cmpI_lss, cmpI_leq, cmpI_gtr, cmpI_geq, cmpI_eql, cmpI_neq, cmpS_eql, cmpS_neq, cmpS_lss, cmpS_geq, Int.toNat_natCast, Int.toNat_zero, cells_Event, wordE_den, row_str, cells_str, tSp_eq]; refine dec_ok ?_; simp only [ByteArray.size_append, tSp_size]; unfold maxLen; omega
  refine den_cond (fun _ => ?_) ?_
  · simp only [E.den, List.map_cons, List.map_nil, Option.map_none, Option.map_some, List.getD_cons_zero, List.getD_cons_succ, List.cons_append, List.nil_append, List.append_nil, D.toI_int, D.toB_bool, D.toS_str, D.toA_agg, D.toT_tup, D.toR_sl, enc_toA, encS_toR, encS_len, List.drop_succ_cons, List.drop_zero, List.take_succ_cons, List.take_zero, len_str, at_byte, cmpI_lss, cmpI_leq, cmpI_gtr, cmpI_geq, cmpI_eql, cmpI_neq, cmpS_eql, cmpS_neq, cmpS_lss, cmpS_geq, Int.toNat_natCast, Int.toNat_zero, cells_Event, wordE_den, row_str, cells_str, tSp_eq]; refine dec_ok ?_; simp only [ByteArray.size_append, tSp_size]; unfold maxLen; omega
  refine den_ite (fun g1 => ?_) (fun g1 => ?_)
  · simp only [E.den, List.map_cons, List.map_nil, Option.map_none, Option.map_some, List.getD_cons_zero, List.getD_cons_succ, List.cons_append, List.nil_append, List.append_nil, D.toI_int, D.toB_bool, D.toS_str, D.toA_agg, D.toT_tup, D.toR_sl, enc_toA, encS_toR, encS_len, List.drop_succ_cons, List.drop_zero, List.take_succ_cons, List.take_zero, len_str, at_byte, cmpI_lss, cmpI_leq, cmpI_gtr, cmpI_geq, cmpI_eql, cmpI_neq, cmpS_eql, cmpS_neq, cmpS_lss, cmpS_geq, Int.toNat_natCast, Int.toNat_zero, cells_Event] at g1
    have g1 : e.kind = 3 := by grind
    refine den_cond (fun _ => ?_) ?_
    · simp only [E.den, List.map_cons, List.map_nil, Option.map_none, Option.map_some, List.getD_cons_zero, List.getD_cons_succ, List.cons_append, List.nil_append, List.append_nil, D.toI_int, D.toB_bool, D.toS_str, D.toA_agg, D.toT_tup, D.toR_sl, enc_toA, encS_toR, encS_len, List.drop_succ_cons, List.drop_zero, List.take_succ_cons, List.take_zero, len_str, at_byte, cmpI_lss, cmpI_leq, cmpI_gtr, cmpI_geq, cmpI_eql, cmpI_neq, cmpS_eql, cmpS_neq, cmpS_lss, cmpS_geq, Int.toNat_natCast, Int.toNat_zero, cells_Event, wordE_den, row_str, cells_str, tSp_eq]; refine dec_ok ?_; simp only [ByteArray.size_append, tSp_size]; unfold maxLen; omega
    ((first | refine den_call ?_ (c_spec_FormatCall e.call ht) (trivial) ?_ | refine den_callR ?_ (c_spec_FormatCall e.call ht) (trivial) ?_ | refine den_call ?_ (.ofR (c_spec_FormatCall e.call ht)) (trivial) ?_); (focus (simp only [VC.den, E.den, List.map_cons, List.map_nil, Option.map_none, Option.map_some, List.getD_cons_zero, List.getD_cons_succ, List.cons_append, List.nil_append, List.append_nil, D.toI_int, D.toB_bool, D.toS_str, D.toA_agg, D.toT_tup, D.toR_sl, enc_toA, encS_toR, encS_len, List.drop_succ_cons, List.drop_zero, List.take_succ_cons, List.take_zero, gsH_nil, and_true, cells_Event, cells_Call]; try exact rfl)); (simp only [List.cons_append, List.nil_append]))
    refine den_cond (fun _ => ?_) (den_ret ?_)
    · simp only [E.den, List.map_cons, List.map_nil, Option.map_none, Option.map_some, List.getD_cons_zero, List.getD_cons_succ, List.cons_append, List.nil_append, List.append_nil, D.toI_int, D.toB_bool, D.toS_str, D.toA_agg, D.toT_tup, D.toR_sl, enc_toA, encS_toR, encS_len, List.drop_succ_cons, List.drop_zero, List.take_succ_cons, List.take_zero, len_str, at_byte, cmpI_lss, cmpI_leq, cmpI_gtr, cmpI_geq, cmpI_eql, cmpI_neq, cmpS_eql, cmpS_neq, cmpS_lss, cmpS_geq, Int.toNat_natCast, Int.toNat_zero, cells_Event, wordE_den, row_str, cells_str, tSp_eq]; refine dec_ok ?_; simp only [ByteArray.size_append, tSp_size]; unfold maxLen; omega
    · simp only [E.den, List.map_cons, List.map_nil, Option.map_none, Option.map_some, List.getD_cons_zero, List.getD_cons_succ, List.cons_append, List.nil_append, List.append_nil, D.toI_int, D.toB_bool, D.toS_str, D.toA_agg, D.toT_tup, D.toR_sl, enc_toA, encS_toR, encS_len, List.drop_succ_cons, List.drop_zero, List.take_succ_cons, List.take_zero, len_str, at_byte, cmpI_lss, cmpI_leq, cmpI_gtr, cmpI_geq, cmpI_eql, cmpI_neq, cmpS_eql, cmpS_neq, cmpS_lss, cmpS_geq, Int.toNat_natCast, Int.toNat_zero, cells_Event, wordE_den, row_str, cells_str, tSp_eq]
      rw [eventT, if_pos h, if_pos g1]
  simp only [E.den, List.map_cons, List.map_nil, Option.map_none, Option.map_some, List.getD_cons_zero, List.getD_cons_succ, List.cons_append, List.nil_append, List.append_nil, D.toI_int, D.toB_bool, D.toS_str, D.toA_agg, D.toT_tup, D.toR_sl, enc_toA, encS_toR, encS_len, List.drop_succ_cons, List.drop_zero, List.take_succ_cons, List.take_zero, len_str, at_byte, cmpI_lss, cmpI_leq, cmpI_gtr, cmpI_geq, cmpI_eql, cmpI_neq, cmpS_eql, cmpS_neq, cmpS_lss, cmpS_geq, Int.toNat_natCast, Int.toNat_zero, cells_Event] at g1
  have g1 : e.kind ≠ 3 := by grind
  refine den_ite (fun g2 => ?_) (fun g2 => den_ret ?_)
  · simp only [E.den, List.map_cons, List.map_nil, Option.map_none, Option.map_some, List.getD_cons_zero, List.getD_cons_succ, List.cons_append, List.nil_append, List.append_nil, D.toI_int, D.toB_bool, D.toS_str, D.toA_agg, D.toT_tup, D.toR_sl, enc_toA, encS_toR, encS_len, List.drop_succ_cons, List.drop_zero, List.take_succ_cons, List.take_zero, len_str, at_byte, cmpI_lss, cmpI_leq, cmpI_gtr, cmpI_geq, cmpI_eql, cmpI_neq, cmpS_eql, cmpS_neq, cmpS_lss, cmpS_geq, Int.toNat_natCast, Int.toNat_zero, cells_Event] at g2
    have g2 : e.kind = 5 := by grind
    obtain ⟨hN, hR⟩ := rec_join (eventB_rec h g2)
    refine den_cond (fun _ => ?_) ?_
    · simp only [E.den, List.map_cons, List.map_nil, Option.map_none, Option.map_some, List.getD_cons_zero, List.getD_cons_succ, List.cons_append, List.nil_append, List.append_nil, D.toI_int, D.toB_bool, D.toS_str, D.toA_agg, D.toT_tup, D.toR_sl, enc_toA, encS_toR, encS_len, List.drop_succ_cons, List.drop_zero, List.take_succ_cons, List.take_zero, len_str, at_byte, cmpI_lss, cmpI_leq, cmpI_gtr, cmpI_geq, cmpI_eql, cmpI_neq, cmpS_eql, cmpS_neq, cmpS_lss, cmpS_geq, Int.toNat_natCast, Int.toNat_zero, cells_Event, wordE_den, row_str, cells_str, tSp_eq]; refine dec_ok ?_; simp only [ByteArray.size_append, tSp_size]; unfold maxLen; omega
    ((first | refine den_call ?_ (c_spec_JoinWith e.recipe tSp (by omega) (by omega)) (trivial) ?_ | refine den_callR ?_ (c_spec_JoinWith e.recipe tSp (by omega) (by omega)) (trivial) ?_ | refine den_call ?_ (.ofR (c_spec_JoinWith e.recipe tSp (by omega) (by omega))) (trivial) ?_); (focus (simp only [VC.den, E.den, List.map_cons, List.map_nil, Option.map_none, Option.map_some, List.getD_cons_zero, List.getD_cons_succ, List.cons_append, List.nil_append, List.append_nil, D.toI_int, D.toB_bool, D.toS_str, D.toA_agg, D.toT_tup, D.toR_sl, enc_toA, encS_toR, encS_len, List.drop_succ_cons, List.drop_zero, List.take_succ_cons, List.take_zero, gsH_nil, and_true, cells_Event]; try exact rfl)); (simp only [List.cons_append, List.nil_append]))
    refine den_cond (fun _ => ?_) (den_ret ?_)
    · simp only [E.den, List.map_cons, List.map_nil, Option.map_none, Option.map_some, List.getD_cons_zero, List.getD_cons_succ, List.cons_append, List.nil_append, List.append_nil, D.toI_int, D.toB_bool, D.toS_str, D.toA_agg, D.toT_tup, D.toR_sl, enc_toA, encS_toR, encS_len, List.drop_succ_cons, List.drop_zero, List.take_succ_cons, List.take_zero, len_str, at_byte, cmpI_lss, cmpI_leq, cmpI_gtr, cmpI_geq, cmpI_eql, cmpI_neq, cmpS_eql, cmpS_neq, cmpS_lss, cmpS_geq, Int.toNat_natCast, Int.toNat_zero, cells_Event, wordE_den, row_str, cells_str, tSp_eq]; refine dec_ok ?_; simp only [ByteArray.size_append, tSp_size]; unfold maxLen; omega
    · simp only [E.den, List.map_cons, List.map_nil, Option.map_none, Option.map_some, List.getD_cons_zero, List.getD_cons_succ, List.cons_append, List.nil_append, List.append_nil, D.toI_int, D.toB_bool, D.toS_str, D.toA_agg, D.toT_tup, D.toR_sl, enc_toA, encS_toR, encS_len, List.drop_succ_cons, List.drop_zero, List.take_succ_cons, List.take_zero, len_str, at_byte, cmpI_lss, cmpI_leq, cmpI_gtr, cmpI_geq, cmpI_eql, cmpI_neq, cmpS_eql, cmpS_neq, cmpS_lss, cmpS_geq, Int.toNat_natCast, Int.toNat_zero, cells_Event, wordE_den, row_str, cells_str, tSp_eq]
      rw [eventT, if_pos h, if_neg g1, if_pos g2]
  simp only [E.den, List.map_cons, List.map_nil, Option.map_none, Option.map_some, List.getD_cons_zero, List.getD_cons_succ, List.cons_append, List.nil_append, List.append_nil, D.toI_int, D.toB_bool, D.toS_str, D.toA_agg, D.toT_tup, D.toR_sl, enc_toA, encS_toR, encS_len, List.drop_succ_cons, List.drop_zero, List.take_succ_cons, List.take_zero, len_str, at_byte, cmpI_lss, cmpI_leq, cmpI_gtr, cmpI_geq, cmpI_eql, cmpI_neq, cmpS_eql, cmpS_neq, cmpS_lss, cmpS_geq, Int.toNat_natCast, Int.toNat_zero, cells_Event] at g2
  have g2 : e.kind ≠ 5 := by grind
  simp only [E.den, List.map_cons, List.map_nil, Option.map_none, Option.map_some, List.getD_cons_zero, List.getD_cons_succ, List.cons_append, List.nil_append, List.append_nil, D.toI_int, D.toB_bool, D.toS_str, D.toA_agg, D.toT_tup, D.toR_sl, enc_toA, encS_toR, encS_len, List.drop_succ_cons, List.drop_zero, List.take_succ_cons, List.take_zero, len_str, at_byte, cmpI_lss, cmpI_leq, cmpI_gtr, cmpI_geq, cmpI_eql, cmpI_neq, cmpS_eql, cmpS_neq, cmpS_lss, cmpS_geq, Int.toNat_natCast, Int.toNat_zero, cells_Event, wordE_den, row_str, cells_str, tSp_eq]
  rw [eventT, if_pos h, if_neg g1, if_neg g2]
end Go.Proofs.YtmhfncdhplmomaaDoor
