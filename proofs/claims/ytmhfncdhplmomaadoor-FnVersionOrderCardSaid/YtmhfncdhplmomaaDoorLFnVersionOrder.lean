/- FnVersionOrder holds for every input, in every start where the variables hold what the program's text lays: the law's condition, met by the contracts of what it calls; the row; the card. -/
import Derived.Test.YtmhfncdhplmomaaDoorBVerText
import Derived.Test.YtmhfncdhplmomaaDoorBDraw
import Derived.Test.YtmhfncdhplmomaaDoorBDoor
import Derived.Test.YtmhfncdhplmomaaDoorBSeat
namespace Go.Proofs.YtmhfncdhplmomaaDoor.lawFnVersionOrder
open Go.ChangeShapes Go.WideShapes Go.ChangeAt Go.RowKit
set_option linter.unusedVariables false
set_option linter.unusedSimpArgs false
set_option maxRecDepth 100000
instance instGC : GC := gcText
instance : HasErr := ⟨fun w h => h.1⟩
instance : HasMax := ⟨fun w h => h.2.1⟩
instance : HasPow := ⟨fun w h => h.2.2⟩
theorem start {W : World} (hsh : W.ShapedOpen Tryd.prog) (hL : laidMet Tryd.prog Rows.fnVersionOrderRow.laid W) : GInv W ∧ NG ≤ W.heap.size := by
  have h := seat_pow (by kernel_rfl) hL.tail.tail
  exact ⟨⟨seat_err (by kernel_rfl) hL.tail.tail.tail.tail, seat_max hsh, h⟩, ghas_lt h⟩
def meets (a b : Ver) : Bool := (a.maj == b.maj) && decide (a.cmp b ≥ 0)
theorem c_Meets (a b : Ver) : Fun Tryd.prog 18 none [enc a, enc b] (.bool (meets a b)) [] := by
  refine Fun.ofV vc_impl_Meets_ok ty_impl_Meets_ok rfl ?_ (fun hfit => ?_)
  · simp [ty_impl_Meets, HasTys, HasVT, HasV1, enc, ty_Ver]
  unfold vc_impl_Meets
  ((first | refine den_call ?_ (c_impl_CompareVersions a b) (rfl) ?_ | refine den_callR ?_ (c_impl_CompareVersions a b) (rfl) ?_ | refine den_call ?_ (.ofR (c_impl_CompareVersions a b)) (rfl) ?_); (focus (simp only [VC.den, E.den, List.map_cons, List.map_nil, Option.map_none, Option.map_some, List.getD_cons_zero, List.getD_cons_succ, List.cons_append, List.nil_append, List.append_nil, D.toI_int, D.toB_bool, D.toS_str, D.toA_agg, D.toT_tup, D.toR_sl, enc_toA, encS_toR, encS_len, List.drop_succ_cons, List.drop_zero, List.take_succ_cons, List.take_zero, gsH_nil, and_true]; try exact rfl)); (simp only [List.cons_append, List.nil_append]))
  refine den_ret ?_
  simp [E.den, cells_Ver, cmpI, meets]
theorem d_Compare {rows : List (List D)} (hr : RowsTy tbl.tab [.int .u8] rows) : ∃ r, (∃ v u : Ver, r = .tup [enc v, enc u]) ∧ Fun Tryd.prog 15 none [.sl rows] r [] := by
  refine Fun.exV vc_spec_DrawCompareVersions_ok rfl ty_spec_DrawCompareVersions_ok ⟨by show RowsTy _ (tbl.tab _) _; rw [tab_u8]; exact hr, trivial⟩ (.tup [enc (default : Ver), enc (default : Ver)]) ⟨_, _, rfl⟩ fun hf => ?_
  unfold vc_spec_DrawCompareVersions
  refine den_newc rfl hr fun sd => ?_
  have hi : (0 : Int) ≤ 0 := Int.le_refl _
  ((first | apply den_draw | apply den_drawR); (focus (simp only [VC.den, E.den, List.map_cons, List.map_nil, Option.map_none, Option.map_some, List.getD_cons_zero, List.getD_cons_succ, List.cons_append, List.nil_append, List.append_nil, D.toI_int, D.toB_bool, D.toS_str, D.toA_agg, D.toT_tup, D.toR_sl, enc_toA, encS_toR, encS_len, List.drop_succ_cons, List.drop_zero, List.take_succ_cons, List.take_zero, gsH_nil, and_true]; try exact rfl)); (focus (simp only [VC.den, E.den, List.map_cons, List.map_nil, Option.map_none, Option.map_some, List.getD_cons_zero, List.getD_cons_succ, List.cons_append, List.nil_append, List.append_nil, D.toI_int, D.toB_bool, D.toS_str, D.toA_agg, D.toT_tup, D.toR_sl, enc_toA, encS_toR, encS_len, List.drop_succ_cons, List.drop_zero, List.take_succ_cons, List.take_zero, gsH_nil, and_true]; try exact rfl)); (focus (exact ⟨_, _, _, rfl, by assumption, by assumption⟩)); (focus (first | exact d_l5Any | exact Dr.ofR (d_l5Any))); (focus (exact fun _ h => isV.ty h)); rintro _ rows i sd ⟨v, rfl⟩ hr hi; (simp only [List.cons_append, List.nil_append]))
  ((first | apply den_draw | apply den_drawR); (focus (simp only [VC.den, E.den, List.map_cons, List.map_nil, Option.map_none, Option.map_some, List.getD_cons_zero, List.getD_cons_succ, List.cons_append, List.nil_append, List.append_nil, D.toI_int, D.toB_bool, D.toS_str, D.toA_agg, D.toT_tup, D.toR_sl, enc_toA, encS_toR, encS_len, List.drop_succ_cons, List.drop_zero, List.take_succ_cons, List.take_zero, gsH_nil, and_true]; try exact rfl)); (focus (simp only [VC.den, E.den, List.map_cons, List.map_nil, Option.map_none, Option.map_some, List.getD_cons_zero, List.getD_cons_succ, List.cons_append, List.nil_append, List.append_nil, D.toI_int, D.toB_bool, D.toS_str, D.toA_agg, D.toT_tup, D.toR_sl, enc_toA, encS_toR, encS_len, List.drop_succ_cons, List.drop_zero, List.take_succ_cons, List.take_zero, gsH_nil, and_true]; try exact rfl)); (focus (exact ⟨_, _, _, rfl, by assumption, by assumption⟩)); (focus (first | exact d_l5Any | exact Dr.ofR (d_l5Any))); (focus (exact fun _ h => isV.ty h)); rintro _ rows i sd ⟨u, rfl⟩ hr hi; (simp only [List.cons_append, List.nil_append]))
  exact ⟨⟨v, u, rfl⟩, rfl⟩
theorem d_Format {rows : List (List D)} (hr : RowsTy tbl.tab [.int .u8] rows) : ∃ r, isV r ∧ Fun Tryd.prog 16 none [.sl rows] r [] := by
  refine Fun.exV vc_spec_DrawFormatVersion_ok rfl ty_spec_DrawFormatVersion_ok ⟨by show RowsTy _ (tbl.tab _) _; rw [tab_u8]; exact hr, trivial⟩ (enc (default : Ver)) ⟨_, rfl⟩ fun hf => ?_
  unfold vc_spec_DrawFormatVersion
  refine den_newc rfl hr fun sd => ?_
  have hi : (0 : Int) ≤ 0 := Int.le_refl _
  ((first | apply den_draw | apply den_drawR); (focus (simp only [VC.den, E.den, List.map_cons, List.map_nil, Option.map_none, Option.map_some, List.getD_cons_zero, List.getD_cons_succ, List.cons_append, List.nil_append, List.append_nil, D.toI_int, D.toB_bool, D.toS_str, D.toA_agg, D.toT_tup, D.toR_sl, enc_toA, encS_toR, encS_len, List.drop_succ_cons, List.drop_zero, List.take_succ_cons, List.take_zero, gsH_nil, and_true]; try exact rfl)); (focus (simp only [VC.den, E.den, List.map_cons, List.map_nil, Option.map_none, Option.map_some, List.getD_cons_zero, List.getD_cons_succ, List.cons_append, List.nil_append, List.append_nil, D.toI_int, D.toB_bool, D.toS_str, D.toA_agg, D.toT_tup, D.toR_sl, enc_toA, encS_toR, encS_len, List.drop_succ_cons, List.drop_zero, List.take_succ_cons, List.take_zero, gsH_nil, and_true]; try exact rfl)); (focus (exact ⟨_, _, _, rfl, by assumption, by assumption⟩)); (focus (first | exact d_l5Any | exact Dr.ofR (d_l5Any))); (focus (exact fun _ h => isV.ty h)); rintro _ rows i sd ⟨v, rfl⟩ hr hi; (simp only [List.cons_append, List.nil_append]))
  exact ⟨⟨v, rfl⟩, rfl⟩
theorem big_ok [GC] (rows : List (List D)) (hr : RowsTy tbl.tab (tbl.tab 5) rows) : Fun Tryd.prog 14 none [.sl rows] (.bool (decide ((rows.length : Int) > 4096))) [] := by
  refine Fun.ofV vc_laws_big_ok ty_laws_big_ok rfl ?_ (fun hfit => ?_)
  · exact ⟨hr, trivial⟩
  simp only [vc_laws_big, VC.den, E.den, List.map_cons, List.map_nil, Option.map_none, Option.map_some, List.getD_cons_zero, List.getD_cons_succ, List.cons_append, List.nil_append, List.append_nil, D.toI_int, D.toB_bool, D.toS_str, D.toA_agg, D.toT_tup, D.toR_sl, enc_toA, encS_toR, encS_len, List.drop_succ_cons, List.drop_zero, List.take_succ_cons, List.take_zero, gsH_nil, and_true, lenD]
  simp [cmpI]
theorem cmp_anti (a b : Ver) : arI .sub .i64 0 (b.cmp a) = a.cmp b := by
  unfold Ver.cmp
  (repeat' split) <;> first | (rw [ar_sub (by omega) (by omega)]; omega) | omega
theorem cmp_zero (a b : Ver) : (a.cmp b == 0) = ((a.maj == b.maj) && (a.min == b.min)) := by
  rw [Bool.eq_iff_iff]
  unfold Ver.cmp
  simp
  (repeat' split) <;> omega
theorem cmp_trans {a b v : Ver} (h1 : a.cmp b ≤ 0) (h2 : b.cmp v ≤ 0) : ¬ a.cmp v > 0 := by
  unfold Ver.cmp at *
  (repeat' split at h1) <;> (repeat' split at h2) <;> (repeat' split) <;> omega
theorem cmp_trans' {a b v : Ver} (h1 : a.cmp b ≥ 0) (h2 : b.cmp v ≥ 0) : a.cmp v ≥ 0 := by
  unfold Ver.cmp at *
  (repeat' split at h1) <;> (repeat' split at h2) <;> (repeat' split) <;> omega
theorem cmp_self (a : Ver) : a.cmp a = 0 := by
  unfold Ver.cmp
  (repeat' split) <;> omega
theorem main (ds : List D) (h : HasTys tbl.tab ty_laws_FnVersionOrder ds) : Fun Tryd.prog 5 none ds (.bool true) [] := by
  obtain ⟨rows, rfl, hr⟩ : ∃ rows, ds = [.sl rows] ∧ RowsTy tbl.tab (tbl.tab 5) rows := by
    match ds, h with
    | [d], h => obtain ⟨rows, rfl, hr⟩ := hasTy_sl h.1; exact ⟨rows, rfl, hr⟩
  have hr' := hr
  rw [tab_u8] at hr'
  refine Fun.ofV vc_laws_FnVersionOrder_ok ty_laws_FnVersionOrder_ok rfl ?_ (fun hfit => ?_)
  · exact h
  unfold vc_laws_FnVersionOrder
  ((first | refine den_call ?_ (big_ok rows hr) (trivial) ?_ | refine den_callR ?_ (big_ok rows hr) (trivial) ?_ | refine den_call ?_ (.ofR (big_ok rows hr)) (trivial) ?_); (focus (simp only [VC.den, E.den, List.map_cons, List.map_nil, Option.map_none, Option.map_some, List.getD_cons_zero, List.getD_cons_succ, List.cons_append, List.nil_append, List.append_nil, D.toI_int, D.toB_bool, D.toS_str, D.toA_agg, D.toT_tup, D.toR_sl, enc_toA, encS_toR, encS_len, List.drop_succ_cons, List.drop_zero, List.take_succ_cons, List.take_zero, gsH_nil, and_true]; try exact rfl)); (simp only [List.cons_append, List.nil_append]))
  refine den_ite (fun _ => den_ret rfl) (fun hb => ?_)
  obtain ⟨_, ⟨a, b, rfl⟩, hd1⟩ := d_Compare hr'
  ((first | refine den_call ?_ (hd1) (⟨ty_Ver a, ty_Ver b, trivial⟩) ?_ | refine den_callR ?_ (hd1) (⟨ty_Ver a, ty_Ver b, trivial⟩) ?_ | refine den_call ?_ (.ofR (hd1)) (⟨ty_Ver a, ty_Ver b, trivial⟩) ?_); (focus (simp only [VC.den, E.den, List.map_cons, List.map_nil, Option.map_none, Option.map_some, List.getD_cons_zero, List.getD_cons_succ, List.cons_append, List.nil_append, List.append_nil, D.toI_int, D.toB_bool, D.toS_str, D.toA_agg, D.toT_tup, D.toR_sl, enc_toA, encS_toR, encS_len, List.drop_succ_cons, List.drop_zero, List.take_succ_cons, List.take_zero, gsH_nil, and_true]; try exact rfl)); (simp only [List.cons_append, List.nil_append]))
  obtain ⟨_, ⟨v, rfl⟩, hd2⟩ := d_Format hr'
  ((first | refine den_call ?_ (hd2) (ty_Ver v) ?_ | refine den_callR ?_ (hd2) (ty_Ver v) ?_ | refine den_call ?_ (.ofR (hd2)) (ty_Ver v) ?_); (focus (simp only [VC.den, E.den, List.map_cons, List.map_nil, Option.map_none, Option.map_some, List.getD_cons_zero, List.getD_cons_succ, List.cons_append, List.nil_append, List.append_nil, D.toI_int, D.toB_bool, D.toS_str, D.toA_agg, D.toT_tup, D.toR_sl, enc_toA, encS_toR, encS_len, List.drop_succ_cons, List.drop_zero, List.take_succ_cons, List.take_zero, gsH_nil, and_true]; try exact rfl)); (simp only [List.cons_append, List.nil_append]))
  ((first | refine den_call ?_ (c_impl_CompareVersions a b) (rfl) ?_ | refine den_callR ?_ (c_impl_CompareVersions a b) (rfl) ?_ | refine den_call ?_ (.ofR (c_impl_CompareVersions a b)) (rfl) ?_); (focus (simp only [VC.den, E.den, List.map_cons, List.map_nil, Option.map_none, Option.map_some, List.getD_cons_zero, List.getD_cons_succ, List.cons_append, List.nil_append, List.append_nil, D.toI_int, D.toB_bool, D.toS_str, D.toA_agg, D.toT_tup, D.toR_sl, enc_toA, encS_toR, encS_len, List.drop_succ_cons, List.drop_zero, List.take_succ_cons, List.take_zero, gsH_nil, and_true]; try exact rfl)); (simp only [List.cons_append, List.nil_append]))
  ((first | refine den_call ?_ (c_impl_CompareVersions b a) (rfl) ?_ | refine den_callR ?_ (c_impl_CompareVersions b a) (rfl) ?_ | refine den_call ?_ (.ofR (c_impl_CompareVersions b a)) (rfl) ?_); (focus (simp only [VC.den, E.den, List.map_cons, List.map_nil, Option.map_none, Option.map_some, List.getD_cons_zero, List.getD_cons_succ, List.cons_append, List.nil_append, List.append_nil, D.toI_int, D.toB_bool, D.toS_str, D.toA_agg, D.toT_tup, D.toR_sl, enc_toA, encS_toR, encS_len, List.drop_succ_cons, List.drop_zero, List.take_succ_cons, List.take_zero, gsH_nil, and_true]; try exact rfl)); (simp only [List.cons_append, List.nil_append]))
  ((first | refine den_call ?_ (c_impl_CompareVersions b v) (rfl) ?_ | refine den_callR ?_ (c_impl_CompareVersions b v) (rfl) ?_ | refine den_call ?_ (.ofR (c_impl_CompareVersions b v)) (rfl) ?_); (focus (simp only [VC.den, E.den, List.map_cons, List.map_nil, Option.map_none, Option.map_some, List.getD_cons_zero, List.getD_cons_succ, List.cons_append, List.nil_append, List.append_nil, D.toI_int, D.toB_bool, D.toS_str, D.toA_agg, D.toT_tup, D.toR_sl, enc_toA, encS_toR, encS_len, List.drop_succ_cons, List.drop_zero, List.take_succ_cons, List.take_zero, gsH_nil, and_true]; try exact rfl)); (simp only [List.cons_append, List.nil_append]))
  ((first | refine den_call ?_ (c_impl_CompareVersions a v) (rfl) ?_ | refine den_callR ?_ (c_impl_CompareVersions a v) (rfl) ?_ | refine den_call ?_ (.ofR (c_impl_CompareVersions a v)) (rfl) ?_); (focus (simp only [VC.den, E.den, List.map_cons, List.map_nil, Option.map_none, Option.map_some, List.getD_cons_zero, List.getD_cons_succ, List.cons_append, List.nil_append, List.append_nil, D.toI_int, D.toB_bool, D.toS_str, D.toA_agg, D.toT_tup, D.toR_sl, enc_toA, encS_toR, encS_len, List.drop_succ_cons, List.drop_zero, List.take_succ_cons, List.take_zero, gsH_nil, and_true]; try exact rfl)); (simp only [List.cons_append, List.nil_append]))
  refine den_ite (fun h => ?_) (fun _ => ?_)
  · exfalso
    simp only [E.den, List.map_cons, List.map_nil, Option.map_none, Option.map_some, List.getD_cons_zero, List.getD_cons_succ, List.cons_append, List.nil_append, List.append_nil, D.toI_int, D.toB_bool, D.toS_str, D.toA_agg, D.toT_tup, D.toR_sl, enc_toA, encS_toR, encS_len, List.drop_succ_cons, List.drop_zero, List.take_succ_cons, List.take_zero, len_str, at_byte, cmpI_lss, cmpI_leq, cmpI_gtr, cmpI_geq, cmpI_eql, cmpI_neq, cmpS_eql, cmpS_neq, cmpS_lss, cmpS_geq, Int.toNat_natCast, Int.toNat_zero, cells_Ver, eqvL, eqvD, cmp_anti, cmp_zero] at h
    have := @cmp_trans a b v
    grind
  ((first | refine den_call ?_ (c_Meets a b) (trivial) ?_ | refine den_callR ?_ (c_Meets a b) (trivial) ?_ | refine den_call ?_ (.ofR (c_Meets a b)) (trivial) ?_); (focus (simp only [VC.den, E.den, List.map_cons, List.map_nil, Option.map_none, Option.map_some, List.getD_cons_zero, List.getD_cons_succ, List.cons_append, List.nil_append, List.append_nil, D.toI_int, D.toB_bool, D.toS_str, D.toA_agg, D.toT_tup, D.toR_sl, enc_toA, encS_toR, encS_len, List.drop_succ_cons, List.drop_zero, List.take_succ_cons, List.take_zero, gsH_nil, and_true]; try exact rfl)); (simp only [List.cons_append, List.nil_append]))
  ((first | refine den_call ?_ (c_Meets a b) (trivial) ?_ | refine den_callR ?_ (c_Meets a b) (trivial) ?_ | refine den_call ?_ (.ofR (c_Meets a b)) (trivial) ?_); (focus (simp only [VC.den, E.den, List.map_cons, List.map_nil, Option.map_none, Option.map_some, List.getD_cons_zero, List.getD_cons_succ, List.cons_append, List.nil_append, List.append_nil, D.toI_int, D.toB_bool, D.toS_str, D.toA_agg, D.toT_tup, D.toR_sl, enc_toA, encS_toR, encS_len, List.drop_succ_cons, List.drop_zero, List.take_succ_cons, List.take_zero, gsH_nil, and_true]; try exact rfl)); (simp only [List.cons_append, List.nil_append]))
  ((first | refine den_call ?_ (c_Meets b v) (trivial) ?_ | refine den_callR ?_ (c_Meets b v) (trivial) ?_ | refine den_call ?_ (.ofR (c_Meets b v)) (trivial) ?_); (focus (simp only [VC.den, E.den, List.map_cons, List.map_nil, Option.map_none, Option.map_some, List.getD_cons_zero, List.getD_cons_succ, List.cons_append, List.nil_append, List.append_nil, D.toI_int, D.toB_bool, D.toS_str, D.toA_agg, D.toT_tup, D.toR_sl, enc_toA, encS_toR, encS_len, List.drop_succ_cons, List.drop_zero, List.take_succ_cons, List.take_zero, gsH_nil, and_true]; try exact rfl)); (simp only [List.cons_append, List.nil_append]))
  ((first | refine den_call ?_ (c_Meets a v) (trivial) ?_ | refine den_callR ?_ (c_Meets a v) (trivial) ?_ | refine den_call ?_ (.ofR (c_Meets a v)) (trivial) ?_); (focus (simp only [VC.den, E.den, List.map_cons, List.map_nil, Option.map_none, Option.map_some, List.getD_cons_zero, List.getD_cons_succ, List.cons_append, List.nil_append, List.append_nil, D.toI_int, D.toB_bool, D.toS_str, D.toA_agg, D.toT_tup, D.toR_sl, enc_toA, encS_toR, encS_len, List.drop_succ_cons, List.drop_zero, List.take_succ_cons, List.take_zero, gsH_nil, and_true]; try exact rfl)); (simp only [List.cons_append, List.nil_append]))
  ((first | refine den_call ?_ (c_Meets a a) (trivial) ?_ | refine den_callR ?_ (c_Meets a a) (trivial) ?_ | refine den_call ?_ (.ofR (c_Meets a a)) (trivial) ?_); (focus (simp only [VC.den, E.den, List.map_cons, List.map_nil, Option.map_none, Option.map_some, List.getD_cons_zero, List.getD_cons_succ, List.cons_append, List.nil_append, List.append_nil, D.toI_int, D.toB_bool, D.toS_str, D.toA_agg, D.toT_tup, D.toR_sl, enc_toA, encS_toR, encS_len, List.drop_succ_cons, List.drop_zero, List.take_succ_cons, List.take_zero, gsH_nil, and_true]; try exact rfl)); (simp only [List.cons_append, List.nil_append]))
  refine den_ite (fun h => ?_) (fun _ => ?_)
  · exfalso
    simp only [E.den, List.map_cons, List.map_nil, Option.map_none, Option.map_some, List.getD_cons_zero, List.getD_cons_succ, List.cons_append, List.nil_append, List.append_nil, D.toI_int, D.toB_bool, D.toS_str, D.toA_agg, D.toT_tup, D.toR_sl, enc_toA, encS_toR, encS_len, List.drop_succ_cons, List.drop_zero, List.take_succ_cons, List.take_zero, len_str, at_byte, cmpI_lss, cmpI_leq, cmpI_gtr, cmpI_geq, cmpI_eql, cmpI_neq, cmpS_eql, cmpS_neq, cmpS_lss, cmpS_geq, Int.toNat_natCast, Int.toNat_zero, meets] at h
    have h1 := @cmp_trans' a b v
    have h2 := cmp_self a
    grind
  ((first | refine den_call ?_ (c_impl_FormatVersion v) (trivial) ?_ | refine den_callR ?_ (c_impl_FormatVersion v) (trivial) ?_ | refine den_call ?_ (.ofR (c_impl_FormatVersion v)) (trivial) ?_); (focus (simp only [VC.den, E.den, List.map_cons, List.map_nil, Option.map_none, Option.map_some, List.getD_cons_zero, List.getD_cons_succ, List.cons_append, List.nil_append, List.append_nil, D.toI_int, D.toB_bool, D.toS_str, D.toA_agg, D.toT_tup, D.toR_sl, enc_toA, encS_toR, encS_len, List.drop_succ_cons, List.drop_zero, List.take_succ_cons, List.take_zero, gsH_nil, and_true]; try exact rfl)); (simp only [List.cons_append, List.nil_append]))
  have hsz : (verS v).size < 4294967281 := by
    unfold verS
    split
    · rename_i hk
      obtain ⟨x, y, hx, hy, rfl⟩ := Ver.nats hk
      have := verL_le hx hy
      rw [bs_size]; omega
    · simp
  ((first | refine den_call ?_ (c_impl_ParseVersion (verS v) hsz) (ty_pvD _) ?_ | refine den_callR ?_ (c_impl_ParseVersion (verS v) hsz) (ty_pvD _) ?_ | refine den_call ?_ (.ofR (c_impl_ParseVersion (verS v) hsz)) (ty_pvD _) ?_); (focus (simp only [VC.den, E.den, List.map_cons, List.map_nil, Option.map_none, Option.map_some, List.getD_cons_zero, List.getD_cons_succ, List.cons_append, List.nil_append, List.append_nil, D.toI_int, D.toB_bool, D.toS_str, D.toA_agg, D.toT_tup, D.toR_sl, enc_toA, encS_toR, encS_len, List.drop_succ_cons, List.drop_zero, List.take_succ_cons, List.take_zero, gsH_nil, and_true]; try exact rfl)); (simp only [List.cons_append, List.nil_append]))
  ((first | refine den_call ?_ (c_impl_IsVersion v) (trivial) ?_ | refine den_callR ?_ (c_impl_IsVersion v) (trivial) ?_ | refine den_call ?_ (.ofR (c_impl_IsVersion v)) (trivial) ?_); (focus (simp only [VC.den, E.den, List.map_cons, List.map_nil, Option.map_none, Option.map_some, List.getD_cons_zero, List.getD_cons_succ, List.cons_append, List.nil_append, List.append_nil, D.toI_int, D.toB_bool, D.toS_str, D.toA_agg, D.toT_tup, D.toR_sl, enc_toA, encS_toR, encS_len, List.drop_succ_cons, List.drop_zero, List.take_succ_cons, List.take_zero, gsH_nil, and_true]; try exact rfl)); (simp only [List.cons_append, List.nil_append]))
  refine den_ret ?_
  simp only [E.den, List.map_cons, List.map_nil, Option.map_none, Option.map_some, List.getD_cons_zero, List.getD_cons_succ, List.cons_append, List.nil_append, List.append_nil, D.toI_int, D.toB_bool, D.toS_str, D.toA_agg, D.toT_tup, D.toR_sl, enc_toA, encS_toR, encS_len, List.drop_succ_cons, List.drop_zero, List.take_succ_cons, List.take_zero, len_str, at_byte, cmpI_lss, cmpI_leq, cmpI_gtr, cmpI_geq, cmpI_eql, cmpI_neq, cmpS_eql, cmpS_neq, cmpS_lss, cmpS_geq, Int.toNat_natCast, Int.toNat_zero, pvD, cells_Ver, eqvL, eqvD]
  cases hk : v.ok with
  | true =>
    obtain ⟨q1, q2⟩ := pv_of hk
    rw [q1, q2]
    simp
  | false =>
    have : pvB (verS v) = false := by rw [verS, hk]; rfl
    rw [this]; rfl

set_option maxRecDepth 100000
theorem jf_wf : (Rows.fnVersionOrderRow.wf (OpenSpec.ofChange Rows.fnVersionOrderSpec)) = true := by kernel_rfl
theorem jf_reads : (Tryd.f5.params.all (Tryd.prog.readableRec ·)) = true := by kernel_rfl
theorem jf_tie : (namedTie Tryd.prog Rows.fnVersionOrderRow.named Rows.fnVersionOrderSpec.vars) = true := by kernel_rfl
theorem jf_inPl : ((Rows.fnVersionOrderRow.inPlace == Tryd.prog.inPlace 5)) = true := by kernel_rfl
theorem jf_unfol : ((Rows.fnVersionOrderRow.unfollowed == Tryd.prog.unfollowed 5)) = true := by kernel_rfl
theorem jf_recur : ((Rows.fnVersionOrderRow.recurses == Tryd.prog.recurses 5)) = true := by kernel_rfl
theorem jf_varsN : ((Rows.fnVersionOrderRow.named == Tryd.prog.varsNamed 5)) = true := by kernel_rfl
theorem jf_maps : ((Rows.fnVersionOrderRow.maps == (Tryd.f5.params.toList ++ Rows.fnVersionOrderSpec.plain.varTypes Tryd.prog).any (Tryd.prog.mapsRec ·))) = true := by kernel_rfl
theorem jf_ifaces : ((Rows.fnVersionOrderRow.ifaces == (Tryd.f5.params.toList ++ Rows.fnVersionOrderSpec.plain.varTypes Tryd.prog).any (Tryd.prog.ifacesRec ·))) = true := by kernel_rfl
theorem jf_mapsO : ((Rows.fnVersionOrderRow.mapsOut == Tryd.prog.mapsAmong Tryd.f5.resultTypes.toList)) = true := by kernel_rfl
theorem jf_loops : ((Rows.fnVersionOrderRow.loops == (Tryd.f5.params.toList ++ Rows.fnVersionOrderSpec.plain.varTypes Tryd.prog).any (Tryd.prog.loopsFrom ·))) = true := by kernel_rfl
theorem jf_wide : ((Rows.fnVersionOrderRow.wideKeys == (Tryd.f5.params.toList ++ Rows.fnVersionOrderSpec.plain.varTypes Tryd.prog ++ Tryd.f5.resultTypes.toList).any (Tryd.prog.wideKeysFrom ·))) = true := by kernel_rfl
theorem jf_varR : (Rows.fnVersionOrderSpec.vars.all (Tryd.prog.varReadable ·)) = true := by kernel_rfl
theorem jf_resT : (Tryd.f5.resultTypes.all (fun t => Tryd.prog.readableRec t && decide (t < Tryd.prog.types.size))) = true := by kernel_rfl
theorem jf_ifO : ((Rows.fnVersionOrderRow.ifacesOut == Tryd.f5.resultTypes.toList.any (Tryd.prog.ifacesRec ·))) = true := by kernel_rfl
theorem jf_loO : ((Rows.fnVersionOrderRow.loopsOut == Tryd.f5.resultTypes.toList.any (Tryd.prog.loopsFrom ·))) = true := by kernel_rfl
theorem jf_kinds : ((Rows.fnVersionOrderRow.kinds == (if Rows.fnVersionOrderRow.domain.isEmpty then [] else Tryd.f5.params.toList.map fun t => match Tryd.prog.underlying t with | some (.int k) => some k | _ => none))) = true := by kernel_rfl
theorem jf_veil : ((Rows.fnVersionOrderRow.veiled == (Tryd.f5.params.toList ++ Rows.fnVersionOrderSpec.plain.varTypes Tryd.prog ++ Tryd.f5.resultTypes.toList).any (Tryd.prog.veiledRec ·))) = true := by kernel_rfl
theorem jf_veilF : (Rows.fnVersionOrderRow.veiledFits Tryd.prog Tryd.f5.params.toList (Tryd.f5.params.toList ++ Rows.fnVersionOrderSpec.plain.varTypes Tryd.prog ++ Tryd.f5.resultTypes.toList)) = true := by kernel_rfl
theorem closed : joinedFacts Tryd.prog 5 Tryd.f5 Rows.fnVersionOrderSpec Rows.fnVersionOrderRow = true :=
  (and_tt (and_tt (and_tt (and_tt (and_tt (and_tt (and_tt (and_tt (and_tt (and_tt (and_tt (and_tt (and_tt (and_tt (and_tt (and_tt (and_tt (and_tt (and_tt (and_tt (and_tt (and_tt (and_tt (and_tt (and_tt (and_tt (and_tt (and_tt (and_tt (and_tt (and_tt jf_wf jfLaid) jfRowed) jf_reads) jf_tie) rfl) jfStops) rfl) jfKnobs) jf_inPl) jf_unfol) jf_recur) jf_varsN) jf_maps) jf_ifaces) jf_mapsO) jf_loops) jf_wide) jf_varR) jf_resT) jf_ifO) jf_loO) jfKeys) rfl) jfHeard) jfEnter) jfLifted) jfMake) jf_kinds) rfl) jf_veil) jf_veilF)
noncomputable def low : Nat := (World.holding Tryd.prog default ⟨#[], #[], []⟩).heap.size
/-- A start that fits: the variables as their initialisers lay them. -/
noncomputable def laidWorld (os : Os) : World :=
  let w0 := World.holding Tryd.prog os ⟨#[.cells #[.string ⟨#[118, 97, 108, 117, 101, 32, 111, 117, 116, 32, 111, 102, 32, 114, 97, 110, 103, 101]⟩] 182, .cells #[.string ⟨#[105, 110, 118, 97, 108, 105, 100, 32, 115, 121, 110, 116, 97, 120]⟩] 182], #[], []⟩
  { w0 with heap := w0.heap
    |>.modify 6 (fun | .cells _ t f => .cells #[.int .u8 0, .int .u8 1, .int .u8 28, .int .u8 2, .int .u8 29, .int .u8 14, .int .u8 24, .int .u8 3, .int .u8 30, .int .u8 22, .int .u8 20, .int .u8 15, .int .u8 25, .int .u8 17, .int .u8 4, .int .u8 8, .int .u8 31, .int .u8 27, .int .u8 13, .int .u8 23, .int .u8 21, .int .u8 19, .int .u8 16, .int .u8 7, .int .u8 26, .int .u8 12, .int .u8 18, .int .u8 6, .int .u8 11, .int .u8 5, .int .u8 10, .int .u8 9] t f | o => o)
    |>.modify 7 (fun | .cells _ t f => .cells #[.int .u8 0, .int .u8 1, .int .u8 56, .int .u8 2, .int .u8 57, .int .u8 49, .int .u8 28, .int .u8 3, .int .u8 61, .int .u8 58, .int .u8 42, .int .u8 50, .int .u8 38, .int .u8 29, .int .u8 17, .int .u8 4, .int .u8 62, .int .u8 47, .int .u8 59, .int .u8 36, .int .u8 45, .int .u8 43, .int .u8 51, .int .u8 22, .int .u8 53, .int .u8 39, .int .u8 33, .int .u8 30, .int .u8 24, .int .u8 18, .int .u8 12, .int .u8 5, .int .u8 63, .int .u8 55, .int .u8 48, .int .u8 27, .int .u8 60, .int .u8 41, .int .u8 37, .int .u8 16, .int .u8 46, .int .u8 35, .int .u8 44, .int .u8 21, .int .u8 52, .int .u8 32, .int .u8 23, .int .u8 11, .int .u8 54, .int .u8 26, .int .u8 40, .int .u8 15, .int .u8 34, .int .u8 20, .int .u8 31, .int .u8 10, .int .u8 25, .int .u8 14, .int .u8 19, .int .u8 9, .int .u8 13, .int .u8 8, .int .u8 7, .int .u8 6] t f | o => o)
    |>.modify 5 (fun | .cells _ t f => .cells #[.int .u64 1, .int .u64 10, .int .u64 100, .int .u64 1000, .int .u64 10000, .int .u64 100000, .int .u64 1000000, .int .u64 10000000, .int .u64 100000000, .int .u64 1000000000, .int .u64 10000000000, .int .u64 100000000000, .int .u64 1000000000000, .int .u64 10000000000000, .int .u64 100000000000000, .int .u64 1000000000000000, .int .u64 10000000000000000, .int .u64 100000000000000000, .int .u64 1000000000000000000, .int .u64 10000000000000000000] t f | o => o)
    |>.modify 4 (fun | .cells _ t f => .cells #[.iface 180 (.pointer (some ⟨low + 0, 0, none⟩))] t f | o => o)
    |>.modify 3 (fun | .cells _ t f => .cells #[.iface 180 (.pointer (some ⟨low + 1, 0, none⟩))] t f | o => o) }
set_option maxRecDepth 100000 in
theorem laid_met (os : Os) (args : Array Value) : laidMet Tryd.prog Rows.fnVersionOrderRow.laid ((laidWorld os).forCall (fun _ _ => 0) ⟨#[], args, []⟩).memory :=
  laidMet_of_run' 8 (by kernel_rfl) (by kernel_rfl)
set_option maxRecDepth 100000 in
theorem lifted (os : Os) (started : os.Started) (H : Type) (enc : TypeId × Value → H) :
    ReturnsInHanded {} Tryd.checked os 5 .any (fun w args => (Rows.fnVersionOrderSpec.pre enc Tryd.prog Tryd.f5 Rows.fnVersionOrderRow.domain false w args ∧ laidMet Tryd.prog Rows.fnVersionOrderRow.laid w) ∧ sizedMet enc Tryd.prog Tryd.f5 (OpenSpec.ofChange Rows.fnVersionOrderSpec) false w args)
      (Rows.fnVersionOrderSpec.post enc Tryd.prog Tryd.f5 false true false false) := by
  refine handed_laid_shaped (C := Tryd.checked) (X := fun w _ => laidMet Tryd.prog Rows.fnVersionOrderRow.laid w) (fun _ _ _ hh h => h.of_heap hh) jfOwn started (by kernel_rfl) Tryd.func5
    (ChangeSpec.witness_at (enc := enc) (C := Tryd.checked) (os := os) (X := fun w _ => laidMet Tryd.prog Rows.fnVersionOrderRow.laid w) false (laidWorld os) #[.slice none 0 0] 8 rfl (by kernel_rfl) (by kernel_rfl) (by kernel_rfl) (by kernel_rfl) (by kernel_rfl) (laid_met os _)) ?_
  intro W base args ds gs before hval0 hW _ hsz0 hsh hL _
  have hval : ∀ (j : Nat) t v, Tryd.f5.params[j]? = some t → args[j]? = some v → Value.okWide Tryd.prog W .any base t v := hval0
  have hW' := hW
  obtain ⟨p, q, hA0, hV, rfl, hfz, hnd⟩ := hW
  have hA : DataW.TrodAll enc Tryd.prog W 0 (fun _ => true) true Tryd.f5.params.toList args.toList ds p := hA0
  rw [Tryd.params5] at hA hval
  obtain ⟨v0, vs0, d0, ds0, p0, q0, hargs, rfl, rfl, h0, r0⟩ := trodAll_cons hA
  obtain ⟨rfl, rfl, rfl⟩ := trodAll_nil r0
  obtain rfl : args = #[v0] := by cases args; simp_all
  obtain ⟨rfl, rfl⟩ := trodVars_none hV
  have k0 := h0
  have lt0 : ∀ x ∈ p0, x.block < W.heap.size := by obtain ⟨m, hm⟩ := k0; exact DataW.trod_lt m _ _ _ hm
  obtain ⟨x0, y0, z0⟩ := open_arg tbl_ok (by kernel_rfl) (hval 0 32 v0 rfl rfl) h0
  clear hA0 hval0
  refine ((law_run (main [x0] ⟨y0, trivial⟩) ⟨fun p hp => hp.elim, start hsh hL⟩ (show Rs W M0 [x0] [v0] from ⟨_, _, rfl, z0, rfl⟩))).mono fun e W' ⟨he, bel⟩ => ?_
  subst he
  exact ⟨_, rfl, _, _, _, [], _, [], hW', trodAll_mk1 (shut_bool Tryd.underlying4 _), (trodAll_cons_mk (Below.trod jfLaid (by kernel_rfl) (of_decide_eq_true (by kernel_rfl)) k0 bel lt0) trodAll_mk0), rfl, bel.frame _, fun h => by cases h⟩
theorem over : Rows.fnVersionOrderRow.holds Tryd.pinned (OpenSpec.ofChange Rows.fnVersionOrderSpec) :=
  OpenClaim.holds_of_wide 5 Tryd.f5 rfl rfl rfl rfl rfl rfl rfl ⟨rfl, rfl, rfl, rfl, rfl⟩ rfl rfl rfl rfl rfl (by kernel_rfl) Tryd.func5 closed
    (of_decide_eq_true (by kernel_rfl)) (by unfold Func.isWrapper; first | (rw [if_pos (by decide +kernel)]; kernel_rfl) | (rw [if_neg (by decide +kernel)]; exact ⟨rfl, rfl⟩))
    (fun os started H enc _ => lifted os started H enc)

theorem row_tie : Rows.fnVersionOrderRow.laidByTextAt .later Tryd.pinned [.data, .data, .data, .sentinel, .sentinel] true := fnVersionOrder_row_tie
/-- THE STATEMENT -/
theorem proved : Rows.FnVersionOrderCardSaid :=
  Claim7.holds_tied_plain_at .later [] [.data, .data, .data, .sentinel, .sentinel] true Rows.fnVersionOrderCard.stood.harness true
    over (fun _ h => by cases h) (by kernel_rfl) (fun _ h => by cases h) row_tie rfl ⟨rfl, rfl⟩ (by kernel_rfl) rfl
    (fun f fn hf hfn => by
      obtain rfl : f = 5 := Option.some.inj ((show Tryd.prog.funcNamed Rows.fnVersionOrderRow.func = some 5 by kernel_rfl).symm.trans hf) |>.symm
      obtain rfl : fn = Tryd.f5 := (Option.some.inj (Tryd.func5.symm.trans hfn)).symm
      exact ⟨by kernel_rfl, stand_in (by kernel_rfl)⟩)
    (by kernel_rfl)
#print axioms proved
end Go.Proofs.YtmhfncdhplmomaaDoor.lawFnVersionOrder
