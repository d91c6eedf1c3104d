/- FnEntryText holds for every input, in every start where the variables hold what the program's text lays: the law's condition, met by the contracts of what it calls; the row; the card. -/
import Derived.Test.YtmhfncdhplmomaaGreatDoorBParse
import Derived.Test.YtmhfncdhplmomaaGreatDoorBDrawEnt
import Derived.Test.YtmhfncdhplmomaaGreatDoorBDoor
import Derived.Test.YtmhfncdhplmomaaGreatDoorBSeat
namespace Go.Proofs.YtmhfncdhplmomaaGreatDoor.lawFnEntryText
open Go.ChangeShapes Go.WideShapes Go.ChangeAt Go.RowKit
set_option linter.unusedVariables false
set_option linter.unusedSimpArgs false
set_option maxRecDepth 100000
instance instGC : GC where
  inv := fun w => GHas w 1 (fun cs => cs = (abils.map Value.string).toArray) ∧ GHas w 5 (fun cs => ∃ tp p, cs = #[.iface tp p]) ∧ GHas w 2 (fun cs => ∃ m, cs[0]? = some (Value.int .i64 m)) ∧ GHas w 7 (fun cs => cs = (Lib.pow10Tab.map fun z => Value.int .u64 z).toArray)
  ng := 7 + 1
  keep := fun h k => ⟨k.1.keep (by decide) h, k.2.1.keep (by decide) h, k.2.2.1.keep (by decide) h, k.2.2.2.keep (by decide) h⟩
instance : HasAbil := ⟨fun _ h => h.1⟩
instance : HasErr := ⟨fun _ h => h.2.1⟩
instance : HasMax := ⟨fun _ h => h.2.2.1⟩
instance : HasPow := ⟨fun _ h => h.2.2.2⟩
theorem start {W : World} (hsh : W.ShapedOpen Tryz.prog) (hL : laidMet Tryz.prog Rows.fnEntryTextRow.laid W) : GInv W ∧ NG ≤ W.heap.size := by
  have h := seat_pow (by kernel_rfl) hL.tail.tail
  exact ⟨⟨seat_abil (by kernel_rfl) hL.tail.tail.tail.tail.tail.tail, seat_err (by kernel_rfl) hL.tail.tail.tail.tail.tail, seat_max hsh, h⟩, ghas_lt h⟩
theorem code_arg {Γ : List VT} (hΓ : Γ = [.one (.c (.sl 5))]) {ds : List D} (h : HasTys tbl.tab Γ ds) : ∃ rows, ds = [.sl rows] ∧ RowsTy tbl.tab (tbl.tab 5) rows ∧ RowsTy tbl.tab [.int .u8] rows := by
  subst hΓ
  match ds, h with
  | [d], h => obtain ⟨rows, rfl, hr⟩ := hasTy_sl h.1; exact ⟨rows, rfl, hr, by rwa [tab_u8] at hr⟩
theorem c_laws_texts (l l' : List ByteArray) : Fun Tryz.prog 19 none [encS l, encS l'] (.bool (decide (l = l'))) [] := by
  refine Fun.ofV vc_laws_texts_ok ty_laws_texts_ok rfl ?_ (fun hfit => ?_)
  · exact ⟨ty_strS l, ty_strS l', trivial⟩
  have hl : l.length ≤ 9223372036854775807 := fits_encS hfit.1
  unfold vc_laws_texts
  refine den_ite (fun h => ?_) (fun h => ?_)
  · simp [E.den, cmpI] at h
    refine den_ret ?_
    have : l ≠ l' := fun e => h (by rw [e])
    simp [E.den, this]
  simp [E.den, cmpI] at h
  have h : l.length = l'.length := by omega
  refine den_for l.length (fun k => [.int .i64 k]) (fun k => ∀ i, i < k → nth l i = nth l' i) rfl (by omega) ?_
  intro k hk hI _
  simp only [List.cons_append, List.nil_append]
  refine den_ite (fun h2 => ?_) (fun h2 => ?_)
  · simp [E.den, cmpI] at h2
    refine den_cond (fun hg => ?_) (den_cond (fun hg => ?_) ?_)
    · simp [E.den]; omega
    · simp [E.den]; omega
    refine den_ite (fun h3 => ?_) (fun h3 => ?_)
    · simp only [E.den, List.map_cons, List.map_nil, List.getD_cons_zero, List.getD_cons_succ, D.toI_int, D.toB_bool, D.toS_str, enc_toA, encS_toR, encS_len, len_str, cmpI_lss, row_str, cells_str, Int.toNat_natCast, cmpS_neq] at h3
      simp at h3
      exact den_ret (by have : l ≠ l' := fun e => h3 (by rw [e])
                        simp [E.den, this])
    simp only [E.den, List.map_cons, List.map_nil, List.getD_cons_zero, List.getD_cons_succ, D.toI_int, D.toB_bool, D.toS_str, enc_toA, encS_toR, encS_len, len_str, cmpI_lss, row_str, cells_str, Int.toNat_natCast, cmpS_neq] at h3
    simp at h3
    refine den_next h2 ?_ fun i hi => ?_
    · simp [E.den]; rw [ar_add (by omega) (by omega)]
    rcases Nat.lt_or_ge i k with h' | h'
    · exact hI i h'
    · obtain rfl : i = k := by omega
      exact h3
  · simp [E.den, cmpI] at h2
    obtain rfl : k = l.length := by omega
    exact den_ret (by simp [E.den, ext_nth h hI])
/-- A text of few bytes. -/
def isSB (n : Nat) (r : D) : Prop := ∃ s : ByteArray, r = .str s ∧ s.size ≤ n
theorem isSB.ty {n : Nat} {r : D} (h : isSB n r) : HasVT tbl.tab (.one (.c .str)) r := by obtain ⟨x, rfl, _⟩ := h; trivial
def strRowN (n : Nat) : List D → Bool
  | [.str s] => decide (s.size ≤ n)
  | _ => false
theorem strRowN_ok {n : Nat} {r : List D} (h : strRowN n r = true) : ∃ s, r = [.str s] ∧ s.size ≤ n := by
  match r, h with
  | [.str s], h => exact ⟨s, rfl, by simpa [strRowN] using h⟩
theorem d_l1StrN (n : Nat) (rows0 : List (List D)) (h0 : 0 < rows0.length) (hs : rows0.all (strRowN n) = true) : Dr 58 [.sl rows0] (isSB n) := by
  have hs' : ∀ r ∈ rows0, ∃ s : ByteArray, r = [.str s] ∧ s.size ≤ n := fun r hr => strRowN_ok (List.all_eq_true.1 hs r hr)
  have hty : HasVT tbl.tab (.one (.c (.sl 9))) (.sl rows0) := by
    show RowsTy _ (tbl.tab _) _
    rw [tab_str]
    exact RowsTy.of fun r hr => by obtain ⟨s, rfl, _⟩ := hs' r hr; exact ⟨trivial, trivial⟩
  refine Dr.of vc_spec_l1Str_ok rfl ty_spec_l1Str_ok (fun cs h => by exact ⟨hty, cur_tys h⟩) (.str noText) ⟨_, rfl, Nat.zero_le _⟩ fun rows i sd f1 hl hr hi => ?_; (simp only [List.cons_append, List.nil_append]); unfold vc_spec_l1Str
  have hn : (rows0.length : Int) ≤ 9223372036854775807 := by
    simp [FitsL, Fits, maxLen] at f1; omega
  ((first | apply den_draw | apply den_drawR); (focus (simp only [VC.den, E.den, List.map_cons, List.map_nil, Option.map_none, Option.map_some, List.getD_cons_zero, List.getD_cons_succ, List.cons_append, List.nil_append, List.append_nil, D.toI_int, D.toB_bool, D.toS_str, D.toA_agg, D.toT_tup, D.toR_sl, enc_toA, encS_toR, encS_len, List.drop_succ_cons, List.drop_zero, List.take_succ_cons, List.take_zero, gsH_nil, and_true, lenD]; try exact rfl)); (focus (simp only [VC.den, E.den, List.map_cons, List.map_nil, Option.map_none, Option.map_some, List.getD_cons_zero, List.getD_cons_succ, List.cons_append, List.nil_append, List.append_nil, D.toI_int, D.toB_bool, D.toS_str, D.toA_agg, D.toT_tup, D.toR_sl, enc_toA, encS_toR, encS_len, List.drop_succ_cons, List.drop_zero, List.take_succ_cons, List.take_zero, gsH_nil, and_true, lenD]; try exact rfl)); (focus (exact ⟨_, _, _, rfl, by assumption, by assumption⟩)); (focus (first | exact d_l1Below rows0.length | exact Dr.ofR (d_l1Below rows0.length))); (focus (exact fun _ h => isBel.ty h)); rintro _ rows i sd ⟨x, rfl, hx⟩ hr hi; (simp only [List.cons_append, List.nil_append]))
  refine den_cond (fun _ => ?_) ?_
  · simp [E.den, lenD]; omega
  have hx2 := hx.2 (by omega)
  have e : rows0[x.toNat]? = some rows0[x.toNat] := List.getElem?_eq_getElem (by omega)
  obtain ⟨s, hs1, hs2⟩ := hs' _ (List.getElem_mem (show x.toNat < rows0.length by omega))
  refine ⟨⟨s, ?_, hs2⟩, _, _, _, rfl, hr, hi⟩
  simp [E.den, e, hs1]
theorem d_DrawFormatEntry {rows : List (List D)} (hr : RowsTy tbl.tab [.int .u8] rows) : ∃ r, isEn r ∧ FunR Tryz.prog 16 none [.sl rows] r [] [(1, 1), (4, 4)] := by
  refine FunR.exV vc_spec_DrawFormatEntry_ok rt_spec_DrawFormatEntry_ok rfl ty_spec_DrawFormatEntry_ok ⟨by show RowsTy _ (tbl.tab _) _; rw [tab_u8]; exact hr, trivial⟩ (enc (default : Entry)) ⟨_, rfl, by decide, by decide⟩ fun hfit => ?_; unfold vc_spec_DrawFormatEntry
  refine den_newc rfl hr fun sd => ?_
  have hi : (0 : Int) ≤ 0 := Int.le_refl _
  ((first | apply den_draw | apply den_drawR); (focus (simp only [VC.den, E.den, List.map_cons, List.map_nil, Option.map_none, Option.map_some, List.getD_cons_zero, List.getD_cons_succ, List.cons_append, List.nil_append, List.append_nil, D.toI_int, D.toB_bool, D.toS_str, D.toA_agg, D.toT_tup, D.toR_sl, enc_toA, encS_toR, encS_len, List.drop_succ_cons, List.drop_zero, List.take_succ_cons, List.take_zero, gsH_nil, and_true]; try exact rfl)); (focus (simp only [VC.den, E.den, List.map_cons, List.map_nil, Option.map_none, Option.map_some, List.getD_cons_zero, List.getD_cons_succ, List.cons_append, List.nil_append, List.append_nil, D.toI_int, D.toB_bool, D.toS_str, D.toA_agg, D.toT_tup, D.toR_sl, enc_toA, encS_toR, encS_len, List.drop_succ_cons, List.drop_zero, List.take_succ_cons, List.take_zero, gsH_nil, and_true]; try exact rfl)); (focus (exact ⟨_, _, _, rfl, by assumption, by assumption⟩)); (focus (first | exact d_l6Any | exact Dr.ofR (d_l6Any))); (focus (exact fun _ h => isEn.ty h)); rintro _ rows i sd ⟨e, rfl, he⟩ hr hi; (simp only [List.cons_append, List.nil_append]))
  exact ⟨⟨e, rfl, he⟩, rfl⟩
theorem d_DrawParseEntry {rows : List (List D)} (hr : RowsTy tbl.tab [.int .u8] rows) : ∃ r, isSB 300 r ∧ Fun Tryz.prog 20 none [.sl rows] r [] := by
  refine Fun.exV vc_spec_DrawParseEntry_ok rfl ty_spec_DrawParseEntry_ok ⟨by show RowsTy _ (tbl.tab _) _; rw [tab_u8]; exact hr, trivial⟩ (.str noText) ⟨_, rfl, Nat.zero_le _⟩ fun hfit => ?_; unfold vc_spec_DrawParseEntry
  refine den_newc rfl hr fun sd => ?_
  have hi : (0 : Int) ≤ 0 := Int.le_refl _
  ((first | apply den_draw | apply den_drawR); (focus (simp only [VC.den, E.den, List.map_cons, List.map_nil, Option.map_none, Option.map_some, List.getD_cons_zero, List.getD_cons_succ, List.cons_append, List.nil_append, List.append_nil, D.toI_int, D.toB_bool, D.toS_str, D.toA_agg, D.toT_tup, D.toR_sl, enc_toA, encS_toR, encS_len, List.drop_succ_cons, List.drop_zero, List.take_succ_cons, List.take_zero, gsH_nil, and_true]; try exact rfl)); (focus (simp only [VC.den, E.den, List.map_cons, List.map_nil, Option.map_none, Option.map_some, List.getD_cons_zero, List.getD_cons_succ, List.cons_append, List.nil_append, List.append_nil, D.toI_int, D.toB_bool, D.toS_str, D.toA_agg, D.toT_tup, D.toR_sl, enc_toA, encS_toR, encS_len, List.drop_succ_cons, List.drop_zero, List.take_succ_cons, List.take_zero, gsH_nil, and_true]; try exact rfl)); (focus (exact ⟨_, _, _, rfl, by assumption, by assumption⟩)); (focus (first | exact d_l6Name | exact Dr.ofR (d_l6Name))); (focus (exact fun _ h => isS.ty h)); rintro _ rows i sd ⟨nm, rfl⟩ hr hi; (simp only [List.cons_append, List.nil_append]))
  ((first | apply den_draw | apply den_drawR); (focus (simp only [VC.den, E.den, List.map_cons, List.map_nil, Option.map_none, Option.map_some, List.getD_cons_zero, List.getD_cons_succ, List.cons_append, List.nil_append, List.append_nil, D.toI_int, D.toB_bool, D.toS_str, D.toA_agg, D.toT_tup, D.toR_sl, enc_toA, encS_toR, encS_len, List.drop_succ_cons, List.drop_zero, List.take_succ_cons, List.take_zero, gsH_nil, and_true]; try exact rfl)); (focus (simp only [VC.den, E.den, List.map_cons, List.map_nil, Option.map_none, Option.map_some, List.getD_cons_zero, List.getD_cons_succ, List.cons_append, List.nil_append, List.append_nil, D.toI_int, D.toB_bool, D.toS_str, D.toA_agg, D.toT_tup, D.toR_sl, enc_toA, encS_toR, encS_len, List.drop_succ_cons, List.drop_zero, List.take_succ_cons, List.take_zero, gsH_nil, and_true]; try exact rfl)); (focus (exact ⟨_, _, _, rfl, by assumption, by assumption⟩)); (focus (first | exact d_l6Draw nm | exact Dr.ofR (d_l6Draw nm))); (focus (exact fun _ h => en_ty h)); rintro _ rows i sd ⟨e, rfl, h1, h2⟩ hr hi; (simp only [List.cons_append, List.nil_append]))
  ((first | refine den_call ?_ (c_spec_FormatEntry e) (trivial) ?_ | refine den_callR ?_ (c_spec_FormatEntry e) (trivial) ?_ | refine den_call ?_ (.ofR (c_spec_FormatEntry e)) (trivial) ?_); (focus (simp only [VC.den, E.den, List.map_cons, List.map_nil, Option.map_none, Option.map_some, List.getD_cons_zero, List.getD_cons_succ, List.cons_append, List.nil_append, List.append_nil, D.toI_int, D.toB_bool, D.toS_str, D.toA_agg, D.toT_tup, D.toR_sl, enc_toA, encS_toR, encS_len, List.drop_succ_cons, List.drop_zero, List.take_succ_cons, List.take_zero, gsH_nil, and_true]; try exact rfl)); (simp only [List.cons_append, List.nil_append]))
  have hs := entT_size e
  ((first | apply den_draw | apply den_drawR); (focus (simp only [VC.den, E.den, List.map_cons, List.map_nil, Option.map_none, Option.map_some, List.getD_cons_zero, List.getD_cons_succ, List.cons_append, List.nil_append, List.append_nil, D.toI_int, D.toB_bool, D.toS_str, D.toA_agg, D.toT_tup, D.toR_sl, enc_toA, encS_toR, encS_len, List.drop_succ_cons, List.drop_zero, List.take_succ_cons, List.take_zero, gsH_nil, and_true]; try exact rfl)); (focus (simp only [VC.den, E.den, List.map_cons, List.map_nil, Option.map_none, Option.map_some, List.getD_cons_zero, List.getD_cons_succ, List.cons_append, List.nil_append, List.append_nil, D.toI_int, D.toB_bool, D.toS_str, D.toA_agg, D.toT_tup, D.toR_sl, enc_toA, encS_toR, encS_len, List.drop_succ_cons, List.drop_zero, List.take_succ_cons, List.take_zero, gsH_nil, and_true]; try exact rfl)); (focus (exact ⟨_, _, _, rfl, by assumption, by assumption⟩)); (focus (first | exact d_l1Below _ | exact Dr.ofR (d_l1Below _))); (focus (exact fun _ h => isBel.ty h)); rintro _ rows i sd ⟨y, rfl, hy⟩ hr hi; (simp only [List.cons_append, List.nil_append]))
  refine den_ite (fun h => ?_) (fun h => ?_)
  · ((first | apply den_draw | apply den_drawR); (focus (simp only [VC.den, E.den, List.map_cons, List.map_nil, Option.map_none, Option.map_some, List.getD_cons_zero, List.getD_cons_succ, List.cons_append, List.nil_append, List.append_nil, D.toI_int, D.toB_bool, D.toS_str, D.toA_agg, D.toT_tup, D.toR_sl, enc_toA, encS_toR, encS_len, List.drop_succ_cons, List.drop_zero, List.take_succ_cons, List.take_zero, gsH_nil, and_true]; try exact rfl)); (focus (simp only [VC.den, E.den, List.map_cons, List.map_nil, Option.map_none, Option.map_some, List.getD_cons_zero, List.getD_cons_succ, List.cons_append, List.nil_append, List.append_nil, D.toI_int, D.toB_bool, D.toS_str, D.toA_agg, D.toT_tup, D.toR_sl, enc_toA, encS_toR, encS_len, List.drop_succ_cons, List.drop_zero, List.take_succ_cons, List.take_zero, gsH_nil, and_true]; try exact rfl)); (focus (exact ⟨_, _, _, rfl, by assumption, by assumption⟩)); (focus (first | exact d_l1StrN 60 _ (by decide) (by decide) | exact Dr.ofR (d_l1StrN 60 _ (by decide) (by decide)))); (focus (exact fun _ h => isSB.ty h)); rintro _ rows i sd ⟨t, rfl, ht⟩ hr hi; (simp only [List.cons_append, List.nil_append]))
    refine den_cond (fun _ => ?_) ?_
    · simp [E.den, maxLen]; omega
    exact ⟨⟨_, rfl, by simp only [E.den, List.map_cons, List.map_nil, List.cons_append, List.nil_append, List.getD_cons_zero, List.getD_cons_succ, D.toS_str, ByteArray.size_append]; omega⟩, rfl⟩
  refine den_ite (fun h => ?_) (fun h => ?_)
  · ((first | apply den_draw | apply den_drawR); (focus (simp only [VC.den, E.den, List.map_cons, List.map_nil, Option.map_none, Option.map_some, List.getD_cons_zero, List.getD_cons_succ, List.cons_append, List.nil_append, List.append_nil, D.toI_int, D.toB_bool, D.toS_str, D.toA_agg, D.toT_tup, D.toR_sl, enc_toA, encS_toR, encS_len, List.drop_succ_cons, List.drop_zero, List.take_succ_cons, List.take_zero, gsH_nil, and_true]; try exact rfl)); (focus (simp only [VC.den, E.den, List.map_cons, List.map_nil, Option.map_none, Option.map_some, List.getD_cons_zero, List.getD_cons_succ, List.cons_append, List.nil_append, List.append_nil, D.toI_int, D.toB_bool, D.toS_str, D.toA_agg, D.toT_tup, D.toR_sl, enc_toA, encS_toR, encS_len, List.drop_succ_cons, List.drop_zero, List.take_succ_cons, List.take_zero, gsH_nil, and_true]; try exact rfl)); (focus (exact ⟨_, _, _, rfl, by assumption, by assumption⟩)); (focus (first | exact d_l1StrN 60 _ (by decide) (by decide) | exact Dr.ofR (d_l1StrN 60 _ (by decide) (by decide)))); (focus (exact fun _ h => isSB.ty h)); rintro _ rows i sd ⟨t, rfl, ht⟩ hr hi; (simp only [List.cons_append, List.nil_append]))
    exact ⟨⟨t, rfl, by omega⟩, rfl⟩
  · exact ⟨⟨entT e, rfl, by omega⟩, rfl⟩
theorem pe_ent (e : Entry) : peB (entT e) = entryB e ∧ (entryB e = true → peV (entT e) = e) := by
  cases h : entryB e with
  | true =>
    obtain ⟨h1, h2⟩ := pe_of h
    exact ⟨h2, fun _ => by rw [peV, if_pos h2, h1]⟩
  | false =>
    refine ⟨?_, fun h => by simp at h⟩
    have : entT e = noText := by rw [entT, if_neg (by simp [h])]
    rw [this]
    decide
theorem main (ds : List D) (h : HasTys tbl.tab ty_laws_FnEntryText ds) : Fun Tryz.prog 4 none ds (.bool true) [] := by
  obtain ⟨rows, rfl, hr0, hr⟩ := code_arg rfl h
  refine Fun.ofV vc_laws_FnEntryText_ok ty_laws_FnEntryText_ok rfl ?_ (fun hfit => ?_)
  · exact h
  unfold vc_laws_FnEntryText
  ((first | refine den_call ?_ (c_laws_big rows hr0) (trivial) ?_ | refine den_callR ?_ (c_laws_big rows hr0) (trivial) ?_ | refine den_call ?_ (.ofR (c_laws_big rows hr0)) (trivial) ?_); (focus (simp only [VC.den, E.den, List.map_cons, List.map_nil, Option.map_none, Option.map_some, List.getD_cons_zero, List.getD_cons_succ, List.cons_append, List.nil_append, List.append_nil, D.toI_int, D.toB_bool, D.toS_str, D.toA_agg, D.toT_tup, D.toR_sl, enc_toA, encS_toR, encS_len, List.drop_succ_cons, List.drop_zero, List.take_succ_cons, List.take_zero, gsH_nil, and_true]; try exact rfl)); (simp only [List.cons_append, List.nil_append]))
  refine den_ite (fun _ => den_ret rfl) (fun _ => ?_)
  ((first | refine den_callE ?_ (d_DrawFormatEntry hr) (fun _ h => isEn.ty h) ?_ | refine den_callRE ?_ (d_DrawFormatEntry hr) (fun _ h => isEn.ty h) ?_ | refine den_callE ?_ (exR (d_DrawFormatEntry hr)) (fun _ h => isEn.ty h) ?_); (focus (simp only [VC.den, E.den, List.map_cons, List.map_nil, Option.map_none, Option.map_some, List.getD_cons_zero, List.getD_cons_succ, List.cons_append, List.nil_append, List.append_nil, D.toI_int, D.toB_bool, D.toS_str, D.toA_agg, D.toT_tup, D.toR_sl, enc_toA, encS_toR, encS_len, List.drop_succ_cons, List.drop_zero, List.take_succ_cons, List.take_zero, gsH_nil, and_true]; try exact rfl)); rintro _ ⟨e, rfl, he⟩; (simp only [List.cons_append, List.nil_append]))
  ((first | refine den_call ?_ (c_impl_FormatEntry e) (trivial) ?_ | refine den_callR ?_ (c_impl_FormatEntry e) (trivial) ?_ | refine den_call ?_ (.ofR (c_impl_FormatEntry e)) (trivial) ?_); (focus (simp only [VC.den, E.den, List.map_cons, List.map_nil, Option.map_none, Option.map_some, List.getD_cons_zero, List.getD_cons_succ, List.cons_append, List.nil_append, List.append_nil, D.toI_int, D.toB_bool, D.toS_str, D.toA_agg, D.toT_tup, D.toR_sl, enc_toA, encS_toR, encS_len, List.drop_succ_cons, List.drop_zero, List.take_succ_cons, List.take_zero, gsH_nil, and_true]; try exact rfl)); (simp only [List.cons_append, List.nil_append]))
  have hs := entT_size e
  have hnl : e.needs.length ≤ 8 := he.2
  obtain ⟨q1, q2⟩ := pe_ent e
  obtain ⟨y, hy, hP⟩ : ∃ y : Entry, (entryB e = true → y = e) ∧ FunR Tryz.prog 17 none [.str (entT e)] (.tup [enc y, .bool (entryB e)]) [] [(4, 4)] := by
    refine ⟨peV (entT e), q2, ?_⟩
    rw [← q1]
    exact c_impl_ParseEntry (entT e) (by omega)
  ((first | refine den_call ?_ (hP) (⟨ty_Entry _, trivial, trivial⟩) ?_ | refine den_callR ?_ (hP) (⟨ty_Entry _, trivial, trivial⟩) ?_ | refine den_call ?_ (.ofR (hP)) (⟨ty_Entry _, trivial, trivial⟩) ?_); (focus (simp only [VC.den, E.den, List.map_cons, List.map_nil, Option.map_none, Option.map_some, List.getD_cons_zero, List.getD_cons_succ, List.cons_append, List.nil_append, List.append_nil, D.toI_int, D.toB_bool, D.toS_str, D.toA_agg, D.toT_tup, D.toR_sl, enc_toA, encS_toR, encS_len, List.drop_succ_cons, List.drop_zero, List.take_succ_cons, List.take_zero, gsH_nil, and_true]; try exact rfl)); (simp only [List.cons_append, List.nil_append]))
  ((first | refine den_call ?_ (c_impl_IsEntry e) (trivial) ?_ | refine den_callR ?_ (c_impl_IsEntry e) (trivial) ?_ | refine den_call ?_ (.ofR (c_impl_IsEntry e)) (trivial) ?_); (focus (simp only [VC.den, E.den, List.map_cons, List.map_nil, Option.map_none, Option.map_some, List.getD_cons_zero, List.getD_cons_succ, List.cons_append, List.nil_append, List.append_nil, D.toI_int, D.toB_bool, D.toS_str, D.toA_agg, D.toT_tup, D.toR_sl, enc_toA, encS_toR, encS_len, List.drop_succ_cons, List.drop_zero, List.take_succ_cons, List.take_zero, gsH_nil, and_true]; try exact rfl)); (simp only [List.cons_append, List.nil_append]))
  ((first | refine den_call ?_ (c_spec_IsEntry e) (trivial) ?_ | refine den_callR ?_ (c_spec_IsEntry e) (trivial) ?_ | refine den_call ?_ (.ofR (c_spec_IsEntry e)) (trivial) ?_); (focus (simp only [VC.den, E.den, List.map_cons, List.map_nil, Option.map_none, Option.map_some, List.getD_cons_zero, List.getD_cons_succ, List.cons_append, List.nil_append, List.append_nil, D.toI_int, D.toB_bool, D.toS_str, D.toA_agg, D.toT_tup, D.toR_sl, enc_toA, encS_toR, encS_len, List.drop_succ_cons, List.drop_zero, List.take_succ_cons, List.take_zero, gsH_nil, and_true]; try exact rfl)); (simp only [List.cons_append, List.nil_append]))
  refine den_ite (fun h1 => ?_) (fun h1 => ?_)
  · simp only [E.den, List.map_cons, List.map_nil, Option.map_none, Option.map_some, List.getD_cons_zero, List.getD_cons_succ, List.cons_append, List.nil_append, List.append_nil, D.toI_int, D.toB_bool, D.toS_str, D.toA_agg, D.toT_tup, D.toR_sl, enc_toA, encS_toR, encS_len, List.drop_succ_cons, List.drop_zero, List.take_succ_cons, List.take_zero, len_str, at_byte, cmpI_lss, cmpI_leq, cmpI_gtr, cmpI_geq, cmpI_eql, cmpI_neq, cmpS_eql, cmpS_neq, cmpS_lss, cmpS_geq, Int.toNat_natCast, Int.toNat_zero] at h1; simp at h1
  ((first | refine den_call ?_ (c_impl_IsEntry e) (trivial) ?_ | refine den_callR ?_ (c_impl_IsEntry e) (trivial) ?_ | refine den_call ?_ (.ofR (c_impl_IsEntry e)) (trivial) ?_); (focus (simp only [VC.den, E.den, List.map_cons, List.map_nil, Option.map_none, Option.map_some, List.getD_cons_zero, List.getD_cons_succ, List.cons_append, List.nil_append, List.append_nil, D.toI_int, D.toB_bool, D.toS_str, D.toA_agg, D.toT_tup, D.toR_sl, enc_toA, encS_toR, encS_len, List.drop_succ_cons, List.drop_zero, List.take_succ_cons, List.take_zero, gsH_nil, and_true]; try exact rfl)); (simp only [List.cons_append, List.nil_append]))
  ((first | refine den_call ?_ (c_laws_texts y.recipe e.recipe) (trivial) ?_ | refine den_callR ?_ (c_laws_texts y.recipe e.recipe) (trivial) ?_ | refine den_call ?_ (.ofR (c_laws_texts y.recipe e.recipe)) (trivial) ?_); (focus (simp only [VC.den, E.den, List.map_cons, List.map_nil, Option.map_none, Option.map_some, List.getD_cons_zero, List.getD_cons_succ, List.cons_append, List.nil_append, List.append_nil, D.toI_int, D.toB_bool, D.toS_str, D.toA_agg, D.toT_tup, D.toR_sl, enc_toA, encS_toR, encS_len, List.drop_succ_cons, List.drop_zero, List.take_succ_cons, List.take_zero, gsH_nil, and_true, cells_Entry]; try exact rfl)); (simp only [List.cons_append, List.nil_append]))
  refine den_ite (fun h2 => ?_) (fun h2 => ?_)
  · exfalso
    simp only [E.den, List.map_cons, List.map_nil, Option.map_none, Option.map_some, List.getD_cons_zero, List.getD_cons_succ, List.cons_append, List.nil_append, List.append_nil, D.toI_int, D.toB_bool, D.toS_str, D.toA_agg, D.toT_tup, D.toR_sl, enc_toA, encS_toR, encS_len, List.drop_succ_cons, List.drop_zero, List.take_succ_cons, List.take_zero, len_str, at_byte, cmpI_lss, cmpI_leq, cmpI_gtr, cmpI_geq, cmpI_eql, cmpI_neq, cmpS_eql, cmpS_neq, cmpS_lss, cmpS_geq, Int.toNat_natCast, Int.toNat_zero, cells_Entry] at h2
    cases hb : entryB e with
    | false => rw [hb] at h2; simp at h2
    | true =>
      obtain rfl := hy hb
      rw [hb] at h2
      simp [eqvL, eqvD, cells_Entry] at h2
  refine den_for (if entryB e then e.needs.length else 0) (fun k => [.int .i64 k]) (fun _ => True) rfl trivial ?_
  intro k hk _ _
  simp only [List.cons_append, List.nil_append]
  refine den_ite (fun h3 => ?_) (fun h3 => ?_)
  · simp only [E.den, List.map_cons, List.map_nil, Option.map_none, Option.map_some, List.getD_cons_zero, List.getD_cons_succ, List.cons_append, List.nil_append, List.append_nil, D.toI_int, D.toB_bool, D.toS_str, D.toA_agg, D.toT_tup, D.toR_sl, enc_toA, encS_toR, encS_len, List.drop_succ_cons, List.drop_zero, List.take_succ_cons, List.take_zero, len_str, at_byte, cmpI_lss, cmpI_leq, cmpI_gtr, cmpI_geq, cmpI_eql, cmpI_neq, cmpS_eql, cmpS_neq, cmpS_lss, cmpS_geq, Int.toNat_natCast, Int.toNat_zero, cells_Entry] at h3
    simp only [Bool.and_eq_true, decide_eq_true_eq] at h3
    obtain ⟨hb, h3⟩ := h3
    obtain rfl := hy hb
    rw [if_pos hb] at hk ⊢
    have h3 : k < y.needs.length := by omega
    refine den_cond (fun _ => ?_) ?_
    · simp only [E.den, List.map_cons, List.map_nil, Option.map_none, Option.map_some, List.getD_cons_zero, List.getD_cons_succ, List.cons_append, List.nil_append, List.append_nil, D.toI_int, D.toB_bool, D.toS_str, D.toA_agg, D.toT_tup, D.toR_sl, enc_toA, encS_toR, encS_len, List.drop_succ_cons, List.drop_zero, List.take_succ_cons, List.take_zero, len_str, at_byte, cmpI_lss, cmpI_leq, cmpI_gtr, cmpI_geq, cmpI_eql, cmpI_neq, cmpS_eql, cmpS_neq, cmpS_lss, cmpS_geq, Int.toNat_natCast, Int.toNat_zero, cells_Entry]; simp; omega
    refine den_cond (fun _ => ?_) ?_
    · simp only [E.den, List.map_cons, List.map_nil, Option.map_none, Option.map_some, List.getD_cons_zero, List.getD_cons_succ, List.cons_append, List.nil_append, List.append_nil, D.toI_int, D.toB_bool, D.toS_str, D.toA_agg, D.toT_tup, D.toR_sl, enc_toA, encS_toR, encS_len, List.drop_succ_cons, List.drop_zero, List.take_succ_cons, List.take_zero, len_str, at_byte, cmpI_lss, cmpI_leq, cmpI_gtr, cmpI_geq, cmpI_eql, cmpI_neq, cmpS_eql, cmpS_neq, cmpS_lss, cmpS_geq, Int.toNat_natCast, Int.toNat_zero, cells_Entry]; simp; omega
    refine den_ite (fun h4 => ?_) (fun h4 => ?_)
    · exfalso
      simp only [E.den, List.map_cons, List.map_nil, Option.map_none, Option.map_some, List.getD_cons_zero, List.getD_cons_succ, List.cons_append, List.nil_append, List.append_nil, D.toI_int, D.toB_bool, D.toS_str, D.toA_agg, D.toT_tup, D.toR_sl, enc_toA, encS_toR, encS_len, List.drop_succ_cons, List.drop_zero, List.take_succ_cons, List.take_zero, len_str, at_byte, cmpI_lss, cmpI_leq, cmpI_gtr, cmpI_geq, cmpI_eql, cmpI_neq, cmpS_eql, cmpS_neq, cmpS_lss, cmpS_geq, Int.toNat_natCast, Int.toNat_zero, cells_Entry, row_Need] at h4
      simp [eqvL, eqvD, cells_Need] at h4
    refine den_next h3 ?_ trivial
    simp only [E.den, List.map_cons, List.map_nil, Option.map_none, Option.map_some, List.getD_cons_zero, List.getD_cons_succ, List.cons_append, List.nil_append, List.append_nil, D.toI_int, D.toB_bool, D.toS_str, D.toA_agg, D.toT_tup, D.toR_sl, enc_toA, encS_toR, encS_len, List.drop_succ_cons, List.drop_zero, List.take_succ_cons, List.take_zero, len_str, at_byte, cmpI_lss, cmpI_leq, cmpI_gtr, cmpI_geq, cmpI_eql, cmpI_neq, cmpS_eql, cmpS_neq, cmpS_lss, cmpS_geq, Int.toNat_natCast, Int.toNat_zero]
    rw [ar_add (by omega) (by omega)]; rfl
  ((first | refine den_callE ?_ (d_DrawParseEntry hr) (fun _ h => isSB.ty h) ?_ | refine den_callRE ?_ (d_DrawParseEntry hr) (fun _ h => isSB.ty h) ?_ | refine den_callE ?_ (exR (d_DrawParseEntry hr)) (fun _ h => isSB.ty h) ?_); (focus (simp only [VC.den, E.den, List.map_cons, List.map_nil, Option.map_none, Option.map_some, List.getD_cons_zero, List.getD_cons_succ, List.cons_append, List.nil_append, List.append_nil, D.toI_int, D.toB_bool, D.toS_str, D.toA_agg, D.toT_tup, D.toR_sl, enc_toA, encS_toR, encS_len, List.drop_succ_cons, List.drop_zero, List.take_succ_cons, List.take_zero, gsH_nil, and_true]; try exact rfl)); rintro _ ⟨s, rfl, hs2⟩; (simp only [List.cons_append, List.nil_append]))
  ((first | refine den_call ?_ (c_impl_ParseEntry s (by omega)) (⟨ty_Entry _, trivial, trivial⟩) ?_ | refine den_callR ?_ (c_impl_ParseEntry s (by omega)) (⟨ty_Entry _, trivial, trivial⟩) ?_ | refine den_call ?_ (.ofR (c_impl_ParseEntry s (by omega))) (⟨ty_Entry _, trivial, trivial⟩) ?_); (focus (simp only [VC.den, E.den, List.map_cons, List.map_nil, Option.map_none, Option.map_some, List.getD_cons_zero, List.getD_cons_succ, List.cons_append, List.nil_append, List.append_nil, D.toI_int, D.toB_bool, D.toS_str, D.toA_agg, D.toT_tup, D.toR_sl, enc_toA, encS_toR, encS_len, List.drop_succ_cons, List.drop_zero, List.take_succ_cons, List.take_zero, gsH_nil, and_true]; try exact rfl)); (simp only [List.cons_append, List.nil_append]))
  ((first | refine den_call ?_ (c_impl_FormatEntry (peV s)) (trivial) ?_ | refine den_callR ?_ (c_impl_FormatEntry (peV s)) (trivial) ?_ | refine den_call ?_ (.ofR (c_impl_FormatEntry (peV s))) (trivial) ?_); (focus (simp only [VC.den, E.den, List.map_cons, List.map_nil, Option.map_none, Option.map_some, List.getD_cons_zero, List.getD_cons_succ, List.cons_append, List.nil_append, List.append_nil, D.toI_int, D.toB_bool, D.toS_str, D.toA_agg, D.toT_tup, D.toR_sl, enc_toA, encS_toR, encS_len, List.drop_succ_cons, List.drop_zero, List.take_succ_cons, List.take_zero, gsH_nil, and_true]; try exact rfl)); (simp only [List.cons_append, List.nil_append]))
  ((first | refine den_call ?_ (c_impl_IsEntry (peV s)) (trivial) ?_ | refine den_callR ?_ (c_impl_IsEntry (peV s)) (trivial) ?_ | refine den_call ?_ (.ofR (c_impl_IsEntry (peV s))) (trivial) ?_); (focus (simp only [VC.den, E.den, List.map_cons, List.map_nil, Option.map_none, Option.map_some, List.getD_cons_zero, List.getD_cons_succ, List.cons_append, List.nil_append, List.append_nil, D.toI_int, D.toB_bool, D.toS_str, D.toA_agg, D.toT_tup, D.toR_sl, enc_toA, encS_toR, encS_len, List.drop_succ_cons, List.drop_zero, List.take_succ_cons, List.take_zero, gsH_nil, and_true]; try exact rfl)); (simp only [List.cons_append, List.nil_append]))
  refine den_ret ?_
  simp only [E.den, List.map_cons, List.map_nil, Option.map_none, Option.map_some, List.getD_cons_zero, List.getD_cons_succ, List.cons_append, List.nil_append, List.append_nil, D.toI_int, D.toB_bool, D.toS_str, D.toA_agg, D.toT_tup, D.toR_sl, enc_toA, encS_toR, encS_len, List.drop_succ_cons, List.drop_zero, List.take_succ_cons, List.take_zero, len_str, at_byte, cmpI_lss, cmpI_leq, cmpI_gtr, cmpI_geq, cmpI_eql, cmpI_neq, cmpS_eql, cmpS_neq, cmpS_lss, cmpS_geq, Int.toNat_natCast, Int.toNat_zero]
  cases hb : peB s with
  | false => simp
  | true =>
    obtain ⟨z1, z2⟩ := pe_back hb
    rw [peV, if_pos hb]
    simp [z1, z2]

set_option maxRecDepth 100000
theorem jf_wf : (Rows.fnEntryTextRow.wf (OpenSpec.ofChange Rows.fnEntryTextSpec)) = true := by kernel_rfl
theorem jf_reads : (Tryz.f4.params.all (Tryz.prog.readableRec ·)) = true := by kernel_rfl
theorem jf_tie : (namedTie Tryz.prog Rows.fnEntryTextRow.named Rows.fnEntryTextSpec.vars) = true := by kernel_rfl
theorem jf_inPl : ((Rows.fnEntryTextRow.inPlace == Tryz.prog.inPlace 4)) = true := by kernel_rfl
theorem jf_unfol : ((Rows.fnEntryTextRow.unfollowed == Tryz.prog.unfollowed 4)) = true := by kernel_rfl
theorem jf_recur : ((Rows.fnEntryTextRow.recurses == Tryz.prog.recurses 4)) = true := by kernel_rfl
theorem jf_varsN : ((Rows.fnEntryTextRow.named == Tryz.prog.varsNamed 4)) = true := by kernel_rfl
theorem jf_maps : ((Rows.fnEntryTextRow.maps == (Tryz.f4.params.toList ++ Rows.fnEntryTextSpec.plain.varTypes Tryz.prog).any (Tryz.prog.mapsRec ·))) = true := by kernel_rfl
theorem jf_ifaces : ((Rows.fnEntryTextRow.ifaces == (Tryz.f4.params.toList ++ Rows.fnEntryTextSpec.plain.varTypes Tryz.prog).any (Tryz.prog.ifacesRec ·))) = true := by kernel_rfl
theorem jf_mapsO : ((Rows.fnEntryTextRow.mapsOut == Tryz.prog.mapsAmong Tryz.f4.resultTypes.toList)) = true := by kernel_rfl
theorem jf_loops : ((Rows.fnEntryTextRow.loops == (Tryz.f4.params.toList ++ Rows.fnEntryTextSpec.plain.varTypes Tryz.prog).any (Tryz.prog.loopsFrom ·))) = true := by kernel_rfl
theorem jf_wide : ((Rows.fnEntryTextRow.wideKeys == (Tryz.f4.params.toList ++ Rows.fnEntryTextSpec.plain.varTypes Tryz.prog ++ Tryz.f4.resultTypes.toList).any (Tryz.prog.wideKeysFrom ·))) = true := by kernel_rfl
theorem jf_varR : (Rows.fnEntryTextSpec.vars.all (Tryz.prog.varReadable ·)) = true := by kernel_rfl
theorem jf_resT : (Tryz.f4.resultTypes.all (fun t => Tryz.prog.readableRec t && decide (t < Tryz.prog.types.size))) = true := by kernel_rfl
theorem jf_ifO : ((Rows.fnEntryTextRow.ifacesOut == Tryz.f4.resultTypes.toList.any (Tryz.prog.ifacesRec ·))) = true := by kernel_rfl
theorem jf_loO : ((Rows.fnEntryTextRow.loopsOut == Tryz.f4.resultTypes.toList.any (Tryz.prog.loopsFrom ·))) = true := by kernel_rfl
theorem jf_kinds : ((Rows.fnEntryTextRow.kinds == (if Rows.fnEntryTextRow.domain.isEmpty then [] else Tryz.f4.params.toList.map fun t => match Tryz.prog.underlying t with | some (.int k) => some k | _ => none))) = true := by kernel_rfl
theorem jf_veil : ((Rows.fnEntryTextRow.veiled == (Tryz.f4.params.toList ++ Rows.fnEntryTextSpec.plain.varTypes Tryz.prog ++ Tryz.f4.resultTypes.toList).any (Tryz.prog.veiledRec ·))) = true := by kernel_rfl
theorem jf_veilF : (Rows.fnEntryTextRow.veiledFits Tryz.prog Tryz.f4.params.toList (Tryz.f4.params.toList ++ Rows.fnEntryTextSpec.plain.varTypes Tryz.prog ++ Tryz.f4.resultTypes.toList)) = true := by kernel_rfl
theorem closed : joinedFacts Tryz.prog 4 Tryz.f4 Rows.fnEntryTextSpec Rows.fnEntryTextRow = true :=
  (and_tt (and_tt (and_tt (and_tt (and_tt (and_tt (and_tt (and_tt (and_tt (and_tt (and_tt (and_tt (and_tt (and_tt (and_tt (and_tt (and_tt (and_tt (and_tt (and_tt (and_tt (and_tt (and_tt (and_tt (and_tt (and_tt (and_tt (and_tt (and_tt (and_tt (and_tt jf_wf jfLaid) jfRowed) jf_reads) jf_tie) rfl) jfStops) rfl) jfKnobs) jf_inPl) jf_unfol) jf_recur) jf_varsN) jf_maps) jf_ifaces) jf_mapsO) jf_loops) jf_wide) jf_varR) jf_resT) jf_ifO) jf_loO) jfKeys) rfl) jfHeard) jfEnter) jfLifted) jfMake) jf_kinds) rfl) jf_veil) jf_veilF)
noncomputable def low : Nat := (World.holding Tryz.prog default ⟨#[], #[], []⟩).heap.size
/-- A start that fits: the variables as their initialisers lay them. -/
noncomputable def laidWorld (os : Os) : World :=
  let w0 := World.holding Tryz.prog os ⟨#[.cells #[.string ⟨#[118, 97, 108, 117, 101, 32, 111, 117, 116, 32, 111, 102, 32, 114, 97, 110, 103, 101]⟩] 201, .cells #[.string ⟨#[105, 110, 118, 97, 108, 105, 100, 32, 115, 121, 110, 116, 97, 120]⟩] 201], #[], []⟩
  { w0 with heap := w0.heap
    |>.modify 8 (fun | .cells _ t f => .cells #[.int .u8 0, .int .u8 1, .int .u8 28, .int .u8 2, .int .u8 29, .int .u8 14, .int .u8 24, .int .u8 3, .int .u8 30, .int .u8 22, .int .u8 20, .int .u8 15, .int .u8 25, .int .u8 17, .int .u8 4, .int .u8 8, .int .u8 31, .int .u8 27, .int .u8 13, .int .u8 23, .int .u8 21, .int .u8 19, .int .u8 16, .int .u8 7, .int .u8 26, .int .u8 12, .int .u8 18, .int .u8 6, .int .u8 11, .int .u8 5, .int .u8 10, .int .u8 9] t f | o => o)
    |>.modify 9 (fun | .cells _ t f => .cells #[.int .u8 0, .int .u8 1, .int .u8 56, .int .u8 2, .int .u8 57, .int .u8 49, .int .u8 28, .int .u8 3, .int .u8 61, .int .u8 58, .int .u8 42, .int .u8 50, .int .u8 38, .int .u8 29, .int .u8 17, .int .u8 4, .int .u8 62, .int .u8 47, .int .u8 59, .int .u8 36, .int .u8 45, .int .u8 43, .int .u8 51, .int .u8 22, .int .u8 53, .int .u8 39, .int .u8 33, .int .u8 30, .int .u8 24, .int .u8 18, .int .u8 12, .int .u8 5, .int .u8 63, .int .u8 55, .int .u8 48, .int .u8 27, .int .u8 60, .int .u8 41, .int .u8 37, .int .u8 16, .int .u8 46, .int .u8 35, .int .u8 44, .int .u8 21, .int .u8 52, .int .u8 32, .int .u8 23, .int .u8 11, .int .u8 54, .int .u8 26, .int .u8 40, .int .u8 15, .int .u8 34, .int .u8 20, .int .u8 31, .int .u8 10, .int .u8 25, .int .u8 14, .int .u8 19, .int .u8 9, .int .u8 13, .int .u8 8, .int .u8 7, .int .u8 6] t f | o => o)
    |>.modify 7 (fun | .cells _ t f => .cells #[.int .u64 1, .int .u64 10, .int .u64 100, .int .u64 1000, .int .u64 10000, .int .u64 100000, .int .u64 1000000, .int .u64 10000000, .int .u64 100000000, .int .u64 1000000000, .int .u64 10000000000, .int .u64 100000000000, .int .u64 1000000000000, .int .u64 10000000000000, .int .u64 100000000000000, .int .u64 1000000000000000, .int .u64 10000000000000000, .int .u64 100000000000000000, .int .u64 1000000000000000000, .int .u64 10000000000000000000] t f | o => o)
    |>.modify 4 (fun | .cells _ t f => .cells #[.int .u8 128, .int .u8 191, .int .u8 160, .int .u8 191, .int .u8 128, .int .u8 159, .int .u8 144, .int .u8 191, .int .u8 128, .int .u8 143, .int .u8 0, .int .u8 0, .int .u8 0, .int .u8 0, .int .u8 0, .int .u8 0, .int .u8 0, .int .u8 0, .int .u8 0, .int .u8 0, .int .u8 0, .int .u8 0, .int .u8 0, .int .u8 0, .int .u8 0, .int .u8 0, .int .u8 0, .int .u8 0, .int .u8 0, .int .u8 0, .int .u8 0, .int .u8 0] t f | o => o)
    |>.modify 6 (fun | .cells _ t f => .cells #[.iface 199 (.pointer (some ⟨low + 0, 0, none⟩))] t f | o => o)
    |>.modify 5 (fun | .cells _ t f => .cells #[.iface 199 (.pointer (some ⟨low + 1, 0, none⟩))] t f | o => o)
    |>.modify 1 (fun | .cells _ t f => .cells #[.string ⟨#[114, 117, 110]⟩, .string ⟨#[107, 101, 101, 112]⟩, .string ⟨#[116, 101, 108, 108]⟩, .string ⟨#[104, 101, 97, 114]⟩, .string ⟨#[115, 97, 118, 101]⟩, .string ⟨#[104, 101, 97, 108]⟩] t f | o => o)
    |>.modify 3 (fun | .cells _ t f => .cells #[.int .u8 240, .int .u8 240, .int .u8 240, .int .u8 240, .int .u8 240, .int .u8 240, .int .u8 240, .int .u8 240, .int .u8 240, .int .u8 240, .int .u8 240, .int .u8 240, .int .u8 240, .int .u8 240, .int .u8 240, .int .u8 240, .int .u8 240, .int .u8 240, .int .u8 240, .int .u8 240, .int .u8 240, .int .u8 240, .int .u8 240, .int .u8 240, .int .u8 240, .int .u8 240, .int .u8 240, .int .u8 240, .int .u8 240, .int .u8 240, .int .u8 240, .int .u8 240, .int .u8 240, .int .u8 240, .int .u8 240, .int .u8 240, .int .u8 240, .int .u8 240, .int .u8 240, .int .u8 240, .int .u8 240, .int .u8 240, .int .u8 240, .int .u8 240, .int .u8 240, .int .u8 240, .int .u8 240, .int .u8 240, .int .u8 240, .int .u8 240, .int .u8 240, .int .u8 240, .int .u8 240, .int .u8 240, .int .u8 240, .int .u8 240, .int .u8 240, .int .u8 240, .int .u8 240, .int .u8 240, .int .u8 240, .int .u8 240, .int .u8 240, .int .u8 240, .int .u8 240, .int .u8 240, .int .u8 240, .int .u8 240, .int .u8 240, .int .u8 240, .int .u8 240, .int .u8 240, .int .u8 240, .int .u8 240, .int .u8 240, .int .u8 240, .int .u8 240, .int .u8 240, .int .u8 240, .int .u8 240, .int .u8 240, .int .u8 240, .int .u8 240, .int .u8 240, .int .u8 240, .int .u8 240, .int .u8 240, .int .u8 240, .int .u8 240, .int .u8 240, .int .u8 240, .int .u8 240, .int .u8 240, .int .u8 240, .int .u8 240, .int .u8 240, .int .u8 240, .int .u8 240, .int .u8 240, .int .u8 240, .int .u8 240, .int .u8 240, .int .u8 240, .int .u8 240, .int .u8 240, .int .u8 240, .int .u8 240, .int .u8 240, .int .u8 240, .int .u8 240, .int .u8 240, .int .u8 240, .int .u8 240, .int .u8 240, .int .u8 240, .int .u8 240, .int .u8 240, .int .u8 240, .int .u8 240, .int .u8 240, .int .u8 240, .int .u8 240, .int .u8 240, .int .u8 240, .int .u8 240, .int .u8 240, .int .u8 240, .int .u8 240, .int .u8 241, .int .u8 241, .int .u8 241, .int .u8 241, .int .u8 241, .int .u8 241, .int .u8 241, .int .u8 241, .int .u8 241, .int .u8 241, .int .u8 241, .int .u8 241, .int .u8 241, .int .u8 241, .int .u8 241, .int .u8 241, .int .u8 241, .int .u8 241, .int .u8 241, .int .u8 241, .int .u8 241, .int .u8 241, .int .u8 241, .int .u8 241, .int .u8 241, .int .u8 241, .int .u8 241, .int .u8 241, .int .u8 241, .int .u8 241, .int .u8 241, .int .u8 241, .int .u8 241, .int .u8 241, .int .u8 241, .int .u8 241, .int .u8 241, .int .u8 241, .int .u8 241, .int .u8 241, .int .u8 241, .int .u8 241, .int .u8 241, .int .u8 241, .int .u8 241, .int .u8 241, .int .u8 241, .int .u8 241, .int .u8 241, .int .u8 241, .int .u8 241, .int .u8 241, .int .u8 241, .int .u8 241, .int .u8 241, .int .u8 241, .int .u8 241, .int .u8 241, .int .u8 241, .int .u8 241, .int .u8 241, .int .u8 241, .int .u8 241, .int .u8 241, .int .u8 241, .int .u8 241, .int .u8 2, .int .u8 2, .int .u8 2, .int .u8 2, .int .u8 2, .int .u8 2, .int .u8 2, .int .u8 2, .int .u8 2, .int .u8 2, .int .u8 2, .int .u8 2, .int .u8 2, .int .u8 2, .int .u8 2, .int .u8 2, .int .u8 2, .int .u8 2, .int .u8 2, .int .u8 2, .int .u8 2, .int .u8 2, .int .u8 2, .int .u8 2, .int .u8 2, .int .u8 2, .int .u8 2, .int .u8 2, .int .u8 2, .int .u8 2, .int .u8 19, .int .u8 3, .int .u8 3, .int .u8 3, .int .u8 3, .int .u8 3, .int .u8 3, .int .u8 3, .int .u8 3, .int .u8 3, .int .u8 3, .int .u8 3, .int .u8 3, .int .u8 35, .int .u8 3, .int .u8 3, .int .u8 52, .int .u8 4, .int .u8 4, .int .u8 4, .int .u8 68, .int .u8 241, .int .u8 241, .int .u8 241, .int .u8 241, .int .u8 241, .int .u8 241, .int .u8 241, .int .u8 241, .int .u8 241, .int .u8 241, .int .u8 241] t f | o => o) }
set_option maxRecDepth 100000 in
theorem laid_met (os : Os) (args : Array Value) : laidMet Tryz.prog Rows.fnEntryTextRow.laid ((laidWorld os).forCall (fun _ _ => 0) ⟨#[], args, []⟩).memory :=
  laidMet_of_run' 8 (by kernel_rfl) (by kernel_rfl)
set_option maxRecDepth 100000 in
theorem lifted (os : Os) (started : os.Started) (H : Type) (enc : TypeId × Value → H) :
    ReturnsInHanded {} Tryz.checked os 4 .any (fun w args => (Rows.fnEntryTextSpec.pre enc Tryz.prog Tryz.f4 Rows.fnEntryTextRow.domain false w args ∧ laidMet Tryz.prog Rows.fnEntryTextRow.laid w) ∧ sizedMet enc Tryz.prog Tryz.f4 (OpenSpec.ofChange Rows.fnEntryTextSpec) false w args)
      (Rows.fnEntryTextSpec.post enc Tryz.prog Tryz.f4 false true false false) := by
  refine handed_laid_shaped (C := Tryz.checked) (X := fun w _ => laidMet Tryz.prog Rows.fnEntryTextRow.laid w) (fun _ _ _ hh h => h.of_heap hh) jfOwn started (by kernel_rfl) Tryz.func4
    (ChangeSpec.witness_at (enc := enc) (C := Tryz.checked) (os := os) (X := fun w _ => laidMet Tryz.prog Rows.fnEntryTextRow.laid w) false (laidWorld os) #[.slice none 0 0] 8 rfl (by kernel_rfl) (by kernel_rfl) (by kernel_rfl) (by kernel_rfl) (by kernel_rfl) (laid_met os _)) ?_
  intro W base args ds gs before hval0 hW _ hsz0 hsh hL _
  have hval : ∀ (j : Nat) t v, Tryz.f4.params[j]? = some t → args[j]? = some v → Value.okWide Tryz.prog W .any base t v := hval0
  have hW' := hW
  obtain ⟨p, q, hA0, hV, rfl, hfz, hnd⟩ := hW
  have hA : DataW.TrodAll enc Tryz.prog W 0 (fun _ => true) true Tryz.f4.params.toList args.toList ds p := hA0
  rw [Tryz.params4] at hA hval
  obtain ⟨v0, vs0, d0, ds0, p0, q0, hargs, rfl, rfl, h0, r0⟩ := trodAll_cons hA
  obtain ⟨rfl, rfl, rfl⟩ := trodAll_nil r0
  obtain rfl : args = #[v0] := by cases args; simp_all
  have k0 := h0
  have lt0 : ∀ x ∈ p0, x.block < W.heap.size := by obtain ⟨m, hm⟩ := k0; exact DataW.trod_lt m _ _ _ hm
  obtain ⟨x0, y0, z0⟩ := open_arg tbl_ok (by kernel_rfl) (hval 0 22 v0 rfl rfl) h0
  clear hA0 hval0
  refine ((law_run (main [x0] ⟨y0, trivial⟩) ⟨fun p hp => hp.elim, start hsh hL⟩ (show Rs W M0 [x0] [v0] from ⟨_, _, rfl, z0, rfl⟩))).mono fun e W' ⟨he, bel⟩ => ?_
  subst he
  obtain ⟨dv, rfl, pv, vv⟩ := vars_kept jfLaid (g := 1) (t := 86) (by kernel_rfl) (by kernel_rfl) (by kernel_rfl) (of_decide_eq_true (by kernel_rfl)) hV bel
  exact ⟨_, rfl, _, _, _, [], _, pv, hW', trodAll_mk1 (shut_bool Tryz.underlying4 _), (trodAll_cons_mk (Below.trod jfLaid (by kernel_rfl) (of_decide_eq_true (by kernel_rfl)) k0 bel lt0) trodAll_mk0), vv, bel.frame _, fun h => by cases h⟩
theorem over : Rows.fnEntryTextRow.holds Tryz.pinned (OpenSpec.ofChange Rows.fnEntryTextSpec) :=
  OpenClaim.holds_of_wide 4 Tryz.f4 rfl rfl rfl rfl rfl rfl rfl ⟨rfl, rfl, rfl, rfl, rfl⟩ rfl rfl rfl rfl rfl (by kernel_rfl) Tryz.func4 closed
    (of_decide_eq_true (by kernel_rfl)) (by unfold Func.isWrapper; first | (rw [if_pos (by decide +kernel)]; kernel_rfl) | (rw [if_neg (by decide +kernel)]; exact ⟨rfl, rfl⟩))
    (fun os started H enc _ => lifted os started H enc)

theorem row_tie : Rows.fnEntryTextRow.laidByTextAt .later Tryz.pinned [.data, .data, .data, .data, .sentinel, .sentinel, .data, .pinned] true := fnEntryText_row_tie
/-- THE STATEMENT -/
theorem proved : Rows.FnEntryTextCardSaid :=
  Claim7.holds_tied_plain_at .later [] [.data, .data, .data, .data, .sentinel, .sentinel, .data, .pinned] true Rows.fnEntryTextCard.stood.harness true
    over (fun _ h => by cases h) (by kernel_rfl) (fun _ h => by cases h) row_tie rfl ⟨rfl, rfl⟩ (by kernel_rfl) rfl
    (fun f fn hf hfn => by
      obtain rfl : f = 4 := Option.some.inj ((show Tryz.prog.funcNamed Rows.fnEntryTextRow.func = some 4 by kernel_rfl).symm.trans hf) |>.symm
      obtain rfl : fn = Tryz.f4 := (Option.some.inj (Tryz.func4.symm.trans hfn)).symm
      exact ⟨by kernel_rfl, stand_in (by kernel_rfl)⟩)
    (by kernel_rfl)
#print axioms proved
end Go.Proofs.YtmhfncdhplmomaaGreatDoor.lawFnEntryText
