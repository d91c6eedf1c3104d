/- What the reference draws for registries: names, needs, recipes, entries, lists of entries. -/
import Derived.Test.YthoafgehfgblaaaBDraw
import Derived.Test.YthoafgehfgblaaaBEntry
namespace Go.Proofs.Ythoafgehfgblaaa
open Go.RowKit Go
set_option linter.unusedVariables false
set_option linter.unusedSimpArgs false
set_option maxRecDepth 100000
set_option linter.unusedSectionVars false
variable [GC]
def isS (r : D) : Prop := ∃ s : ByteArray, r = .str s
theorem isS.ty {r : D} (h : isS r) : HasVT tbl.tab (.one (.c .str)) r := by obtain ⟨x, rfl⟩ := h; trivial
def strRow : List D → Bool
  | [.str _] => true
  | _ => false
theorem strRow_ok {r : List D} (h : strRow r = true) : ∃ s, r = [.str s] := by
  match r, h with
  | [.str s], _ => exact ⟨s, rfl⟩
theorem d_l1Str (rows0 : List (List D)) (h0 : 0 < rows0.length) (hs : rows0.all strRow = true) : Dr 117 [.sl rows0] isS := by
  have hs' : ∀ r ∈ rows0, ∃ s, r = [.str s] := fun r hr => strRow_ok (List.all_eq_true.1 hs r hr)
  have hty : HasVT tbl.tab (.one (.c (.sl 9))) (.sl rows0) := by
    show RowsTy _ (tbl.tab _) _
    rw [tab_str]
    exact RowsTy.of fun r hr => by obtain ⟨s, rfl⟩ := hs' r hr; exact ⟨trivial, trivial⟩
  refine Dr.of vc_spec_l1Str_ok rfl ty_spec_l1Str_ok (fun cs h => by exact ⟨hty, cur_tys h⟩) (.str noText) ⟨_, rfl⟩ fun rows i sd f1 hl hr hi => ?_; (simp only [List.cons_append, List.nil_append]); unfold vc_spec_l1Str
  have hn : (rows0.length : Int) ≤ 9223372036854775807 := by
    simp [FitsL, Fits, maxLen] at f1; omega
  ((first | apply den_draw | apply den_drawR); (focus (simp only [VC.den, E.den, dEq, gsH_nil, and_true, lenD]; try exact rfl)); (focus (simp only [VC.den, E.den, dEq, gsH_nil, and_true, lenD]; try exact rfl)); (focus (exact ⟨_, _, _, rfl, by assumption, by assumption⟩)); (focus (first | exact d_l1Below rows0.length | exact Dr.ofR (d_l1Below rows0.length))); (focus (exact fun _ h => isBel.ty h)); rintro _ rows i sd ⟨x, rfl, hx⟩ hr hi; (simp only [List.cons_append, List.nil_append]))
  refine den_cond (fun _ => ?_) ?_
  · simp [E.den, lenD]; omega
  have hx2 := hx.2 (by omega)
  have e : rows0[x.toNat]? = some rows0[x.toNat] := List.getElem?_eq_getElem (by omega)
  obtain ⟨s, hs1⟩ := hs' _ (List.getElem_mem (show x.toNat < rows0.length by omega))
  refine ⟨⟨s, ?_⟩, _, _, _, rfl, hr, hi⟩
  simp [E.den, e, hs1]
def isIM (l : List Int) (r : D) : Prop := ∃ x, r = .int .i64 x ∧ x ∈ l
theorem isIM.ty {l : List Int} {r : D} (h : isIM l r) : HasVT tbl.tab (.one (.c (.int .i64))) r := by obtain ⟨x, rfl, _⟩ := h; rfl
theorem d_l1IntM (l : List Int) (h0 : 0 < l.length) : Dr 116 [intS l] (isIM l) := by
  refine Dr.of vc_spec_l1Int_ok rfl ty_spec_l1Int_ok (fun cs h => by exact ⟨intS_ty l, cur_tys h⟩) (.int .i64 l[0]) ⟨_, rfl, List.getElem_mem _⟩ fun rows i sd f1 hl hr hi => ?_; (simp only [List.cons_append, List.nil_append]); unfold vc_spec_l1Int
  have hn : (l.length : Int) ≤ 9223372036854775807 := by
    simp [FitsL, Fits, intS, maxLen] at f1; omega
  have hB : Dr 87 [.int .i64 (lenD (intS l))] (isBel l.length) := by
    have := d_l1Below l.length
    simpa [intS, lenD] using this
  ((first | apply den_draw | apply den_drawR); (focus (simp only [VC.den, E.den, dEq, gsH_nil, and_true]; try exact rfl)); (focus (simp only [VC.den, E.den, dEq, gsH_nil, and_true]; try exact rfl)); (focus (exact ⟨_, _, _, rfl, by assumption, by assumption⟩)); (focus (first | exact hB | exact Dr.ofR (hB))); (focus (exact fun _ h => isBel.ty h)); rintro _ rows i sd ⟨x, rfl, hx⟩ hr hi; (simp only [List.cons_append, List.nil_append]))
  refine den_cond (fun _ => ?_) ?_
  · simp [E.den, intS, lenD]; omega
  have hx2 := hx.2 (by omega)
  have e : l[x.toNat]? = some l[x.toNat] := List.getElem?_eq_getElem (by omega)
  refine ⟨⟨l[x.toNat], ?_, List.getElem_mem _⟩, _, _, _, rfl, hr, hi⟩
  simp [E.den, intS, e]
theorem d_l6Name : Dr 89 [] isS := by
  refine Dr.of vc_spec_l6Name_ok rfl ty_spec_l6Name_ok (fun cs h => by exact cur_tys h) (.str noText) ⟨_, rfl⟩ fun rows i sd f1 hl hr hi => ?_; (simp only [List.cons_append, List.nil_append]); unfold vc_spec_l6Name
  ((first | apply den_draw | apply den_drawR); (focus (simp only [VC.den, E.den, dEq, gsH_nil, and_true]; try exact rfl)); (focus (simp only [VC.den, E.den, dEq, gsH_nil, and_true]; try exact rfl)); (focus (exact ⟨_, _, _, rfl, by assumption, by assumption⟩)); (focus (first | exact d_l1Str _ (by decide) rfl | exact Dr.ofR (d_l1Str _ (by decide) rfl))); (focus (exact fun _ h => isS.ty h)); rintro _ rows i sd ⟨s, rfl⟩ hr hi; (simp only [List.cons_append, List.nil_append]))
  exact ⟨⟨_, rfl⟩, _, _, _, rfl, hr, hi⟩
theorem d_l1Word : Dr 90 [] isS := by
  refine Dr.of vc_spec_l1Word_ok rfl ty_spec_l1Word_ok (fun cs h => by exact cur_tys h) (.str noText) ⟨_, rfl⟩ fun rows i sd f1 hl hr hi => ?_; (simp only [List.cons_append, List.nil_append]); unfold vc_spec_l1Word
  ((first | apply den_draw | apply den_drawR); (focus (simp only [VC.den, E.den, dEq, gsH_nil, and_true]; try exact rfl)); (focus (simp only [VC.den, E.den, dEq, gsH_nil, and_true]; try exact rfl)); (focus (exact ⟨_, _, _, rfl, by assumption, by assumption⟩)); (focus (first | exact d_l1Str _ (by decide) rfl | exact Dr.ofR (d_l1Str _ (by decide) rfl))); (focus (exact fun _ h => isS.ty h)); rintro _ rows i sd ⟨s, rfl⟩ hr hi; (simp only [List.cons_append, List.nil_append]))
  exact ⟨⟨_, rfl⟩, _, _, _, rfl, hr, hi⟩
theorem d_l3Kind : Dr 118 [] isS := by
  refine Dr.of vc_spec_l3Kind_ok rfl ty_spec_l3Kind_ok (fun cs h => by exact cur_tys h) (.str noText) ⟨_, rfl⟩ fun rows i sd f1 hl hr hi => ?_; (simp only [List.cons_append, List.nil_append]); unfold vc_spec_l3Kind
  ((first | apply den_draw | apply den_drawR); (focus (simp only [VC.den, E.den, dEq, gsH_nil, and_true]; try exact rfl)); (focus (simp only [VC.den, E.den, dEq, gsH_nil, and_true]; try exact rfl)); (focus (exact ⟨_, _, _, rfl, by assumption, by assumption⟩)); (focus (first | exact d_l1Once _ | exact Dr.ofR (d_l1Once _))); (focus (exact fun _ h => isB.ty h)); rintro _ rows i sd ⟨b, rfl⟩ hr hi; (simp only [List.cons_append, List.nil_append]))
  refine den_ite (fun h => ?_) (fun h => ?_)
  · ((first | apply den_draw | apply den_drawR); (focus (simp only [VC.den, E.den, dEq, gsH_nil, and_true]; try exact rfl)); (focus (simp only [VC.den, E.den, dEq, gsH_nil, and_true]; try exact rfl)); (focus (exact ⟨_, _, _, rfl, by assumption, by assumption⟩)); (focus (first | exact d_l1Str _ (by decide) rfl | exact Dr.ofR (d_l1Str _ (by decide) rfl))); (focus (exact fun _ h => isS.ty h)); rintro _ rows i sd ⟨s, rfl⟩ hr hi; (simp only [List.cons_append, List.nil_append]))
    exact ⟨⟨_, rfl⟩, _, _, _, rfl, hr, hi⟩
  · ((first | apply den_draw | apply den_drawR); (focus (simp only [VC.den, E.den, dEq, gsH_nil, and_true]; try exact rfl)); (focus (simp only [VC.den, E.den, dEq, gsH_nil, and_true]; try exact rfl)); (focus (exact ⟨_, _, _, rfl, by assumption, by assumption⟩)); (focus (first | exact d_l1Str _ (by decide) rfl | exact Dr.ofR (d_l1Str _ (by decide) rfl))); (focus (exact fun _ h => isS.ty h)); rintro _ rows i sd ⟨s, rfl⟩ hr hi; (simp only [List.cons_append, List.nil_append]))
    exact ⟨⟨_, rfl⟩, _, _, _, rfl, hr, hi⟩
theorem d_l4Name : Dr 136 [] isS := by
  refine Dr.of vc_spec_l4Name_ok rfl ty_spec_l4Name_ok (fun cs h => by exact cur_tys h) (.str noText) ⟨_, rfl⟩ fun rows i sd f1 hl hr hi => ?_; (simp only [List.cons_append, List.nil_append]); unfold vc_spec_l4Name
  ((first | apply den_draw | apply den_drawR); (focus (simp only [VC.den, E.den, dEq, gsH_nil, and_true]; try exact rfl)); (focus (simp only [VC.den, E.den, dEq, gsH_nil, and_true]; try exact rfl)); (focus (exact ⟨_, _, _, rfl, by assumption, by assumption⟩)); (focus (first | exact d_l1Once _ | exact Dr.ofR (d_l1Once _))); (focus (exact fun _ h => isB.ty h)); rintro _ rows i sd ⟨b, rfl⟩ hr hi; (simp only [List.cons_append, List.nil_append]))
  refine den_ite (fun h => ?_) (fun h => ?_)
  · ((first | apply den_draw | apply den_drawR); (focus (simp only [VC.den, E.den, dEq, gsH_nil, and_true]; try exact rfl)); (focus (simp only [VC.den, E.den, dEq, gsH_nil, and_true]; try exact rfl)); (focus (exact ⟨_, _, _, rfl, by assumption, by assumption⟩)); (focus (first | exact d_l1Str _ (by decide) rfl | exact Dr.ofR (d_l1Str _ (by decide) rfl))); (focus (exact fun _ h => isS.ty h)); rintro _ rows i sd ⟨s, rfl⟩ hr hi; (simp only [List.cons_append, List.nil_append]))
    exact ⟨⟨_, rfl⟩, _, _, _, rfl, hr, hi⟩
  · ((first | apply den_draw | apply den_drawR); (focus (simp only [VC.den, E.den, dEq, gsH_nil, and_true]; try exact rfl)); (focus (simp only [VC.den, E.den, dEq, gsH_nil, and_true]; try exact rfl)); (focus (exact ⟨_, _, _, rfl, by assumption, by assumption⟩)); (focus (first | exact d_l1Str _ (by decide) rfl | exact Dr.ofR (d_l1Str _ (by decide) rfl))); (focus (exact fun _ h => isS.ty h)); rintro _ rows i sd ⟨s, rfl⟩ hr hi; (simp only [List.cons_append, List.nil_append]))
    exact ⟨⟨_, rfl⟩, _, _, _, rfl, hr, hi⟩
structure FtSt where
  s : ByteArray
  k : Nat
  rows : List (List D)
  i : Int
  h : Int
def FtSt.lay (s : FtSt) : List D := [.str s.s, .int .i64 s.k, .sl s.rows, .int .i64 s.i, .int .i64 s.h]
theorem d_l4Fitting (f : Int) : Dr 119 [.int .i64 f] isS := by
  refine Dr.of vc_spec_l4Fitting_ok rfl ty_spec_l4Fitting_ok (fun cs h => by exact ⟨rfl, cur_tys h⟩) (.str noText) ⟨_, rfl⟩ fun rows i sd f1 hl hr hi => ?_; (simp only [List.cons_append, List.nil_append]); unfold vc_spec_l4Fitting
  ((first | apply den_draw | apply den_drawR); (focus (simp only [VC.den, E.den, dEq, gsH_nil, and_true]; try exact rfl)); (focus (simp only [VC.den, E.den, dEq, gsH_nil, and_true]; try exact rfl)); (focus (exact ⟨_, _, _, rfl, by assumption, by assumption⟩)); (focus (first | exact d_l4Name | exact Dr.ofR (d_l4Name))); (focus (exact fun _ h => isS.ty h)); rintro _ rows i sd ⟨s, rfl⟩ hr hi; (simp only [List.cons_append, List.nil_append]))
  refine den_loop FtSt FtSt.lay (fun s => s.k ≤ 6 ∧ RowsTy tbl.tab [.int .u8] s.rows ∧ 0 ≤ s.i) (fun s => 6 - s.k) ⟨s, 0, rows, i, sd⟩ (fun s s' h => by simp [FtSt.lay] at h; omega) rfl ⟨by simp, hr, hi⟩ ?_
  rintro ⟨s, k, rows, i, sd⟩ ⟨hk, hr, hi⟩ -
  simp only at hk hr hi
  simp only [FtSt.lay, List.cons_append, List.nil_append]
  refine den_ite (fun h => ?_) (fun h => ?_)
  · simp [E.den, cmpI] at h
    ((first | refine den_call ?_ (c_spec_LayerNeeds s) (⟨rfl, trivial, trivial⟩) ?_ | refine den_callR ?_ (c_spec_LayerNeeds s) (⟨rfl, trivial, trivial⟩) ?_ | refine den_call ?_ (.ofR (c_spec_LayerNeeds s)) (⟨rfl, trivial, trivial⟩) ?_); (focus (simp only [VC.den, E.den, dEq, gsH_nil, and_true]; try exact rfl)); (simp only [List.cons_append, List.nil_append]))
    ((first | refine den_call ?_ (c_spec_Offers f (needN s)) (trivial) ?_ | refine den_callR ?_ (c_spec_Offers f (needN s)) (trivial) ?_ | refine den_call ?_ (.ofR (c_spec_Offers f (needN s))) (trivial) ?_); (focus (simp only [VC.den, E.den, dEq, gsH_nil, and_true]; try exact rfl)); (simp only [List.cons_append, List.nil_append]))
    refine den_ite (fun h2 => ?_) (fun h2 => ?_)
    · exact ⟨⟨_, rfl⟩, _, _, _, rfl, hr, hi⟩
    ((first | apply den_draw | apply den_drawR); (focus (simp only [VC.den, E.den, dEq, gsH_nil, and_true]; try exact rfl)); (focus (simp only [VC.den, E.den, dEq, gsH_nil, and_true]; try exact rfl)); (focus (exact ⟨_, _, _, rfl, by assumption, by assumption⟩)); (focus (first | exact d_l4Name | exact Dr.ofR (d_l4Name))); (focus (exact fun _ h => isS.ty h)); rintro _ rows i sd ⟨s', rfl⟩ hr hi; (simp only [List.cons_append, List.nil_append]))
    refine ⟨⟨s', k + 1, rows, i, sd⟩, ?_, ⟨by simp only; omega, hr, hi⟩, by simp only; omega⟩
    simp [E.den, FtSt.lay]
    rw [ar_add (by omega) (by omega)]
  · exact ⟨⟨_, rfl⟩, _, _, _, rfl, hr, hi⟩
def isTx (r : D) : Prop := ∃ l : List ByteArray, r = encS l ∧ l.length ≤ 5
theorem isTx.ty {r : D} (h : isTx r) : HasVT tbl.tab (.one (.c (.sl 9))) r := by obtain ⟨l, rfl, _⟩ := h; exact ty_strS l
structure RcSt where
  l : List ByteArray
  n : Int
  rows : List (List D)
  i : Int
  h : Int
def RcSt.lay (s : RcSt) : List D := [encS s.l, .int .i64 s.n, .sl s.rows, .int .i64 s.i, .int .i64 s.h]
theorem d_l4Recipe : DrR 91 [] isTx [(0, 1)] := by
  refine DrR.of vc_spec_l4Recipe_ok rt_spec_l4Recipe_ok rfl ty_spec_l4Recipe_ok (fun cs h => by exact cur_tys h) (encS ([] : List ByteArray)) ⟨_, rfl, by simp⟩ fun rows i sd f1 hl hr hi => ?_; (simp only [List.cons_append, List.nil_append]); unfold vc_spec_l4Recipe
  ((first | apply den_draw | apply den_drawR); (focus (simp only [VC.den, E.den, dEq, gsH_nil, and_true]; try exact rfl)); (focus (simp only [VC.den, E.den, dEq, gsH_nil, and_true]; try exact rfl)); (focus (exact ⟨_, _, _, rfl, by assumption, by assumption⟩)); (focus (first | exact d_l3Kind | exact Dr.ofR (d_l3Kind))); (focus (exact fun _ h => isS.ty h)); rintro _ rows i sd ⟨s, rfl⟩ hr hi; (simp only [List.cons_append, List.nil_append]))
  ((first | apply den_draw | apply den_drawR); (focus (simp only [VC.den, E.den, dEq, gsH_nil, and_true]; try exact rfl)); (focus (simp only [VC.den, E.den, dEq, gsH_nil, and_true]; try exact rfl)); (focus (exact ⟨_, _, _, rfl, by assumption, by assumption⟩)); (focus (first | exact d_l1Below _ | exact Dr.ofR (d_l1Below _))); (focus (exact fun _ h => isBel.ty h)); rintro _ rows i sd ⟨n, rfl, hn⟩ hr hi; (simp only [List.cons_append, List.nil_append]))
  have hn2 := hn.2 (by omega)
  refine den_loop RcSt RcSt.lay (fun s => RowsTy tbl.tab [.int .u8] s.rows ∧ 0 ≤ s.i ∧ 0 ≤ s.n ∧ (s.l.length : Int) + s.n ≤ 4) (fun s => s.n.toNat) ⟨[s], n, rows, i, sd⟩ (fun s s' h => by simp [RcSt.lay] at h; rw [h.2.1]) rfl ⟨hr, hi, hn.1, by simp; omega⟩ ?_
  rintro ⟨l, m, rows, i, sd⟩ ⟨hr, hi, hm, hml⟩ -
  simp only at hr hi hm hml
  simp only [RcSt.lay, List.cons_append, List.nil_append]
  refine den_ite (fun h => ?_) (fun h => ?_)
  · simp [E.den, cmpI] at h
    ((first | refine den_call ?_ (c_spec_RecipeFace l) (⟨rfl, trivial, trivial⟩) ?_ | refine den_callR ?_ (c_spec_RecipeFace l) (⟨rfl, trivial, trivial⟩) ?_ | refine den_call ?_ (.ofR (c_spec_RecipeFace l)) (⟨rfl, trivial, trivial⟩) ?_); (focus (simp only [VC.den, E.den, dEq, gsH_nil, and_true]; try exact rfl)); (simp only [List.cons_append, List.nil_append]))
    ((first | apply den_draw | apply den_drawR); (focus (simp only [VC.den, E.den, dEq, gsH_nil, and_true]; try exact rfl)); (focus (simp only [VC.den, E.den, dEq, gsH_nil, and_true]; try exact rfl)); (focus (exact ⟨_, _, _, rfl, by assumption, by assumption⟩)); (focus (first | exact d_l4Fitting _ | exact Dr.ofR (d_l4Fitting _))); (focus (exact fun _ h => isS.ty h)); rintro _ rows i sd ⟨s', rfl⟩ hr hi; (simp only [List.cons_append, List.nil_append]))
    refine den_cond (fun _ => ?_) ?_
    · simp [E.den]; omega
    have hms : arI .sub .i64 m 1 = m - 1 := ar_sub (by omega) (by omega)
    refine ⟨⟨l ++ [s'], m - 1, rows, i, sd⟩, ?_, ⟨hr, hi, by simp only; omega, by simp; omega⟩, by simp only; omega⟩
    simp [E.den, RcSt.lay, hms, encS, cells_str]
  · exact ⟨⟨l, rfl, by omega⟩, _, _, _, rfl, hr, hi⟩
structure R6St where
  k : Nat
  rows : List (List D)
  i : Int
  h : Int
def R6St.lay (s : R6St) : List D := [.int .i64 s.k, .sl s.rows, .int .i64 s.i, .int .i64 s.h]
theorem d_l6Recipe : DrR 115 [] isTx [(0, 1)] := by
  refine DrR.of vc_spec_l6Recipe_ok rt_spec_l6Recipe_ok rfl ty_spec_l6Recipe_ok (fun cs h => by exact cur_tys h) (encS ([] : List ByteArray)) ⟨_, rfl, by simp⟩ fun rows i sd f1 hl hr hi => ?_; (simp only [List.cons_append, List.nil_append]); unfold vc_spec_l6Recipe
  refine den_loop R6St R6St.lay (fun s => s.k ≤ 4 ∧ RowsTy tbl.tab [.int .u8] s.rows ∧ 0 ≤ s.i) (fun s => 4 - s.k) ⟨0, rows, i, sd⟩ (fun s s' h => by simp [R6St.lay] at h; omega) rfl ⟨by simp, hr, hi⟩ ?_
  rintro ⟨k, rows, i, sd⟩ ⟨hk, hr, hi⟩ -
  simp only at hk hr hi
  simp only [R6St.lay, List.cons_append, List.nil_append]
  refine den_ite (fun h => ?_) (fun h => ?_)
  · simp [E.den, cmpI] at h
    ((first | apply den_draw | apply den_drawR); (focus (simp only [VC.den, E.den, dEq, gsH_nil, and_true]; try exact rfl)); (focus (simp only [VC.den, E.den, dEq, gsH_nil, and_true]; try exact rfl)); (focus (exact ⟨_, _, _, rfl, by assumption, by assumption⟩)); (focus (first | exact d_l4Recipe | exact Dr.ofR (d_l4Recipe))); (focus (exact fun _ h => isTx.ty h)); rintro _ rows i sd ⟨l, rfl, hl'⟩ hr hi; (simp only [List.cons_append, List.nil_append]))
    ((first | refine den_call ?_ (c_spec_RecipeFace l) (⟨rfl, trivial, trivial⟩) ?_ | refine den_callR ?_ (c_spec_RecipeFace l) (⟨rfl, trivial, trivial⟩) ?_ | refine den_call ?_ (.ofR (c_spec_RecipeFace l)) (⟨rfl, trivial, trivial⟩) ?_); (focus (simp only [VC.den, E.den, dEq, gsH_nil, and_true]; try exact rfl)); (simp only [List.cons_append, List.nil_append]))
    refine den_ite (fun h2 => ?_) (fun h2 => ?_)
    · exact ⟨⟨l, rfl, hl'⟩, _, _, _, rfl, hr, hi⟩
    refine ⟨⟨k + 1, rows, i, sd⟩, ?_, ⟨by simp only; omega, hr, hi⟩, by simp only; omega⟩
    simp [E.den, R6St.lay]
    rw [ar_add (by omega) (by omega)]
  · ((first | apply den_draw | apply den_drawR); (focus (simp only [VC.den, E.den, dEq, gsH_nil, and_true]; try exact rfl)); (focus (simp only [VC.den, E.den, dEq, gsH_nil, and_true]; try exact rfl)); (focus (exact ⟨_, _, _, rfl, by assumption, by assumption⟩)); (focus (first | exact d_l1Str _ (by decide) rfl | exact Dr.ofR (d_l1Str _ (by decide) rfl))); (focus (exact fun _ h => isS.ty h)); rintro _ rows i sd ⟨s, rfl⟩ hr hi; (simp only [List.cons_append, List.nil_append]))
    exact ⟨⟨[s], rfl, by simp⟩, _, _, _, rfl, hr, hi⟩
def isN (r : D) : Prop := ∃ n : Need, r = enc n
theorem isN.ty {r : D} (h : isN r) : HasVT tbl.tab (.one (.agg [.int .i64, .str, .int .i64, .int .i64])) r := by obtain ⟨n, rfl⟩ := h; exact ty_Need n
theorem d_l6NeedDraw : Dr 93 [] isN := by
  refine Dr.of vc_spec_l6NeedDraw_ok rfl ty_spec_l6NeedDraw_ok (fun cs h => by exact cur_tys h) (enc (default : Need)) ⟨_, rfl⟩ fun rows i sd f1 hl hr hi => ?_; (simp only [List.cons_append, List.nil_append]); unfold vc_spec_l6NeedDraw
  ((first | apply den_draw | apply den_drawR); (focus (simp only [VC.den, E.den, dEq, gsH_nil, and_true]; try exact rfl)); (focus (simp only [VC.den, E.den, dEq, gsH_nil, and_true]; try exact rfl)); (focus (exact ⟨_, _, _, rfl, by assumption, by assumption⟩)); (focus (first | exact d_l1Int [1, 2, 2, 4, 8, 3, 16, 32, 5, 6] (by decide) | exact Dr.ofR (d_l1Int [1, 2, 2, 4, 8, 3, 16, 32, 5, 6] (by decide)))); (focus (exact fun _ h => isI.ty h)); rintro _ rows i sd ⟨x, rfl⟩ hr hi; (simp only [List.cons_append, List.nil_append]))
  ((first | apply den_draw | apply den_drawR); (focus (simp only [VC.den, E.den, dEq, gsH_nil, and_true]; try exact rfl)); (focus (simp only [VC.den, E.den, dEq, gsH_nil, and_true]; try exact rfl)); (focus (exact ⟨_, _, _, rfl, by assumption, by assumption⟩)); (focus (first | exact d_l1Below _ | exact Dr.ofR (d_l1Below _))); (focus (exact fun _ h => isBel.ty h)); rintro _ rows i sd ⟨y, rfl, hy⟩ hr hi; (simp only [List.cons_append, List.nil_append]))
  ((first | apply den_draw | apply den_drawR); (focus (simp only [VC.den, E.den, dEq, gsH_nil, and_true]; try exact rfl)); (focus (simp only [VC.den, E.den, dEq, gsH_nil, and_true]; try exact rfl)); (focus (exact ⟨_, _, _, rfl, by assumption, by assumption⟩)); (focus (first | exact d_l1Once _ | exact Dr.ofR (d_l1Once _))); (focus (exact fun _ h => isB.ty h)); rintro _ rows i sd ⟨b1, rfl⟩ hr hi; (simp only [List.cons_append, List.nil_append]))
  refine den_ite (fun _ => ?_) (fun _ => ?_)
  · ((first | apply den_draw | apply den_drawR); (focus (simp only [VC.den, E.den, dEq, gsH_nil, and_true]; try exact rfl)); (focus (simp only [VC.den, E.den, dEq, gsH_nil, and_true]; try exact rfl)); (focus (exact ⟨_, _, _, rfl, by assumption, by assumption⟩)); (focus (first | exact d_l6Name | exact Dr.ofR (d_l6Name))); (focus (exact fun _ h => isS.ty h)); rintro _ rows i sd ⟨s, rfl⟩ hr hi; (simp only [List.cons_append, List.nil_append]))
    ((first | apply den_draw | apply den_drawR); (focus (simp only [VC.den, E.den, dEq, gsH_nil, and_true]; try exact rfl)); (focus (simp only [VC.den, E.den, dEq, gsH_nil, and_true]; try exact rfl)); (focus (exact ⟨_, _, _, rfl, by assumption, by assumption⟩)); (focus (first | exact d_l1Once _ | exact Dr.ofR (d_l1Once _))); (focus (exact fun _ h => isB.ty h)); rintro _ rows i sd ⟨b2, rfl⟩ hr hi; (simp only [List.cons_append, List.nil_append]))
    refine den_ite (fun _ => ?_) (fun _ => ?_)
    · ((first | apply den_draw | apply den_drawR); (focus (simp only [VC.den, E.den, dEq, gsH_nil, and_true]; try exact rfl)); (focus (simp only [VC.den, E.den, dEq, gsH_nil, and_true]; try exact rfl)); (focus (exact ⟨_, _, _, rfl, by assumption, by assumption⟩)); (focus (first | exact d_l2Any | exact Dr.ofR (d_l2Any))); (focus (exact fun _ h => isI.ty h)); rintro _ rows i sd ⟨z, rfl⟩ hr hi; (simp only [List.cons_append, List.nil_append]))
      ((first | apply den_draw | apply den_drawR); (focus (simp only [VC.den, E.den, dEq, gsH_nil, and_true]; try exact rfl)); (focus (simp only [VC.den, E.den, dEq, gsH_nil, and_true]; try exact rfl)); (focus (exact ⟨_, _, _, rfl, by assumption, by assumption⟩)); (focus (first | exact d_l1Once _ | exact Dr.ofR (d_l1Once _))); (focus (exact fun _ h => isB.ty h)); rintro _ rows i sd ⟨b3, rfl⟩ hr hi; (simp only [List.cons_append, List.nil_append]))
      refine den_ite (fun _ => ?_) (fun _ => ?_)
      · ((first | apply den_draw | apply den_drawR); (focus (simp only [VC.den, E.den, dEq, gsH_nil, and_true]; try exact rfl)); (focus (simp only [VC.den, E.den, dEq, gsH_nil, and_true]; try exact rfl)); (focus (exact ⟨_, _, _, rfl, by assumption, by assumption⟩)); (focus (first | exact d_l5Any | exact Dr.ofR (d_l5Any))); (focus (exact fun _ h => isV.ty h)); rintro _ rows i sd ⟨v, rfl⟩ hr hi; (simp only [List.cons_append, List.nil_append]))
        exact ⟨⟨⟨z, s, v⟩, rfl⟩, _, _, _, rfl, hr, hi⟩
      · exact ⟨⟨⟨z, s, ⟨1, y⟩⟩, rfl⟩, _, _, _, rfl, hr, hi⟩
    · ((first | apply den_draw | apply den_drawR); (focus (simp only [VC.den, E.den, dEq, gsH_nil, and_true]; try exact rfl)); (focus (simp only [VC.den, E.den, dEq, gsH_nil, and_true]; try exact rfl)); (focus (exact ⟨_, _, _, rfl, by assumption, by assumption⟩)); (focus (first | exact d_l1Once _ | exact Dr.ofR (d_l1Once _))); (focus (exact fun _ h => isB.ty h)); rintro _ rows i sd ⟨b3, rfl⟩ hr hi; (simp only [List.cons_append, List.nil_append]))
      refine den_ite (fun _ => ?_) (fun _ => ?_)
      · ((first | apply den_draw | apply den_drawR); (focus (simp only [VC.den, E.den, dEq, gsH_nil, and_true]; try exact rfl)); (focus (simp only [VC.den, E.den, dEq, gsH_nil, and_true]; try exact rfl)); (focus (exact ⟨_, _, _, rfl, by assumption, by assumption⟩)); (focus (first | exact d_l5Any | exact Dr.ofR (d_l5Any))); (focus (exact fun _ h => isV.ty h)); rintro _ rows i sd ⟨v, rfl⟩ hr hi; (simp only [List.cons_append, List.nil_append]))
        exact ⟨⟨⟨x, s, v⟩, rfl⟩, _, _, _, rfl, hr, hi⟩
      · exact ⟨⟨⟨x, s, ⟨1, y⟩⟩, rfl⟩, _, _, _, rfl, hr, hi⟩
  · ((first | apply den_draw | apply den_drawR); (focus (simp only [VC.den, E.den, dEq, gsH_nil, and_true]; try exact rfl)); (focus (simp only [VC.den, E.den, dEq, gsH_nil, and_true]; try exact rfl)); (focus (exact ⟨_, _, _, rfl, by assumption, by assumption⟩)); (focus (first | exact d_l1Once _ | exact Dr.ofR (d_l1Once _))); (focus (exact fun _ h => isB.ty h)); rintro _ rows i sd ⟨b2, rfl⟩ hr hi; (simp only [List.cons_append, List.nil_append]))
    refine den_ite (fun _ => ?_) (fun _ => ?_)
    · ((first | apply den_draw | apply den_drawR); (focus (simp only [VC.den, E.den, dEq, gsH_nil, and_true]; try exact rfl)); (focus (simp only [VC.den, E.den, dEq, gsH_nil, and_true]; try exact rfl)); (focus (exact ⟨_, _, _, rfl, by assumption, by assumption⟩)); (focus (first | exact d_l2Any | exact Dr.ofR (d_l2Any))); (focus (exact fun _ h => isI.ty h)); rintro _ rows i sd ⟨z, rfl⟩ hr hi; (simp only [List.cons_append, List.nil_append]))
      ((first | apply den_draw | apply den_drawR); (focus (simp only [VC.den, E.den, dEq, gsH_nil, and_true]; try exact rfl)); (focus (simp only [VC.den, E.den, dEq, gsH_nil, and_true]; try exact rfl)); (focus (exact ⟨_, _, _, rfl, by assumption, by assumption⟩)); (focus (first | exact d_l1Once _ | exact Dr.ofR (d_l1Once _))); (focus (exact fun _ h => isB.ty h)); rintro _ rows i sd ⟨b3, rfl⟩ hr hi; (simp only [List.cons_append, List.nil_append]))
      refine den_ite (fun _ => ?_) (fun _ => ?_)
      · ((first | apply den_draw | apply den_drawR); (focus (simp only [VC.den, E.den, dEq, gsH_nil, and_true]; try exact rfl)); (focus (simp only [VC.den, E.den, dEq, gsH_nil, and_true]; try exact rfl)); (focus (exact ⟨_, _, _, rfl, by assumption, by assumption⟩)); (focus (first | exact d_l5Any | exact Dr.ofR (d_l5Any))); (focus (exact fun _ h => isV.ty h)); rintro _ rows i sd ⟨v, rfl⟩ hr hi; (simp only [List.cons_append, List.nil_append]))
        exact ⟨⟨⟨z, noText, v⟩, rfl⟩, _, _, _, rfl, hr, hi⟩
      · exact ⟨⟨⟨z, noText, ⟨1, y⟩⟩, rfl⟩, _, _, _, rfl, hr, hi⟩
    · ((first | apply den_draw | apply den_drawR); (focus (simp only [VC.den, E.den, dEq, gsH_nil, and_true]; try exact rfl)); (focus (simp only [VC.den, E.den, dEq, gsH_nil, and_true]; try exact rfl)); (focus (exact ⟨_, _, _, rfl, by assumption, by assumption⟩)); (focus (first | exact d_l1Once _ | exact Dr.ofR (d_l1Once _))); (focus (exact fun _ h => isB.ty h)); rintro _ rows i sd ⟨b3, rfl⟩ hr hi; (simp only [List.cons_append, List.nil_append]))
      refine den_ite (fun _ => ?_) (fun _ => ?_)
      · ((first | apply den_draw | apply den_drawR); (focus (simp only [VC.den, E.den, dEq, gsH_nil, and_true]; try exact rfl)); (focus (simp only [VC.den, E.den, dEq, gsH_nil, and_true]; try exact rfl)); (focus (exact ⟨_, _, _, rfl, by assumption, by assumption⟩)); (focus (first | exact d_l5Any | exact Dr.ofR (d_l5Any))); (focus (exact fun _ h => isV.ty h)); rintro _ rows i sd ⟨v, rfl⟩ hr hi; (simp only [List.cons_append, List.nil_append]))
        exact ⟨⟨⟨x, noText, v⟩, rfl⟩, _, _, _, rfl, hr, hi⟩
      · exact ⟨⟨⟨x, noText, ⟨1, y⟩⟩, rfl⟩, _, _, _, rfl, hr, hi⟩
def Entry.few (e : Entry) : Prop := e.recipe.length ≤ 8 ∧ e.needs.length ≤ 8
def isEn (r : D) : Prop := ∃ e : Entry, r = enc e ∧ e.few
theorem isEn.ty {r : D} (h : isEn r) : HasVT tbl.tab (.one (.agg [.str, .sl 9, .int .i64, .int .i64, .sl 42])) r := by obtain ⟨n, rfl, _⟩ := h; exact ty_Entry n
structure EnSt where
  n : Int
  rows : List (List D)
  i : Int
  h : Int
  e : Entry
def EnSt.lay (s : EnSt) : List D := [.int .i64 s.n, .sl s.rows, .int .i64 s.i, .int .i64 s.h, .str s.e.name, encS s.e.recipe, .int .i64 s.e.ver.maj, .int .i64 s.e.ver.min, encS s.e.needs]
theorem d_l6Draw (nm : ByteArray) : DrR 88 [.str nm] (fun r => ∃ e : Entry, r = enc e ∧ e.recipe.length ≤ 5 ∧ e.needs.length ≤ 3) [(1, 1), (4, 4)] := by
  refine DrR.of vc_spec_l6Draw_ok rt_spec_l6Draw_ok rfl ty_spec_l6Draw_ok (fun cs h => by exact ⟨trivial, cur_tys h⟩) (enc (default : Entry)) ⟨_, rfl, by decide, by decide⟩ fun rows i sd f1 hl hr hi => ?_; (simp only [List.cons_append, List.nil_append]); unfold vc_spec_l6Draw
  ((first | apply den_draw | apply den_drawR); (focus (simp only [VC.den, E.den, dEq, gsH_nil, and_true]; try exact rfl)); (focus (simp only [VC.den, E.den, dEq, gsH_nil, and_true]; try exact rfl)); (focus (exact ⟨_, _, _, rfl, by assumption, by assumption⟩)); (focus (first | exact d_l6Recipe | exact Dr.ofR (d_l6Recipe))); (focus (exact fun _ h => isTx.ty h)); rintro _ rows i sd ⟨tx, rfl, htx⟩ hr hi; (simp only [List.cons_append, List.nil_append]))
  ((first | apply den_draw | apply den_drawR); (focus (simp only [VC.den, E.den, dEq, gsH_nil, and_true]; try exact rfl)); (focus (simp only [VC.den, E.den, dEq, gsH_nil, and_true]; try exact rfl)); (focus (exact ⟨_, _, _, rfl, by assumption, by assumption⟩)); (focus (first | exact d_l1Below _ | exact Dr.ofR (d_l1Below _))); (focus (exact fun _ h => isBel.ty h)); rintro _ rows i sd ⟨y, rfl, hy⟩ hr hi; (simp only [List.cons_append, List.nil_append]))
  ((first | apply den_draw | apply den_drawR); (focus (simp only [VC.den, E.den, dEq, gsH_nil, and_true]; try exact rfl)); (focus (simp only [VC.den, E.den, dEq, gsH_nil, and_true]; try exact rfl)); (focus (exact ⟨_, _, _, rfl, by assumption, by assumption⟩)); (focus (first | exact d_l1IntM [0, 1, 1, 2, 3] (by decide) | exact Dr.ofR (d_l1IntM [0, 1, 1, 2, 3] (by decide)))); (focus (exact fun _ h => isIM.ty h)); rintro _ rows i sd ⟨n, rfl, hn⟩ hr hi; (simp only [List.cons_append, List.nil_append]))
  have hn0 : 0 ≤ n ∧ n ≤ 3 := by simp at hn; omega
  refine den_loop EnSt EnSt.lay (fun s => RowsTy tbl.tab [.int .u8] s.rows ∧ 0 ≤ s.i ∧ 0 ≤ s.n ∧ (s.e.needs.length : Int) + s.n ≤ 3 ∧ s.e.recipe.length ≤ 5) (fun s => s.n.toNat) ⟨n, rows, i, sd, ⟨nm, tx, ⟨1, y⟩, []⟩⟩ (fun s s' h => by simp [EnSt.lay] at h; rw [h.1]) rfl ⟨hr, hi, hn0.1, by simp; omega, htx⟩ ?_
  rintro ⟨m, rows, i, sd, ⟨nm', tx, ver, nd⟩⟩ ⟨hr, hi, hm, hml, htx⟩ -
  simp only at hr hi hm hml htx
  simp only [EnSt.lay, List.cons_append, List.nil_append]
  refine den_ite (fun h => ?_) (fun h => ?_)
  · simp [E.den, cmpI] at h
    ((first | apply den_draw | apply den_drawR); (focus (simp only [VC.den, E.den, dEq, gsH_nil, and_true]; try exact rfl)); (focus (simp only [VC.den, E.den, dEq, gsH_nil, and_true]; try exact rfl)); (focus (exact ⟨_, _, _, rfl, by assumption, by assumption⟩)); (focus (first | exact d_l6NeedDraw | exact Dr.ofR (d_l6NeedDraw))); (focus (exact fun _ h => isN.ty h)); rintro _ rows i sd ⟨x, rfl⟩ hr hi; (simp only [List.cons_append, List.nil_append]))
    ((first | refine den_call ?_ (c_spec_IsNeed x) (trivial) ?_ | refine den_callR ?_ (c_spec_IsNeed x) (trivial) ?_ | refine den_call ?_ (.ofR (c_spec_IsNeed x)) (trivial) ?_); (focus (simp only [VC.den, E.den, dEq, gsH_nil, and_true]; try exact rfl)); (simp only [List.cons_append, List.nil_append]))
    have hms : arI .sub .i64 m 1 = m - 1 := ar_sub (by omega) (by omega)
    refine den_ite (fun h2 => ?_) (fun h2 => ?_)
    · refine den_cond (fun _ => ?_) ?_
      · simp [E.den]; omega
      refine ⟨⟨m - 1, rows, i, sd, ⟨nm', tx, ver, nd ++ [x]⟩⟩, ?_, ⟨hr, hi, by simp only; omega, by simp; omega, htx⟩, by simp only; omega⟩
      simp [E.den, EnSt.lay, hms, encS]
    · refine ⟨⟨m - 1, rows, i, sd, ⟨nm', tx, ver, nd⟩⟩, ?_, ⟨hr, hi, by simp only; omega, by simp only; omega, htx⟩, by simp only; omega⟩
      simp [E.den, EnSt.lay, hms]
  · exact ⟨⟨⟨nm', tx, ver, nd⟩, rfl, htx, by simp only; omega⟩, _, _, _, rfl, hr, hi⟩
theorem en_ty {r : D} (h : ∃ e : Entry, r = enc e ∧ e.recipe.length ≤ 5 ∧ e.needs.length ≤ 3) : HasVT tbl.tab (.one (.agg [.str, .sl 9, .int .i64, .int .i64, .sl 42])) r := by obtain ⟨n, rfl, _⟩ := h; exact ty_Entry n
theorem d_l6Any : DrR 51 [] isEn [(1, 1), (4, 4)] := by
  refine DrR.of vc_spec_l6Any_ok rt_spec_l6Any_ok rfl ty_spec_l6Any_ok (fun cs h => by exact cur_tys h) (enc (default : Entry)) ⟨_, rfl, by decide, by decide⟩ fun rows i sd f1 hl hr hi => ?_; (simp only [List.cons_append, List.nil_append]); unfold vc_spec_l6Any
  ((first | apply den_draw | apply den_drawR); (focus (simp only [VC.den, E.den, dEq, gsH_nil, and_true]; try exact rfl)); (focus (simp only [VC.den, E.den, dEq, gsH_nil, and_true]; try exact rfl)); (focus (exact ⟨_, _, _, rfl, by assumption, by assumption⟩)); (focus (first | exact d_l6Name | exact Dr.ofR (d_l6Name))); (focus (exact fun _ h => isS.ty h)); rintro _ rows i sd ⟨s, rfl⟩ hr hi; (simp only [List.cons_append, List.nil_append]))
  ((first | apply den_draw | apply den_drawR); (focus (simp only [VC.den, E.den, dEq, gsH_nil, and_true]; try exact rfl)); (focus (simp only [VC.den, E.den, dEq, gsH_nil, and_true]; try exact rfl)); (focus (exact ⟨_, _, _, rfl, by assumption, by assumption⟩)); (focus (first | exact d_l6Draw s | exact Dr.ofR (d_l6Draw s))); (focus (exact fun _ h => en_ty h)); rintro _ rows i sd ⟨e, rfl, h1, h2⟩ hr hi; (simp only [List.cons_append, List.nil_append]))
  ((first | apply den_draw | apply den_drawR); (focus (simp only [VC.den, E.den, dEq, gsH_nil, and_true]; try exact rfl)); (focus (simp only [VC.den, E.den, dEq, gsH_nil, and_true]; try exact rfl)); (focus (exact ⟨_, _, _, rfl, by assumption, by assumption⟩)); (focus (first | exact d_l1Below _ | exact Dr.ofR (d_l1Below _))); (focus (exact fun _ h => isBel.ty h)); rintro _ rows i sd ⟨y, rfl, hy⟩ hr hi; (simp only [List.cons_append, List.nil_append]))
  refine den_ite (fun h => ?_) (fun h => ?_)
  · ((first | apply den_draw | apply den_drawR); (focus (simp only [VC.den, E.den, dEq, gsH_nil, and_true]; try exact rfl)); (focus (simp only [VC.den, E.den, dEq, gsH_nil, and_true]; try exact rfl)); (focus (exact ⟨_, _, _, rfl, by assumption, by assumption⟩)); (focus (first | exact d_l1Word | exact Dr.ofR (d_l1Word))); (focus (exact fun _ h => isS.ty h)); rintro _ rows i sd ⟨s', rfl⟩ hr hi; (simp only [List.cons_append, List.nil_append]))
    exact ⟨⟨⟨s', e.recipe, e.ver, e.needs⟩, rfl, by simp only [Entry.few]; omega⟩, _, _, _, rfl, hr, hi⟩
  refine den_ite (fun h => ?_) (fun h => ?_)
  · ((first | apply den_draw | apply den_drawR); (focus (simp only [VC.den, E.den, dEq, gsH_nil, and_true]; try exact rfl)); (focus (simp only [VC.den, E.den, dEq, gsH_nil, and_true]; try exact rfl)); (focus (exact ⟨_, _, _, rfl, by assumption, by assumption⟩)); (focus (first | exact d_l4Recipe | exact Dr.ofR (d_l4Recipe))); (focus (exact fun _ h => isTx.ty h)); rintro _ rows i sd ⟨tx, rfl, htx⟩ hr hi; (simp only [List.cons_append, List.nil_append]))
    exact ⟨⟨⟨e.name, tx, e.ver, e.needs⟩, rfl, by simp only [Entry.few]; omega⟩, _, _, _, rfl, hr, hi⟩
  refine den_ite (fun h => ?_) (fun h => ?_)
  · ((first | apply den_draw | apply den_drawR); (focus (simp only [VC.den, E.den, dEq, gsH_nil, and_true]; try exact rfl)); (focus (simp only [VC.den, E.den, dEq, gsH_nil, and_true]; try exact rfl)); (focus (exact ⟨_, _, _, rfl, by assumption, by assumption⟩)); (focus (first | exact d_l5Any | exact Dr.ofR (d_l5Any))); (focus (exact fun _ h => isV.ty h)); rintro _ rows i sd ⟨v, rfl⟩ hr hi; (simp only [List.cons_append, List.nil_append]))
    exact ⟨⟨⟨e.name, e.recipe, v, e.needs⟩, rfl, by simp only [Entry.few]; omega⟩, _, _, _, rfl, hr, hi⟩
  refine den_ite (fun h => ?_) (fun h => ?_)
  · ((first | apply den_draw | apply den_drawR); (focus (simp only [VC.den, E.den, dEq, gsH_nil, and_true]; try exact rfl)); (focus (simp only [VC.den, E.den, dEq, gsH_nil, and_true]; try exact rfl)); (focus (exact ⟨_, _, _, rfl, by assumption, by assumption⟩)); (focus (first | exact d_l6NeedDraw | exact Dr.ofR (d_l6NeedDraw))); (focus (exact fun _ h => isN.ty h)); rintro _ rows i sd ⟨n1, rfl⟩ hr hi; (simp only [List.cons_append, List.nil_append]))
    ((first | apply den_draw | apply den_drawR); (focus (simp only [VC.den, E.den, dEq, gsH_nil, and_true]; try exact rfl)); (focus (simp only [VC.den, E.den, dEq, gsH_nil, and_true]; try exact rfl)); (focus (exact ⟨_, _, _, rfl, by assumption, by assumption⟩)); (focus (first | exact d_l6NeedDraw | exact Dr.ofR (d_l6NeedDraw))); (focus (exact fun _ h => isN.ty h)); rintro _ rows i sd ⟨n2, rfl⟩ hr hi; (simp only [List.cons_append, List.nil_append]))
    refine den_cond (fun _ => ?_) ?_
    · simp [E.den, cells_Entry]; omega
    exact ⟨⟨⟨e.name, e.recipe, e.ver, e.needs ++ [n1, n2]⟩, by simp [E.den, enc, cells_Entry, encS], by simp only [Entry.few, List.length_append, List.length_cons, List.length_nil]; omega⟩, _, _, _, rfl, hr, hi⟩
  · exact ⟨⟨e, rfl, by simp only [Entry.few]; omega⟩, _, _, _, rfl, hr, hi⟩
def isEs (r : D) : Prop := ∃ l : List Entry, r = encS l ∧ l.length ≤ 8 ∧ ∀ e ∈ l, e.few
theorem isEs.ty {r : D} (h : isEs r) : HasVT tbl.tab (.one (.c (.sl 30))) r := by obtain ⟨n, rfl, _⟩ := h; exact ty_EntryS n
structure E6St where
  l : List Entry
  k : Nat
  rows : List (List D)
  i : Int
  h : Int
def E6St.lay (s : E6St) : List D := [encS s.l, .int .i64 s.k, .sl s.rows, .int .i64 s.i, .int .i64 s.h]
def sixN : List ByteArray := [⟨#[97]⟩, ⟨#[98]⟩, ⟨#[99]⟩, ⟨#[100]⟩, ⟨#[101]⟩, ⟨#[102]⟩]
theorem d_l6Set : DrR 65 [] (fun r => ∃ l : List Entry, r = encS l ∧ l.length ≤ 6 ∧ ∀ e ∈ l, e.few) [(0, 5)] := by
  refine DrR.of vc_spec_l6Set_ok rt_spec_l6Set_ok rfl ty_spec_l6Set_ok (fun cs h => by exact cur_tys h) (encS ([] : List Entry)) ⟨_, rfl, by simp, by simp⟩ fun rows i sd f1 hl hr hi => ?_; (simp only [List.cons_append, List.nil_append]); unfold vc_spec_l6Set
  ((first | apply den_draw | apply den_drawR); (focus (simp only [VC.den, E.den, dEq, gsH_nil, and_true]; try exact rfl)); (focus (simp only [VC.den, E.den, dEq, gsH_nil, and_true]; try exact rfl)); (focus (exact ⟨_, _, _, rfl, by assumption, by assumption⟩)); (focus (first | exact d_l1Below _ | exact Dr.ofR (d_l1Below _))); (focus (exact fun _ h => isBel.ty h)); rintro _ rows i sd ⟨n, rfl, hn⟩ hr hi; (simp only [List.cons_append, List.nil_append]))
  have hn2 := hn.2 (by omega)
  obtain ⟨n, rfl⟩ : ∃ m : Nat, n = m := ⟨n.toNat, by omega⟩
  have hn6 : n ≤ 6 := by omega
  have hcut : cutD (.sl [[.str ⟨#[97]⟩], [.str ⟨#[98]⟩], [.str ⟨#[99]⟩], [.str ⟨#[100]⟩], [.str ⟨#[101]⟩], [.str ⟨#[102]⟩]]) 0 (n : Int) = encS (sixN.take n) := by
    simp [cutD, sixN, encS, cells_str, List.map_take]
  refine den_cond (fun _ => ?_) ?_
  · simp [E.den, lenD]; omega
  refine den_loop E6St E6St.lay (fun s => RowsTy tbl.tab [.int .u8] s.rows ∧ 0 ≤ s.i ∧ s.k ≤ n ∧ s.l.length = s.k ∧ ∀ e ∈ s.l, e.few) (fun s => n - s.k) ⟨[], 0, rows, i, sd⟩ (fun s s' h => by simp [E6St.lay] at h; omega) rfl ⟨hr, hi, by simp, rfl, by simp⟩ ?_
  rintro ⟨l, k, rows, i, sd⟩ ⟨hr, hi, hk, hlk, hfew⟩ -
  simp only at hr hi hk hlk hfew
  simp only [E6St.lay, List.cons_append, List.nil_append]
  have hlen : (sixN.take n).length = n := by simp [sixN]; omega
  refine den_ite (fun h => ?_) (fun h => ?_)
  · simp only [E.den, dEq, iEq, sEq, List.nil_append, List.map_cons, List.map_nil, hcut, hlen] at h
    have hkn : k < n := by simp at h; exact h
    refine den_cond (fun _ => ?_) ?_
    · simp only [E.den, dEq, iEq, sEq, List.nil_append, List.map_cons, List.map_nil, hcut, hlen]
      simp; omega
    ((first | apply den_draw | apply den_drawR); (focus (simp only [VC.den, E.den, dEq, gsH_nil, and_true, List.nil_append, hcut, hlen, row_str, cells_str]; try exact rfl)); (focus (simp only [VC.den, E.den, dEq, gsH_nil, and_true, List.nil_append, hcut, hlen, row_str, cells_str]; try exact rfl)); (focus (exact ⟨_, _, _, rfl, by assumption, by assumption⟩)); (focus (first | exact d_l6Draw (nth (sixN.take n) k) | exact Dr.ofR (d_l6Draw (nth (sixN.take n) k)))); (focus (exact fun _ h => en_ty h)); rintro _ rows i sd ⟨e, rfl, h1, h2⟩ hr hi; (simp only [List.cons_append, List.nil_append]))
    refine den_cond (fun _ => ?_) ?_
    · simp [E.den]; omega
    refine ⟨⟨l ++ [e], k + 1, rows, i, sd⟩, ?_, ⟨hr, hi, by simp only; omega, by simp; omega, ?_⟩, by simp only; omega⟩
    · simp [E.den, E6St.lay, encS]
      rw [ar_add (by omega) (by omega)]
    · intro e' he'
      rcases List.mem_append.1 he' with h | h
      · exact hfew e' h
      · simp at h; subst h; simp only [Entry.few]; omega
  · exact ⟨⟨l, rfl, by omega, hfew⟩, _, _, _, rfl, hr, hi⟩
theorem es6_ty {r : D} (h : ∃ l : List Entry, r = encS l ∧ l.length ≤ 6 ∧ ∀ e ∈ l, e.few) : HasVT tbl.tab (.one (.c (.sl 30))) r := by obtain ⟨n, rfl, _⟩ := h; exact ty_EntryS n
theorem d_l6List : DrR 50 [] isEs [(0, 5)] := by
  refine DrR.of vc_spec_l6List_ok rt_spec_l6List_ok rfl ty_spec_l6List_ok (fun cs h => by exact cur_tys h) (encS ([] : List Entry)) ⟨_, rfl, by simp, by simp⟩ fun rows i sd f1 hl hr hi => ?_; (simp only [List.cons_append, List.nil_append]); unfold vc_spec_l6List
  ((first | apply den_draw | apply den_drawR); (focus (simp only [VC.den, E.den, dEq, gsH_nil, and_true]; try exact rfl)); (focus (simp only [VC.den, E.den, dEq, gsH_nil, and_true]; try exact rfl)); (focus (exact ⟨_, _, _, rfl, by assumption, by assumption⟩)); (focus (first | exact d_l6Set | exact Dr.ofR (d_l6Set))); (focus (exact fun _ h => es6_ty h)); rintro _ rows i sd ⟨l, rfl, hl6, hf⟩ hr hi; (simp only [List.cons_append, List.nil_append]))
  ((first | apply den_draw | apply den_drawR); (focus (simp only [VC.den, E.den, dEq, gsH_nil, and_true]; try exact rfl)); (focus (simp only [VC.den, E.den, dEq, gsH_nil, and_true]; try exact rfl)); (focus (exact ⟨_, _, _, rfl, by assumption, by assumption⟩)); (focus (first | exact d_l1Below _ | exact Dr.ofR (d_l1Below _))); (focus (exact fun _ h => isBel.ty h)); rintro _ rows i sd ⟨y, rfl, hy⟩ hr hi; (simp only [List.cons_append, List.nil_append]))
  refine den_ite (fun h => ?_) (fun h => ?_)
  · ((first | apply den_draw | apply den_drawR); (focus (simp only [VC.den, E.den, dEq, gsH_nil, and_true]; try exact rfl)); (focus (simp only [VC.den, E.den, dEq, gsH_nil, and_true]; try exact rfl)); (focus (exact ⟨_, _, _, rfl, by assumption, by assumption⟩)); (focus (first | exact d_l6Any | exact Dr.ofR (d_l6Any))); (focus (exact fun _ h => isEn.ty h)); rintro _ rows i sd ⟨e, rfl, he⟩ hr hi; (simp only [List.cons_append, List.nil_append]))
    refine den_cond (fun _ => ?_) ?_
    · simp [E.den]; omega
    refine ⟨⟨l ++ [e], by simp [E.den, encS], by simp; omega, fun e' he' => ?_⟩, _, _, _, rfl, hr, hi⟩
    rcases List.mem_append.1 he' with h | h
    · exact hf e' h
    · simp at h; subst h; exact he
  refine den_ite (fun h => ?_) (fun h => ?_)
  · ((first | apply den_draw | apply den_drawR); (focus (simp only [VC.den, E.den, dEq, gsH_nil, and_true]; try exact rfl)); (focus (simp only [VC.den, E.den, dEq, gsH_nil, and_true]; try exact rfl)); (focus (exact ⟨_, _, _, rfl, by assumption, by assumption⟩)); (focus (first | exact d_l6Draw _ | exact Dr.ofR (d_l6Draw _))); (focus (exact fun _ h => en_ty h)); rintro _ rows i sd ⟨e, rfl, h1, h2⟩ hr hi; (simp only [List.cons_append, List.nil_append]))
    ((first | apply den_draw | apply den_drawR); (focus (simp only [VC.den, E.den, dEq, gsH_nil, and_true]; try exact rfl)); (focus (simp only [VC.den, E.den, dEq, gsH_nil, and_true]; try exact rfl)); (focus (exact ⟨_, _, _, rfl, by assumption, by assumption⟩)); (focus (first | exact d_l6Draw _ | exact Dr.ofR (d_l6Draw _))); (focus (exact fun _ h => en_ty h)); rintro _ rows i sd ⟨e2, rfl, h3, h4⟩ hr hi; (simp only [List.cons_append, List.nil_append]))
    refine den_cond (fun _ => ?_) ?_
    · simp [E.den]; omega
    refine ⟨⟨l ++ [e, e2], by simp [E.den, encS], by simp; omega, fun e' he' => ?_⟩, _, _, _, rfl, hr, hi⟩
    rcases List.mem_append.1 he' with h | h
    · exact hf e' h
    · simp at h; rcases h with rfl | rfl <;> (simp only [Entry.few]; omega)
  · exact ⟨⟨l, rfl, by omega, hf⟩, _, _, _, rfl, hr, hi⟩
theorem d_DrawAddEntry {rows : List (List D)} (hr : RowsTy tbl.tab [.int .u8] rows) : ∃ r, (∃ (l : List Entry) (e : Entry), r = .tup [encS l, enc e] ∧ l.length ≤ 8 ∧ (∀ x ∈ l, x.few) ∧ e.few) ∧ FunR Try.prog 16 none [.sl rows] r [] [(0, 5), (2, 1), (5, 4)] := by
  refine FunR.exV vc_spec_DrawAddEntry_ok rt_spec_DrawAddEntry_ok rfl ty_spec_DrawAddEntry_ok ⟨by show RowsTy _ (tbl.tab _) _; rw [tab_u8]; exact hr, trivial⟩ (.tup [encS ([] : List Entry), enc (default : Entry)]) ⟨_, _, rfl, by simp, by simp, by decide, by decide⟩ fun hfit => ?_; unfold vc_spec_DrawAddEntry
  refine den_newc rfl hr fun sd => ?_
  have hi : (0 : Int) ≤ 0 := Int.le_refl _
  ((first | apply den_draw | apply den_drawR); (focus (simp only [VC.den, E.den, dEq, gsH_nil, and_true]; try exact rfl)); (focus (simp only [VC.den, E.den, dEq, gsH_nil, and_true]; try exact rfl)); (focus (exact ⟨_, _, _, rfl, by assumption, by assumption⟩)); (focus (first | exact d_l6List | exact Dr.ofR (d_l6List))); (focus (exact fun _ h => isEs.ty h)); rintro _ rows i sd ⟨l, rfl, h1, h2⟩ hr hi; (simp only [List.cons_append, List.nil_append]))
  ((first | apply den_draw | apply den_drawR); (focus (simp only [VC.den, E.den, dEq, gsH_nil, and_true]; try exact rfl)); (focus (simp only [VC.den, E.den, dEq, gsH_nil, and_true]; try exact rfl)); (focus (exact ⟨_, _, _, rfl, by assumption, by assumption⟩)); (focus (first | exact d_l6Any | exact Dr.ofR (d_l6Any))); (focus (exact fun _ h => isEn.ty h)); rintro _ rows i sd ⟨e, rfl, he⟩ hr hi; (simp only [List.cons_append, List.nil_append]))
  exact ⟨⟨l, e, rfl, h1, h2, he⟩, rfl⟩
theorem ty_AE {r : D} (h : ∃ (l : List Entry) (e : Entry), r = .tup [encS l, enc e] ∧ l.length ≤ 8 ∧ (∀ x ∈ l, x.few) ∧ e.few) : HasVT tbl.tab (.tup [.c (.sl 30), .agg [.str, .sl 9, .int .i64, .int .i64, .sl 42]]) r := by
  obtain ⟨a, b, rfl, _⟩ := h; exact ⟨ty_EntryS a, ty_Entry b, trivial⟩
theorem code_arg {Γ : List VT} (hΓ : Γ = [.one (.c (.sl 5))]) {ds : List D} (h : HasTys tbl.tab Γ ds) : ∃ rows, ds = [.sl rows] ∧ RowsTy tbl.tab (tbl.tab 5) rows ∧ RowsTy tbl.tab [.int .u8] rows := by
  subst hΓ
  match ds, h with
  | [d], h => obtain ⟨rows, rfl, hr⟩ := hasTy_sl h.1; exact ⟨rows, rfl, hr, by rwa [tab_u8] at hr⟩
end Go.Proofs.Ythoafgehfgblaaa
