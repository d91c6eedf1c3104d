/- What the reference draws for registries: names, needs, recipes, entries, lists of entries. -/
import Derived.Test.YtbgcaneflfdddaaGreatDoorE10
import Derived.Lib.Split
import Derived.Lib.Join
import Derived.Lib.Atoi
import Derived.Lib.ItoaNum
import Derived.Shelf.Strings.Builder1
import Derived.Shelf.Strings.Builder2
import Derived.Shelf.Strings.OnBuilder
import Derived.Shelf.Strconv.Atoi
import Derived.Shelf.Strconv.Itoa0
import Derived.Shelf.Strconv.Itoa1
import Derived.Shelf.LaysM
import Derived.Shelf.Strconv.Itoa2
import Derived.Shelf.Strconv.Itoa3
import Derived.Shelf.Strconv.AtoiErrFast
import Derived.Shelf.Strconv.ParseIntEmpty
import Derived.Shelf.Strconv.AtoiFail
import Derived.Shelf.Strconv.Clone
import Derived.Shelf.Strconv.SyntaxError
import Derived.Shelf.LaysC
import Derived.Shelf.Strconv.ToError
import Derived.Shelf.Strconv.AtoiErr
import Derived.Shelf.Strconv.ErrVar
import Derived.Shelf.Strconv.Lower
import Derived.Shelf.Strconv.ParseUint10
import Derived.Shelf.Strconv.ParseUint10Empty
import Derived.Shelf.Strconv.ParseUint10Any
import Derived.Shelf.Strconv.ParseInt10
import Derived.Shelf.Strconv.AtoiLong
import Derived.Shelf.Strconv.AtoiInnerAll
import Derived.Shelf.Strconv.RangeError
import Derived.Shelf.Strconv.ToErrorRange
import Derived.Shelf.Strconv.AtoiAll
import Derived.Shelf.Strconv.ErrVarAll
import Derived.Shelf.Strings.Search1
import Derived.Shelf.Strings.Search2
import Derived.Shelf.Strings.Search3
import Derived.Shelf.Strings.Cut
import Derived.Shelf.Strings.Count
import Derived.Shelf.Strings.Shaped
import Derived.Shelf.Strings.Split
import Derived.Shelf.Strings.SplitShaped
import Derived.Shelf.Unicode.DecodeSlow
import Derived.Test.YtbgcaneflfdddaaGreatDoorProg
set_option linter.unusedVariables false
set_option linter.unusedSimpArgs false
set_option maxRecDepth 100000
set_option linter.unusedSectionVars false
namespace Go.Proofs.YtbgcaneflfdddaaGreatDoor
open Go.RowKit Go
variable [GC]
def isS (r : D) : Prop := ∃ s : ByteArray, r = .str s
theorem isS.ty {r : D} (h : isS r) : HasVT tbl.tab (.one (.c .str)) r := by obtain ⟨x, rfl⟩ := h; trivial
def strRow : List D → Bool
 | [.str _] => true
 | _ => false
theorem strRow_ok {r : List D} (h : strRow r = true) : ∃ s, r = [.str s] := by
 match r, h with
 | [.str s], _ => exact ⟨s, rfl⟩
theorem d_l1Str (rows0 : List (List D)) (h0 : 0 < rows0.length) (hs : rows0.all strRow = true) : Dr 125 [.sl rows0] isS := by
 have hs' : ∀ r ∈ rows0, ∃ s, r = [.str s] := fun r hr => strRow_ok (List.all_eq_true.1 hs r hr)
 have hty : HasVT tbl.tab (.one (.c (.sl 9))) (.sl rows0) := by
  show RowsTy _ (tbl.tab _) _
  rw [tab_str]
  exact RowsTy.of fun r hr => by obtain ⟨s, rfl⟩ := hs' r hr; exact ⟨trivial, trivial⟩
 refine Dr.of vc_spec_l1Str_ok rfl ty_spec_l1Str_ok (fun cs h => by exact ⟨hty, cur_tys h⟩) (.str noText) ⟨_, rfl⟩ fun rows i sd f1 hl hr hi => ?_; (simp only [cA]); unfold vc_spec_l1Str
 have hn : (rows0.length : Int) ≤ 9223372036854775807 := by
  simp [FitsL, Fits, maxLen] at f1; omega
 (apply den_draw; (focus (simp only [VC.den, E.den, dEq, gsH_nil, and_true, lenD]; try exact rfl)); (focus (simp only [VC.den, E.den, dEq, gsH_nil, and_true, lenD]; try exact rfl)); (focus (exact ⟨_, _, _, rfl, by assumption, by assumption⟩)); (focus (first | exact d_l1Below rows0.length | exact Dr.ofR (d_l1Below rows0.length))); (focus (exact fun _ h => isBel.ty h)); rintro _ rows i sd ⟨x, rfl, hx⟩ hr hi; (simp only [cA]))
 refine den_cond (fun _ => ?_) ?_
 ·simp [E.den, lenD]; omega
 have hx2 := hx.2 (by omega)
 have e : rows0[x.toNat]? = some rows0[x.toNat] := List.getElem?_eq_getElem (by omega)
 obtain ⟨s, hs1⟩ := hs' _ (List.getElem_mem (show x.toNat < rows0.length by omega))
 refine ⟨⟨s, ?_⟩, _, _, _, rfl, hr, hi⟩
 simp [E.den, e, hs1]
theorem d_l1Word : Dr 124 [] isS := by
 refine Dr.of vc_spec_l1Word_ok rfl ty_spec_l1Word_ok (fun cs h => by exact cur_tys h) (.str noText) ⟨_, rfl⟩ fun rows i sd f1 hl hr hi => ?_; (simp only [cA]); unfold vc_spec_l1Word
 (apply den_draw; (iterate 2 (focus (simp only [VC.den, E.den, dEq, gsH_nil, and_true]; try exact rfl))); (focus (exact ⟨_, _, _, rfl, by assumption, by assumption⟩)); (focus (first | exact d_l1Str _ (by decide) rfl | exact Dr.ofR (d_l1Str _ (by decide) rfl))); (focus (exact fun _ h => isS.ty h)); rintro _ rows i sd ⟨s, rfl⟩ hr hi; (simp only [cA]))
 exact ⟨⟨_, rfl⟩, _, _, _, rfl, hr, hi⟩
theorem d_l3Kind : Dr 121 [] isS := by
 refine Dr.of vc_spec_l3Kind_ok rfl ty_spec_l3Kind_ok (fun cs h => by exact cur_tys h) (.str noText) ⟨_, rfl⟩ fun rows i sd f1 hl hr hi => ?_; (simp only [cA]); unfold vc_spec_l3Kind
 (apply den_draw; (iterate 2 (focus (simp only [VC.den, E.den, dEq, gsH_nil, and_true]; try exact rfl))); (focus (exact ⟨_, _, _, rfl, by assumption, by assumption⟩)); (focus (first | exact d_l1Once _ | exact Dr.ofR (d_l1Once _))); (focus (exact fun _ h => isB.ty h)); rintro _ rows i sd ⟨b, rfl⟩ hr hi; (simp only [cA]))
 refine den_ite (fun h => ?_) (fun h => ?_)
 ·(apply den_draw; (iterate 2 (focus (simp only [VC.den, E.den, dEq, gsH_nil, and_true]; try exact rfl))); (focus (exact ⟨_, _, _, rfl, by assumption, by assumption⟩)); (focus (first | exact d_l1Str _ (by decide) rfl | exact Dr.ofR (d_l1Str _ (by decide) rfl))); (focus (exact fun _ h => isS.ty h)); rintro _ rows i sd ⟨s, rfl⟩ hr hi; (simp only [cA]))
  exact ⟨⟨_, rfl⟩, _, _, _, rfl, hr, hi⟩
 ·(apply den_draw; (iterate 2 (focus (simp only [VC.den, E.den, dEq, gsH_nil, and_true]; try exact rfl))); (focus (exact ⟨_, _, _, rfl, by assumption, by assumption⟩)); (focus (first | exact d_l1Str _ (by decide) rfl | exact Dr.ofR (d_l1Str _ (by decide) rfl))); (focus (exact fun _ h => isS.ty h)); rintro _ rows i sd ⟨s, rfl⟩ hr hi; (simp only [cA]))
  exact ⟨⟨_, rfl⟩, _, _, _, rfl, hr, hi⟩
theorem d_l4Name : Dr 102 [] isS := by
 refine Dr.of vc_spec_l4Name_ok rfl ty_spec_l4Name_ok (fun cs h => by exact cur_tys h) (.str noText) ⟨_, rfl⟩ fun rows i sd f1 hl hr hi => ?_; (simp only [cA]); unfold vc_spec_l4Name
 (apply den_draw; (iterate 2 (focus (simp only [VC.den, E.den, dEq, gsH_nil, and_true]; try exact rfl))); (focus (exact ⟨_, _, _, rfl, by assumption, by assumption⟩)); (focus (first | exact d_l1Once _ | exact Dr.ofR (d_l1Once _))); (focus (exact fun _ h => isB.ty h)); rintro _ rows i sd ⟨b, rfl⟩ hr hi; (simp only [cA]))
 refine den_ite (fun h => ?_) (fun h => ?_)
 ·(apply den_draw; (iterate 2 (focus (simp only [VC.den, E.den, dEq, gsH_nil, and_true]; try exact rfl))); (focus (exact ⟨_, _, _, rfl, by assumption, by assumption⟩)); (focus (first | exact d_l1Str _ (by decide) rfl | exact Dr.ofR (d_l1Str _ (by decide) rfl))); (focus (exact fun _ h => isS.ty h)); rintro _ rows i sd ⟨s, rfl⟩ hr hi; (simp only [cA]))
  exact ⟨⟨_, rfl⟩, _, _, _, rfl, hr, hi⟩
 ·(apply den_draw; (iterate 2 (focus (simp only [VC.den, E.den, dEq, gsH_nil, and_true]; try exact rfl))); (focus (exact ⟨_, _, _, rfl, by assumption, by assumption⟩)); (focus (first | exact d_l1Str _ (by decide) rfl | exact Dr.ofR (d_l1Str _ (by decide) rfl))); (focus (exact fun _ h => isS.ty h)); rintro _ rows i sd ⟨s, rfl⟩ hr hi; (simp only [cA]))
  exact ⟨⟨_, rfl⟩, _, _, _, rfl, hr, hi⟩
structure FtSt where
 s : ByteArray
 k : Nat
 rows : List (List D)
 i : Int
 h : Int
def FtSt.lay (s : FtSt) : List D := [.str s.s, .int .i64 s.k, .sl s.rows, .int .i64 s.i, .int .i64 s.h]
theorem d_l4Fitting (f : Int) : Dr 88 [.int .i64 f] isS := by
 refine Dr.of vc_spec_l4Fitting_ok rfl ty_spec_l4Fitting_ok (fun cs h => by exact ⟨rfl, cur_tys h⟩) (.str noText) ⟨_, rfl⟩ fun rows i sd f1 hl hr hi => ?_; (simp only [cA]); unfold vc_spec_l4Fitting
 (apply den_draw; (iterate 2 (focus (simp only [VC.den, E.den, dEq, gsH_nil, and_true]; try exact rfl))); (focus (exact ⟨_, _, _, rfl, by assumption, by assumption⟩)); (focus (first | exact d_l4Name | exact Dr.ofR (d_l4Name))); (focus (exact fun _ h => isS.ty h)); rintro _ rows i sd ⟨s, rfl⟩ hr hi; (simp only [cA]))
 refine den_loop FtSt FtSt.lay (fun s => s.k ≤ 6 ∧ RowsTy tbl.tab [.int .u8] s.rows ∧ 0 ≤ s.i) (fun s => 6 - s.k) ⟨s, 0, rows, i, sd⟩ (fun s s' h => by simp [FtSt.lay] at h; omega) rfl ⟨by simp, hr, hi⟩ ?_
 rintro ⟨s, k, rows, i, sd⟩ ⟨hk, hr, hi⟩ -
 simp only at hk hr hi
 simp only [FtSt.lay, List.cons_append, List.nil_append]
 refine den_ite (fun h => ?_) (fun h => ?_)
 ·simp [E.den, cmpI] at h
  (refine den_call ?_ (c_spec_LayerNeeds s) (⟨rfl, trivial, trivial⟩) ?_; (focus (simp only [VC.den, E.den, dEq, gsH_nil, and_true]; try exact rfl)); (simp only [cA]))
  (refine den_call ?_ (c_spec_Offers f (needN s)) (trivial) ?_; (focus (simp only [VC.den, E.den, dEq, gsH_nil, and_true]; try exact rfl)); (simp only [cA]))
  refine den_ite (fun h2 => ?_) (fun h2 => ?_)
  ·exact ⟨⟨_, rfl⟩, _, _, _, rfl, hr, hi⟩
  (apply den_draw; (iterate 2 (focus (simp only [VC.den, E.den, dEq, gsH_nil, and_true]; try exact rfl))); (focus (exact ⟨_, _, _, rfl, by assumption, by assumption⟩)); (focus (first | exact d_l4Name | exact Dr.ofR (d_l4Name))); (focus (exact fun _ h => isS.ty h)); rintro _ rows i sd ⟨s', rfl⟩ hr hi; (simp only [cA]))
  refine ⟨⟨s', k + 1, rows, i, sd⟩, ?_, ⟨by simp only; omega, hr, hi⟩, by simp only; omega⟩
  simp [E.den, FtSt.lay]
  rw [ar_add (by omega) (by omega)]
 ·exact ⟨⟨_, rfl⟩, _, _, _, rfl, hr, hi⟩
theorem code_arg {Γ : List VT} (hΓ : Γ = [.one (.c (.sl 5))]) {ds : List D} (h : HasTys tbl.tab Γ ds) : ∃ rows, ds = [.sl rows] ∧ RowsTy tbl.tab (tbl.tab 5) rows ∧ RowsTy tbl.tab [.int .u8] rows := by
 subst hΓ
 match ds, h with
 | [d], h => obtain ⟨rows, rfl, hr⟩ := hasTy_sl h.1; exact ⟨rows, rfl, hr, by rwa [tab_u8] at hr⟩
end Go.Proofs.YtbgcaneflfdddaaGreatDoor
/- Whether a list of texts has one; where it stands. -/
namespace Go.Proofs.YtbgcaneflfdddaaGreatDoor
open Go.RowKit Go
variable [GC]
def hasB (l : List ByteArray) (s : ByteArray) : Bool := l.any fun t => decide (t = s)
theorem c_impl_hasText (l : List ByteArray) (s : ByteArray) : Fun Tryz.prog 106 none [encS l, .str s] (.bool (hasB l s)) [] := by
 refine Fun.ofV vc_impl_hasText_ok ty_impl_hasText_ok rfl ?_ (fun hfit => ?_)
 ·exact ⟨ty_strS l, trivial, trivial⟩
 have hl : l.length ≤ 9223372036854775807 := fits_encS hfit.1
 unfold vc_impl_hasText
 refine den_for l.length (fun k => [.int .i64 k]) (fun k => ∀ i, i < k → nth l i ≠ s) rfl (by omega) ?_
 intro k hk hI _
 simp only [cA]
 refine den_ite (fun h2 => ?_) (fun h2 => ?_)
 ·simp only [E.den, dEq, iEq, sEq] at h2
  have h2 : k < l.length := by simp at h2; exact h2
  (refine den_cond (fun hg => ?_) ?_; (focus (simp only [gsH, gE, E.den, dEq, iEq, sEq] at hg ⊢; (try simp only [D.bool.injEq] at hg); (try simp only [D.bool.injEq]); grind)))
  refine den_ite (fun h3 => ?_) (fun h3 => ?_)
  ·simp only [E.den, dEq, iEq, sEq, row_str, cells_str] at h3
   have hb : hasB l s = true := by
    unfold hasB; rw [List.any_eq_true]; refine ⟨s, ?_, by simp⟩
    have : nth l k = s := by grind
    rw [← this, nth, List.getD_eq_getElem?_getD, List.getElem?_eq_getElem h2]; simp
   exact den_ret (by simp [E.den, hb])
  ·simp only [E.den, dEq, iEq, sEq, row_str, cells_str] at h3
   refine den_next h2 ?_ fun i hi => ?_
   ·simp only [E.den, dEq, iEq, sEq]
    rw [ar_add (by omega) (by omega)]; rfl
   ·rcases Nat.lt_or_ge i k with h | h
    ·exact hI i h
    ·obtain rfl : i = k := by omega
     grind
 ·simp only [E.den, dEq, iEq, sEq] at h2
  obtain rfl : k = l.length := by simp at h2; omega
  have hb : hasB l s = false := by
   unfold hasB; rw [List.any_eq_false]; intro t h
   obtain ⟨i, hi, rfl⟩ := List.getElem_of_mem h
   have := hI i hi
   simpa [nth, List.getD_eq_getElem?_getD, hi] using this
  exact den_ret (by simp [E.den, hb])
theorem c_spec_l1HasText (l : List ByteArray) (s : ByteArray) : Fun Tryz.prog 134 none [encS l, .str s] (.bool (hasB l s)) [] := by
 refine Fun.ofV vc_spec_l1HasText_ok ty_spec_l1HasText_ok rfl ?_ (fun hfit => ?_)
 ·exact ⟨ty_strS l, trivial, trivial⟩
 have hl : l.length ≤ 9223372036854775807 := fits_encS hfit.1
 unfold vc_spec_l1HasText
 refine den_for l.length (fun k => [.int .i64 k]) (fun k => ∀ i, i < k → nth l i ≠ s) rfl (by omega) ?_
 intro k hk hI _
 simp only [cA]
 refine den_ite (fun h2 => ?_) (fun h2 => ?_)
 ·simp only [E.den, dEq, iEq, sEq] at h2
  have h2 : k < l.length := by simp at h2; exact h2
  (refine den_cond (fun hg => ?_) ?_; (focus (simp only [gsH, gE, E.den, dEq, iEq, sEq] at hg ⊢; (try simp only [D.bool.injEq] at hg); (try simp only [D.bool.injEq]); grind)))
  refine den_ite (fun h3 => ?_) (fun h3 => ?_)
  ·simp only [E.den, dEq, iEq, sEq, row_str, cells_str] at h3
   have hb : hasB l s = true := by
    unfold hasB; rw [List.any_eq_true]; refine ⟨s, ?_, by simp⟩
    have : nth l k = s := by grind
    rw [← this, nth, List.getD_eq_getElem?_getD, List.getElem?_eq_getElem h2]; simp
   exact den_ret (by simp [E.den, hb])
  ·simp only [E.den, dEq, iEq, sEq, row_str, cells_str] at h3
   refine den_next h2 ?_ fun i hi => ?_
   ·simp only [E.den, dEq, iEq, sEq]
    rw [ar_add (by omega) (by omega)]; rfl
   ·rcases Nat.lt_or_ge i k with h | h
    ·exact hI i h
    ·obtain rfl : i = k := by omega
     grind
 ·simp only [E.den, dEq, iEq, sEq] at h2
  obtain rfl : k = l.length := by simp at h2; omega
  have hb : hasB l s = false := by
   unfold hasB; rw [List.any_eq_false]; intro t h
   obtain ⟨i, hi, rfl⟩ := List.getElem_of_mem h
   have := hI i hi
   simpa [nth, List.getD_eq_getElem?_getD, hi] using this
  exact den_ret (by simp [E.den, hb])
end Go.Proofs.YtbgcaneflfdddaaGreatDoor
/- Methods, wants, calls, events: what the program and the reference compute. -/
namespace Go.Proofs.YtbgcaneflfdddaaGreatDoor
open Go.RowKit Go
variable [GC]
def mStart : ByteArray := ⟨#[83, 116, 97, 114, 116]⟩
def mStop : ByteArray := ⟨#[83, 116, 111, 112]⟩
def mGet : ByteArray := ⟨#[71, 101, 116]⟩
def mPut : ByteArray := ⟨#[80, 117, 116]⟩
def mTell : ByteArray := ⟨#[84, 101, 108, 108]⟩
def mHear : ByteArray := ⟨#[72, 101, 97, 114]⟩
def mLoad : ByteArray := ⟨#[76, 111, 97, 100]⟩
def mSave : ByteArray := ⟨#[83, 97, 118, 101]⟩
def mHeal : ByteArray := ⟨#[72, 101, 97, 108]⟩
def methods : Nat → List ByteArray
 | 0 => [mStart, mStop]
 | 1 => [mGet, mPut]
 | 2 => [mTell]
 | 3 => [mHear]
 | 4 => [mLoad, mSave]
 | 5 => [mHeal]
 | _ => []
theorem meth_index (k : Nat) (hk : k < 6) (v0 v1 v2 v3 v4 v5 : Value) (w : World) : (Instr.index 146 (.agg #[v0, v1, v2, v3, v4, v5]) (.int .i64 k)).run Tryz.prog w = .ok ([v0, v1, v2, v3, v4, v5].getD k (.bool false)) w := by
 obtain rfl | rfl | rfl | rfl | rfl | rfl : k = 0 ∨ k = 1 ∨ k = 2 ∨ k = 3 ∨ k = 4 ∨ k = 5 := by omega
 all_goals kernel_rfl
theorem methods_size : ∀ (k : Fin 6), ∀ s, s ∈ methods k.val → s.size ≤ maxLen := by decide
theorem t_impl_methodsOf (k : Nat) (hk : k < 6) (w : World) (M : Addr → Prop) (hM : ∀ p, M p → p.block < w.heap.size) :
  Calls Tryz.prog 107 #[.int .i64 k] w fun e w' => ∃ v, e = .returned v ∧ R w' M (encS (methods k)) v ∧ Below w.heap.size w w' := by
 have hi := meth_index k hk
 go_enter Tryz.func107, Tryz.ntmps107
 go_wp2
 go_returns
 refine ⟨_, rfl, ?_, by go_grown⟩
 have hz := methods_size ⟨k, hk⟩
 have hm : ∀ n, ∀ o, ¬ M ⟨w.heap.size + n, o, none⟩ := fun n o h => by have := hM _ h; simp at this; omega
 obtain rfl | rfl | rfl | rfl | rfl | rfl : k = 0 ∨ k = 1 ∨ k = 2 ∨ k = 3 ∨ k = 4 ∨ k = 5 := by omega
 ·exact R_strs _ (heap_old (heap_old (heap_old (heap_old (heap_old (heap_new (by simp))))))) rfl rfl (hm 0) hz (by decide)
 ·exact R_strs _ (heap_old (heap_old (heap_old (heap_old (heap_new (by simp)))))) rfl rfl (hm 1) hz (by decide)
 ·exact R_strs _ (heap_old (heap_old (heap_old (heap_new (by simp))))) rfl rfl (hm 2) hz (by decide)
 ·exact R_strs _ (heap_old (heap_old (heap_new (by simp)))) rfl rfl (hm 3) hz (by decide)
 ·exact R_strs _ (heap_old (heap_new (by simp))) rfl rfl (hm 4) hz (by decide)
 ·exact R_strs _ (heap_new (by simp)) rfl rfl (hm 5) hz (by decide)
theorem c_impl_methodsOf (k : Nat) (hk : k < 6) : Fun Tryz.prog 107 none [.int .i64 k] (encS (methods k)) [] := by
 refine Fun.of_calls (by kernel_rfl) fun w M vs hM hr => ?_
 obtain ⟨v, q, rfl, ⟨rfl, _⟩, rfl⟩ := hr
 exact t_impl_methodsOf k hk w M hM
theorem c_spec_l2Methods (k : Nat) (hk : k < 6) : FunR Tryz.prog 135 none [.int .i64 k] (encS (methods k)) [] [(0, 1)] := by
 refine FunR.ofV vc_spec_l2Methods_ok ty_spec_l2Methods_ok rt_spec_l2Methods_ok rfl ?_ (fun hfit => ?_)
 ·exact ⟨rfl, trivial⟩
 unfold vc_spec_l2Methods
 obtain rfl | rfl | rfl | rfl | rfl | rfl : k = 0 ∨ k = 1 ∨ k = 2 ∨ k = 3 ∨ k = 4 ∨ k = 5 := by omega
 all_goals
  simp [VC.den, E.den, cmpI]
  rfl
def abP (s : ByteArray) (k : Nat) : Bool := hasB (methods k) s
def abM (s : ByteArray) : Int := match firstTo (abP s) 6 with | some k => k | none => -1
theorem c_impl_AbilityOfMethod (s : ByteArray) : Fun Tryz.prog 66 none [.str s] (.int .i64 (abM s)) [] := by
 refine Fun.ofV vc_impl_AbilityOfMethod_ok ty_impl_AbilityOfMethod_ok rfl ?_ (fun hfit => ?_)
 ·exact ⟨trivial, trivial⟩
 unfold vc_impl_AbilityOfMethod
 refine den_for 6 (fun k => [.int .i64 k]) (fun k => ∀ i, i < k → abP s i = false) rfl (by omega) ?_
 intro k hk hI _
 simp only [cA]
 refine den_ite (fun h2 => ?_) (fun h2 => ?_)
 ·simp only [E.den, dEq, iEq, sEq] at h2
  have h2 : k < 6 := by simp at h2; omega
  (refine den_call ?_ (c_impl_methodsOf k h2) (ty_strS _) ?_; (focus (simp only [VC.den, E.den, dEq, gsH_nil, and_true]; try exact rfl)); (simp only [cA]))
  (refine den_call ?_ (c_impl_hasText (methods k) s) (trivial) ?_; (focus (simp only [VC.den, E.den, dEq, gsH_nil, and_true]; try exact rfl)); (simp only [cA]))
  refine den_ite (fun h3 => ?_) (fun h3 => ?_)
  ·simp only [E.den, dEq, iEq, sEq] at h3
   refine den_ret ?_
   simp [E.den, abM, firstTo_some h3 hI h2]
  ·simp only [E.den, dEq, iEq, sEq] at h3
   refine den_next h2 ?_ fun i hi => ?_
   ·simp only [E.den, dEq, iEq, sEq]
    rw [ar_add (by omega) (by omega)]; rfl
   ·rcases Nat.lt_or_ge i k with h | h
    ·exact hI i h
    ·obtain rfl : i = k := by omega
     exact h3
 ·simp only [E.den, dEq, iEq, sEq] at h2
  obtain rfl : k = 6 := by simp at h2; omega
  exact den_ret (by simp [E.den, abM, firstTo_none hI])
theorem c_spec_AbilityOfMethod (s : ByteArray) : Fun Tryz.prog 112 none [.str s] (.int .i64 (abM s)) [] := by
 refine Fun.ofV vc_spec_AbilityOfMethod_ok ty_spec_AbilityOfMethod_ok rfl ?_ (fun hfit => ?_)
 ·exact ⟨trivial, trivial⟩
 unfold vc_spec_AbilityOfMethod
 refine den_for 6 (fun k => [.int .i64 k]) (fun k => ∀ i, i < k → abP s i = false) rfl (by omega) ?_
 intro k hk hI _
 simp only [cA]
 refine den_ite (fun h2 => ?_) (fun h2 => ?_)
 ·simp only [E.den, dEq, iEq, sEq] at h2
  have h2 : k < 6 := by simp at h2; omega
  (refine den_callR ?_ (c_spec_l2Methods k h2) (ty_strS _) ?_; (focus (simp only [VC.den, E.den, dEq, gsH_nil, and_true]; try exact rfl)); (simp only [cA]))
  (refine den_call ?_ (c_spec_l1HasText (methods k) s) (trivial) ?_; (focus (simp only [VC.den, E.den, dEq, gsH_nil, and_true]; try exact rfl)); (simp only [cA]))
  refine den_ite (fun h3 => ?_) (fun h3 => ?_)
  ·simp only [E.den, dEq, iEq, sEq] at h3
   refine den_ret ?_
   simp [E.den, abM, firstTo_some h3 hI h2]
  ·simp only [E.den, dEq, iEq, sEq] at h3
   refine den_next h2 ?_ fun i hi => ?_
   ·simp only [E.den, dEq, iEq, sEq]
    rw [ar_add (by omega) (by omega)]; rfl
   ·rcases Nat.lt_or_ge i k with h | h
    ·exact hI i h
    ·obtain rfl : i = k := by omega
     exact h3
 ·simp only [E.den, dEq, iEq, sEq] at h2
  obtain rfl : k = 6 := by simp at h2; omega
  exact den_ret (by simp [E.den, abM, firstTo_none hI])
theorem abM_lt (s : ByteArray) : abM s < 6 := by
 unfold abM
 cases h : firstTo (abP s) 6 with
 | none => simp
 | some k => have := (firstTo_lt h).1; simp; omega
def wantZ (s : ByteArray) : Int := if abM s < 0 then 0 else ((2 ^ (abM s).toNat : Nat) : Int)
theorem c_spec_WantOf (s : ByteArray) : Fun Tryz.prog 75 none [.str s] (.int .i64 (wantZ s)) [] := by
 refine Fun.ofV vc_spec_WantOf_ok ty_spec_WantOf_ok rfl ?_ (fun hfit => ?_)
 ·exact ⟨trivial, trivial⟩
 unfold vc_spec_WantOf
 (refine den_call ?_ (c_spec_AbilityOfMethod s) (rfl) ?_; (focus (simp only [VC.den, E.den, dEq, gsH_nil, and_true]; try exact rfl)); (simp only [cA]))
 refine den_ite (fun h => ?_) (fun h => ?_)
 ·simp only [E.den, dEq, iEq, sEq] at h
  have h : abM s < 0 := by simpa using h
  exact den_ret (by simp [E.den, wantZ, h])
 simp only [E.den, dEq, iEq, sEq] at h
 have h : ¬ abM s < 0 := by simpa using h
 have h6 := abM_lt s
 refine den_cond (fun _ => ?_) (den_ret ?_)
 ·simp [E.den, cmpI]; omega
 ·have e := allow_shl ⟨(abM s).toNat, by omega⟩
  have e2 : (((abM s).toNat : Nat) : Int) = abM s := by omega
  rw [e2] at e
  simp only [E.den, dEq, iEq, sEq, e]
  simp [wantZ, h]
def callB (c : Call) : Bool := !decide (abM c.method < 0) && (decide (c.text = noText) || decide (c.method = mLoad)) &&
 ((decide (c.method = mGet) || decide (c.method = mPut)) && nameB c.key || !(decide (c.method = mGet) || decide (c.method = mPut)) && decide (c.key = noText)) &&
 (decide (c.val = 0) || (decide (c.method = mPut) || decide (c.method = mHear)) && decide (0 < c.val) && decide (c.val ≤ 999))
theorem m_ne : mGet ≠ mPut ∧ mGet ≠ mHear ∧ mPut ≠ mHear := by decide
theorem c_impl_IsCall (c : Call) : Fun Tryz.prog 21 none [enc c] (.bool (callB c)) [] := by
 refine Fun.ofV vc_impl_IsCall_ok ty_impl_IsCall_ok rfl ?_ (fun hfit => ?_)
 ·exact ⟨ty_Call c, trivial⟩
 have hn := m_ne
 unfold vc_impl_IsCall
 (refine den_call ?_ (c_impl_AbilityOfMethod c.method) (rfl) ?_; (focus (simp only [VC.den, E.den, dEq, gsH_nil, and_true, cells_Call]; try exact rfl)); (simp only [cA]))
 refine den_ite (fun h => ?_) (fun h => ?_)
 ·simp only [E.den, dEq, iEq, sEq, cells_Call] at h
  refine den_ret ?_
  simp only [E.den, D.bool.injEq]
  unfold callB mGet mPut mHear mLoad noText at *; grind
 simp only [E.den, dEq, iEq, sEq, cells_Call] at h
 refine den_ite (fun h1 => ?_) (fun h1 => ?_)
 ·simp only [E.den, dEq, iEq, sEq, cells_Call] at h1
  (refine den_call ?_ (c_impl_IsName c.key) (trivial) ?_; (focus (simp only [VC.den, E.den, dEq, gsH_nil, and_true, cells_Call]; try exact rfl)); (simp only [cA]))
  refine den_ret ?_
  simp only [E.den, dEq, iEq, sEq, cells_Call]
  simp only [D.bool.injEq]
  unfold callB mGet mPut mHear mLoad noText at *; grind
 simp only [E.den, dEq, iEq, sEq, cells_Call] at h1
 refine den_ite (fun h2 => ?_) (fun h2 => ?_)
 ·simp only [E.den, dEq, iEq, sEq, cells_Call] at h2
  (refine den_call ?_ (c_impl_IsName c.key) (trivial) ?_; (focus (simp only [VC.den, E.den, dEq, gsH_nil, and_true, cells_Call]; try exact rfl)); (simp only [cA]))
  (refine den_call ?_ (c_impl_isNumber c.val) (trivial) ?_; (focus (simp only [VC.den, E.den, dEq, gsH_nil, and_true, cells_Call]; try exact rfl)); (simp only [cA]))
  refine den_ret ?_
  simp only [E.den, dEq, iEq, sEq, cells_Call]
  simp only [D.bool.injEq]
  unfold callB mGet mPut mHear mLoad noText numB at *; grind
 simp only [E.den, dEq, iEq, sEq, cells_Call] at h2
 refine den_ite (fun h3 => ?_) (fun h3 => ?_)
 ·simp only [E.den, dEq, iEq, sEq, cells_Call] at h3
  (refine den_call ?_ (c_impl_isNumber c.val) (trivial) ?_; (focus (simp only [VC.den, E.den, dEq, gsH_nil, and_true, cells_Call]; try exact rfl)); (simp only [cA]))
  refine den_ret ?_
  simp only [E.den, dEq, iEq, sEq, cells_Call]
  simp only [D.bool.injEq]
  unfold callB mGet mPut mHear mLoad noText numB at *; grind
 simp only [E.den, dEq, iEq, sEq, cells_Call] at h3
 refine den_ret ?_
 simp only [E.den, dEq, iEq, sEq, cells_Call]
 simp only [D.bool.injEq]
 unfold callB mGet mPut mHear mLoad noText at *; grind
end Go.Proofs.YtbgcaneflfdddaaGreatDoor
/- Texts: numerals of three digits, cutting and joining. Plain mathematics over lists of bytes. -/
namespace Go.Proofs.YtbgcaneflfdddaaGreatDoor
def dig3 (n : Nat) : List UInt8 :=
 if n < 10 then [UInt8.ofNat (48 + n)] else if n < 100 then [UInt8.ofNat (48 + n / 10), UInt8.ofNat (48 + n % 10)] else [UInt8.ofNat (48 + n / 100), UInt8.ofNat (48 + n / 10 % 10), UInt8.ofNat (48 + n % 10)]
theorem dec3 {n : Nat} (h : n < 1000) : Lib.decDigits n = dig3 n := by
 unfold dig3
 by_cases h1 : n < 10
 ·rw [if_pos h1, Lib.decDigits, dif_pos h1]
 ·rw [if_neg h1, Lib.decDigits, dif_neg h1]
  by_cases h2 : n < 100
  ·rw [if_pos h2, Lib.decDigits, dif_pos (by omega)]; rfl
  ·rw [if_neg h2, Lib.decDigits, dif_neg (by omega), Lib.decDigits, dif_pos (by omega), show n / 10 / 10 = n / 100 by omega]; rfl
def isDig (b : UInt8) : Bool := decide (48 ≤ b.toNat ∧ b.toNat ≤ 57)
def rd4 (l : List UInt8) : Int := (l.take 4).foldl (fun n c => 10 * n + (c.toNat : Int) - 48) 0
theorem dig3_facts : ∀ n ∈ List.range 1000, (Lib.atoi (dig3 n) = some (n : Int) ∧ rd4 (dig3 n) = (n : Int) ∧ 0 < (dig3 n).length ∧ (dig3 n).length ≤ 3) ∧ (dig3 n).all isDig = true := by decide +kernel
theorem dig3_atoi {n : Nat} (h : n < 1000) : Lib.atoi (dig3 n) = some (n : Int) := (dig3_facts n (List.mem_range.2 h)).1.1
theorem dig3_pos {n : Nat} (h : n < 1000) : 0 < (dig3 n).length := (dig3_facts n (List.mem_range.2 h)).1.2.2.1
theorem dig3_le {n : Nat} (h : n < 1000) : (dig3 n).length ≤ 3 := (dig3_facts n (List.mem_range.2 h)).1.2.2.2
theorem dig3_inj {n m : Nat} (hn : n < 1000) (hm : m < 1000) (h : dig3 n = dig3 m) : n = m := by
 have h1 := dig3_atoi hn
 have h2 := dig3_atoi hm
 rw [h, h2] at h1
 simp at h1; omega
def numO (l : List UInt8) : Option Nat := (List.range 1000).find? fun n => decide (dig3 n = l)
theorem numO_some {l : List UInt8} {n : Nat} : numO l = some n ↔ n < 1000 ∧ dig3 n = l := by
 unfold numO
 constructor
 ·intro h
  exact ⟨List.mem_range.1 (List.mem_of_find?_eq_some h), by simpa using List.find?_some h⟩
 ·rintro ⟨h1, h2⟩
  cases hf : (List.range 1000).find? fun n => decide (dig3 n = l) with
  | none => have := List.find?_eq_none.1 hf n (List.mem_range.2 h1); simp [h2] at this
  | some m =>
   have hm := List.mem_range.1 (List.mem_of_find?_eq_some hf)
   have he : dig3 m = l := by simpa using List.find?_some hf
   rw [dig3_inj hm h1 (he.trans h2.symm)]
theorem numO_dig {n : Nat} (h : n < 1000) : numO (dig3 n) = some n := numO_some.2 ⟨h, rfl⟩
/-! Cutting -/
theorem split_miss {s sep : List UInt8} (h : Lib.index s sep = -1) : Lib.split s sep = [s] := by
 unfold Lib.split
 rw [Lib.count_miss h]; rfl
theorem split_hit {s sep : List UInt8} {i : Nat} (hsep : sep ≠ []) (h : Lib.index s sep = i) : Lib.split s sep = s.take i :: Lib.split (s.drop (i + sep.length)) sep := by
 unfold Lib.split
 rw [Lib.count_hit hsep h, Nat.add_comm 1, Lib.splitK]
 rw [if_neg (by rw [h]; simp), h]
 simp
theorem join_split {sep : List UInt8} (hsep : sep ≠ []) : ∀ (n : Nat) (s : List UInt8), s.length ≤ n → Lib.join (Lib.split s sep) sep = s ∧ Lib.split s sep ≠ []
 | n, s, hn => by
  rcases Lib.index_spec s sep with ⟨h, _⟩ | ⟨i, h, h1, h2, _⟩
  ·rw [split_miss h]; exact ⟨Lib.join_one _ _, by simp⟩
  ·rw [split_hit hsep h]
   have hroom := Lib.index_room s sep (by rw [h]; omega)
   have hpos : 0 < sep.length := List.length_pos_iff.2 hsep
   rw [h] at hroom
   have hlt : (s.drop (i + sep.length)).length < s.length := by simp; omega
   cases n with
   | zero => omega
   | succ n =>
    obtain ⟨q1, q2⟩ := join_split hsep n (s.drop (i + sep.length)) (by omega)
    refine ⟨?_, by simp⟩
    cases hsp : Lib.split (s.drop (i + sep.length)) sep with
    | nil => exact absurd hsp q2
    | cons y r =>
     rw [hsp] at q1
     have e : Lib.join (s.take i :: y :: r) sep = s.take i ++ (sep ++ Lib.join (y :: r) sep) := by
      rw [Lib.join_cons, Lib.join_cons]
      simp [Lib.joinTail]
     rw [e, q1]
     have hocc := Lib.occAt_iff_take s sep i (by omega)
     rw [h2] at hocc
     have hs : (s.drop i).take sep.length = sep := by simpa using hocc.symm
     have e2 : s.drop (i + sep.length) = (s.drop i).drop sep.length := by rw [List.drop_drop]
     rw [e2]
     conv => lhs; rw [show sep ++ (s.drop i).drop sep.length = (s.drop i).take sep.length ++ (s.drop i).drop sep.length by rw [hs]]
     rw [List.take_append_drop, List.take_append_drop]
end Go.Proofs.YtbgcaneflfdddaaGreatDoor
/- Contracts of the library's functions that are called here, laid at this seat's program by the kit's tool (lay-shelf, lay-plain); those that are needed. -/
namespace Go.Proofs
open Go.Shelf
def Tryz.lays156_ren : Go.Shelf.Ren := ⟨fun | 156 => 155 | 165 => 162 | 166 => 163 | 169 => 164 | 240 => 172 | 241 => 173 | 276 => 190 | 277 => 191 | n => n, fun | 31 => 48 | 9 => 9 | 3 => 3 | 4 => 4 | 0 => 0 | 20 => 20 | 72 => 167 | 76 => 163 | 70 => 165 | 37 => 22 | 75 => 162 | 127 => 174 | 164 => 190 | 5 => 5 | 80 => 169 | n => n, fun | n => n⟩
theorem Tryz.lays156 : Go.Proofs.Lays.n156 Tryz.prog Tryz.lays156_ren := {
 mixed := by kernel_rfl
 f156 := Tryz.func155.trans (congrArg some (by kernel_rfl))
 f165 := Tryz.func162.trans (congrArg some (by kernel_rfl))
 f166 := Tryz.func163.trans (congrArg some (by kernel_rfl))
 f169 := Tryz.func164.trans (congrArg some (by kernel_rfl))
 f240 := Tryz.func172.trans (congrArg some (by kernel_rfl))
 f241 := Tryz.func173.trans (congrArg some (by kernel_rfl))
 f276 := Tryz.func190.trans (congrArg some (by kernel_rfl))
 f277 := Tryz.func191.trans (congrArg some (by kernel_rfl))
 t0 := Tryz.underlying0
 a0 := Tryz.isAgg0
 z0 := Tryz.sizeOf0
 v0 := Tryz.zeroValue0
 t3 := Tryz.underlying3
 a3 := Tryz.isAgg3
 z3 := Tryz.sizeOf3
 v3 := Tryz.zeroValue3
 t4 := Tryz.underlying4
 a4 := Tryz.isAgg4
 z4 := Tryz.sizeOf4
 v4 := Tryz.zeroValue4
 t9 := Tryz.underlying9
 a9 := Tryz.isAgg9
 z9 := Tryz.sizeOf9
 v9 := Tryz.zeroValue9
 t20 := Tryz.underlying20
 a20 := Tryz.isAgg20
 z20 := Tryz.sizeOf20
 v20 := Tryz.zeroValue20
 t31 := Tryz.underlying48
 a31 := Tryz.isAgg48
 z31 := Tryz.sizeOf48
 v31 := Tryz.zeroValue48
 t37 := Tryz.underlying22
 a37 := Tryz.isAgg22
 z37 := Tryz.sizeOf22
 v37 := Tryz.zeroValue22
 t70 := Tryz.underlying165
 a70 := Tryz.isAgg165
 z70 := Tryz.sizeOf165
 v70 := Tryz.zeroValue165
 t72 := Tryz.underlying167
 a72 := Tryz.isAgg167
 z72 := Tryz.sizeOf167
 v72 := Tryz.zeroValue167
 t75 := Tryz.underlying162
 a75 := Tryz.isAgg162
 z75 := Tryz.sizeOf162
 v75 := Tryz.zeroValue162
 t76 := Tryz.underlying163
 a76 := Tryz.isAgg163
 z76 := Tryz.sizeOf163
 v76 := Tryz.zeroValue163
 t127 := Tryz.underlying174
 a127 := Tryz.isAgg174
 z127 := Tryz.sizeOf174
 v127 := Tryz.zeroValue174
 t164 := Tryz.underlying190
 a164 := Tryz.isAgg190
 z164 := Tryz.sizeOf190
 v164 := Tryz.zeroValue190 }
theorem Tryz.Builder_Extra_156 : Builder.Extra Tryz.prog Tryz.lays156_ren := {
 sizeBuilder := by kernel_rfl
 liesBuilder := by kernel_rfl
 t5 := Tryz.underlying5
 a5 := Tryz.isAgg5
 z5 := Tryz.sizeOf5
 v5 := Tryz.zeroValue5
 infoByte := by kernel_rfl
 cellsByte := by kernel_rfl
 sizeByte := by kernel_rfl
 neB5 := by decide }
open Go.RowKit in
theorem Tryz.strings_Join_none (a : Option Addr) (c : Nat) (sep : ByteArray) (w : World) :
  Calls Tryz.prog 155 #[.slice a 0 c, .string sep] w fun e w' => e = .returned (.string ⟨#[]⟩) ∧ w' = w := Any.strings_Join_none Tryz.lays156 Tryz.Builder_Extra_156 a c sep w
open Go.RowKit in
theorem Tryz.strings_Join (bk o c : Nat) (xs : List ByteArray) (sep : ByteArray) (w : World) (hcells : ∀ (j : Nat) x, xs[j]? = some x → w.cell? ⟨bk, o + j, none⟩ = some (.string x)) (hbk : bk < w.heap.size) (hN : xs.length ≤ 140737488355328) (hcap : xs.length ≤ c) (hlen : (Lib.join (xs.map (·.data.toList)) sep.data.toList).length ≤ 140737488355328) :
  Calls Tryz.prog 155 #[.slice (some ⟨bk, o, none⟩) xs.length c, .string sep] w fun e w' => e = .returned (.string ⟨(Lib.join (xs.map (·.data.toList)) sep.data.toList).toArray⟩) ∧ Below w.heap.size w w' := Any.strings_Join Tryz.lays156 Tryz.Builder_Extra_156 bk o c xs sep w hcells hbk hN hcap hlen
def Tryz.lays172_ren : Go.Shelf.Ren := ⟨fun | 172 => 158 | 244 => 169 | 245 => 170 | 247 => 181 | 279 => 182 | 280 => 183 | 281 => 184 | 282 => 185 | 287 => 195 | 316 => 196 | 171 => 154 | 205 => 197 | 321 => 203 | 322 => 204 | 243 => 161 | 246 => 171 | 283 => 186 | 284 => 187 | 285 => 188 | 286 => 189 | 129 => 199 | 317 => 198 | 318 => 200 | 319 => 201 | 320 => 202 | 337 => 205 | 338 => 206 | n => n, fun | 9 => 9 | 3 => 3 | 75 => 162 | 76 => 163 | 4 => 4 | 5 => 5 | 167 => 178 | 37 => 22 | 0 => 0 | 85 => 179 | 2 => 2 | 168 => 181 | 53 => 185 | 175 => 196 | 46 => 139 | 210 => 200 | 127 => 174 | 145 => 213 | 143 => 211 | 21 => 21 | 171 => 184 | 173 => 188 | 212 => 203 | 51 => 193 | 20 => 20 | 213 => 204 | 232 => 215 | 233 => 216 | 80 => 169 | n => n, fun | 15 => 1 | 16 => 2 | 17 => 3 | 18 => 6 | 19 => 7 | n => n⟩
theorem Tryz.lays172 : Go.Proofs.Lays.n172 Tryz.prog Tryz.lays172_ren := {
 mixed := by kernel_rfl
 f129 := Tryz.func199.trans (congrArg some (by kernel_rfl))
 f171 := Tryz.func154.trans (congrArg some (by kernel_rfl))
 f172 := Tryz.func158.trans (congrArg some (by kernel_rfl))
 f205 := Tryz.func197.trans (congrArg some (by kernel_rfl))
 f243 := Tryz.func161.trans (congrArg some (by kernel_rfl))
 f244 := Tryz.func169.trans (congrArg some (by kernel_rfl))
 f245 := Tryz.func170.trans (congrArg some (by kernel_rfl))
 f246 := Tryz.func171.trans (congrArg some (by kernel_rfl))
 f247 := Tryz.func181.trans (congrArg some (by kernel_rfl))
 f279 := Tryz.func182.trans (congrArg some (by kernel_rfl))
 f280 := Tryz.func183.trans (congrArg some (by kernel_rfl))
 f281 := Tryz.func184.trans (congrArg some (by kernel_rfl))
 f282 := Tryz.func185.trans (congrArg some (by kernel_rfl))
 f283 := Tryz.func186.trans (congrArg some (by kernel_rfl))
 f284 := Tryz.func187.trans (congrArg some (by kernel_rfl))
 f285 := Tryz.func188.trans (congrArg some (by kernel_rfl))
 f286 := Tryz.func189.trans (congrArg some (by kernel_rfl))
 f287 := Tryz.func195.trans (congrArg some (by kernel_rfl))
 f316 := Tryz.func196.trans (congrArg some (by kernel_rfl))
 f317 := Tryz.func198.trans (congrArg some (by kernel_rfl))
 f318 := Tryz.func200.trans (congrArg some (by kernel_rfl))
 f319 := Tryz.func201.trans (congrArg some (by kernel_rfl))
 f320 := Tryz.func202.trans (congrArg some (by kernel_rfl))
 f321 := Tryz.func203.trans (congrArg some (by kernel_rfl))
 f322 := Tryz.func204.trans (congrArg some (by kernel_rfl))
 f337 := Tryz.func205.trans (congrArg some (by kernel_rfl))
 f338 := Tryz.func206.trans (congrArg some (by kernel_rfl))
 t0 := Tryz.underlying0
 a0 := Tryz.isAgg0
 z0 := Tryz.sizeOf0
 v0 := Tryz.zeroValue0
 t2 := Tryz.underlying2
 a2 := Tryz.isAgg2
 z2 := Tryz.sizeOf2
 v2 := Tryz.zeroValue2
 t3 := Tryz.underlying3
 a3 := Tryz.isAgg3
 z3 := Tryz.sizeOf3
 v3 := Tryz.zeroValue3
 t4 := Tryz.underlying4
 a4 := Tryz.isAgg4
 z4 := Tryz.sizeOf4
 v4 := Tryz.zeroValue4
 t5 := Tryz.underlying5
 a5 := Tryz.isAgg5
 z5 := Tryz.sizeOf5
 v5 := Tryz.zeroValue5
 t9 := Tryz.underlying9
 a9 := Tryz.isAgg9
 z9 := Tryz.sizeOf9
 v9 := Tryz.zeroValue9
 t20 := Tryz.underlying20
 a20 := Tryz.isAgg20
 z20 := Tryz.sizeOf20
 v20 := Tryz.zeroValue20
 t21 := Tryz.underlying21
 a21 := Tryz.isAgg21
 z21 := Tryz.sizeOf21
 v21 := Tryz.zeroValue21
 t37 := Tryz.underlying22
 a37 := Tryz.isAgg22
 z37 := Tryz.sizeOf22
 v37 := Tryz.zeroValue22
 t46 := Tryz.underlying139
 a46 := Tryz.isAgg139
 z46 := Tryz.sizeOf139
 v46 := Tryz.zeroValue139
 t51 := Tryz.underlying193
 a51 := Tryz.isAgg193
 z51 := Tryz.sizeOf193
 v51 := Tryz.zeroValue193
 t53 := Tryz.underlying185
 a53 := Tryz.isAgg185
 z53 := Tryz.sizeOf185
 v53 := Tryz.zeroValue185
 t75 := Tryz.underlying162
 a75 := Tryz.isAgg162
 z75 := Tryz.sizeOf162
 v75 := Tryz.zeroValue162
 t76 := Tryz.underlying163
 a76 := Tryz.isAgg163
 z76 := Tryz.sizeOf163
 v76 := Tryz.zeroValue163
 t85 := Tryz.underlying179
 a85 := Tryz.isAgg179
 z85 := Tryz.sizeOf179
 v85 := Tryz.zeroValue179
 t127 := Tryz.underlying174
 a127 := Tryz.isAgg174
 z127 := Tryz.sizeOf174
 v127 := Tryz.zeroValue174
 t143 := Tryz.underlying211
 a143 := Tryz.isAgg211
 z143 := Tryz.sizeOf211
 v143 := Tryz.zeroValue211
 t145 := Tryz.underlying213
 a145 := Tryz.isAgg213
 z145 := Tryz.sizeOf213
 v145 := Tryz.zeroValue213
 t167 := Tryz.underlying178
 a167 := Tryz.isAgg178
 z167 := Tryz.sizeOf178
 v167 := Tryz.zeroValue178
 t168 := Tryz.underlying181
 a168 := Tryz.isAgg181
 z168 := Tryz.sizeOf181
 v168 := Tryz.zeroValue181
 t171 := Tryz.underlying184
 a171 := Tryz.isAgg184
 z171 := Tryz.sizeOf184
 v171 := Tryz.zeroValue184
 t173 := Tryz.underlying188
 a173 := Tryz.isAgg188
 z173 := Tryz.sizeOf188
 v173 := Tryz.zeroValue188
 t175 := Tryz.underlying196
 a175 := Tryz.isAgg196
 z175 := Tryz.sizeOf196
 v175 := Tryz.zeroValue196
 t210 := Tryz.underlying200
 a210 := Tryz.isAgg200
 z210 := Tryz.sizeOf200
 v210 := Tryz.zeroValue200
 t212 := Tryz.underlying203
 a212 := Tryz.isAgg203
 z212 := Tryz.sizeOf203
 v212 := Tryz.zeroValue203
 t213 := Tryz.underlying204
 a213 := Tryz.isAgg204
 z213 := Tryz.sizeOf204
 t232 := Tryz.underlying215
 a232 := Tryz.isAgg215
 z232 := Tryz.sizeOf215
 v232 := Tryz.zeroValue215
 t233 := Tryz.underlying216
 a233 := Tryz.isAgg216
 z233 := Tryz.sizeOf216
 v233 := Tryz.zeroValue216
 g15 := by kernel_rfl
 g16 := by kernel_rfl
 g17 := by kernel_rfl
 g18 := by kernel_rfl
 g19 := by kernel_rfl }
open Go.RowKit in
theorem Tryz.strconv_Atoi (s : ByteArray) (n : Int) (hl : s.size ≤ 18) (h : Lib.atoi s.data.toList = some n) (w : World) :
  Calls Tryz.prog 158 #[.string s] w fun e w' => e = .returned (.tuple #[.int .i64 n, .nilIface]) ∧ ∃ t, w' = Lib.bytesWorld w 5 t := Any.strconv_Atoi Tryz.lays172 s n hl h w
def Tryz.laysM171_ren : Go.Shelf.Ren := ⟨fun | 171 => 154 | 243 => 161 | 246 => 171 | 283 => 186 | 284 => 187 | 285 => 188 | 286 => 189 | 129 => 199 | 317 => 198 | 318 => 200 | 319 => 201 | 320 => 202 | 337 => 205 | 338 => 206 | n => n, fun | 3 => 3 | 9 => 9 | 2 => 2 | 4 => 4 | 171 => 184 | 0 => 0 | 53 => 185 | 37 => 22 | 5 => 5 | 173 => 188 | 212 => 203 | 51 => 193 | 20 => 20 | 213 => 204 | 46 => 139 | 232 => 215 | 233 => 216 | n => n, fun | 17 => 3 | 18 => 6 | 19 => 7 | n => n⟩
theorem Tryz.laysM171 : Go.Proofs.LaysM.n171 Tryz.prog Tryz.laysM171_ren := {
 mixed := by kernel_rfl
 f129 := Tryz.func199.trans (congrArg some (by kernel_rfl))
 f171 := Tryz.func154.trans (congrArg some (by kernel_rfl))
 f243 := Tryz.func161.trans (congrArg some (by kernel_rfl))
 f246 := Tryz.func171.trans (congrArg some (by kernel_rfl))
 f283 := Tryz.func186.trans (congrArg some (by kernel_rfl))
 f284 := Tryz.func187.trans (congrArg some (by kernel_rfl))
 f285 := Tryz.func188.trans (congrArg some (by kernel_rfl))
 f286 := Tryz.func189.trans (congrArg some (by kernel_rfl))
 f317 := Tryz.func198.trans (congrArg some (by kernel_rfl))
 f318 := Tryz.func200.trans (congrArg some (by kernel_rfl))
 f319 := Tryz.func201.trans (congrArg some (by kernel_rfl))
 f320 := Tryz.func202.trans (congrArg some (by kernel_rfl))
 f337 := Tryz.func205.trans (congrArg some (by kernel_rfl))
 f338 := Tryz.func206.trans (congrArg some (by kernel_rfl))
 t0 := Tryz.underlying0
 a0 := Tryz.isAgg0
 z0 := Tryz.sizeOf0
 v0 := Tryz.zeroValue0
 t2 := Tryz.underlying2
 a2 := Tryz.isAgg2
 z2 := Tryz.sizeOf2
 v2 := Tryz.zeroValue2
 t3 := Tryz.underlying3
 a3 := Tryz.isAgg3
 z3 := Tryz.sizeOf3
 v3 := Tryz.zeroValue3
 t4 := Tryz.underlying4
 a4 := Tryz.isAgg4
 z4 := Tryz.sizeOf4
 v4 := Tryz.zeroValue4
 t5 := Tryz.underlying5
 a5 := Tryz.isAgg5
 z5 := Tryz.sizeOf5
 v5 := Tryz.zeroValue5
 t9 := Tryz.underlying9
 a9 := Tryz.isAgg9
 z9 := Tryz.sizeOf9
 v9 := Tryz.zeroValue9
 t20 := Tryz.underlying20
 a20 := Tryz.isAgg20
 z20 := Tryz.sizeOf20
 v20 := Tryz.zeroValue20
 t37 := Tryz.underlying22
 a37 := Tryz.isAgg22
 z37 := Tryz.sizeOf22
 v37 := Tryz.zeroValue22
 t46 := Tryz.underlying139
 a46 := Tryz.isAgg139
 z46 := Tryz.sizeOf139
 v46 := Tryz.zeroValue139
 t51 := Tryz.underlying193
 a51 := Tryz.isAgg193
 z51 := Tryz.sizeOf193
 v51 := Tryz.zeroValue193
 t53 := Tryz.underlying185
 a53 := Tryz.isAgg185
 z53 := Tryz.sizeOf185
 v53 := Tryz.zeroValue185
 t171 := Tryz.underlying184
 a171 := Tryz.isAgg184
 z171 := Tryz.sizeOf184
 v171 := Tryz.zeroValue184
 t173 := Tryz.underlying188
 a173 := Tryz.isAgg188
 z173 := Tryz.sizeOf188
 v173 := Tryz.zeroValue188
 t212 := Tryz.underlying203
 a212 := Tryz.isAgg203
 z212 := Tryz.sizeOf203
 v212 := Tryz.zeroValue203
 t213 := Tryz.underlying204
 a213 := Tryz.isAgg204
 z213 := Tryz.sizeOf204
 t232 := Tryz.underlying215
 a232 := Tryz.isAgg215
 z232 := Tryz.sizeOf215
 v232 := Tryz.zeroValue215
 t233 := Tryz.underlying216
 a233 := Tryz.isAgg216
 z233 := Tryz.sizeOf216
 v233 := Tryz.zeroValue216
 g17 := by kernel_rfl
 g18 := by kernel_rfl
 g19 := by kernel_rfl
 i0 := by kernel_rfl
 i2 := by kernel_rfl
 i3 := by kernel_rfl
 i4 := by kernel_rfl
 i5 := by kernel_rfl
 i9 := by kernel_rfl
 i20 := by kernel_rfl
 i37 := by kernel_rfl
 i46 := by kernel_rfl
 i51 := by kernel_rfl
 i53 := by kernel_rfl
 i171 := by kernel_rfl
 i173 := by kernel_rfl
 i212 := by kernel_rfl
 i232 := by kernel_rfl
 i233 := by kernel_rfl
 m17 := by kernel_rfl
 m18 := by kernel_rfl
 m19 := by kernel_rfl }
def Tryz.lays171_ren : Go.Shelf.Ren := ⟨fun | 171 => 154 | 243 => 161 | 246 => 171 | 283 => 186 | 284 => 187 | 285 => 188 | 286 => 189 | 129 => 199 | 317 => 198 | 318 => 200 | 319 => 201 | 320 => 202 | 337 => 205 | 338 => 206 | n => n, fun | 3 => 3 | 9 => 9 | 2 => 2 | 4 => 4 | 171 => 184 | 0 => 0 | 53 => 185 | 37 => 22 | 5 => 5 | 173 => 188 | 212 => 203 | 51 => 193 | 20 => 20 | 213 => 204 | 46 => 139 | 232 => 215 | 233 => 216 | n => n, fun | 17 => 3 | 18 => 6 | 19 => 7 | n => n⟩
theorem Tryz.lays171 : Go.Proofs.Lays.n171 Tryz.prog Tryz.lays171_ren := {
 mixed := by kernel_rfl
 f129 := Tryz.func199.trans (congrArg some (by kernel_rfl))
 f171 := Tryz.func154.trans (congrArg some (by kernel_rfl))
 f243 := Tryz.func161.trans (congrArg some (by kernel_rfl))
 f246 := Tryz.func171.trans (congrArg some (by kernel_rfl))
 f283 := Tryz.func186.trans (congrArg some (by kernel_rfl))
 f284 := Tryz.func187.trans (congrArg some (by kernel_rfl))
 f285 := Tryz.func188.trans (congrArg some (by kernel_rfl))
 f286 := Tryz.func189.trans (congrArg some (by kernel_rfl))
 f317 := Tryz.func198.trans (congrArg some (by kernel_rfl))
 f318 := Tryz.func200.trans (congrArg some (by kernel_rfl))
 f319 := Tryz.func201.trans (congrArg some (by kernel_rfl))
 f320 := Tryz.func202.trans (congrArg some (by kernel_rfl))
 f337 := Tryz.func205.trans (congrArg some (by kernel_rfl))
 f338 := Tryz.func206.trans (congrArg some (by kernel_rfl))
 t0 := Tryz.underlying0
 a0 := Tryz.isAgg0
 z0 := Tryz.sizeOf0
 v0 := Tryz.zeroValue0
 t2 := Tryz.underlying2
 a2 := Tryz.isAgg2
 z2 := Tryz.sizeOf2
 v2 := Tryz.zeroValue2
 t3 := Tryz.underlying3
 a3 := Tryz.isAgg3
 z3 := Tryz.sizeOf3
 v3 := Tryz.zeroValue3
 t4 := Tryz.underlying4
 a4 := Tryz.isAgg4
 z4 := Tryz.sizeOf4
 v4 := Tryz.zeroValue4
 t5 := Tryz.underlying5
 a5 := Tryz.isAgg5
 z5 := Tryz.sizeOf5
 v5 := Tryz.zeroValue5
 t9 := Tryz.underlying9
 a9 := Tryz.isAgg9
 z9 := Tryz.sizeOf9
 v9 := Tryz.zeroValue9
 t20 := Tryz.underlying20
 a20 := Tryz.isAgg20
 z20 := Tryz.sizeOf20
 v20 := Tryz.zeroValue20
 t37 := Tryz.underlying22
 a37 := Tryz.isAgg22
 z37 := Tryz.sizeOf22
 v37 := Tryz.zeroValue22
 t46 := Tryz.underlying139
 a46 := Tryz.isAgg139
 z46 := Tryz.sizeOf139
 v46 := Tryz.zeroValue139
 t51 := Tryz.underlying193
 a51 := Tryz.isAgg193
 z51 := Tryz.sizeOf193
 v51 := Tryz.zeroValue193
 t53 := Tryz.underlying185
 a53 := Tryz.isAgg185
 z53 := Tryz.sizeOf185
 v53 := Tryz.zeroValue185
 t171 := Tryz.underlying184
 a171 := Tryz.isAgg184
 z171 := Tryz.sizeOf184
 v171 := Tryz.zeroValue184
 t173 := Tryz.underlying188
 a173 := Tryz.isAgg188
 z173 := Tryz.sizeOf188
 v173 := Tryz.zeroValue188
 t212 := Tryz.underlying203
 a212 := Tryz.isAgg203
 z212 := Tryz.sizeOf203
 v212 := Tryz.zeroValue203
 t213 := Tryz.underlying204
 a213 := Tryz.isAgg204
 z213 := Tryz.sizeOf204
 t232 := Tryz.underlying215
 a232 := Tryz.isAgg215
 z232 := Tryz.sizeOf215
 v232 := Tryz.zeroValue215
 t233 := Tryz.underlying216
 a233 := Tryz.isAgg216
 z233 := Tryz.sizeOf216
 v233 := Tryz.zeroValue216
 g17 := by kernel_rfl
 g18 := by kernel_rfl
 g19 := by kernel_rfl }
open Go.RowKit Go.Sort Go.Lib in
theorem Tryz.strconv_Itoa_small (i : Nat) (hi : i < 100) (w : World) :
  Calls Tryz.prog 154 #[.int .i64 i] w fun e w' => e = .returned (.string ⟨(Lib.decDigits i).toArray⟩) ∧ w' = w := Any.strconv_Itoa_small Tryz.lays171 i hi w
def Tryz.laysC172_ren : Go.Shelf.Ren := ⟨fun | 172 => 158 | 244 => 169 | 245 => 170 | 247 => 181 | 279 => 182 | 280 => 183 | 281 => 184 | 282 => 185 | 287 => 195 | 316 => 196 | 171 => 154 | 205 => 197 | 321 => 203 | 322 => 204 | 243 => 161 | 246 => 171 | 283 => 186 | 284 => 187 | 285 => 188 | 286 => 189 | 129 => 199 | 317 => 198 | 318 => 200 | 319 => 201 | 320 => 202 | 337 => 205 | 338 => 206 | n => n, fun | 9 => 9 | 3 => 3 | 75 => 162 | 76 => 163 | 4 => 4 | 5 => 5 | 167 => 178 | 37 => 22 | 0 => 0 | 85 => 179 | 2 => 2 | 168 => 181 | 53 => 185 | 175 => 196 | 46 => 139 | 210 => 200 | 127 => 174 | 145 => 213 | 143 => 211 | 21 => 21 | 171 => 184 | 173 => 188 | 212 => 203 | 51 => 193 | 20 => 20 | 213 => 204 | 232 => 215 | 233 => 216 | 80 => 169 | n => n, fun | 15 => 1 | 16 => 2 | 17 => 3 | 18 => 6 | 19 => 7 | n => n⟩
theorem Tryz.laysC172 : Go.Proofs.LaysC.n172 Tryz.prog Tryz.laysC172_ren := {
 mixed := by kernel_rfl
 f129 := Tryz.func199.trans (congrArg some (by kernel_rfl))
 f171 := Tryz.func154.trans (congrArg some (by kernel_rfl))
 f172 := Tryz.func158.trans (congrArg some (by kernel_rfl))
 f205 := Tryz.func197.trans (congrArg some (by kernel_rfl))
 f243 := Tryz.func161.trans (congrArg some (by kernel_rfl))
 f244 := Tryz.func169.trans (congrArg some (by kernel_rfl))
 f245 := Tryz.func170.trans (congrArg some (by kernel_rfl))
 f246 := Tryz.func171.trans (congrArg some (by kernel_rfl))
 f247 := Tryz.func181.trans (congrArg some (by kernel_rfl))
 f279 := Tryz.func182.trans (congrArg some (by kernel_rfl))
 f280 := Tryz.func183.trans (congrArg some (by kernel_rfl))
 f281 := Tryz.func184.trans (congrArg some (by kernel_rfl))
 f282 := Tryz.func185.trans (congrArg some (by kernel_rfl))
 f283 := Tryz.func186.trans (congrArg some (by kernel_rfl))
 f284 := Tryz.func187.trans (congrArg some (by kernel_rfl))
 f285 := Tryz.func188.trans (congrArg some (by kernel_rfl))
 f286 := Tryz.func189.trans (congrArg some (by kernel_rfl))
 f287 := Tryz.func195.trans (congrArg some (by kernel_rfl))
 f316 := Tryz.func196.trans (congrArg some (by kernel_rfl))
 f317 := Tryz.func198.trans (congrArg some (by kernel_rfl))
 f318 := Tryz.func200.trans (congrArg some (by kernel_rfl))
 f319 := Tryz.func201.trans (congrArg some (by kernel_rfl))
 f320 := Tryz.func202.trans (congrArg some (by kernel_rfl))
 f321 := Tryz.func203.trans (congrArg some (by kernel_rfl))
 f322 := Tryz.func204.trans (congrArg some (by kernel_rfl))
 f337 := Tryz.func205.trans (congrArg some (by kernel_rfl))
 f338 := Tryz.func206.trans (congrArg some (by kernel_rfl))
 t0 := Tryz.underlying0
 a0 := Tryz.isAgg0
 z0 := Tryz.sizeOf0
 v0 := Tryz.zeroValue0
 t2 := Tryz.underlying2
 a2 := Tryz.isAgg2
 z2 := Tryz.sizeOf2
 v2 := Tryz.zeroValue2
 t3 := Tryz.underlying3
 a3 := Tryz.isAgg3
 z3 := Tryz.sizeOf3
 v3 := Tryz.zeroValue3
 t4 := Tryz.underlying4
 a4 := Tryz.isAgg4
 z4 := Tryz.sizeOf4
 v4 := Tryz.zeroValue4
 t5 := Tryz.underlying5
 a5 := Tryz.isAgg5
 z5 := Tryz.sizeOf5
 v5 := Tryz.zeroValue5
 t9 := Tryz.underlying9
 a9 := Tryz.isAgg9
 z9 := Tryz.sizeOf9
 v9 := Tryz.zeroValue9
 t20 := Tryz.underlying20
 a20 := Tryz.isAgg20
 z20 := Tryz.sizeOf20
 v20 := Tryz.zeroValue20
 t21 := Tryz.underlying21
 a21 := Tryz.isAgg21
 z21 := Tryz.sizeOf21
 v21 := Tryz.zeroValue21
 t37 := Tryz.underlying22
 a37 := Tryz.isAgg22
 z37 := Tryz.sizeOf22
 v37 := Tryz.zeroValue22
 t46 := Tryz.underlying139
 a46 := Tryz.isAgg139
 z46 := Tryz.sizeOf139
 v46 := Tryz.zeroValue139
 t51 := Tryz.underlying193
 a51 := Tryz.isAgg193
 z51 := Tryz.sizeOf193
 v51 := Tryz.zeroValue193
 t53 := Tryz.underlying185
 a53 := Tryz.isAgg185
 z53 := Tryz.sizeOf185
 v53 := Tryz.zeroValue185
 t75 := Tryz.underlying162
 a75 := Tryz.isAgg162
 z75 := Tryz.sizeOf162
 v75 := Tryz.zeroValue162
 t76 := Tryz.underlying163
 a76 := Tryz.isAgg163
 z76 := Tryz.sizeOf163
 v76 := Tryz.zeroValue163
 t85 := Tryz.underlying179
 a85 := Tryz.isAgg179
 z85 := Tryz.sizeOf179
 v85 := Tryz.zeroValue179
 t127 := Tryz.underlying174
 a127 := Tryz.isAgg174
 z127 := Tryz.sizeOf174
 v127 := Tryz.zeroValue174
 t143 := Tryz.underlying211
 a143 := Tryz.isAgg211
 z143 := Tryz.sizeOf211
 v143 := Tryz.zeroValue211
 t145 := Tryz.underlying213
 a145 := Tryz.isAgg213
 z145 := Tryz.sizeOf213
 v145 := Tryz.zeroValue213
 t167 := Tryz.underlying178
 a167 := Tryz.isAgg178
 z167 := Tryz.sizeOf178
 v167 := Tryz.zeroValue178
 t168 := Tryz.underlying181
 a168 := Tryz.isAgg181
 z168 := Tryz.sizeOf181
 v168 := Tryz.zeroValue181
 t171 := Tryz.underlying184
 a171 := Tryz.isAgg184
 z171 := Tryz.sizeOf184
 v171 := Tryz.zeroValue184
 t173 := Tryz.underlying188
 a173 := Tryz.isAgg188
 z173 := Tryz.sizeOf188
 v173 := Tryz.zeroValue188
 t175 := Tryz.underlying196
 a175 := Tryz.isAgg196
 z175 := Tryz.sizeOf196
 v175 := Tryz.zeroValue196
 t210 := Tryz.underlying200
 a210 := Tryz.isAgg200
 z210 := Tryz.sizeOf200
 v210 := Tryz.zeroValue200
 t212 := Tryz.underlying203
 a212 := Tryz.isAgg203
 z212 := Tryz.sizeOf203
 v212 := Tryz.zeroValue203
 t213 := Tryz.underlying204
 a213 := Tryz.isAgg204
 z213 := Tryz.sizeOf204
 t232 := Tryz.underlying215
 a232 := Tryz.isAgg215
 z232 := Tryz.sizeOf215
 v232 := Tryz.zeroValue215
 t233 := Tryz.underlying216
 a233 := Tryz.isAgg216
 z233 := Tryz.sizeOf216
 v233 := Tryz.zeroValue216
 g15 := by kernel_rfl
 g16 := by kernel_rfl
 g17 := by kernel_rfl
 g18 := by kernel_rfl
 g19 := by kernel_rfl
 t80 := Tryz.underlying169
 a80 := Tryz.isAgg169
 z80 := Tryz.sizeOf169
 v80 := Tryz.zeroValue169
 i0 := by kernel_rfl
 i2 := by kernel_rfl
 i3 := by kernel_rfl
 i4 := by kernel_rfl
 i5 := by kernel_rfl
 i9 := by kernel_rfl
 i20 := by kernel_rfl
 i21 := by kernel_rfl
 i37 := by kernel_rfl
 i46 := by kernel_rfl
 i51 := by kernel_rfl
 i53 := by kernel_rfl
 i75 := by kernel_rfl
 i76 := by kernel_rfl
 i80 := by kernel_rfl
 i85 := by kernel_rfl
 i127 := by kernel_rfl
 i143 := by kernel_rfl
 i145 := by kernel_rfl
 i167 := by kernel_rfl
 i168 := by kernel_rfl
 i171 := by kernel_rfl
 i173 := by kernel_rfl
 i175 := by kernel_rfl
 i210 := by kernel_rfl
 i212 := by kernel_rfl
 i232 := by kernel_rfl
 i233 := by kernel_rfl
 m15 := by kernel_rfl
 m16 := by kernel_rfl
 m17 := by kernel_rfl
 m18 := by kernel_rfl
 m19 := by kernel_rfl
 c0 := by kernel_rfl
 c2 := by kernel_rfl
 c3 := by kernel_rfl
 c4 := by kernel_rfl
 c5 := by kernel_rfl
 c9 := by kernel_rfl
 c20 := by kernel_rfl
 c21 := by kernel_rfl
 c37 := by kernel_rfl
 c46 := by kernel_rfl
 c51 := by kernel_rfl
 c53 := by kernel_rfl
 c75 := by kernel_rfl
 c76 := by kernel_rfl
 c80 := by kernel_rfl
 c85 := by kernel_rfl
 c127 := by kernel_rfl
 c143 := by kernel_rfl
 c145 := by kernel_rfl
 c167 := by kernel_rfl
 c168 := by kernel_rfl
 c171 := by kernel_rfl
 c173 := by kernel_rfl
 c175 := by kernel_rfl
 c210 := by kernel_rfl
 c212 := by kernel_rfl
 c213 := by kernel_rfl
 c232 := by kernel_rfl
 c233 := by kernel_rfl }
open Go.RowKit in
theorem Tryz.strconv_Atoi_err (s : ByteArray) (hl : s.size ≤ 18) (h : Lib.atoi s.data.toList = none) (ev : Value) (w : World) (hv : w.cell? ⟨1, 0, none⟩ = some ev) (hev : ev = .nilIface ∨ ∃ te pe, ev = .iface te pe) :
  Calls Tryz.prog 158 #[.string s] w fun e w' => ∃ N, e = .returned (.tuple #[.int .i64 0, .iface 181 (.pointer (some ⟨N, 0, none⟩))]) ∧ w.heap.size ≤ N ∧ w'.heap[N]? = some (.cells #[.string ⟨#[65, 116, 111, 105]⟩, .string s, ev] 200 (0, 0)) ∧ Below w.heap.size w w' := Any.strconv_Atoi_err Tryz.laysC172 s hl h ev w hv hev
def Tryz.lays145_ren : Go.Shelf.Ren := ⟨fun | 145 => 147 | 220 => 157 | 219 => 168 | 217 => 177 | 225 => 178 | 224 => 179 | 267 => 180 | 266 => 193 | 314 => 194 | n => n, fun | 9 => 9 | 4 => 4 | 59 => 157 | 3 => 3 | 5 => 5 | 46 => 139 | 146 => 194 | 51 => 193 | n => n, fun | 1 => 0 | n => n⟩
theorem Tryz.lays145 : Go.Proofs.Lays.n145 Tryz.prog Tryz.lays145_ren := {
 mixed := by kernel_rfl
 f145 := Tryz.func147.trans (congrArg some (by kernel_rfl))
 f217 := Tryz.func177.trans (congrArg some (by kernel_rfl))
 f219 := Tryz.func168.trans (congrArg some (by kernel_rfl))
 f220 := Tryz.func157.trans (congrArg some (by kernel_rfl))
 f224 := Tryz.func179.trans (congrArg some (by kernel_rfl))
 f225 := Tryz.func178.trans (congrArg some (by kernel_rfl))
 f266 := Tryz.func193.trans (congrArg some (by kernel_rfl))
 f267 := Tryz.func180.trans (congrArg some (by kernel_rfl))
 f314 := Tryz.func194.trans (congrArg some (by kernel_rfl))
 t3 := Tryz.underlying3
 a3 := Tryz.isAgg3
 z3 := Tryz.sizeOf3
 v3 := Tryz.zeroValue3
 t4 := Tryz.underlying4
 a4 := Tryz.isAgg4
 z4 := Tryz.sizeOf4
 v4 := Tryz.zeroValue4
 t5 := Tryz.underlying5
 a5 := Tryz.isAgg5
 z5 := Tryz.sizeOf5
 v5 := Tryz.zeroValue5
 t9 := Tryz.underlying9
 a9 := Tryz.isAgg9
 z9 := Tryz.sizeOf9
 v9 := Tryz.zeroValue9
 t46 := Tryz.underlying139
 a46 := Tryz.isAgg139
 z46 := Tryz.sizeOf139
 v46 := Tryz.zeroValue139
 t51 := Tryz.underlying193
 a51 := Tryz.isAgg193
 z51 := Tryz.sizeOf193
 v51 := Tryz.zeroValue193
 t59 := Tryz.underlying157
 a59 := Tryz.isAgg157
 z59 := Tryz.sizeOf157
 v59 := Tryz.zeroValue157
 t146 := Tryz.underlying194
 a146 := Tryz.isAgg194
 z146 := Tryz.sizeOf194
 v146 := Tryz.zeroValue194
 g1 := by kernel_rfl }
open Go.RowKit Go.Lib in
theorem Tryz.strings_Cut (s sep : ByteArray) (m : Int) (w : World) (hs : s.size < 4294967281) (hm : w.cell? ⟨0, 0, none⟩ = some (.int .i64 m)) :
  Calls Tryz.prog 147 #[.string s, .string sep] w fun e w' => e = .returned (.tuple #[.string ⟨(Lib.cut s.data.toList sep.data.toList).1.toArray⟩, .string ⟨(Lib.cut s.data.toList sep.data.toList).2.1.toArray⟩, .bool (Lib.cut s.data.toList sep.data.toList).2.2]) ∧ ∃ n, w' = w.drewN n := Any.strings_Cut Tryz.lays145 s sep m w hs hm
def Tryz.lays146_ren : Go.Shelf.Ren := ⟨fun | 146 => 146 | 221 => 156 | 268 => 165 | 138 => 166 | 143 => 167 | 195 => 174 | 197 => 175 | 218 => 176 | 219 => 168 | 260 => 192 | 217 => 177 | 225 => 178 | 224 => 179 | 267 => 180 | 266 => 193 | 314 => 194 | n => n, fun | 9 => 9 | 31 => 48 | 3 => 3 | 4 => 4 | 0 => 0 | 105 => 175 | 21 => 21 | 5 => 5 | 46 => 139 | 119 => 206 | 139 => 209 | 138 => 208 | 146 => 194 | 51 => 193 | n => n, fun | 1 => 0 | 3 => 4 | 4 => 5 | n => n⟩
theorem Tryz.lays146 : Go.Proofs.Lays.n146 Tryz.prog Tryz.lays146_ren := {
 mixed := by kernel_rfl
 f138 := Tryz.func166.trans (congrArg some (by kernel_rfl))
 f143 := Tryz.func167.trans (congrArg some (by kernel_rfl))
 f146 := Tryz.func146.trans (congrArg some (by kernel_rfl))
 f195 := Tryz.func174.trans (congrArg some (by kernel_rfl))
 f197 := Tryz.func175.trans (congrArg some (by kernel_rfl))
 f217 := Tryz.func177.trans (congrArg some (by kernel_rfl))
 f218 := Tryz.func176.trans (congrArg some (by kernel_rfl))
 f219 := Tryz.func168.trans (congrArg some (by kernel_rfl))
 f221 := Tryz.func156.trans (congrArg some (by kernel_rfl))
 f224 := Tryz.func179.trans (congrArg some (by kernel_rfl))
 f225 := Tryz.func178.trans (congrArg some (by kernel_rfl))
 f260 := Tryz.func192.trans (congrArg some (by kernel_rfl))
 f266 := Tryz.func193.trans (congrArg some (by kernel_rfl))
 f267 := Tryz.func180.trans (congrArg some (by kernel_rfl))
 f268 := Tryz.func165.trans (congrArg some (by kernel_rfl))
 f314 := Tryz.func194.trans (congrArg some (by kernel_rfl))
 t0 := Tryz.underlying0
 a0 := Tryz.isAgg0
 z0 := Tryz.sizeOf0
 v0 := Tryz.zeroValue0
 t3 := Tryz.underlying3
 a3 := Tryz.isAgg3
 z3 := Tryz.sizeOf3
 v3 := Tryz.zeroValue3
 t4 := Tryz.underlying4
 a4 := Tryz.isAgg4
 z4 := Tryz.sizeOf4
 v4 := Tryz.zeroValue4
 t5 := Tryz.underlying5
 a5 := Tryz.isAgg5
 z5 := Tryz.sizeOf5
 v5 := Tryz.zeroValue5
 t9 := Tryz.underlying9
 a9 := Tryz.isAgg9
 z9 := Tryz.sizeOf9
 v9 := Tryz.zeroValue9
 t21 := Tryz.underlying21
 a21 := Tryz.isAgg21
 z21 := Tryz.sizeOf21
 v21 := Tryz.zeroValue21
 t31 := Tryz.underlying48
 a31 := Tryz.isAgg48
 z31 := Tryz.sizeOf48
 v31 := Tryz.zeroValue48
 t46 := Tryz.underlying139
 a46 := Tryz.isAgg139
 z46 := Tryz.sizeOf139
 v46 := Tryz.zeroValue139
 t51 := Tryz.underlying193
 a51 := Tryz.isAgg193
 z51 := Tryz.sizeOf193
 v51 := Tryz.zeroValue193
 t105 := Tryz.underlying175
 a105 := Tryz.isAgg175
 z105 := Tryz.sizeOf175
 v105 := Tryz.zeroValue175
 t119 := Tryz.underlying206
 a119 := Tryz.isAgg206
 z119 := Tryz.sizeOf206
 t138 := Tryz.underlying208
 a138 := Tryz.isAgg208
 z138 := Tryz.sizeOf208
 v138 := Tryz.zeroValue208
 t139 := Tryz.underlying209
 a139 := Tryz.isAgg209
 z139 := Tryz.sizeOf209
 v139 := Tryz.zeroValue209
 t146 := Tryz.underlying194
 a146 := Tryz.isAgg194
 z146 := Tryz.sizeOf194
 v146 := Tryz.zeroValue194
 g1 := by kernel_rfl
 g3 := by kernel_rfl
 g4 := by kernel_rfl }
open Go.RowKit Go.Lib in
theorem Tryz.strings_Split (s sep : ByteArray) (m : Int) (w : World) (hs : s.size < 4294967281) (hm : w.cell? ⟨0, 0, none⟩ = some (.int .i64 m)) (h1 : 1 ≤ sep.size) :
  Calls Tryz.prog 146 #[.string s, .string sep] w fun e w' =>
   e = .returned (.slice (some ⟨w.heap.size, 0, none⟩) (Lib.countB s sep + 1) (Lib.countB s sep + 1)) ∧ w' = w.alloc (.cells ((Lib.splitB sep 0 (Lib.countB s sep) s).map Value.string).toArray 9) := Any.strings_Split Tryz.lays146 (by kernel_rfl) s sep m w hs hm h1
end Go.Proofs
/- Contracts: numbers and versions, written and read. -/
namespace Go.Proofs.YtbgcaneflfdddaaGreatDoor
open Go.RowKit Go
variable [GC]
def bs (l : List UInt8) : ByteArray := ⟨l.toArray⟩
@[simp] theorem bs_toList (l : List UInt8) : (bs l).data.toList = l := by simp [bs]
theorem bs_data (s : ByteArray) : bs s.data.toList = s := by simp [bs]
@[simp] theorem bs_size (l : List UInt8) : (bs l).size = l.length := by simp [bs, ByteArray.size]
theorem bs_inj {l m : List UInt8} (h : bs l = bs m) : l = m := by have := congrArg (fun s : ByteArray => s.data.toList) h; simpa using this
@[simp] theorem bs_eq (l m : List UInt8) : bs l = bs m ↔ l = m := ⟨bs_inj, fun h => by rw [h]⟩
theorem bs_append (l m : List UInt8) : bs l ++ bs m = bs (l ++ m) := by
 apply ByteArray.ext
 simp [bs]
class HasPow : Prop where
 h : ∀ w : World, GInv w → GHas w 3 fun cs => cs = (Lib.pow10Tab.map fun z => Value.int .u64 z).toArray
class HasMax : Prop where
 h : ∀ w : World, GInv w → GHas w 0 fun cs => ∃ m, cs[0]? = some (Value.int .i64 m)
class HasErr : Prop where
 h : ∀ w : World, GInv w → GHas w 1 fun cs => ∃ tp p, cs = #[.iface tp p]
theorem GHas.cell {w : World} {g : Nat} {p : Array Value → Prop} (h : GHas w g p) : ∃ cs, p cs ∧ ∀ i : Nat, w.cell? ⟨g, i, none⟩ = cs[i]? := by
 obtain ⟨cs, t, f, h1, h2⟩ := h
 exact ⟨cs, h2, fun i => by simp [World.cell?, h1]⟩
theorem c_Itoa [HasPow] {n : Nat} (h : n < 1000) : Fun Tryz.prog 154 none [.int .i64 n] (.str (bs (dig3 n))) [] := by
 refine Fun.of_callsG (by kernel_rfl) fun w M vs hG hr => ?_
 obtain ⟨v, q, rfl, ⟨rfl, _⟩, rfl⟩ := hr
 have c := Any.strconv_Itoa Tryz.laysM171 n (by omega) (by omega) w (by
  obtain ⟨cs, t, f, h1, rfl⟩ := HasPow.h w hG.2.1
  unfold Lib.TabIs World.var?
  rw [show Tryz.prog.globalNamed _ = some 3 by kernel_rfl]
  simp [h1])
 refine c.mono ?_
 rintro e w' ⟨rfl, k, os, rfl⟩
 have hl := dig3_le h
 refine ⟨_, rfl, ⟨?_, by rw [bs_size]; unfold maxLen; omega⟩, ?_⟩
 ·unfold Lib.itoa
  rw [if_neg (by omega), Int.toNat_natCast, dec3 h]; rfl
 ·exact ⟨rfl, rfl, rfl, by simp [Go.Sort.grow], fun j hj => by simp [Go.Sort.grow, Array.getElem?_append, hj]⟩
theorem c_impl_FormatNumber [HasPow] {n : Nat} (h : n < 1000) : Fun Tryz.prog 144 none [.int .i64 n] (.str (bs (dig3 n))) [] := by
 refine Fun.ofV vc_impl_FormatNumber_ok ty_impl_FormatNumber_ok rfl ?_ (fun hfit => ?_)
 ·simp [ty_impl_FormatNumber, HasTys, HasVT, HasV1, HasTy]
 unfold vc_impl_FormatNumber
 (refine den_call ?_ (c_Itoa h) (trivial) ?_; (focus (simp only [VC.den, E.den, dEq, gsH_nil, and_true]; try exact rfl)); (simp only [cA]))
 exact den_ret rfl
theorem dig3_step {n : Nat} (h1 : ¬ n < 10) (h2 : n < 1000) : dig3 n = dig3 (n / 10) ++ [UInt8.ofNat (48 + n % 10)] := by
 rw [← dec3 h2, ← dec3 (n := n / 10) (by omega), Lib.decDigits, dif_neg h1]
theorem digit_den (n : Nat) : strOfNums [IntKind.u8.wrap (IntKind.i64.wrap (48 + (n : Int).tmod 10))] = bs [UInt8.ofNat (48 + n % 10)] := by
 have h1 : (n : Int).tmod 10 = ((n % 10 : Nat) : Int) := by rw [Int.tmod_eq_emod_of_nonneg (by omega)]; omega
 rw [h1, wrap_i64 (by omega) (by omega)]
 have h2 : IntKind.u8.wrap (48 + ((n % 10 : Nat) : Int)) = ((48 + n % 10 : Nat) : Int) := by
  simp only [IntKind.wrap, IntKind.bits, IntKind.signed]
  simp
  omega
 rw [h2]
 unfold strOfNums bs
 simp only [List.map_cons, List.map_nil, Int.toNat_natCast]
theorem quo_ten (n : Nat) (h : n < 1000) : arI .quo .i64 n 10 = ((n / 10 : Nat) : Int) := by
 simp only [arI]
 have h1 : (n : Int).tdiv 10 = ((n / 10 : Nat) : Int) := by rw [Int.tdiv_eq_ediv_of_nonneg (by omega)]; omega
 rw [h1, wrap_i64 (by omega) (by omega)]
theorem c_spec_FormatNumber : ∀ {n : Nat}, n < 1000 → Fun Tryz.prog 152 none [.int .i64 n] (.str (bs (dig3 n))) [] := by
 intro n
 induction n using Nat.strongRecOn with
 | ind n ih =>
  intro hn
  have hb : bytesD (.sl ([[D.int .u8 (IntKind.u8.wrap (arI .add .i64 48 (arI .rem .i64 (n : Int) 10)))]])) = bs [UInt8.ofNat (48 + n % 10)] := by
   rw [← digit_den]; rfl
  refine Fun.ofV vc_spec_FormatNumber_ok ty_spec_FormatNumber_ok rfl ?_ (fun hfit => ?_)
  ·simp [ty_spec_FormatNumber, HasTys, HasVT, HasV1, HasTy]
  unfold vc_spec_FormatNumber
  refine den_ite (fun h => ?_) (fun _ => ?_)
  ·simp [E.den, cmpI] at h
  refine den_ite (fun h => ?_) (fun _ => ?_)
  ·simp [E.den, cmpI] at h; omega
  refine den_cond (fun _ => rfl) ?_
  refine den_ite (fun h => ?_) (fun h => ?_)
  ·simp [E.den, cmpI] at h
   refine den_cond (fun _ => rfl) ?_
   refine den_call (xs := [.int .i64 ((n / 10 : Nat) : Int)]) ?_ (ih (n / 10) (by omega) (by omega)) trivial ?_
   ·simp [E.den, quo_ten n hn]
   refine den_cond (fun _ => ?_) (den_ret ?_)
   ·simp only [E.den, dEq, iEq, sEq]
    rw [hb, bs_size, bs_size]
    have := dig3_le (n := n / 10) (by omega)
    simp; unfold maxLen; omega
   ·simp only [E.den, dEq, iEq, sEq]
    rw [hb, bs_append, dig3_step (n := n) (by omega) hn]
  ·simp [E.den, cmpI] at h
   refine den_ret ?_
   simp only [E.den, dEq, iEq, sEq]
   rw [hb]
   have : dig3 n = [UInt8.ofNat (48 + n % 10)] := by unfold dig3; rw [if_pos (by omega)]; congr; omega
   rw [this]
def numI (s : ByteArray) : Int := match numO s.data.toList with | some n => n | none => 0
def numK (s : ByteArray) : Bool := (numO s.data.toList).isSome
def numD (s : ByteArray) : D := .tup [.int .i64 (numI s), .bool (numK s)]
theorem ty_numD (s : ByteArray) : HasVT tbl.tab (.tup [.c (.int .i64), .c .bool]) (numD s) := ⟨rfl, trivial, trivial⟩
theorem numI_some {s : ByteArray} {n : Nat} (h : numO s.data.toList = some n) : numI s = n := by unfold numI; rw [h]
theorem numK_some {s : ByteArray} {n : Nat} (h : numO s.data.toList = some n) : numK s = true := by unfold numK; rw [h]; rfl
theorem numI_none {s : ByteArray} (h : numO s.data.toList = none) : numI s = 0 := by unfold numI; rw [h]
theorem numK_none {s : ByteArray} (h : numO s.data.toList = none) : numK s = false := by unfold numK; rw [h]; rfl
theorem atoi_num {l : List UInt8} {n : Nat} (h : numO l = some n) : Lib.atoi l = some (n : Int) := by
 obtain ⟨h1, rfl⟩ := numO_some.1 h
 exact dig3_atoi h1
theorem size_data (s : ByteArray) : s.data.toList.length = s.size := Array.length_toList
theorem bytes_below {w w' : World} {e : TypeId} {t : ByteArray} (h : w' = Lib.bytesWorld w e t) : Below w.heap.size w w' := by
 subst h
 exact Lib.bytesWorld_below _ _ _
theorem R_num {w : World} {M : Addr → Prop} {n : Int} {b : Bool} (h0 : -9223372036854775808 ≤ n) (h1 : n ≤ 9223372036854775807) : R w M (.tup [.int .i64 n, .bool b]) (.tuple #[.int .i64 n, .bool b]) :=
 ⟨_, rfl, _, _, rfl, ⟨rfl, h0, h1⟩, _, _, rfl, rfl, rfl⟩
theorem R_num0 {w : World} {M : Addr → Prop} {s : ByteArray} (h : numO s.data.toList = none) : R w M (numD s) (.tuple #[.int .i64 0, .bool false]) := by
 unfold numD; rw [numI_none h, numK_none h]; exact R_num (by omega) (by omega)
theorem R_num1 {w : World} {M : Addr → Prop} {s : ByteArray} {n : Nat} (h : numO s.data.toList = some n) : R w M (numD s) (.tuple #[.int .i64 n, .bool true]) := by
 have := (numO_some.1 h).1
 unfold numD; rw [numI_some h, numK_some h]; exact R_num (by omega) (by omega)
theorem c_impl_ParseNumber [HasPow] [HasErr] (s : ByteArray) : Fun Tryz.prog 148 none [.str s] (numD s) [] := by
 refine Fun.of_callsG (by kernel_rfl) fun w M vs hG hr => ?_
 obtain ⟨v, q, rfl, ⟨rfl, hsm⟩, rfl⟩ := hr
 have hM := hG.1
 have no0 := fun W (h : numO s.data.toList = none) => R_num0 (w := W) (M := M) h
 by_cases hl : 1 ≤ s.size ∧ s.size ≤ 3
 ·have a1 : ((s.size : Int) < 1) = False := by simp; omega
  have a2 : ((s.size : Int) > 3) = False := by simp; omega
  cases ha : Lib.atoi s.data.toList with
  | none =>
   have hn : numO s.data.toList = none := by
    cases h : numO s.data.toList with
    | none => rfl
    | some n => rw [atoi_num h] at ha; cases ha
   obtain ⟨cs, ⟨tp, p, rfl⟩, hc⟩ := (HasErr.h w hG.2.1).cell
   have hv := hc 0
   simp at hv
   have HC := Lib.hid (fun W (hW : W = w) => Tryz.strconv_Atoi_err s (by omega) ha (.iface tp p) W (by rw [hW]; exact hv) (Or.inr ⟨tp, p, rfl⟩))
   have HN := Lib.hid hn
   clear hv hc ha hn
   go_enter Tryz.func148, Tryz.ntmps148
   go_wp2_with (go_at_call 158; refine (HC.out _ rfl).mono ?_; rintro e w1 ⟨N0, rfl, hb0, hb1, hb⟩)
   go_ret2
   exact ⟨_, rfl, no0 _ HN.out, hb⟩
  | some z =>
   have HC := Lib.hid (fun W => Tryz.strconv_Atoi s z (by omega) ha W)
   by_cases hz : 0 ≤ z ∧ z ≤ 999
   ·obtain ⟨n, rfl⟩ := Int.eq_ofNat_of_zero_le hz.1
    have hn : n < 1000 := by omega
    have b1 : (0 : Int) ≤ (n : Int) := by omega
    have b2 : (n : Int) ≤ 999 := by omega
    have HF := Lib.hid (fun (w0 : World) (hb : Below w.heap.size w w0) => (c_impl_FormatNumber hn).2 w0 M 0 [.int .i64 n] (hG.below hb fun p hp => Nat.lt_of_lt_of_le (hM p hp) hb.size) (Rs.one ⟨rfl, by show (-9223372036854775808 : Int) ≤ n; omega, by show (n : Int) ≤ 9223372036854775807; omega⟩) (fun cs h => by cases h))
    have hne : ((bs (dig3 n)).toList == s.toList) = decide (numO s.data.toList = some n) := by
     rw [toList_eqB]
     by_cases h : numO s.data.toList = some n
     ·have := (numO_some.1 h).2
      simp [h, this, bs_data]
     ·have : bs (dig3 n) ≠ s := fun e => h (by rw [← e, bs_toList]; exact numO_dig hn)
      simp [h, this]
    by_cases hq : numO s.data.toList = some n
    ·have HQ := Lib.hid hq
     have e1 : ((bs (dig3 n)).toList == s.toList) = true := by rw [hne]; simp [hq]
     clear hne hq ha
     go_enter Tryz.func148, Tryz.ntmps148
     go_wp2_with (first | (go_at_call 158; refine (HC.out _).mono ?_; rintro e w1 ⟨rfl, t1, hb1⟩; replace hb1 := bytes_below hb1) | (go_at_call 144; refine (HF.out _ (by go_grown)).mono ?_; rintro e w2 ⟨v2, rfl, ⟨rfl, -⟩, hb2, -⟩; replace hb2 := hb2.to_below) | go_in)
     go_ret2
     exact ⟨_, rfl, R_num1 HQ.out, bt hb1 hb2⟩
    ·have e1 : ((bs (dig3 n)).toList == s.toList) = false := by rw [hne]; simp [hq]
     have hno : numO s.data.toList = none := by
      cases h : numO s.data.toList with
      | none => rfl
      | some m =>
       have := atoi_num h
       rw [ha] at this
       have e : n = m := by have := Option.some.inj this; omega
       subst e
       exact absurd h hq
     have HN := Lib.hid hno
     clear hne hq ha hno
     go_enter Tryz.func148, Tryz.ntmps148
     go_wp2_with (first | (go_at_call 158; refine (HC.out _).mono ?_; rintro e w1 ⟨rfl, t1, hb1⟩; replace hb1 := bytes_below hb1) | (go_at_call 144; refine (HF.out _ (by go_grown)).mono ?_; rintro e w2 ⟨v2, rfl, ⟨rfl, -⟩, hb2, -⟩; replace hb2 := hb2.to_below) | go_in)
     go_ret2
     exact ⟨_, rfl, no0 _ HN.out, bt hb1 hb2⟩
   ·have hno : numO s.data.toList = none := by
     cases h : numO s.data.toList with
     | none => rfl
     | some m =>
      have h1 := (numO_some.1 h).1
      have := atoi_num h
      rw [ha] at this
      have e : z = (m : Int) := Option.some.inj this
      subst e
      exact absurd ⟨by omega, by omega⟩ hz
    have HN := Lib.hid hno
    have e1 : (decide (0 ≤ z) && decide (z ≤ 999)) = false := by
     rw [Bool.and_eq_false_iff]; simp; omega
    by_cases hz0 : 0 ≤ z
    ·have b2 : (z ≤ 999) = False := by simp; omega
     clear e1 hz hno ha
     go_enter Tryz.func148, Tryz.ntmps148
     go_wp2_with (first | (go_at_call 158; refine (HC.out _).mono ?_; rintro e w1 ⟨rfl, t1, hb1⟩; replace hb1 := bytes_below hb1) | go_in)
     go_ret2
     exact ⟨_, rfl, no0 _ HN.out, hb1⟩
    ·have b2 : (0 ≤ z) = False := by simp; omega
     clear e1 hz hno hz0 ha
     go_enter Tryz.func148, Tryz.ntmps148
     go_wp2_with (first | (go_at_call 158; refine (HC.out _).mono ?_; rintro e w1 ⟨rfl, t1, hb1⟩; replace hb1 := bytes_below hb1) | go_in)
     go_ret2
     exact ⟨_, rfl, no0 _ HN.out, hb1⟩
 ·have hno : numO s.data.toList = none := by
   cases h : numO s.data.toList with
   | none => rfl
   | some m =>
    obtain ⟨h1, h2⟩ := numO_some.1 h
    have h3 := dig3_pos h1
    have h4 := dig3_le h1
    rw [h2, size_data] at h3 h4
    exact absurd ⟨h3, h4⟩ hl
  have HN := Lib.hid hno
  clear hno
  by_cases h0 : s.size = 0
  ·have a1 : ((s.size : Int) < 1) = True := by simp; omega
   clear hl h0
   go_enter Tryz.func148, Tryz.ntmps148
   go_wp2_with fail
   go_ret2
   exact ⟨_, rfl, no0 _ HN.out, Below.refl _ _⟩
  ·have a1 : ((s.size : Int) < 1) = False := by simp; omega
   have a2 : ((s.size : Int) > 3) = True := by simp; omega
   clear hl h0
   go_enter Tryz.func148, Tryz.ntmps148
   go_wp2_with fail
   go_ret2
   exact ⟨_, rfl, no0 _ HN.out, Below.refl _ _⟩
end Go.Proofs.YtbgcaneflfdddaaGreatDoor
/- Contracts: versions as texts. -/
namespace Go.Proofs.YtbgcaneflfdddaaGreatDoor
open Go.RowKit Go
variable [GC]
end Go.Proofs.YtbgcaneflfdddaaGreatDoor
/- A row of one's own that is filled place by place ('out := make([]T, n); for i .. { out[i] = .. }'), on abstract data. No program in sight. -/
namespace Go.Proofs.YtbgcaneflfdddaaGreatDoor
open Go.RowKit
variable [GC]
def own (M : Addr → Prop) (g : Nat) : Addr → Prop := fun p => M p ∨ p.block = g
section
variable {w w1 : World} {M : Addr → Prop} {g : Nat} {T : TypeId} {len n k : Nat} {rows : List (List D)}
end
end Go.Proofs.YtbgcaneflfdddaaGreatDoor
/- The laws' helpers: sizes, copies, equality. Written by gen3.py. -/
namespace Go.Proofs.YtbgcaneflfdddaaGreatDoor
open Go.RowKit Go
variable [GC]
class Sm (α : Type) where
 sm : α → Prop
instance : Sm ByteArray := ⟨fun s => s.size ≤ 1048576⟩
instance {α : Type} [Inhabited α] [Sm α] : Sm (List α) := ⟨fun l => l.length ≤ 1048576 ∧ ∀ k, k < l.length → Sm.sm (nth l k)⟩
instance : Sm Layer := ⟨fun x => Sm.sm x.name⟩
instance : Sm Cell := ⟨fun x => Sm.sm x.key⟩
instance : Sm Core := ⟨fun x => Sm.sm x.kind ∧ Sm.sm x.cells⟩
instance : Sm Call := ⟨fun x => Sm.sm x.method ∧ Sm.sm x.key ∧ Sm.sm x.text⟩
instance : Sm Reply := ⟨fun x => Sm.sm x.text⟩
instance : Sm Part := ⟨fun x => Sm.sm x.core ∧ Sm.sm x.layers⟩
end Go.Proofs.YtbgcaneflfdddaaGreatDoor
/- Contracts: texts joined; faces as texts. -/
namespace Go.Proofs.YtbgcaneflfdddaaGreatDoor
open Go.RowKit Go
variable [GC]
def joinB (l : List ByteArray) (sep : ByteArray) : ByteArray := ⟨(Lib.join (l.map (·.data.toList)) sep.data.toList).toArray⟩
theorem joinB_size (l : List ByteArray) (sep : ByteArray) : (joinB l sep).size = (Lib.join (l.map (·.data.toList)) sep.data.toList).length := bs_size _
theorem bs_of (s : ByteArray) : bs s.data.toList = s := by simp [bs]
theorem joinB_succ {l : List ByteArray} {k : Nat} (h : k < l.length) (sep : ByteArray) : joinB (l.take (k + 1)) sep = if k = 0 then nth l k else joinB (l.take k) sep ++ sep ++ nth l k := by
 cases l with
 | nil => simp at h
 | cons x r =>
  cases k with
  | zero =>
   rw [if_pos rfl]
   show bs (Lib.join [x.data.toList] _) = _
   rw [Lib.join_one, bs_of]; rfl
  | succ j =>
   rw [if_neg (by omega)]
   have hj : j < r.length := by simpa using h
   have e : (r.map (·.data.toList))[j]? = some ((nth (x :: r) (j + 1)).data.toList) := by
    simp [nth, hj]
   simp only [joinB, List.take_succ_cons, List.map_cons, List.map_take, Lib.join_cons]
   rw [Lib.joinTail_take_succ _ _ _ _ e]
   apply ByteArray.ext
   simp [ByteArray.data_append]
theorem joinB_le (l : List ByteArray) (sep : ByteArray) (k : Nat) : (joinB (l.take k) sep).size ≤ (joinB l sep).size := by
 rw [joinB_size, joinB_size]
 cases l with
 | nil => simp
 | cons x r =>
  cases k with
  | zero => simp [Lib.join_nil]
  | succ j =>
   simp only [List.take_succ_cons, List.map_cons, List.map_take, Lib.join_cons, List.length_append]
   have := Lib.joinTail_take_le sep.data.toList (r.map (·.data.toList)) j
   omega
theorem joinB_bound {l : List ByteArray} {sep : ByteArray} {n : Nat} (h : ∀ k, k < l.length → (nth l k).size ≤ n) : (joinB l sep).size ≤ l.length * (n + sep.size) := by
 have : ∀ k, k ≤ l.length → (joinB (l.take k) sep).size ≤ k * (n + sep.size) := by
  intro k
  induction k with
  | zero => intro _; simp [joinB_size, Lib.join_nil]
  | succ k ih =>
   intro hk
   have h1 := ih (by omega)
   have h2 := h k (by omega)
   rw [joinB_succ (by omega), Nat.add_mul]
   split
   ·omega
   ·simp only [ByteArray.size_append]; omega
 simpa using this l.length (Nat.le_refl _)
theorem c_Join (l : List ByteArray) (sep : ByteArray) (hN : l.length ≤ 140737488355328) (hlen : (joinB l sep).size ≤ 140737488355328) : Fun Tryz.prog 155 none [encS l, .str sep] (.str (joinB l sep)) [] := by
 refine Fun.of_callsG (by kernel_rfl) fun w M vs hG hr => ?_
 obtain ⟨v, q, rfl, ⟨a, len, cap, rfl, rfl, hc, hm, ha, hb⟩, v2, q2, rfl, ⟨rfl, _⟩, rfl⟩ := hr
 have hsz : (joinB l sep).size ≤ maxLen := by unfold maxLen; omega
 by_cases h0 : l = []
 ·subst h0
  refine (Tryz.strings_Join_none a cap sep w).mono ?_
  rintro e w' ⟨rfl, rfl⟩
  exact ⟨_, rfl, ⟨rfl, hsz⟩, Below.refl _ _⟩
 ·have hpos : 0 < l.length := List.length_pos_iff.2 h0
  simp only [List.length_map] at hc hb ⊢
  cases a with
  | none => have := ha rfl; omega
  | some ad =>
   obtain ⟨b, o, s⟩ := ad
   obtain ⟨h1, h2⟩ := hb b o s rfl
   obtain rfl := h1 hpos
   have hcell : ∀ (j : Nat) x, l[j]? = some x → w.cell? ⟨b, o + j, none⟩ = some (.string x) := fun j x hx => by
    have h3 := Rws.get (n := 1) h2 (fun r hr => by obtain ⟨y, _, rfl⟩ := List.mem_map.1 hr; rfl) (i := j) (r := [.str x]) (by rw [List.getElem?_map, hx]; rfl)
    obtain ⟨⟨v, h4, _, rfl, _⟩, _⟩ := h3
    simpa using h4
   have hbk : b < w.heap.size := by
    have := hcell 0 _ (List.getElem?_eq_getElem hpos)
    unfold World.cell? at this
    rcases Nat.lt_or_ge b w.heap.size with h | h
    ·exact h
    ·simp only [Array.getElem?_eq_none h] at this; cases this
   refine (Tryz.strings_Join b o cap l sep w hcell hbk hN hc (by rw [← joinB_size]; exact hlen)).mono ?_
   rintro e w' ⟨rfl, hw⟩
   exact ⟨_, rfl, ⟨rfl, hsz⟩, hw⟩
theorem c_impl_JoinWith (l : List ByteArray) (sep : ByteArray) (hN : l.length ≤ 140737488355328) (hlen : (joinB l sep).size ≤ 140737488355328) : Fun Tryz.prog 145 none [encS l, .str sep] (.str (joinB l sep)) [] := by
 refine Fun.ofV vc_impl_JoinWith_ok ty_impl_JoinWith_ok rfl ?_ (fun hfit => ?_)
 ·exact ⟨ty_strS l, trivial, trivial⟩
 unfold vc_impl_JoinWith
 (refine den_call ?_ (c_Join l sep hN hlen) (trivial) ?_; (focus (simp only [VC.den, E.den, dEq, gsH_nil, and_true]; try exact rfl)); (simp only [cA]))
 exact den_ret rfl
theorem c_spec_JoinWith (l : List ByteArray) (sep : ByteArray) (hN : l.length ≤ 140737488355328) (hlen : (joinB l sep).size ≤ 140737488355328) : Fun Tryz.prog 153 none [encS l, .str sep] (.str (joinB l sep)) [] := by
 refine Fun.ofV vc_spec_JoinWith_ok ty_spec_JoinWith_ok rfl ?_ (fun hfit => ?_)
 ·exact ⟨ty_strS l, trivial, trivial⟩
 unfold vc_spec_JoinWith
 refine den_for l.length (fun k => [.str (joinB (l.take k) sep), .int .i64 k]) (fun _ => True) rfl trivial ?_
 intro k hk hI _
 simp only [cA]
 refine den_ite (fun h2 => ?_) (fun h2 => ?_)
 ·simp only [E.den, dEq, iEq, sEq] at h2
  have h2 : k < l.length := by simp at h2; exact h2
  (refine den_cond (fun hg => ?_) ?_; (focus (simp only [gsH, gE, E.den, dEq, iEq, sEq] at hg ⊢; (try simp only [D.bool.injEq] at hg); (try simp only [D.bool.injEq]); grind)))
  have hle := joinB_le l sep (k + 1)
  have e := joinB_succ h2 sep
  refine den_ite (fun h3 => ?_) (fun h3 => ?_)
  ·simp only [E.den, dEq, iEq, sEq] at h3
   have h3 : k ≠ 0 := by simp at h3; omega
   rw [if_neg h3] at e
   rw [e, ByteArray.size_append, ByteArray.size_append] at hle
   refine den_cond (fun _ => ?_) ?_
   ·simp only [E.den, dEq, iEq, sEq]; simp [maxLen]; exact decide_eq_true (by omega)
   refine den_cond (fun _ => ?_) ?_
   ·simp only [E.den, dEq, iEq, sEq, row_str, cells_str]; simp [maxLen, ByteArray.size_append]; omega
   refine den_next h2 ?_ trivial
   simp only [E.den, dEq, iEq, sEq, row_str, cells_str]
   rw [ar_add (by omega) (by omega), e]; rfl
  ·simp only [E.den, dEq, iEq, sEq] at h3
   have h3 : k = 0 := by simp at h3; omega
   subst h3
   rw [if_pos rfl] at e
   rw [e] at hle
   refine den_cond (fun _ => ?_) ?_
   ·simp only [E.den, dEq, iEq, sEq, row_str, cells_str]; simp [maxLen, joinB_size, Lib.join_nil]; omega
   refine den_next h2 ?_ trivial
   simp only [E.den, dEq, iEq, sEq, row_str, cells_str]
   rw [e]
   have : joinB [] sep ++ nth l 0 = nth l 0 := by
    apply ByteArray.ext
    simp [joinB, Lib.join_nil, ByteArray.data_append]
   rw [this]; rfl
 ·simp only [E.den, dEq, iEq, sEq] at h2
  obtain rfl : k = l.length := by simp at h2; omega
  refine den_ret ?_
  simp only [E.den, dEq, iEq, sEq]
  rw [List.take_length]
/-! Arrays of texts that the program's variables hold -/
end Go.Proofs.YtbgcaneflfdddaaGreatDoor
/- Contracts: entries as texts. -/
namespace Go.Proofs.YtbgcaneflfdddaaGreatDoor
open Go.RowKit Go
variable [GC]
theorem dec_ok {p : Prop} [Decidable p] (h : p) : D.bool (decide p) = .bool true := by simp [h]
theorem nameB_le {s : ByteArray} (h : nameB s = true) : s.size ≤ 8 := by
 unfold nameB at h; simp at h; omega
theorem map_take_succ {α β : Type} [Inhabited α] (f : α → β) {l : List α} {k : Nat} (h : k < l.length) : (l.take (k + 1)).map f = (l.take k).map f ++ [f (nth l k)] := by
 rw [List.take_succ_eq_append_getElem h, List.map_append]
 simp [nth, h]
/-! What a recipe's text may be -/
end Go.Proofs.YtbgcaneflfdddaaGreatDoor
/- Contracts: texts cut and divided into pieces. -/
namespace Go.Proofs.YtbgcaneflfdddaaGreatDoor
open Go.RowKit Go
variable [GC]
theorem cut_len (s sep : List UInt8) : (Lib.cut s sep).1.length ≤ s.length ∧ (Lib.cut s sep).2.1.length ≤ s.length := by
 unfold Lib.cut
 split
 ·simp; omega
 ·simp
def cutD3 (s : ByteArray) (sep : List UInt8) : D := .tup [.str (bs (Lib.cut s.data.toList sep).1), .str (bs (Lib.cut s.data.toList sep).2.1), .bool (Lib.cut s.data.toList sep).2.2]
theorem c_Cut [HasMax] (s : ByteArray) (sep : List UInt8) (hs : s.size < 4294967281) : Fun Tryz.prog 147 none [.str s, .str (bs sep)] (cutD3 s sep) [] := by
 refine Fun.of_callsG (by kernel_rfl) fun w M vs hG hr => ?_
 obtain ⟨v, q, rfl, ⟨rfl, _⟩, v2, q2, rfl, ⟨rfl, _⟩, rfl⟩ := hr
 obtain ⟨cs, ⟨m, hcs⟩, hc⟩ := (HasMax.h w hG.2.1).cell
 have hm := hc 0
 rw [hcs] at hm
 have h := cut_len s.data.toList sep
 rw [size_data] at h
 refine (Tryz.strings_Cut s (bs sep) m w hs hm).mono ?_
 rintro e w' ⟨rfl, k, rfl⟩
 rw [bs_toList]
 refine ⟨_, rfl, ⟨_, rfl, _, _, rfl, ⟨rfl, ?_⟩, _, _, rfl, ⟨rfl, ?_⟩, _, _, rfl, rfl, rfl⟩, ⟨rfl, rfl, rfl, Nat.le_refl _, fun _ _ => rfl⟩⟩
 ·rw [bs_size]; unfold maxLen; omega
 ·rw [bs_size]; unfold maxLen; omega
def pieces (s sep : ByteArray) : List ByteArray := (Lib.split s.data.toList sep.data.toList).map bs
theorem map_bs (l : List ByteArray) : (l.map (·.data.toList)).map bs = l := by
 rw [List.map_map]
 conv => rhs; rw [← List.map_id l]
 exact List.map_congr_left fun x _ => bs_data x
theorem mem_lens {x : List UInt8} : ∀ {l : List (List UInt8)}, x ∈ l → x.length ≤ Lib.lens l
 | y :: r, h => by
  have e : Lib.lens (y :: r) = y.length + Lib.lens r := by simp [Lib.lens]
  rw [e]
  rcases List.mem_cons.1 h with rfl | h
  ·omega
  ·have := mem_lens h
   omega
theorem split_size {s sep : List UInt8} (h : sep ≠ []) : (Lib.split s sep).length ≤ s.length + 1 ∧ ∀ x ∈ Lib.split s sep, x.length ≤ s.length := by
 obtain ⟨h1, h2⟩ := join_split h s.length s (Nat.le_refl _)
 have hpos : 0 < sep.length := List.length_pos_iff.2 h
 cases hl : Lib.split s sep with
 | nil => exact absurd hl h2
 | cons y r =>
  rw [hl, Lib.join_cons] at h1
  have e := congrArg List.length h1
  rw [List.length_append, Lib.joinTail_length] at e
  have : r.length ≤ sep.length * r.length := Nat.le_mul_of_pos_left _ hpos
  refine ⟨by simp; omega, fun x hx => ?_⟩
  rcases List.mem_cons.1 hx with rfl | hx
  ·omega
  ·have := mem_lens hx
   omega
theorem pieces_size {s sep : ByteArray} (h : 1 ≤ sep.size) : (pieces s sep).length ≤ s.size + 1 ∧ ∀ x ∈ pieces s sep, x.size ≤ s.size := by
 have hne : sep.data.toList ≠ [] := fun e => by
  have : sep.size = 0 := by rw [← size_data, e]; rfl
  omega
 obtain ⟨h1, h2⟩ := split_size (s := s.data.toList) hne
 rw [size_data] at h1
 refine ⟨by unfold pieces; rw [List.length_map]; exact h1, fun x hx => ?_⟩
 obtain ⟨y, hy, rfl⟩ := List.mem_map.1 hx
 have := h2 y hy
 rw [size_data] at this
 rw [bs_size]; exact this
theorem piece_size {s sep : ByteArray} (h : 1 ≤ sep.size) {k : Nat} (hk : k < (pieces s sep).length) : (nth (pieces s sep) k).size ≤ s.size := (pieces_size h).2 _ (nth_mem hk)
theorem pieces_eq (s sep : ByteArray) : Lib.splitB sep 0 (Lib.countB s sep) s = pieces s sep := by
 unfold pieces
 rw [← map_bs (Lib.splitB sep 0 (Lib.countB s sep) s), Lib.splitB_data]
 rfl
theorem cR_Split [HasMax] (s sep : ByteArray) (hs : s.size < 4294967281) (h1 : 1 ≤ sep.size) : FunR Tryz.prog 146 none [.str s, .str sep] (encS (pieces s sep)) [] [(0, 1)] := by
 refine ⟨by kernel_rfl, fun w M g vs hG hr _ => ?_⟩
 obtain ⟨v, q, rfl, ⟨rfl, _⟩, v2, q2, rfl, ⟨rfl, _⟩, rfl⟩ := hr
 obtain ⟨cs, ⟨m, hcs⟩, hc⟩ := (HasMax.h w hG.2.1).cell
 have hm := hc 0
 rw [hcs] at hm
 obtain ⟨z1, z2⟩ := pieces_size (s := s) h1
 have hlen : Lib.countB s sep + 1 = (pieces s sep).length := by rw [← pieces_eq, Lib.splitB_all sep h1 0 _ s rfl]
 refine (Tryz.strings_Split s sep m w hs hm h1).mono ?_
 rintro e w' ⟨rfl, rfl⟩
 rw [pieces_eq, hlen]
 have hnsp : ∀ p, ¬ RtM (.slice (some ⟨w.heap.size, 0, none⟩) (pieces s sep).length (pieces s sep).length) [(0, 1)] p := by
  rintro p ⟨x, hx, hsp⟩
  simp at hx
  subst hx
  obtain ⟨b, o, s', len, cap, e, q1, q2, q3⟩ := hsp
  have e : Value.slice (some ⟨w.heap.size, 0, none⟩) (pieces s sep).length (pieces s sep).length = .slice (some ⟨b, o, s'⟩) len cap := e
  cases e
  omega
 have hnew : (w.alloc (.cells ((pieces s sep).map Value.string).toArray 9)).heap[w.heap.size]? = some (.cells ((pieces s sep).map Value.string).toArray 9 (0, 0)) := heap_new (by simp)
 refine ⟨_, rfl, R_strs (pieces s sep) hnew rfl rfl (fun o h => ?_) (fun x hx => ?_) ?_, Fr.of_below ((Below.refl _ _).alloc (Nat.le_refl _) _) (Nat.le_refl _), ⟨fun x hx => ?_, fun i j x y hi hj hij => ?_⟩, fun h => by cases h⟩
 ·rcases h with h | h
  ·have := hG.1 _ h
   simp at this
  ·exact hnsp _ h
 ·have := z2 x hx
  unfold maxLen; omega
 ·unfold maxLen; omega
 ·simp at hx
  subst hx
  intro b o s' len cap e hc
  have e : Value.slice (some ⟨w.heap.size, 0, none⟩) (pieces s sep).length (pieces s sep).length = .slice (some ⟨b, o, s'⟩) len cap := e
  cases e
  exact ⟨rfl, Nat.le_refl _, _, _, hnew, by simp⟩
 ·have h1 := (List.getElem?_eq_some_iff.1 hi).1
  have h2 := (List.getElem?_eq_some_iff.1 hj).1
  simp at h1 h2
  omega
end Go.Proofs.YtbgcaneflfdddaaGreatDoor
