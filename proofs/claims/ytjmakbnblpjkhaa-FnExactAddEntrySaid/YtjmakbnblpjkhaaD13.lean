/- Names, kinds, faces: what the program and the reference compute. -/
import Derived.Test.YtjmakbnblpjkhaaD12
import Derived.Test.YtjmakbnblpjkhaaD10
import Derived.Test.YtjmakbnblpjkhaaD0
set_option linter.unusedVariables false
set_option linter.unusedSimpArgs false
set_option maxRecDepth 100000
set_option linter.unusedSectionVars false
namespace Go.Proofs.Ytjmakbnblpjkhaa
open Go.RowKit Go
variable [GC]
def letB (s : ByteArray) (k : Nat) : Bool := (decide (97 ≤ byteZ s k) && decide (byteZ s k ≤ 122)) || (!(k == 0) && (decide (48 ≤ byteZ s k) && decide (byteZ s k ≤ 57)))
def nameB (s : ByteArray) : Bool := decide (1 ≤ s.size) && decide (s.size ≤ 8) && allTo (letB s) s.size
theorem c_spec_l1Letter (b : Int) (f : Bool) : Fun Try.prog 55 none [.int .u8 b, .bool f] (.bool ((decide (97 ≤ b) && decide (b ≤ 122)) || (!f && (decide (48 ≤ b) && decide (b ≤ 57))))) [] := by
 refine Fun.ofV vc_spec_l1Letter_ok ty_spec_l1Letter_ok rfl ?_ (fun hfit => ?_)
 ·exact ⟨rfl, trivial, trivial⟩
 unfold vc_spec_l1Letter
 refine den_ret ?_
 simp [E.den, cmpI, Bool.and_assoc]
theorem c_spec_IsName (s : ByteArray) : Fun Try.prog 44 none [.str s] (.bool (nameB s)) [] := by
 refine Fun.ofV vc_spec_IsName_ok ty_spec_IsName_ok rfl ?_ (fun hfit => ?_)
 ·exact ⟨trivial, trivial⟩
 have hl := fits_str hfit.1
 unfold vc_spec_IsName
 refine den_for s.size (fun k => [.int .i64 k]) (fun k => allTo (letB s) k = true) rfl rfl ?_
 intro k hk hI _
 simp only [cA]
 refine den_ite (fun h2 => ?_) (fun h2 => ?_)
 ·simp only [E.den, dEq, iEq, sEq] at h2
  have h2 : k < s.size := by simp at h2; exact h2
  (refine den_cond (fun hg => ?_) ?_; (focus (simp only [gsH, gE, E.den, dEq, iEq, sEq] at hg ⊢; (try simp only [D.bool.injEq] at hg); (try simp only [D.bool.injEq]); grind)))
  ((first | refine den_call ?_ (c_spec_l1Letter (byteZ s k) ((k : Int) == 0)) (trivial) ?_ | refine den_callR ?_ (c_spec_l1Letter (byteZ s k) ((k : Int) == 0)) (trivial) ?_ | refine den_call ?_ (.ofR (c_spec_l1Letter (byteZ s k) ((k : Int) == 0))) (trivial) ?_); (focus (simp only [VC.den, E.den, dEq, gsH_nil, and_true, at_byte, cmpI_eql, Int.toNat_natCast]; try exact rfl)); (simp only [cA]))
  refine den_ite (fun h3 => ?_) (fun h3 => ?_)
  ·simp only [E.den, dEq, iEq, sEq] at h3
   have hb : letB s k = false := by
    simp at h3
    simp [letB]; omega
   refine den_ret ?_
   simp [E.den, nameB, allTo_bad h2 hb]
  ·simp only [E.den, dEq, iEq, sEq] at h3
   have hb : letB s k = true := by
    simp at h3
    simp [letB]; omega
   refine den_next h2 ?_ (show (allTo (letB s) k && letB s k) = true by rw [hI, hb]; rfl)
   simp only [E.den, dEq, iEq, sEq]
   rw [ar_add (by omega) (by omega)]; rfl
 ·simp only [E.den, dEq, iEq, sEq] at h2
  obtain rfl : k = s.size := by simp at h2; omega
  refine den_ret ?_
  simp only [nameB, hI, Bool.and_true]
  simp only [E.den, dEq, iEq, sEq]
  congr 1
  grind
theorem c_impl_IsName (s : ByteArray) : Fun Try.prog 49 none [.str s] (.bool (nameB s)) [] := by
 refine Fun.ofV vc_impl_IsName_ok ty_impl_IsName_ok rfl ?_ (fun hfit => ?_)
 ·exact ⟨trivial, trivial⟩
 have hl := fits_str hfit.1
 unfold vc_impl_IsName
 (refine den_cond (fun hg => ?_) ?_; (focus (simp only [gsH, gE, E.den, dEq, iEq, sEq] at hg ⊢; (try simp only [D.bool.injEq] at hg); (try simp only [D.bool.injEq]); grind)))
 (refine den_cond (fun hg => ?_) ?_; (focus (simp only [gsH, gE, E.den, dEq, iEq, sEq] at hg ⊢; (try simp only [D.bool.injEq] at hg); (try simp only [D.bool.injEq]); grind)))
 refine den_ite (fun h => ?_) (fun h => ?_)
 ·simp only [E.den, dEq, iEq, sEq] at h
  refine den_ret ?_
  simp only [E.den, D.bool.injEq]
  by_cases h0 : 1 ≤ s.size ∧ s.size ≤ 8
  ·have hb : letB s 0 = false := by
    simp at h
    simp [letB]; omega
   simp [nameB, allTo_bad (show 0 < s.size by omega) hb]
  ·have : (decide (1 ≤ s.size) && decide (s.size ≤ 8)) = false := by simp; omega
   simp [nameB, this]
 simp only [E.den, dEq, iEq, sEq] at h
 have h0 : 1 ≤ s.size ∧ s.size ≤ 8 := by grind
 refine den_for s.size (fun k => [.int .i64 k]) (fun k => allTo (letB s) k = true) rfl rfl ?_
 intro k hk hI _
 simp only [cA]
 refine den_ite (fun h2 => ?_) (fun h2 => ?_)
 ·simp only [E.den, dEq, iEq, sEq] at h2
  have h2 : k < s.size := by simp at h2; exact h2
  (refine den_cond (fun hg => ?_) ?_; (focus (simp only [gsH, gE, E.den, dEq, iEq, sEq] at hg ⊢; (try simp only [D.bool.injEq] at hg); (try simp only [D.bool.injEq]); grind)))
  (refine den_cond (fun hg => ?_) ?_; (focus (simp only [gsH, gE, E.den, dEq, iEq, sEq] at hg ⊢; (try simp only [D.bool.injEq] at hg); (try simp only [D.bool.injEq]); grind)))
  (refine den_cond (fun hg => ?_) ?_; (focus (simp only [gsH, gE, E.den, dEq, iEq, sEq] at hg ⊢; (try simp only [D.bool.injEq] at hg); (try simp only [D.bool.injEq]); grind)))
  (refine den_cond (fun hg => ?_) ?_; (focus (simp only [gsH, gE, E.den, dEq, iEq, sEq] at hg ⊢; (try simp only [D.bool.injEq] at hg); (try simp only [D.bool.injEq]); grind)))
  refine den_ite (fun h3 => ?_) (fun h3 => ?_)
  ·simp only [E.den, dEq, iEq, sEq] at h3
   have hb : letB s k = false := by
    simp at h3
    simp [letB]; omega
   refine den_ret ?_
   simp [E.den, nameB, allTo_bad h2 hb]
  ·simp only [E.den, dEq, iEq, sEq] at h3
   have hb : letB s k = true := by
    simp at h h3
    by_cases e : k = 0
    ·subst e; simp [letB]; omega
    ·simp [letB]; omega
   refine den_next h2 ?_ (show (allTo (letB s) k && letB s k) = true by rw [hI, hb]; rfl)
   simp only [E.den, dEq, iEq, sEq]
   rw [ar_add (by omega) (by omega)]; rfl
 ·simp only [E.den, dEq, iEq, sEq] at h2
  obtain rfl : k = s.size := by simp at h2; omega
  refine den_ret ?_
  simp [E.den, nameB, hI, h0]
def numB (n : Int) : Bool := decide (0 ≤ n) && decide (n ≤ 999)
theorem c_impl_isNumber (n : Int) : Fun Try.prog 85 none [.int .i64 n] (.bool (numB n)) [] := by
 refine Fun.ofV vc_impl_isNumber_ok ty_impl_isNumber_ok rfl ?_ (fun hfit => ?_)
 ·exact ⟨rfl, trivial⟩
 exact den_ret (by simp [E.den, cmpI, numB])
def kinds : List ByteArray := [⟨#[115, 116, 111, 110, 101]⟩, ⟨#[108, 97, 109, 112]⟩, ⟨#[115, 104, 101, 108, 102]⟩, ⟨#[109, 101, 116, 101, 114]⟩, ⟨#[100, 114, 97, 119, 101, 114]⟩, ⟨#[104, 111, 114, 110]⟩, ⟨#[118, 97, 117, 108, 116]⟩, ⟨#[114, 111, 98, 111, 116]⟩]
def kindFs : List Nat := [0, 1, 2, 5, 3, 9, 19, 63]
def kindAt (s : ByteArray) : Option Nat := if s = nth kinds 0 then some 0 else if s = nth kinds 1 then some 1 else if s = nth kinds 2 then some 2 else if s = nth kinds 3 then some 3 else if s = nth kinds 4 then some 4 else if s = nth kinds 5 then some 5 else if s = nth kinds 6 then some 6 else if s = nth kinds 7 then some 7 else none
def kindN (s : ByteArray) : Nat := match kindAt s with | some k => kindFs.getD k 0 | none => 0
def kindOk (s : ByteArray) : Bool := (kindAt s).isSome
theorem kindN_lt (s : ByteArray) : kindN s < 64 := by
 unfold kindN
 split
 ·rename_i k _
  by_cases h : k < 8
  ·obtain rfl | rfl | rfl | rfl | rfl | rfl | rfl | rfl : k = 0 ∨ k = 1 ∨ k = 2 ∨ k = 3 ∨ k = 4 ∨ k = 5 ∨ k = 6 ∨ k = 7 := by omega
   all_goals decide
  ·rw [List.getD, List.getElem?_eq_none (by simp [kindFs]; omega)]; decide
 ·decide
theorem kindAt_none {s : ByteArray} (h : ∀ j, j < 8 → nth kinds j ≠ s) : kindAt s = none := by
 unfold kindAt
 rw [if_neg (fun e => h 0 (by omega) e.symm), if_neg (fun e => h 1 (by omega) e.symm), if_neg (fun e => h 2 (by omega) e.symm), if_neg (fun e => h 3 (by omega) e.symm), if_neg (fun e => h 4 (by omega) e.symm), if_neg (fun e => h 5 (by omega) e.symm), if_neg (fun e => h 6 (by omega) e.symm), if_neg (fun e => h 7 (by omega) e.symm)]
theorem eight {k : Nat} (h : k < 8) : k = 0 ∨ k = 1 ∨ k = 2 ∨ k = 3 ∨ k = 4 ∨ k = 5 ∨ k = 6 ∨ k = 7 := by omega
theorem c_impl_KindFace (s : ByteArray) : Fun Try.prog 82 none [.str s] (.tup [.int .i64 (kindN s), .bool (kindOk s)]) [] := by
 refine Fun.ofV vc_impl_KindFace_ok ty_impl_KindFace_ok rfl ?_ (fun hfit => ?_)
 ·exact ⟨trivial, trivial⟩
 clear hfit
 unfold vc_impl_KindFace
 refine den_ite (fun h => ?_) (fun h0 => ?_)
 ·simp only [E.den, dEq, iEq, sEq] at h; simp at h; subst h; exact den_ret rfl
 refine den_ite (fun h => ?_) (fun h1 => ?_)
 ·simp only [E.den, dEq, iEq, sEq] at h; simp at h; subst h; exact den_ret rfl
 refine den_ite (fun h => ?_) (fun h2 => ?_)
 ·simp only [E.den, dEq, iEq, sEq] at h; simp at h; subst h; exact den_ret rfl
 refine den_ite (fun h => ?_) (fun h3 => ?_)
 ·simp only [E.den, dEq, iEq, sEq] at h; simp at h; subst h; exact den_ret rfl
 refine den_ite (fun h => ?_) (fun h4 => ?_)
 ·simp only [E.den, dEq, iEq, sEq] at h; simp at h; subst h; exact den_ret rfl
 refine den_ite (fun h => ?_) (fun h5 => ?_)
 ·simp only [E.den, dEq, iEq, sEq] at h; simp at h; subst h; exact den_ret rfl
 refine den_ite (fun h => ?_) (fun h6 => ?_)
 ·simp only [E.den, dEq, iEq, sEq] at h; simp at h; subst h; exact den_ret rfl
 refine den_ite (fun h => ?_) (fun h7 => ?_)
 ·simp only [E.den, dEq, iEq, sEq] at h; simp at h; subst h; exact den_ret rfl
 simp only [E.den, dEq, iEq, sEq] at h0 h1 h2 h3 h4 h5 h6 h7
 simp at h0 h1 h2 h3 h4 h5 h6 h7
 have hn : kindAt s = none := kindAt_none fun j hj => by
  obtain rfl | rfl | rfl | rfl | rfl | rfl | rfl | rfl := eight hj
  all_goals (intro e; first | exact h0 e.symm | exact h1 e.symm | exact h2 e.symm | exact h3 e.symm | exact h4 e.symm | exact h5 e.symm | exact h6 e.symm | exact h7 e.symm)
 exact den_ret (by simp [E.den, kindN, kindOk, hn])
theorem kindAt_nth : ∀ k : Fin 8, kindAt (nth kinds k.val) = some k.val := by decide +kernel
def kindE : E := .put (.put (.put (.put (.put (.put (.put (.put (.nilS 9) (.ag1 (.ls ⟨#[115, 116, 111, 110, 101]⟩))) (.ag1 (.ls ⟨#[108, 97, 109, 112]⟩))) (.ag1 (.ls ⟨#[115, 104, 101, 108, 102]⟩))) (.ag1 (.ls ⟨#[109, 101, 116, 101, 114]⟩))) (.ag1 (.ls ⟨#[100, 114, 97, 119, 101, 114]⟩))) (.ag1 (.ls ⟨#[104, 111, 114, 110]⟩))) (.ag1 (.ls ⟨#[118, 97, 117, 108, 116]⟩))) (.ag1 (.ls ⟨#[114, 111, 98, 111, 116]⟩))
def kindFE : E := .put (.put (.put (.put (.put (.put (.put (.put (.nilS 3) (.ag1 (.li .i64 0))) (.ag1 (.li .i64 1))) (.ag1 (.li .i64 2))) (.ag1 (.li .i64 5))) (.ag1 (.li .i64 3))) (.ag1 (.li .i64 9))) (.ag1 (.li .i64 19))) (.ag1 (.li .i64 63))
theorem kindE_den (env : List D) : kindE.den env = encS kinds := rfl
theorem kindFE_den (env : List D) : kindFE.den env = encS (kindFs.map fun (n : Nat) => (n : Int)) := rfl
theorem c_spec_KindFace (s : ByteArray) : Fun Try.prog 77 none [.str s] (.tup [.int .i64 (kindN s), .bool (kindOk s)]) [] := by
 refine Fun.ofV vc_spec_KindFace_ok ty_spec_KindFace_ok rfl ?_ (fun hfit => ?_)
 ·exact ⟨trivial, trivial⟩
 clear hfit
 show VC.den _ _ (.loop [.one (.c (.int .i64))] [.li .i64 0] (.ite (.ic .lss (.var 1) (.len kindE)) (.rq (.cond [] (.inb kindE (.var 1))) (.ite (.sc .eql (.cell (.row [.str] kindE (.var 1)) 0) (.var 0)) (.rq (.cond [] (.inb kindFE (.var 1))) (.ret (.tp1 (.tp1 .tp0 (.cell (.row [.int .i64] kindFE (.var 1)) 0)) (.lb true)) [])) (.again 0 [.ar .add .i64 (.var 1) (.li .i64 1)]))) (.ret (.tp1 (.tp1 .tp0 (.li .i64 0)) (.lb false)) []))) _ _ _
 have e8 : kinds.length = 8 := rfl
 refine den_for 8 (fun k => [.int .i64 k]) (fun k => ∀ j, j < k → nth kinds j ≠ s) rfl (by omega) ?_
 intro k hk hI _
 simp only [cA]
 refine den_ite (fun h2 => ?_) (fun h2 => ?_)
 ·simp only [E.den, dEq, iEq, sEq, kindE_den, e8] at h2
  have h2 : k < 8 := by simp at h2; omega
  refine den_cond (fun _ => ?_) ?_
  ·simp only [E.den, dEq, iEq, sEq, kindE_den, e8]
   simp; omega
  refine den_ite (fun h3 => ?_) (fun h3 => ?_)
  ·simp only [E.den, dEq, iEq, sEq, kindE_den, row_str, cells_str] at h3
   simp at h3
   refine den_cond (fun _ => ?_) ?_
   ·simp only [E.den, dEq, iEq, sEq, kindFE_den, List.length_map]
    simp [kindFs]; omega
   refine den_ret ?_
   simp only [E.den, dEq, iEq, sEq, kindFE_den, row_int, cells_int]
   have hn : kindAt s = some k := by rw [← h3]; exact kindAt_nth ⟨k, h2⟩
   simp only [kindN, kindOk, hn]
   obtain rfl | rfl | rfl | rfl | rfl | rfl | rfl | rfl : k = 0 ∨ k = 1 ∨ k = 2 ∨ k = 3 ∨ k = 4 ∨ k = 5 ∨ k = 6 ∨ k = 7 := by omega
   all_goals rfl
  ·simp only [E.den, dEq, iEq, sEq, kindE_den, row_str, cells_str] at h3
   simp at h3
   refine den_next h2 ?_ fun j hj => ?_
   ·simp only [E.den, dEq, iEq, sEq]
    rw [ar_add (by omega) (by omega)]; rfl
   ·rcases Nat.lt_or_ge j k with h | h
    ·exact hI j h
    ·obtain rfl : j = k := by omega
     exact h3
 ·simp only [E.den, dEq, iEq, sEq, kindE_den, e8] at h2
  obtain rfl : k = 8 := by simp at h2; omega
  refine den_ret ?_
  have hn := kindAt_none hI
  simp [E.den, kindN, kindOk, hn]
def layers : List ByteArray := [⟨#[112, 108, 97, 105, 110]⟩, ⟨#[114, 117, 110, 115]⟩, ⟨#[107, 101, 101, 112, 115]⟩, ⟨#[99, 111, 117, 110, 116, 115]⟩, ⟨#[108, 97, 122, 121]⟩, ⟨#[114, 101, 97, 100, 115]⟩, ⟨#[104, 101, 97, 114, 115]⟩, ⟨#[104, 101, 97, 108, 115]⟩, ⟨#[116, 119, 105, 99, 101]⟩]
def layN : List Nat := [0, 1, 2, 2, 3, 2, 1, 1, 4]
def layG : List Nat := [0, 1, 2, 6, 3, 2, 9, 33, 4]
def layAt (s : ByteArray) : Option Nat := if s = nth layers 0 then some 0 else if s = nth layers 1 then some 1 else if s = nth layers 2 then some 2 else if s = nth layers 3 then some 3 else if s = nth layers 4 then some 4 else if s = nth layers 5 then some 5 else if s = nth layers 6 then some 6 else if s = nth layers 7 then some 7 else if s = nth layers 8 then some 8 else none
def needN (s : ByteArray) : Nat := match layAt s with | some k => layN.getD k 0 | none => 0
def giveN (s : ByteArray) : Nat := match layAt s with | some k => layG.getD k 0 | none => 0
def layOk (s : ByteArray) : Bool := (layAt s).isSome
theorem nine {k : Nat} (h : k < 9) : k = 0 ∨ k = 1 ∨ k = 2 ∨ k = 3 ∨ k = 4 ∨ k = 5 ∨ k = 6 ∨ k = 7 ∨ k = 8 := by omega
theorem layAt_none {s : ByteArray} (h : ∀ j, j < 9 → nth layers j ≠ s) : layAt s = none := by
 unfold layAt
 rw [if_neg (fun e => h 0 (by omega) e.symm), if_neg (fun e => h 1 (by omega) e.symm), if_neg (fun e => h 2 (by omega) e.symm), if_neg (fun e => h 3 (by omega) e.symm), if_neg (fun e => h 4 (by omega) e.symm), if_neg (fun e => h 5 (by omega) e.symm), if_neg (fun e => h 6 (by omega) e.symm), if_neg (fun e => h 7 (by omega) e.symm), if_neg (fun e => h 8 (by omega) e.symm)]
theorem layAt_nth : ∀ k : Fin 9, layAt (nth layers k.val) = some k.val := by decide +kernel
def layD (s : ByteArray) : D := .tup [.int .i64 (needN s), .int .i64 (giveN s), .bool (layOk s)]
theorem c_impl_layerFaces (s : ByteArray) : Fun Try.prog 73 none [.str s] (layD s) [] := by
 refine Fun.ofV vc_impl_layerFaces_ok ty_impl_layerFaces_ok rfl ?_ (fun hfit => ?_)
 ·exact ⟨trivial, trivial⟩
 clear hfit
 unfold vc_impl_layerFaces
 refine den_ite (fun h => ?_) (fun h0 => ?_)
 ·simp only [E.den, dEq, iEq, sEq] at h; simp at h; subst h; exact den_ret rfl
 refine den_ite (fun h => ?_) (fun h1 => ?_)
 ·simp only [E.den, dEq, iEq, sEq] at h; simp at h; subst h; exact den_ret rfl
 refine den_ite (fun h => ?_) (fun h2 => ?_)
 ·refine den_ite (fun _ => ?_) (fun h' => ?_)
  ·simp only [E.den, dEq, iEq, sEq] at h; simp at h; subst h; exact den_ret rfl
  ·rw [h] at h'; cases h'
 refine den_ite (fun h => ?_) (fun h3 => ?_)
 ·simp only [E.den, dEq, iEq, sEq] at h; simp at h; subst h; exact den_ret rfl
 refine den_ite (fun h => ?_) (fun h4 => ?_)
 ·simp only [E.den, dEq, iEq, sEq] at h; simp at h; subst h; exact den_ret rfl
 refine den_ite (fun h => ?_) (fun h5 => ?_)
 ·simp only [E.den, dEq, iEq, sEq] at h; simp at h; subst h; exact den_ret rfl
 refine den_ite (fun h => ?_) (fun h6 => ?_)
 ·simp only [E.den, dEq, iEq, sEq] at h; simp at h; subst h; exact den_ret rfl
 refine den_ite (fun h => ?_) (fun h7 => ?_)
 ·simp only [E.den, dEq, iEq, sEq] at h; simp at h; subst h; exact den_ret rfl
 refine den_ite (fun h => ?_) (fun h8 => ?_)
 ·simp only [E.den, dEq, iEq, sEq] at h; simp at h; subst h; exact den_ret rfl
 simp only [E.den, dEq, iEq, sEq] at h0 h1 h2 h3 h4 h5 h6 h7 h8
 simp at h0 h1 h2 h3 h4 h5 h6 h7 h8
 have hn : layAt s = none := layAt_none fun j hj => by
  obtain rfl | rfl | rfl | rfl | rfl | rfl | rfl | rfl | rfl := nine hj
  all_goals (intro e; first | exact h0 e.symm | exact h1 e.symm | exact h2 e.symm | exact h3 e.symm | exact h4 e.symm | exact h5 e.symm | exact h6 e.symm | exact h7 e.symm | exact h8 e.symm)
 exact den_ret (by simp [E.den, layD, needN, giveN, layOk, hn])
def layE : E := .put (.put (.put (.put (.put (.put (.put (.put (.put (.nilS 9) (.ag1 (.ls ⟨#[112, 108, 97, 105, 110]⟩))) (.ag1 (.ls ⟨#[114, 117, 110, 115]⟩))) (.ag1 (.ls ⟨#[107, 101, 101, 112, 115]⟩))) (.ag1 (.ls ⟨#[99, 111, 117, 110, 116, 115]⟩))) (.ag1 (.ls ⟨#[108, 97, 122, 121]⟩))) (.ag1 (.ls ⟨#[114, 101, 97, 100, 115]⟩))) (.ag1 (.ls ⟨#[104, 101, 97, 114, 115]⟩))) (.ag1 (.ls ⟨#[104, 101, 97, 108, 115]⟩))) (.ag1 (.ls ⟨#[116, 119, 105, 99, 101]⟩))
def layNE : E := .put (.put (.put (.put (.put (.put (.put (.put (.put (.nilS 3) (.ag1 (.li .i64 0))) (.ag1 (.li .i64 1))) (.ag1 (.li .i64 2))) (.ag1 (.li .i64 2))) (.ag1 (.li .i64 3))) (.ag1 (.li .i64 2))) (.ag1 (.li .i64 1))) (.ag1 (.li .i64 1))) (.ag1 (.li .i64 4))
def layGE : E := .put (.put (.put (.put (.put (.put (.put (.put (.put (.nilS 3) (.ag1 (.li .i64 0))) (.ag1 (.li .i64 1))) (.ag1 (.li .i64 2))) (.ag1 (.li .i64 6))) (.ag1 (.li .i64 3))) (.ag1 (.li .i64 2))) (.ag1 (.li .i64 9))) (.ag1 (.li .i64 33))) (.ag1 (.li .i64 4))
theorem layE_den (env : List D) : layE.den env = encS layers := rfl
theorem layNE_den (env : List D) : layNE.den env = encS (layN.map fun (n : Nat) => (n : Int)) := rfl
theorem layGE_den (env : List D) : layGE.den env = encS (layG.map fun (n : Nat) => (n : Int)) := rfl
theorem c_spec_l4Row (s : ByteArray) : Fun Try.prog 67 none [.str s] (layD s) [] := by
 refine Fun.ofV vc_spec_l4Row_ok ty_spec_l4Row_ok rfl ?_ (fun hfit => ?_)
 ·exact ⟨trivial, trivial⟩
 clear hfit
 show VC.den _ _ (.loop [.one (.c (.int .i64))] [.li .i64 0] (.ite (.ic .lss (.var 1) (.len layE)) (.rq (.cond [] (.inb layE (.var 1))) (.ite (.sc .eql (.cell (.row [.str] layE (.var 1)) 0) (.var 0)) (.rq (.cond [] (.inb layNE (.var 1))) (.rq (.cond [] (.inb layGE (.var 1))) (.ret (.tp1 (.tp1 (.tp1 .tp0 (.cell (.row [.int .i64] layNE (.var 1)) 0)) (.cell (.row [.int .i64] layGE (.var 1)) 0)) (.lb true)) []))) (.again 0 [.ar .add .i64 (.var 1) (.li .i64 1)]))) (.ret (.tp1 (.tp1 (.tp1 .tp0 (.li .i64 0)) (.li .i64 0)) (.lb false)) []))) _ _ _
 have e9 : layers.length = 9 := rfl
 refine den_for 9 (fun k => [.int .i64 k]) (fun k => ∀ j, j < k → nth layers j ≠ s) rfl (by omega) ?_
 intro k hk hI _
 simp only [cA]
 refine den_ite (fun h2 => ?_) (fun h2 => ?_)
 ·simp only [E.den, dEq, iEq, sEq, layE_den, e9] at h2
  have h2 : k < 9 := by simp at h2; omega
  refine den_cond (fun _ => ?_) ?_
  ·simp only [E.den, dEq, iEq, sEq, layE_den, e9]
   simp; omega
  refine den_ite (fun h3 => ?_) (fun h3 => ?_)
  ·simp only [E.den, dEq, iEq, sEq, layE_den, row_str, cells_str] at h3
   simp at h3
   refine den_cond (fun _ => ?_) (den_cond (fun _ => ?_) ?_)
   ·simp only [E.den, dEq, iEq, sEq, layNE_den, List.length_map]
    simp [layN]; omega
   ·simp only [E.den, dEq, iEq, sEq, layGE_den, List.length_map]
    simp [layG]; omega
   refine den_ret ?_
   simp only [E.den, dEq, iEq, sEq, layNE_den, layGE_den, row_int, cells_int]
   have hn : layAt s = some k := by rw [← h3]; exact layAt_nth ⟨k, h2⟩
   simp only [layD, needN, giveN, layOk, hn]
   obtain rfl | rfl | rfl | rfl | rfl | rfl | rfl | rfl | rfl := nine h2
   all_goals rfl
  ·simp only [E.den, dEq, iEq, sEq, layE_den, row_str, cells_str] at h3
   simp at h3
   refine den_next h2 ?_ fun j hj => ?_
   ·simp only [E.den, dEq, iEq, sEq]
    rw [ar_add (by omega) (by omega)]; rfl
   ·rcases Nat.lt_or_ge j k with h | h
    ·exact hI j h
    ·obtain rfl : j = k := by omega
     exact h3
 ·simp only [E.den, dEq, iEq, sEq, layE_den, e9] at h2
  obtain rfl : k = 9 := by simp at h2; omega
  refine den_ret ?_
  have hn := layAt_none hI
  simp [E.den, layD, needN, giveN, layOk, hn]
theorem c_spec_LayerNeeds (s : ByteArray) : Fun Try.prog 80 none [.str s] (.tup [.int .i64 (needN s), .bool (layOk s)]) [] := by
 refine Fun.ofV vc_spec_LayerNeeds_ok ty_spec_LayerNeeds_ok rfl ?_ (fun hfit => ?_)
 ·exact ⟨trivial, trivial⟩
 unfold vc_spec_LayerNeeds
 ((first | refine den_call ?_ (c_spec_l4Row s) (⟨rfl, rfl, trivial, trivial⟩) ?_ | refine den_callR ?_ (c_spec_l4Row s) (⟨rfl, rfl, trivial, trivial⟩) ?_ | refine den_call ?_ (.ofR (c_spec_l4Row s)) (⟨rfl, rfl, trivial, trivial⟩) ?_); (focus (simp only [VC.den, E.den, dEq, gsH_nil, and_true]; try exact rfl)); (simp only [cA]))
 exact den_ret rfl
theorem off6 : ∀ n m : Fin 64, ((List.range 6).all fun k => !(m.val.testBit k && !n.val.testBit k)) = decide (m.val &&& n.val = m.val) := by decide +kernel
theorem offN_eq : ∀ n m : Fin 64, cmpI .eql (arI .andNot .i64 ((m.val : Nat) : Int) ((n.val : Nat) : Int)) 0 = decide (m.val &&& n.val = m.val) := by decide +kernel
theorem c_spec_Offers (a b : Int) : Fun Try.prog 69 none [.int .i64 a, .int .i64 b] (.bool (offersB a b)) [] := by
 refine Fun.ofV vc_spec_Offers_ok ty_spec_Offers_ok rfl ?_ (fun hfit => ?_)
 ·exact ⟨rfl, rfl, trivial⟩
 unfold vc_spec_Offers
 ((first | refine den_call ?_ (c_spec_IsFace' a) (trivial) ?_ | refine den_callR ?_ (c_spec_IsFace' a) (trivial) ?_ | refine den_call ?_ (.ofR (c_spec_IsFace' a)) (trivial) ?_); (focus (simp only [VC.den, E.den, dEq, gsH_nil, and_true]; try exact rfl)); (simp only [cA]))
 ((first | refine den_call ?_ (c_spec_IsFace' b) (trivial) ?_ | refine den_callR ?_ (c_spec_IsFace' b) (trivial) ?_ | refine den_call ?_ (.ofR (c_spec_IsFace' b)) (trivial) ?_); (focus (simp only [VC.den, E.den, dEq, gsH_nil, and_true]; try exact rfl)); (simp only [cA]))
 refine den_ite (fun h => ?_) (fun h => ?_)
 ·simp only [E.den, dEq, iEq, sEq] at h
  refine den_ret ?_
  simp only [E.den, D.bool.injEq]
  unfold offersB
  grind
 simp only [E.den, dEq, iEq, sEq] at h
 have ha : isFaceB a = true := by grind
 have hb : isFaceB b = true := by grind
 obtain ⟨n, rfl, hn⟩ := isFaceB_nat ha
 obtain ⟨m, rfl, hm⟩ := isFaceB_nat hb
 have ho : offersB (n : Int) (m : Int) = ((List.range 6).all fun k => !(m.testBit k && !n.testBit k)) := by
  unfold offersB
  rw [ha, hb, Bool.true_and, Bool.true_and, offN_eq ⟨n, hn⟩ ⟨m, hm⟩, off6 ⟨n, hn⟩ ⟨m, hm⟩]
 rw [ho]
 refine den_for 6 (fun k => [.int .i64 k]) (fun k => ∀ j, j < k → (!(m.testBit j && !n.testBit j)) = true) rfl (by omega) ?_
 intro k hk hI _
 simp only [cA]
 refine den_ite (fun h2 => ?_) (fun h2 => ?_)
 ·simp only [E.den, dEq, iEq, sEq] at h2
  have h2 : k < 6 := by simp at h2; omega
  ((first | refine den_call ?_ (c_spec_l2Has m k hm h2) (trivial) ?_ | refine den_callR ?_ (c_spec_l2Has m k hm h2) (trivial) ?_ | refine den_call ?_ (.ofR (c_spec_l2Has m k hm h2)) (trivial) ?_); (focus (simp only [VC.den, E.den, dEq, gsH_nil, and_true]; try exact rfl)); (simp only [cA]))
  ((first | refine den_call ?_ (c_spec_l2Has n k hn h2) (trivial) ?_ | refine den_callR ?_ (c_spec_l2Has n k hn h2) (trivial) ?_ | refine den_call ?_ (.ofR (c_spec_l2Has n k hn h2)) (trivial) ?_); (focus (simp only [VC.den, E.den, dEq, gsH_nil, and_true]; try exact rfl)); (simp only [cA]))
  refine den_ite (fun h3 => ?_) (fun h3 => ?_)
  ·simp only [E.den, dEq, iEq, sEq] at h3
   refine den_ret ?_
   simp only [E.den, D.bool.injEq]
   symm
   rw [List.all_eq_false]
   exact ⟨k, by simpa using h2, by rw [h3]; simp⟩
  ·simp only [E.den, dEq, iEq, sEq] at h3
   refine den_next h2 ?_ fun j hj => ?_
   ·simp only [E.den, dEq, iEq, sEq]
    rw [ar_add (by omega) (by omega)]; rfl
   ·rcases Nat.lt_or_ge j k with h | h
    ·exact hI j h
    ·obtain rfl : j = k := by omega
     rw [h3]; rfl
 ·simp only [E.den, dEq, iEq, sEq] at h2
  obtain rfl : k = 6 := by simp at h2; omega
  refine den_ret ?_
  simp only [E.den, D.bool.injEq]
  symm
  rw [List.all_eq_true]
  intro j hj
  exact hI j (by simpa using hj)
end Go.Proofs.Ytjmakbnblpjkhaa
/- Cores, parts, recipes: what the program and the reference compute. -/
namespace Go.Proofs.Ytjmakbnblpjkhaa
open Go.RowKit Go
variable [GC]
def cellB (l : List Cell) (k : Nat) : Bool := nameB (nth l k).key && numB (nth l k).val && (k == 0 || ltB (nth l (k - 1)).key (nth l k).key)
def cellsB (l : List Cell) : Bool := decide (l.length ≤ 4) && allTo (cellB l) l.length
theorem sub_one {k : Nat} (h : 0 < k) (hk : k ≤ 9223372036854775807) : (arI .sub .i64 (k : Int) 1).toNat = k - 1 := by
 rw [ar_sub (by omega) (by omega)]; omega
theorem c_impl_IsCells (l : List Cell) : Fun Try.prog 87 none [encS l] (.bool (cellsB l)) [] := by
 refine Fun.ofV vc_impl_IsCells_ok ty_impl_IsCells_ok rfl ?_ (fun hfit => ?_)
 ·exact ⟨ty_CellS l, trivial⟩
 have hl : l.length ≤ 9223372036854775807 := fits_encS hfit.1
 unfold vc_impl_IsCells
 refine den_ite (fun h => ?_) (fun h => ?_)
 ·simp only [E.den, dEq, iEq, sEq] at h
  refine den_ret ?_
  simp only [E.den, D.bool.injEq]
  unfold cellsB; grind
 simp only [E.den, dEq, iEq, sEq] at h
 have h4 : l.length ≤ 4 := by grind
 refine den_for l.length (fun k => [.int .i64 k]) (fun k => allTo (cellB l) k = true) rfl rfl ?_
 intro k hk hI _
 simp only [cA]
 refine den_ite (fun h2 => ?_) (fun h2 => ?_)
 ·simp only [E.den, dEq, iEq, sEq] at h2
  have h2 : k < l.length := by simp at h2; exact h2
  (refine den_cond (fun hg => ?_) ?_; (focus (simp only [gsH, gE, E.den, dEq, iEq, sEq] at hg ⊢; (try simp only [D.bool.injEq] at hg); (try simp only [D.bool.injEq]); grind)))
  ((first | refine den_call ?_ (c_impl_IsName (nth l k).key) (trivial) ?_ | refine den_callR ?_ (c_impl_IsName (nth l k).key) (trivial) ?_ | refine den_call ?_ (.ofR (c_impl_IsName (nth l k).key)) (trivial) ?_); (focus (simp only [VC.den, E.den, dEq, gsH_nil, and_true, row_Cell, cells_Cell, Int.toNat_natCast]; try exact rfl)); (simp only [cA]))
  ((first | refine den_call ?_ (c_impl_isNumber (nth l k).val) (trivial) ?_ | refine den_callR ?_ (c_impl_isNumber (nth l k).val) (trivial) ?_ | refine den_call ?_ (.ofR (c_impl_isNumber (nth l k).val)) (trivial) ?_); (focus (simp only [VC.den, E.den, dEq, gsH_nil, and_true, row_Cell, cells_Cell, Int.toNat_natCast]; try exact rfl)); (simp only [cA]))
  refine den_cond (fun hg => ?_) ?_
  ·simp [gsH, E.den, cmpI] at hg ⊢
   rw [ar_sub (by omega) (by omega)]; omega
  refine den_ite (fun h3 => ?_) (fun h3 => ?_)
  ·simp only [E.den, dEq, iEq, sEq, row_Cell, cells_Cell] at h3
   have hb : cellB l k = false := by
    unfold cellB
    by_cases e : 0 < k
    ·rw [sub_one e (by omega)] at h3; grind
    ·grind
   refine den_ret ?_
   simp [E.den, cellsB, allTo_bad h2 hb]
  ·simp only [E.den, dEq, iEq, sEq, row_Cell, cells_Cell] at h3
   have hb : cellB l k = true := by
    unfold cellB
    by_cases e : 0 < k
    ·rw [sub_one e (by omega)] at h3; grind
    ·grind
   refine den_next h2 ?_ (show (allTo (cellB l) k && cellB l k) = true by rw [hI, hb]; rfl)
   simp only [E.den, dEq, iEq, sEq]
   rw [ar_add (by omega) (by omega)]; rfl
 ·simp only [E.den, dEq, iEq, sEq] at h2
  obtain rfl : k = l.length := by simp at h2; omega
  exact den_ret (by simp [E.den, cellsB, hI, h4])
theorem c_spec_IsCells (l : List Cell) : Fun Try.prog 86 none [encS l] (.bool (cellsB l)) [] := by
 refine Fun.ofV vc_spec_IsCells_ok ty_spec_IsCells_ok rfl ?_ (fun hfit => ?_)
 ·exact ⟨ty_CellS l, trivial⟩
 have hl : l.length ≤ 9223372036854775807 := fits_encS hfit.1
 unfold vc_spec_IsCells
 refine den_for l.length (fun k => [.int .i64 k]) (fun k => allTo (cellB l) k = true) rfl rfl ?_
 intro k hk hI _
 simp only [cA]
 refine den_ite (fun h2 => ?_) (fun h2 => ?_)
 ·simp only [E.den, dEq, iEq, sEq] at h2
  have h2 : k < l.length := by simp at h2; exact h2
  (refine den_cond (fun hg => ?_) ?_; (focus (simp only [gsH, gE, E.den, dEq, iEq, sEq] at hg ⊢; (try simp only [D.bool.injEq] at hg); (try simp only [D.bool.injEq]); grind)))
  ((first | refine den_call ?_ (c_spec_IsName (nth l k).key) (trivial) ?_ | refine den_callR ?_ (c_spec_IsName (nth l k).key) (trivial) ?_ | refine den_call ?_ (.ofR (c_spec_IsName (nth l k).key)) (trivial) ?_); (focus (simp only [VC.den, E.den, dEq, gsH_nil, and_true, row_Cell, cells_Cell, Int.toNat_natCast]; try exact rfl)); (simp only [cA]))
  refine den_cond (fun hg => ?_) ?_
  ·simp [gsH, E.den, cmpI] at hg ⊢
   rw [ar_sub (by omega) (by omega)]; omega
  refine den_ite (fun h3 => ?_) (fun h3 => ?_)
  ·simp only [E.den, dEq, iEq, sEq, row_Cell, cells_Cell] at h3
   have hb : cellB l k = false := by
    unfold cellB numB
    by_cases e : 0 < k
    ·rw [sub_one e (by omega)] at h3; grind
    ·grind
   refine den_ret ?_
   simp [E.den, cellsB, allTo_bad h2 hb]
  ·simp only [E.den, dEq, iEq, sEq, row_Cell, cells_Cell] at h3
   have hb : cellB l k = true := by
    unfold cellB numB
    by_cases e : 0 < k
    ·rw [sub_one e (by omega)] at h3; grind
    ·grind
   refine den_next h2 ?_ (show (allTo (cellB l) k && cellB l k) = true by rw [hI, hb]; rfl)
   simp only [E.den, dEq, iEq, sEq]
   rw [ar_add (by omega) (by omega)]; rfl
 ·simp only [E.den, dEq, iEq, sEq] at h2
  obtain rfl : k = l.length := by simp at h2; omega
  refine den_ret ?_
  simp only [E.den, dEq, iEq, sEq]
  simp only [cellsB, hI, Bool.and_true, D.bool.injEq]
  grind
def newCore (s : ByteArray) : Core := if kindOk s then ⟨s, false, false, [], 0⟩ else ⟨⟨#[]⟩, false, false, [], 0⟩
theorem c_impl_NewCore (s : ByteArray) : FunR Try.prog 71 none [.str s] (.tup [enc (newCore s), .bool (kindOk s)]) [] [(3, 2)] := by
 refine FunR.ofV vc_impl_NewCore_ok ty_impl_NewCore_ok rt_impl_NewCore_ok rfl ?_ (fun hfit => ?_)
 ·exact ⟨trivial, trivial⟩
 unfold vc_impl_NewCore
 ((first | refine den_call ?_ (c_impl_KindFace s) (⟨rfl, trivial, trivial⟩) ?_ | refine den_callR ?_ (c_impl_KindFace s) (⟨rfl, trivial, trivial⟩) ?_ | refine den_call ?_ (.ofR (c_impl_KindFace s)) (⟨rfl, trivial, trivial⟩) ?_); (focus (simp only [VC.den, E.den, dEq, gsH_nil, and_true]; try exact rfl)); (simp only [cA]))
 refine den_ite (fun h => ?_) (fun h => ?_)
 ·simp only [E.den, dEq, iEq, sEq] at h
  have h : kindOk s = false := by simpa using h
  exact den_ret (by simp only [newCore, h]; rfl)
 ·simp only [E.den, dEq, iEq, sEq] at h
  have h : kindOk s = true := by simpa using h
  exact den_ret (by simp only [newCore, h]; rfl)
theorem c_spec_NewCore (s : ByteArray) : FunR Try.prog 65 none [.str s] (.tup [enc (newCore s), .bool (kindOk s)]) [] [(3, 2)] := by
 refine FunR.ofV vc_spec_NewCore_ok ty_spec_NewCore_ok rt_spec_NewCore_ok rfl ?_ (fun hfit => ?_)
 ·exact ⟨trivial, trivial⟩
 unfold vc_spec_NewCore
 ((first | refine den_call ?_ (c_spec_KindFace s) (⟨rfl, trivial, trivial⟩) ?_ | refine den_callR ?_ (c_spec_KindFace s) (⟨rfl, trivial, trivial⟩) ?_ | refine den_call ?_ (.ofR (c_spec_KindFace s)) (⟨rfl, trivial, trivial⟩) ?_); (focus (simp only [VC.den, E.den, dEq, gsH_nil, and_true]; try exact rfl)); (simp only [cA]))
 refine den_ite (fun h => ?_) (fun h => ?_)
 ·simp only [E.den, dEq, iEq, sEq] at h
  have h : kindOk s = false := by simpa using h
  exact den_ret (by simp only [newCore, h]; rfl)
 ·simp only [E.den, dEq, iEq, sEq] at h
  have h : kindOk s = true := by simpa using h
  exact den_ret (by simp only [newCore, h]; rfl)
def coreB (p : Core) : Bool := kindOk p.kind && cellsB p.cells && (p.cells.length == 0 || (kindN p.kind).testBit 1) && numB p.count && !(p.on && p.broken) && ((kindN p.kind).testBit 0 || (!p.on && !p.broken))
theorem bit1 : ∀ n : Fin 64, cmpI .eql (arI .and .i64 ((n.val : Nat) : Int) 2) 0 = !n.val.testBit 1 := by decide +kernel
theorem bit0 : ∀ n : Fin 64, cmpI .eql (arI .and .i64 ((n.val : Nat) : Int) 1) 1 = n.val.testBit 0 := by decide +kernel
theorem c_impl_IsCore (p : Core) : Fun Try.prog 84 none [enc p] (.bool (coreB p)) [] := by
 refine Fun.ofV vc_impl_IsCore_ok ty_impl_IsCore_ok rfl ?_ (fun hfit => ?_)
 ·exact ⟨ty_Core p, trivial⟩
 have b1 := bit1 ⟨kindN p.kind, kindN_lt _⟩
 have b0 := bit0 ⟨kindN p.kind, kindN_lt _⟩
 simp only [cmpI_eql] at b1 b0
 unfold vc_impl_IsCore
 ((first | refine den_call ?_ (c_impl_KindFace p.kind) (⟨rfl, trivial, trivial⟩) ?_ | refine den_callR ?_ (c_impl_KindFace p.kind) (⟨rfl, trivial, trivial⟩) ?_ | refine den_call ?_ (.ofR (c_impl_KindFace p.kind)) (⟨rfl, trivial, trivial⟩) ?_); (focus (simp only [VC.den, E.den, dEq, gsH_nil, and_true, cells_Core]; try exact rfl)); (simp only [cA]))
 ((first | refine den_call ?_ (c_impl_IsCells p.cells) (trivial) ?_ | refine den_callR ?_ (c_impl_IsCells p.cells) (trivial) ?_ | refine den_call ?_ (.ofR (c_impl_IsCells p.cells)) (trivial) ?_); (focus (simp only [VC.den, E.den, dEq, gsH_nil, and_true, cells_Core]; try exact rfl)); (simp only [cA]))
 ((first | refine den_call ?_ (c_impl_isNumber p.count) (trivial) ?_ | refine den_callR ?_ (c_impl_isNumber p.count) (trivial) ?_ | refine den_call ?_ (.ofR (c_impl_isNumber p.count)) (trivial) ?_); (focus (simp only [VC.den, E.den, dEq, gsH_nil, and_true, cells_Core]; try exact rfl)); (simp only [cA]))
 refine den_ite (fun h => ?_) (fun h => ?_)
 ·simp only [E.den, dEq, iEq, sEq, cells_Core, b1] at h
  refine den_ret ?_
  simp only [E.den, D.bool.injEq]
  unfold coreB; grind
 ·simp only [E.den, dEq, iEq, sEq, cells_Core, b1] at h
  refine den_ret ?_
  simp only [E.den, dEq, iEq, sEq, cells_Core, b0]
  simp only [D.bool.injEq]
  unfold coreB; grind
theorem c_spec_IsCore (p : Core) : Fun Try.prog 79 none [enc p] (.bool (coreB p)) [] := by
 refine Fun.ofV vc_spec_IsCore_ok ty_spec_IsCore_ok rfl ?_ (fun hfit => ?_)
 ·exact ⟨ty_Core p, trivial⟩
 unfold vc_spec_IsCore
 ((first | refine den_call ?_ (c_spec_KindFace p.kind) (⟨rfl, trivial, trivial⟩) ?_ | refine den_callR ?_ (c_spec_KindFace p.kind) (⟨rfl, trivial, trivial⟩) ?_ | refine den_call ?_ (.ofR (c_spec_KindFace p.kind)) (⟨rfl, trivial, trivial⟩) ?_); (focus (simp only [VC.den, E.den, dEq, gsH_nil, and_true, cells_Core]; try exact rfl)); (simp only [cA]))
 ((first | refine den_call ?_ (c_spec_l2Has (kindN p.kind) 0 (kindN_lt _) (by omega)) (trivial) ?_ | refine den_callR ?_ (c_spec_l2Has (kindN p.kind) 0 (kindN_lt _) (by omega)) (trivial) ?_ | refine den_call ?_ (.ofR (c_spec_l2Has (kindN p.kind) 0 (kindN_lt _) (by omega))) (trivial) ?_); (focus (simp only [VC.den, E.den, dEq, gsH_nil, and_true]; try exact rfl)); (simp only [cA]))
 ((first | refine den_call ?_ (c_spec_IsCells p.cells) (trivial) ?_ | refine den_callR ?_ (c_spec_IsCells p.cells) (trivial) ?_ | refine den_call ?_ (.ofR (c_spec_IsCells p.cells)) (trivial) ?_); (focus (simp only [VC.den, E.den, dEq, gsH_nil, and_true, cells_Core]; try exact rfl)); (simp only [cA]))
 ((first | refine den_call ?_ (c_spec_l2Has (kindN p.kind) 1 (kindN_lt _) (by omega)) (trivial) ?_ | refine den_callR ?_ (c_spec_l2Has (kindN p.kind) 1 (kindN_lt _) (by omega)) (trivial) ?_ | refine den_call ?_ (.ofR (c_spec_l2Has (kindN p.kind) 1 (kindN_lt _) (by omega))) (trivial) ?_); (focus (simp only [VC.den, E.den, dEq, gsH_nil, and_true]; try exact rfl)); (simp only [cA]))
 refine den_ite (fun h => ?_) (fun h => ?_)
 ·simp only [E.den, dEq, iEq, sEq, cells_Core] at h
  refine den_ret ?_
  simp only [E.den, D.bool.injEq]
  unfold coreB numB; grind
 ·simp only [E.den, dEq, iEq, sEq, cells_Core] at h
  refine den_ret ?_
  simp only [E.den, dEq, iEq, sEq, cells_Core]
  simp only [D.bool.injEq]
  unfold coreB numB; grind
theorem c_impl_copyCore (p : Core) (h : p.cells.length ≤ 4294967296) : FunR Try.prog 83 none [enc p] (enc p) [] [(3, 2)] := by
 refine FunR.ofV vc_impl_copyCore_ok ty_impl_copyCore_ok rt_impl_copyCore_ok rfl ?_ (fun hfit => ?_)
 ·exact ⟨ty_Core p, trivial⟩
 unfold vc_impl_copyCore
 refine den_cond (fun _ => ?_) (den_ret ?_)
 ·simp [E.den, cells_Core, h]
 ·simp [E.den, cells_Core, enc, encS]
theorem c_spec_l3Copy (p : Core) (h : p.cells.length ≤ 4294967296) : FunR Try.prog 78 none [enc p] (enc p) [] [(3, 2)] := by
 refine FunR.ofV vc_spec_l3Copy_ok ty_spec_l3Copy_ok rt_spec_l3Copy_ok rfl ?_ (fun hfit => ?_)
 ·exact ⟨ty_Core p, trivial⟩
 unfold vc_spec_l3Copy
 refine den_cond (fun _ => ?_) (den_ret ?_)
 ·simp [E.den, cells_Core, h]
 ·simp [E.den, cells_Core, enc, encS]
theorem c_impl_copyPart (p : Part) (h : p.core.cells.length ≤ 4294967296) (h' : p.layers.length ≤ 4294967296) : FunR Try.prog 72 none [enc p] (enc p) [] [(3, 2), (5, 2)] := by
 refine FunR.ofV vc_impl_copyPart_ok ty_impl_copyPart_ok rt_impl_copyPart_ok rfl ?_ (fun hfit => ?_)
 ·exact ⟨ty_Part p, trivial⟩
 unfold vc_impl_copyPart
 ((first | refine den_call ?_ (c_impl_copyCore p.core h) (ty_Core _) ?_ | refine den_callR ?_ (c_impl_copyCore p.core h) (ty_Core _) ?_ | refine den_call ?_ (.ofR (c_impl_copyCore p.core h)) (ty_Core _) ?_); (focus (simp only [VC.den, E.den, dEq, gsH_nil, and_true, cells_Part]; try exact rfl)); (simp only [cA]))
 refine den_cond (fun _ => ?_) (den_ret ?_)
 ·simp [E.den, cells_Part, h']
 ·simp [E.den, cells_Part, cells_Core, enc, encS]
theorem c_spec_l4Copy (p : Part) (h : p.core.cells.length ≤ 4294967296) (h' : p.layers.length ≤ 4294967296) : FunR Try.prog 66 none [enc p] (enc p) [] [(3, 2), (5, 2)] := by
 refine FunR.ofV vc_spec_l4Copy_ok ty_spec_l4Copy_ok rt_spec_l4Copy_ok rfl ?_ (fun hfit => ?_)
 ·exact ⟨ty_Part p, trivial⟩
 unfold vc_spec_l4Copy
 ((first | refine den_call ?_ (c_spec_l3Copy p.core h) (ty_Core _) ?_ | refine den_callR ?_ (c_spec_l3Copy p.core h) (ty_Core _) ?_ | refine den_call ?_ (.ofR (c_spec_l3Copy p.core h)) (ty_Core _) ?_); (focus (simp only [VC.den, E.den, dEq, gsH_nil, and_true, cells_Part]; try exact rfl)); (simp only [cA]))
 refine den_cond (fun _ => ?_) (den_ret ?_)
 ·simp [E.den, cells_Part, h']
 ·simp [E.den, cells_Part, cells_Core, enc, encS]
def newPart (s : ByteArray) : Part := ⟨newCore s, []⟩
theorem c_impl_NewPart (s : ByteArray) : FunR Try.prog 62 none [.str s] (.tup [enc (newPart s), .bool (kindOk s)]) [] [(3, 2), (5, 2)] := by
 refine FunR.ofV vc_impl_NewPart_ok ty_impl_NewPart_ok rt_impl_NewPart_ok rfl ?_ (fun hfit => ?_)
 ·exact ⟨trivial, trivial⟩
 unfold vc_impl_NewPart
 ((first | refine den_call ?_ (c_impl_NewCore s) (⟨ty_Core _, trivial, trivial⟩) ?_ | refine den_callR ?_ (c_impl_NewCore s) (⟨ty_Core _, trivial, trivial⟩) ?_ | refine den_call ?_ (.ofR (c_impl_NewCore s)) (⟨ty_Core _, trivial, trivial⟩) ?_); (focus (simp only [VC.den, E.den, dEq, gsH_nil, and_true]; try exact rfl)); (simp only [cA]))
 exact den_ret rfl
theorem c_spec_NewPart (s : ByteArray) : FunR Try.prog 59 none [.str s] (.tup [enc (newPart s), .bool (kindOk s)]) [] [(3, 2), (5, 2)] := by
 refine FunR.ofV vc_spec_NewPart_ok ty_spec_NewPart_ok rt_spec_NewPart_ok rfl ?_ (fun hfit => ?_)
 ·exact ⟨trivial, trivial⟩
 unfold vc_spec_NewPart
 ((first | refine den_call ?_ (c_spec_NewCore s) (⟨ty_Core _, trivial, trivial⟩) ?_ | refine den_callR ?_ (c_spec_NewCore s) (⟨ty_Core _, trivial, trivial⟩) ?_ | refine den_call ?_ (.ofR (c_spec_NewCore s)) (⟨ty_Core _, trivial, trivial⟩) ?_); (focus (simp only [VC.den, E.den, dEq, gsH_nil, and_true]; try exact rfl)); (simp only [cA]))
 exact den_ret rfl
def faceAt (p : Part) (k : Nat) : Nat := if k = 0 then kindN p.core.kind else giveN (nth p.layers (k - 1)).name
def faceOf (p : Part) : Nat := faceAt p p.layers.length
theorem c_impl_faceBelow (p : Part) (k : Nat) (hk : k ≤ p.layers.length) : Fun Try.prog 76 none [enc p, .int .i64 k] (.int .i64 (faceAt p k)) [] := by
 refine Fun.ofV vc_impl_faceBelow_ok ty_impl_faceBelow_ok rfl ?_ (fun hfit => ?_)
 ·exact ⟨ty_Part p, rfl, trivial⟩
 have hb : (k : Int) ≤ 9223372036854775807 := hfit.2.1.2
 unfold vc_impl_faceBelow
 refine den_ite (fun h => ?_) (fun h => ?_)
 ·simp only [E.den, dEq, iEq, sEq] at h
  have h : k = 0 := by simp at h; exact h
  subst h
  ((first | refine den_call ?_ (c_impl_KindFace p.core.kind) (⟨rfl, trivial, trivial⟩) ?_ | refine den_callR ?_ (c_impl_KindFace p.core.kind) (⟨rfl, trivial, trivial⟩) ?_ | refine den_call ?_ (.ofR (c_impl_KindFace p.core.kind)) (⟨rfl, trivial, trivial⟩) ?_); (focus (simp only [VC.den, E.den, dEq, gsH_nil, and_true, cells_Part]; try exact rfl)); (simp only [cA]))
  exact den_ret rfl
 ·simp only [E.den, dEq, iEq, sEq] at h
  have h : k ≠ 0 := by simpa using h
  have e := sub_one (k := k) (by omega) (by omega)
  refine den_cond (fun _ => ?_) ?_
  ·simp [E.den, cells_Part]
   rw [ar_sub (by omega) (by omega)]; omega
  ((first | refine den_call ?_ (c_impl_layerFaces (nth p.layers (k - 1)).name) (⟨rfl, rfl, trivial, trivial⟩) ?_ | refine den_callR ?_ (c_impl_layerFaces (nth p.layers (k - 1)).name) (⟨rfl, rfl, trivial, trivial⟩) ?_ | refine den_call ?_ (.ofR (c_impl_layerFaces (nth p.layers (k - 1)).name)) (⟨rfl, rfl, trivial, trivial⟩) ?_); (focus (simp only [VC.den, E.den, dEq, gsH_nil, and_true, cells_Part, row_Layer, cells_Layer, e]; try exact rfl)); (simp only [cA]))
  exact den_ret (by simp [E.den, layD, faceAt, h])
theorem c_spec_l4Face (p : Part) (k : Nat) (hk : k ≤ p.layers.length) : Fun Try.prog 70 none [enc p, .int .i64 k] (.int .i64 (faceAt p k)) [] := by
 refine Fun.ofV vc_spec_l4Face_ok ty_spec_l4Face_ok rfl ?_ (fun hfit => ?_)
 ·exact ⟨ty_Part p, rfl, trivial⟩
 have hb : (k : Int) ≤ 9223372036854775807 := hfit.2.1.2
 unfold vc_spec_l4Face
 refine den_ite (fun h => ?_) (fun h => ?_)
 ·simp only [E.den, dEq, iEq, sEq] at h
  have h : k = 0 := by simp at h; exact h
  subst h
  ((first | refine den_call ?_ (c_spec_KindFace p.core.kind) (⟨rfl, trivial, trivial⟩) ?_ | refine den_callR ?_ (c_spec_KindFace p.core.kind) (⟨rfl, trivial, trivial⟩) ?_ | refine den_call ?_ (.ofR (c_spec_KindFace p.core.kind)) (⟨rfl, trivial, trivial⟩) ?_); (focus (simp only [VC.den, E.den, dEq, gsH_nil, and_true, cells_Part]; try exact rfl)); (simp only [cA]))
  exact den_ret rfl
 ·simp only [E.den, dEq, iEq, sEq] at h
  have h : k ≠ 0 := by simpa using h
  have e := sub_one (k := k) (by omega) (by omega)
  refine den_cond (fun _ => ?_) ?_
  ·simp [E.den, cells_Part]
   rw [ar_sub (by omega) (by omega)]; omega
  ((first | refine den_call ?_ (c_spec_l4Row (nth p.layers (k - 1)).name) (⟨rfl, rfl, trivial, trivial⟩) ?_ | refine den_callR ?_ (c_spec_l4Row (nth p.layers (k - 1)).name) (⟨rfl, rfl, trivial, trivial⟩) ?_ | refine den_call ?_ (.ofR (c_spec_l4Row (nth p.layers (k - 1)).name)) (⟨rfl, rfl, trivial, trivial⟩) ?_); (focus (simp only [VC.den, E.den, dEq, gsH_nil, and_true, cells_Part, row_Layer, cells_Layer, e]; try exact rfl)); (simp only [cA]))
  exact den_ret (by simp [E.den, layD, faceAt, h])
theorem c_impl_FaceOf (p : Part) : Fun Try.prog 64 none [enc p] (.int .i64 (faceOf p)) [] := by
 refine Fun.ofV vc_impl_FaceOf_ok ty_impl_FaceOf_ok rfl ?_ (fun hfit => ?_)
 ·exact ⟨ty_Part p, trivial⟩
 unfold vc_impl_FaceOf
 ((first | refine den_call ?_ (c_impl_faceBelow p p.layers.length (Nat.le_refl _)) (rfl) ?_ | refine den_callR ?_ (c_impl_faceBelow p p.layers.length (Nat.le_refl _)) (rfl) ?_ | refine den_call ?_ (.ofR (c_impl_faceBelow p p.layers.length (Nat.le_refl _))) (rfl) ?_); (focus (simp only [VC.den, E.den, dEq, gsH_nil, and_true, cells_Part]; try exact rfl)); (simp only [cA]))
 exact den_ret rfl
theorem c_spec_FaceOf (p : Part) : Fun Try.prog 61 none [enc p] (.int .i64 (faceOf p)) [] := by
 refine Fun.ofV vc_spec_FaceOf_ok ty_spec_FaceOf_ok rfl ?_ (fun hfit => ?_)
 ·exact ⟨ty_Part p, trivial⟩
 unfold vc_spec_FaceOf
 ((first | refine den_call ?_ (c_spec_l4Face p p.layers.length (Nat.le_refl _)) (rfl) ?_ | refine den_callR ?_ (c_spec_l4Face p p.layers.length (Nat.le_refl _)) (rfl) ?_ | refine den_call ?_ (.ofR (c_spec_l4Face p p.layers.length (Nat.le_refl _))) (rfl) ?_); (focus (simp only [VC.den, E.den, dEq, gsH_nil, and_true, cells_Part]; try exact rfl)); (simp only [cA]))
 exact den_ret rfl
def counts : ByteArray := ⟨#[99, 111, 117, 110, 116, 115]⟩
def hears : ByteArray := ⟨#[104, 101, 97, 114, 115]⟩
def layerB (p : Part) (k : Nat) : Bool := layOk (nth p.layers k).name && offersB (faceAt p k) (needN (nth p.layers k).name) && numB (nth p.layers k).count && (decide ((nth p.layers k).count = 0) || decide ((nth p.layers k).name = counts) || decide ((nth p.layers k).name = hears))
def partB (p : Part) : Bool := coreB p.core && decide (p.layers.length ≤ 3) && allTo (layerB p) p.layers.length
theorem c_impl_IsPart (p : Part) : Fun Try.prog 74 none [enc p] (.bool (partB p)) [] := by
 refine Fun.ofV vc_impl_IsPart_ok ty_impl_IsPart_ok rfl ?_ (fun hfit => ?_)
 ·exact ⟨ty_Part p, trivial⟩
 unfold vc_impl_IsPart
 ((first | refine den_call ?_ (c_impl_IsCore p.core) (trivial) ?_ | refine den_callR ?_ (c_impl_IsCore p.core) (trivial) ?_ | refine den_call ?_ (.ofR (c_impl_IsCore p.core)) (trivial) ?_); (focus (simp only [VC.den, E.den, dEq, gsH_nil, and_true, cells_Part]; try exact rfl)); (simp only [cA]))
 refine den_ite (fun h => ?_) (fun h => ?_)
 ·simp only [E.den, dEq, iEq, sEq, cells_Part] at h
  refine den_ret ?_
  simp only [E.den, D.bool.injEq]
  unfold partB; grind
 simp only [E.den, dEq, iEq, sEq, cells_Part] at h
 have hc : coreB p.core = true := by grind
 have h3 : p.layers.length ≤ 3 := by grind
 refine den_for p.layers.length (fun k => [.int .i64 k]) (fun k => allTo (layerB p) k = true) rfl rfl ?_
 intro k hk hI _
 simp only [cA]
 refine den_ite (fun h2 => ?_) (fun h2 => ?_)
 ·simp only [E.den, dEq, iEq, sEq, cells_Part] at h2
  have h2 : k < p.layers.length := by simp at h2; exact h2
  (refine den_cond (fun hg => ?_) ?_; (focus (simp only [gsH, gE, E.den, dEq, iEq, sEq, cells_Part] at hg ⊢; (try simp only [D.bool.injEq] at hg); (try simp only [D.bool.injEq]); grind)))
  ((first | refine den_call ?_ (c_impl_layerFaces (nth p.layers k).name) (⟨rfl, rfl, trivial, trivial⟩) ?_ | refine den_callR ?_ (c_impl_layerFaces (nth p.layers k).name) (⟨rfl, rfl, trivial, trivial⟩) ?_ | refine den_call ?_ (.ofR (c_impl_layerFaces (nth p.layers k).name)) (⟨rfl, rfl, trivial, trivial⟩) ?_); (focus (simp only [VC.den, E.den, dEq, gsH_nil, and_true, cells_Part, row_Layer, cells_Layer]; try exact rfl)); (simp only [cA]))
  ((first | refine den_call ?_ (c_impl_faceBelow p k hk) (rfl) ?_ | refine den_callR ?_ (c_impl_faceBelow p k hk) (rfl) ?_ | refine den_call ?_ (.ofR (c_impl_faceBelow p k hk)) (rfl) ?_); (focus (simp only [VC.den, E.den, dEq, gsH_nil, and_true]; try exact rfl)); (simp only [cA]))
  ((first | refine den_call ?_ (c_impl_Offers (faceAt p k) (needN (nth p.layers k).name)) (trivial) ?_ | refine den_callR ?_ (c_impl_Offers (faceAt p k) (needN (nth p.layers k).name)) (trivial) ?_ | refine den_call ?_ (.ofR (c_impl_Offers (faceAt p k) (needN (nth p.layers k).name))) (trivial) ?_); (focus (simp only [VC.den, E.den, dEq, gsH_nil, and_true, layD]; try exact rfl)); (simp only [cA]))
  ((first | refine den_call ?_ (c_impl_isNumber (nth p.layers k).count) (trivial) ?_ | refine den_callR ?_ (c_impl_isNumber (nth p.layers k).count) (trivial) ?_ | refine den_call ?_ (.ofR (c_impl_isNumber (nth p.layers k).count)) (trivial) ?_); (focus (simp only [VC.den, E.den, dEq, gsH_nil, and_true, cells_Part, row_Layer, cells_Layer]; try exact rfl)); (simp only [cA]))
  refine den_ite (fun h3 => ?_) (fun h3 => ?_)
  ·simp only [E.den, dEq, iEq, sEq, cells_Part, row_Layer, cells_Layer, layD] at h3
   have hb : layerB p k = false := by unfold layerB counts hears; grind
   refine den_ret ?_
   simp [E.den, partB, allTo_bad h2 hb]
  ·simp only [E.den, dEq, iEq, sEq, cells_Part, row_Layer, cells_Layer, layD] at h3
   have hb : layerB p k = true := by unfold layerB counts hears; grind
   refine den_next h2 ?_ (show (allTo (layerB p) k && layerB p k) = true by rw [hI, hb]; rfl)
   simp only [E.den, dEq, iEq, sEq]
   rw [ar_add (by omega) (by omega)]; rfl
 ·simp only [E.den, dEq, iEq, sEq, cells_Part] at h2
  obtain rfl : k = p.layers.length := by simp at h2; omega
  exact den_ret (by simp [E.den, partB, hI, hc, h3])
theorem c_spec_IsPart (p : Part) : Fun Try.prog 68 none [enc p] (.bool (partB p)) [] := by
 refine Fun.ofV vc_spec_IsPart_ok ty_spec_IsPart_ok rfl ?_ (fun hfit => ?_)
 ·exact ⟨ty_Part p, trivial⟩
 unfold vc_spec_IsPart
 ((first | refine den_call ?_ (c_spec_IsCore p.core) (trivial) ?_ | refine den_callR ?_ (c_spec_IsCore p.core) (trivial) ?_ | refine den_call ?_ (.ofR (c_spec_IsCore p.core)) (trivial) ?_); (focus (simp only [VC.den, E.den, dEq, gsH_nil, and_true, cells_Part]; try exact rfl)); (simp only [cA]))
 refine den_ite (fun h => ?_) (fun h => ?_)
 ·simp only [E.den, dEq, iEq, sEq, cells_Part] at h
  refine den_ret ?_
  simp only [E.den, D.bool.injEq]
  unfold partB; grind
 simp only [E.den, dEq, iEq, sEq, cells_Part] at h
 have hc : coreB p.core = true := by grind
 have h3 : p.layers.length ≤ 3 := by grind
 refine den_for p.layers.length (fun k => [.int .i64 k]) (fun k => allTo (layerB p) k = true) rfl rfl ?_
 intro k hk hI _
 simp only [cA]
 refine den_ite (fun h2 => ?_) (fun h2 => ?_)
 ·simp only [E.den, dEq, iEq, sEq, cells_Part] at h2
  have h2 : k < p.layers.length := by simp at h2; exact h2
  (refine den_cond (fun hg => ?_) ?_; (focus (simp only [gsH, gE, E.den, dEq, iEq, sEq, cells_Part] at hg ⊢; (try simp only [D.bool.injEq] at hg); (try simp only [D.bool.injEq]); grind)))
  ((first | refine den_call ?_ (c_spec_LayerNeeds (nth p.layers k).name) (⟨rfl, trivial, trivial⟩) ?_ | refine den_callR ?_ (c_spec_LayerNeeds (nth p.layers k).name) (⟨rfl, trivial, trivial⟩) ?_ | refine den_call ?_ (.ofR (c_spec_LayerNeeds (nth p.layers k).name)) (⟨rfl, trivial, trivial⟩) ?_); (focus (simp only [VC.den, E.den, dEq, gsH_nil, and_true, cells_Part, row_Layer, cells_Layer]; try exact rfl)); (simp only [cA]))
  ((first | refine den_call ?_ (c_spec_l4Face p k hk) (rfl) ?_ | refine den_callR ?_ (c_spec_l4Face p k hk) (rfl) ?_ | refine den_call ?_ (.ofR (c_spec_l4Face p k hk)) (rfl) ?_); (focus (simp only [VC.den, E.den, dEq, gsH_nil, and_true]; try exact rfl)); (simp only [cA]))
  ((first | refine den_call ?_ (c_spec_Offers (faceAt p k) (needN (nth p.layers k).name)) (trivial) ?_ | refine den_callR ?_ (c_spec_Offers (faceAt p k) (needN (nth p.layers k).name)) (trivial) ?_ | refine den_call ?_ (.ofR (c_spec_Offers (faceAt p k) (needN (nth p.layers k).name))) (trivial) ?_); (focus (simp only [VC.den, E.den, dEq, gsH_nil, and_true]; try exact rfl)); (simp only [cA]))
  refine den_ite (fun h3 => ?_) (fun h3 => ?_)
  ·simp only [E.den, dEq, iEq, sEq, cells_Part, row_Layer, cells_Layer] at h3
   have hb : layerB p k = false := by unfold layerB counts hears numB; grind
   refine den_ret ?_
   simp [E.den, partB, allTo_bad h2 hb]
  ·simp only [E.den, dEq, iEq, sEq, cells_Part, row_Layer, cells_Layer] at h3
   have hb : layerB p k = true := by unfold layerB counts hears numB; grind
   refine den_next h2 ?_ (show (allTo (layerB p) k && layerB p k) = true by rw [hI, hb]; rfl)
   simp only [E.den, dEq, iEq, sEq]
   rw [ar_add (by omega) (by omega)]; rfl
 ·simp only [E.den, dEq, iEq, sEq, cells_Part] at h2
  obtain rfl : k = p.layers.length := by simp at h2; omega
  exact den_ret (by simp [E.den, partB, hI, hc, h3])
def rep (code val want had : Int) : Reply := ⟨code, val, ⟨#[]⟩, want, had⟩
def wrapP (p : Part) (s : ByteArray) : Part × Reply :=
 if partB p = false ∨ layOk s = false then (p, rep 7 0 0 0)
 else if 3 ≤ p.layers.length then (p, rep 5 0 0 0)
 else if offersB (faceOf p) (needN s) = false then (p, rep 1 0 (needN s) (faceOf p))
 else (⟨p.core, p.layers ++ [⟨s, 0⟩]⟩, rep 0 (giveN s) 0 0)
theorem c_impl_Wrap (p : Part) (s : ByteArray) (h1 : p.core.cells.length ≤ 4294967296) (h2 : p.layers.length ≤ 4294967295) : FunR Try.prog 63 none [enc p, .str s] (.tup [enc (wrapP p s).1, enc (wrapP p s).2]) [] [(3, 2), (5, 2)] := by
 refine FunR.ofV vc_impl_Wrap_ok ty_impl_Wrap_ok rt_impl_Wrap_ok rfl ?_ (fun hfit => ?_)
 ·exact ⟨ty_Part p, trivial, trivial⟩
 unfold vc_impl_Wrap
 ((first | refine den_call ?_ (c_impl_copyPart p h1 (by omega)) (ty_Part _) ?_ | refine den_callR ?_ (c_impl_copyPart p h1 (by omega)) (ty_Part _) ?_ | refine den_call ?_ (.ofR (c_impl_copyPart p h1 (by omega))) (ty_Part _) ?_); (focus (simp only [VC.den, E.den, dEq, gsH_nil, and_true]; try exact rfl)); (simp only [cA]))
 ((first | refine den_call ?_ (c_impl_layerFaces s) (⟨rfl, rfl, trivial, trivial⟩) ?_ | refine den_callR ?_ (c_impl_layerFaces s) (⟨rfl, rfl, trivial, trivial⟩) ?_ | refine den_call ?_ (.ofR (c_impl_layerFaces s)) (⟨rfl, rfl, trivial, trivial⟩) ?_); (focus (simp only [VC.den, E.den, dEq, gsH_nil, and_true]; try exact rfl)); (simp only [cA]))
 ((first | refine den_call ?_ (c_impl_IsPart p) (trivial) ?_ | refine den_callR ?_ (c_impl_IsPart p) (trivial) ?_ | refine den_call ?_ (.ofR (c_impl_IsPart p)) (trivial) ?_); (focus (simp only [VC.den, E.den, dEq, gsH_nil, and_true]; try exact rfl)); (simp only [cA]))
 refine den_ite (fun h => ?_) (fun h => ?_)
 ·simp only [E.den, dEq, iEq, sEq, layD] at h
  refine den_ret ?_
  unfold wrapP
  rw [if_pos (by grind)]
  rfl
 simp only [E.den, dEq, iEq, sEq, layD] at h
 have hn : ¬ (partB p = false ∨ layOk s = false) := by grind
 refine den_ite (fun h3 => ?_) (fun h3 => ?_)
 ·simp only [E.den, dEq, iEq, sEq, cells_Part] at h3
  refine den_ret ?_
  unfold wrapP
  rw [if_neg hn, if_pos (by grind)]
  rfl
 simp only [E.den, dEq, iEq, sEq, cells_Part] at h3
 have hm : ¬ 3 ≤ p.layers.length := by grind
 ((first | refine den_call ?_ (c_impl_FaceOf p) (rfl) ?_ | refine den_callR ?_ (c_impl_FaceOf p) (rfl) ?_ | refine den_call ?_ (.ofR (c_impl_FaceOf p)) (rfl) ?_); (focus (simp only [VC.den, E.den, dEq, gsH_nil, and_true]; try exact rfl)); (simp only [cA]))
 ((first | refine den_call ?_ (c_impl_Offers (faceOf p) (needN s)) (trivial) ?_ | refine den_callR ?_ (c_impl_Offers (faceOf p) (needN s)) (trivial) ?_ | refine den_call ?_ (.ofR (c_impl_Offers (faceOf p) (needN s))) (trivial) ?_); (focus (simp only [VC.den, E.den, dEq, gsH_nil, and_true, layD]; try exact rfl)); (simp only [cA]))
 refine den_ite (fun h4 => ?_) (fun h4 => ?_)
 ·simp only [E.den, dEq, iEq, sEq] at h4
  ((first | refine den_call ?_ (c_impl_FaceOf p) (rfl) ?_ | refine den_callR ?_ (c_impl_FaceOf p) (rfl) ?_ | refine den_call ?_ (.ofR (c_impl_FaceOf p)) (rfl) ?_); (focus (simp only [VC.den, E.den, dEq, gsH_nil, and_true]; try exact rfl)); (simp only [cA]))
  refine den_ret ?_
  unfold wrapP
  rw [if_neg hn, if_neg hm, if_pos (by grind)]
  rfl
 ·simp only [E.den, dEq, iEq, sEq] at h4
  refine den_cond (fun _ => ?_) (den_ret ?_)
  ·simp [E.den, cells_Part]; omega
  unfold wrapP
  rw [if_neg hn, if_neg hm, if_neg (by grind)]
  simp [E.den, cells_Part, enc, encS, cells_Layer, layD, rep, cells_Reply]
theorem c_spec_Wrap (p : Part) (s : ByteArray) (h1 : p.core.cells.length ≤ 4294967296) (h2 : p.layers.length ≤ 4294967295) : FunR Try.prog 60 none [enc p, .str s] (.tup [enc (wrapP p s).1, enc (wrapP p s).2]) [] [(3, 2), (5, 2)] := by
 refine FunR.ofV vc_spec_Wrap_ok ty_spec_Wrap_ok rt_spec_Wrap_ok rfl ?_ (fun hfit => ?_)
 ·exact ⟨ty_Part p, trivial, trivial⟩
 unfold vc_spec_Wrap
 ((first | refine den_call ?_ (c_spec_l4Copy p h1 (by omega)) (ty_Part _) ?_ | refine den_callR ?_ (c_spec_l4Copy p h1 (by omega)) (ty_Part _) ?_ | refine den_call ?_ (.ofR (c_spec_l4Copy p h1 (by omega))) (ty_Part _) ?_); (focus (simp only [VC.den, E.den, dEq, gsH_nil, and_true]; try exact rfl)); (simp only [cA]))
 ((first | refine den_call ?_ (c_spec_l4Row s) (⟨rfl, rfl, trivial, trivial⟩) ?_ | refine den_callR ?_ (c_spec_l4Row s) (⟨rfl, rfl, trivial, trivial⟩) ?_ | refine den_call ?_ (.ofR (c_spec_l4Row s)) (⟨rfl, rfl, trivial, trivial⟩) ?_); (focus (simp only [VC.den, E.den, dEq, gsH_nil, and_true]; try exact rfl)); (simp only [cA]))
 ((first | refine den_call ?_ (c_spec_IsPart p) (trivial) ?_ | refine den_callR ?_ (c_spec_IsPart p) (trivial) ?_ | refine den_call ?_ (.ofR (c_spec_IsPart p)) (trivial) ?_); (focus (simp only [VC.den, E.den, dEq, gsH_nil, and_true]; try exact rfl)); (simp only [cA]))
 refine den_ite (fun h => ?_) (fun h => ?_)
 ·simp only [E.den, dEq, iEq, sEq, layD] at h
  refine den_ret ?_
  unfold wrapP
  rw [if_pos (by grind)]
  rfl
 simp only [E.den, dEq, iEq, sEq, layD] at h
 have hn : ¬ (partB p = false ∨ layOk s = false) := by grind
 have hp3 : p.layers.length ≤ 3 := by
  have : partB p = true := by grind
  unfold partB at this; grind
 refine den_ite (fun h3 => ?_) (fun h3 => ?_)
 ·simp only [E.den, dEq, iEq, sEq, cells_Part] at h3
  refine den_ret ?_
  unfold wrapP
  rw [if_neg hn, if_pos (by grind)]
  rfl
 simp only [E.den, dEq, iEq, sEq, cells_Part] at h3
 have hm : ¬ 3 ≤ p.layers.length := by grind
 ((first | refine den_call ?_ (c_spec_FaceOf p) (rfl) ?_ | refine den_callR ?_ (c_spec_FaceOf p) (rfl) ?_ | refine den_call ?_ (.ofR (c_spec_FaceOf p)) (rfl) ?_); (focus (simp only [VC.den, E.den, dEq, gsH_nil, and_true]; try exact rfl)); (simp only [cA]))
 ((first | refine den_call ?_ (c_spec_Offers (faceOf p) (needN s)) (trivial) ?_ | refine den_callR ?_ (c_spec_Offers (faceOf p) (needN s)) (trivial) ?_ | refine den_call ?_ (.ofR (c_spec_Offers (faceOf p) (needN s))) (trivial) ?_); (focus (simp only [VC.den, E.den, dEq, gsH_nil, and_true, layD]; try exact rfl)); (simp only [cA]))
 refine den_ite (fun h4 => ?_) (fun h4 => ?_)
 ·simp only [E.den, dEq, iEq, sEq] at h4
  ((first | refine den_call ?_ (c_spec_FaceOf p) (rfl) ?_ | refine den_callR ?_ (c_spec_FaceOf p) (rfl) ?_ | refine den_call ?_ (.ofR (c_spec_FaceOf p)) (rfl) ?_); (focus (simp only [VC.den, E.den, dEq, gsH_nil, and_true]; try exact rfl)); (simp only [cA]))
  refine den_ret ?_
  unfold wrapP
  rw [if_neg hn, if_neg hm, if_pos (by grind)]
  rfl
 ·simp only [E.den, dEq, iEq, sEq] at h4
  refine den_cond (fun _ => ?_) (den_ret ?_)
  ·simp [E.den, cells_Part]; omega
  unfold wrapP
  rw [if_neg hn, if_neg hm, if_neg (by grind)]
  simp [E.den, cells_Part, enc, encS, cells_Layer, layD, rep, cells_Reply]
def noPart : Part := ⟨⟨⟨#[]⟩, false, false, [], 0⟩, []⟩
def wrapTo (l : List ByteArray) : Nat → Part
 | 0 => newPart (nth l 0)
 | k + 1 => (wrapP (wrapTo l k) (nth l (k + 1))).1
def wrapR (l : List ByteArray) (k : Nat) : Reply := (wrapP (wrapTo l k) (nth l (k + 1))).2
def firstTo (p : Nat → Bool) : Nat → Option Nat
 | 0 => none
 | n + 1 => match firstTo p n with
  | some k => some k
  | none => if p n then some n else none
theorem firstTo_none {p : Nat → Bool} : ∀ {n : Nat}, (∀ i, i < n → p i = false) → firstTo p n = none
 | 0, _ => rfl
 | n + 1, h => by
  have h1 := firstTo_none (n := n) (fun i hi => h i (by omega))
  simp [firstTo, h1, h n (by omega)]
theorem firstTo_some {p : Nat → Bool} {k : Nat} (hp : p k = true) (h : ∀ i, i < k → p i = false) : ∀ {n : Nat}, k < n → firstTo p n = some k
 | 0, hk => by omega
 | n + 1, hk => by
  by_cases e : k = n
  ·subst e; simp [firstTo, firstTo_none h, hp]
  ·simp [firstTo, firstTo_some hp h (show k < n by omega)]
def makeP (l : List ByteArray) : Part × Reply :=
 if l.length = 0 ∨ kindOk (nth l 0) = false then (noPart, rep 7 0 0 0)
 else match firstTo (fun k => !decide ((wrapR l k).code = 0)) (l.length - 1) with
  | some k => (noPart, wrapR l k)
  | none => (wrapTo l (l.length - 1), rep 0 (faceOf (wrapTo l (l.length - 1))) 0 0)
theorem wrapP_small {p : Part} {s : ByteArray} (h1 : p.core.cells = []) (h2 : p.layers.length ≤ 3) : (wrapP p s).1.core.cells = [] ∧ (wrapP p s).1.layers.length ≤ 3 := by
 unfold wrapP
 split
 ·exact ⟨h1, h2⟩
 split
 ·exact ⟨h1, h2⟩
 split
 ·exact ⟨h1, h2⟩
 ·refine ⟨h1, ?_⟩
  simp; omega
theorem wrapTo_small (l : List ByteArray) : ∀ k, (wrapTo l k).core.cells = [] ∧ (wrapTo l k).layers.length ≤ 3
 | 0 => by
  refine ⟨?_, by simp [wrapTo, newPart]⟩
  simp only [wrapTo, newPart, newCore]
  split <;> rfl
 | k + 1 => wrapP_small (wrapTo_small l k).1 (wrapTo_small l k).2
def tailL (l : List ByteArray) : List ByteArray := (l.drop 1).take (l.length - 1)
theorem nth_tail {l : List ByteArray} {k : Nat} (h : k < l.length - 1) : nth (tailL l) k = nth l (k + 1) := by
 have h' : k + 1 < l.length := by omega
 simp [nth, tailL, List.getD, List.getElem?_take, h, Nat.add_comm 1 k, List.getElem?_eq_getElem h']
theorem len_tail (l : List ByteArray) : (tailL l).length = l.length - 1 := by simp [tailL]
theorem cut_den {env : List D} {l : List ByteArray} {e : E} (h : e.den env = encS l) : (E.cut e (.li .i64 1) (.len e)).den env = encS (tailL l) := by
 simp [E.den, h, cutD, encS, tailL, List.map_take, List.map_drop, lenD]
def partL (p : Part) : List D := [.str p.core.kind, .bool p.core.on, .bool p.core.broken, encS p.core.cells, .int .i64 p.core.count, encS p.layers]
theorem c_impl_MakePart (l : List ByteArray) : FunR Try.prog 57 none [encS l] (.tup [enc (makeP l).1, enc (makeP l).2]) [] [(3, 2), (5, 2)] := by
 refine FunR.ofV vc_impl_MakePart_ok ty_impl_MakePart_ok rt_impl_MakePart_ok rfl ?_ (fun hfit => ?_)
 ·exact ⟨ty_strS l, trivial⟩
 have hl : l.length ≤ 9223372036854775807 := fits_encS hfit.1
 unfold vc_impl_MakePart
 refine den_ite (fun h => ?_) (fun h => ?_)
 ·simp only [E.den, dEq, iEq, sEq] at h
  refine den_ret ?_
  unfold makeP
  rw [if_pos (.inl (by grind))]
  rfl
 simp only [E.den, dEq, iEq, sEq] at h
 have h0 : l.length ≠ 0 := by grind
 refine den_cond (fun _ => ?_) ?_
 ·simp [E.den]; omega
 ((first | refine den_call ?_ (c_impl_NewPart (nth l 0)) (⟨ty_Part _, trivial, trivial⟩) ?_ | refine den_callR ?_ (c_impl_NewPart (nth l 0)) (⟨ty_Part _, trivial, trivial⟩) ?_ | refine den_call ?_ (.ofR (c_impl_NewPart (nth l 0))) (⟨ty_Part _, trivial, trivial⟩) ?_); (focus (simp only [VC.den, E.den, dEq, gsH_nil, and_true, row_str, cells_str, Int.toNat_zero]; try exact rfl)); (simp only [cA]))
 refine den_ite (fun h2 => ?_) (fun h2 => ?_)
 ·simp only [E.den, dEq, iEq, sEq] at h2
  refine den_ret ?_
  unfold makeP
  rw [if_pos (.inr (by grind))]
  rfl
 simp only [E.den, dEq, iEq, sEq] at h2
 have hk : kindOk (nth l 0) = true := by grind
 have hmk : ¬ (l.length = 0 ∨ kindOk (nth l 0) = false) := by grind
 refine den_cond (fun _ => ?_) ?_
 ·simp [E.den]; omega
 refine den_for (l.length - 1) (fun k => .int .i64 k :: partL (wrapTo l k)) (fun k => ∀ i, i < k → (!decide ((wrapR l i).code = 0)) = false) rfl (by omega) ?_
 intro k hkn hI _
 simp only [List.cons_append, List.nil_append, partL]
 have ec : ∀ (env : List D), (E.cut (.var 0) (.li .i64 1) (.len (.var 0))).den (encS l :: env) = encS (tailL l) := fun env => cut_den rfl
 refine den_ite (fun h3 => ?_) (fun h3 => ?_)
 ·have h3 : k < l.length - 1 := by
   have : (D.bool (cmpI .lss (k : Int) (lenD ((E.cut (.var 0) (.li .i64 1) (.len (.var 0))).den (encS l :: .tup [enc (newPart (nth l 0)), .bool (kindOk (nth l 0))] :: .int .i64 k :: partL (wrapTo l k)))))).toB = true := h3
   rw [ec, encS_len, len_tail] at this
   simp [cmpI] at this; omega
  refine den_cond (fun _ => ?_) ?_
  ·show D.bool (decide (0 ≤ (k : Int) ∧ (k : Int) < lenD ((E.cut (.var 0) (.li .i64 1) (.len (.var 0))).den (encS l :: .tup [enc (newPart (nth l 0)), .bool (kindOk (nth l 0))] :: .int .i64 k :: partL (wrapTo l k))))) = .bool true
   rw [ec, encS_len, len_tail]
   simp; omega
  refine den_callR (xs := [enc (wrapTo l k), .str (nth l (k + 1))]) ?_ (c_impl_Wrap (wrapTo l k) (nth l (k + 1)) (by rw [(wrapTo_small l k).1]; simp) (by have := (wrapTo_small l k).2; omega)) (show HasVT _ _ _ from ⟨ty_Part _, ty_Reply _, trivial⟩) ?_
  ·show [enc (wrapTo l k), (E.cell (.row [.str] (.cut (.var 0) (.li .i64 1) (.len (.var 0))) (.var 2)) 0).den (encS l :: .tup [enc (newPart (nth l 0)), .bool (kindOk (nth l 0))] :: .int .i64 k :: partL (wrapTo l k))] = _
   simp only [E.den, List.getD_cons_zero, List.getD_cons_succ, D.toI_int]
   have e := ec (.tup [enc (newPart (nth l 0)), .bool (kindOk (nth l 0))] :: .int .i64 k :: partL (wrapTo l k))
   simp only [E.den, List.getD_cons_zero, List.getD_cons_succ, D.toI_int] at e
   rw [e]
   simp only [E.den, dEq, iEq, sEq, row_str, cells_str, nth_tail h3]
  simp only [cA]
  refine den_ite (fun h4 => ?_) (fun h4 => ?_)
  ·simp only [E.den, dEq, iEq, sEq, cells_Reply] at h4
   have hb : (!decide ((wrapR l k).code = 0)) = true := by unfold wrapR; grind
   refine den_ret ?_
   unfold makeP
   rw [if_neg hmk, firstTo_some hb hI h3]
   rfl
  ·simp only [E.den, dEq, iEq, sEq, cells_Reply] at h4
   have hb : (!decide ((wrapR l k).code = 0)) = false := by unfold wrapR; grind
   refine den_next h3 ?_ fun i hi => ?_
   ·simp only [E.den, dEq, iEq, sEq, cells_Part]
    rw [ar_add (by omega) (by omega)]; rfl
   ·rcases Nat.lt_or_ge i k with h | h
    ·exact hI i h
    ·obtain rfl : i = k := by omega
     exact hb
 ·have h3 : k = l.length - 1 := by
   have : (D.bool (cmpI .lss (k : Int) (lenD ((E.cut (.var 0) (.li .i64 1) (.len (.var 0))).den (encS l :: .tup [enc (newPart (nth l 0)), .bool (kindOk (nth l 0))] :: .int .i64 k :: partL (wrapTo l k)))))).toB = false := h3
   rw [ec, encS_len, len_tail] at this
   simp [cmpI] at this; omega
  subst h3
  ((first | refine den_call ?_ (c_impl_FaceOf (wrapTo l (l.length - 1))) (rfl) ?_ | refine den_callR ?_ (c_impl_FaceOf (wrapTo l (l.length - 1))) (rfl) ?_ | refine den_call ?_ (.ofR (c_impl_FaceOf (wrapTo l (l.length - 1)))) (rfl) ?_); (focus (simp only [VC.den, E.den, dEq, gsH_nil, and_true]; try exact rfl)); (simp only [cA]))
  refine den_ret ?_
  unfold makeP
  rw [if_neg hmk, firstTo_none hI]
  rfl
theorem c_spec_MakePart (l : List ByteArray) : FunR Try.prog 54 none [encS l] (.tup [enc (makeP l).1, enc (makeP l).2]) [] [(3, 2), (5, 2)] := by
 refine FunR.ofV vc_spec_MakePart_ok ty_spec_MakePart_ok rt_spec_MakePart_ok rfl ?_ (fun hfit => ?_)
 ·exact ⟨ty_strS l, trivial⟩
 have hl : l.length ≤ 9223372036854775807 := fits_encS hfit.1
 unfold vc_spec_MakePart
 refine den_ite (fun h => ?_) (fun h => ?_)
 ·simp only [E.den, dEq, iEq, sEq] at h
  refine den_ret ?_
  unfold makeP
  rw [if_pos (.inl (by grind))]
  rfl
 simp only [E.den, dEq, iEq, sEq] at h
 have h0 : l.length ≠ 0 := by grind
 refine den_cond (fun _ => ?_) ?_
 ·simp [E.den]; omega
 ((first | refine den_call ?_ (c_spec_NewPart (nth l 0)) (⟨ty_Part _, trivial, trivial⟩) ?_ | refine den_callR ?_ (c_spec_NewPart (nth l 0)) (⟨ty_Part _, trivial, trivial⟩) ?_ | refine den_call ?_ (.ofR (c_spec_NewPart (nth l 0))) (⟨ty_Part _, trivial, trivial⟩) ?_); (focus (simp only [VC.den, E.den, dEq, gsH_nil, and_true, row_str, cells_str, Int.toNat_zero]; try exact rfl)); (simp only [cA]))
 refine den_ite (fun h2 => ?_) (fun h2 => ?_)
 ·simp only [E.den, dEq, iEq, sEq] at h2
  refine den_ret ?_
  unfold makeP
  rw [if_pos (.inr (by grind))]
  rfl
 simp only [E.den, dEq, iEq, sEq] at h2
 have hk : kindOk (nth l 0) = true := by grind
 have hmk : ¬ (l.length = 0 ∨ kindOk (nth l 0) = false) := by grind
 refine den_cond (fun _ => ?_) ?_
 ·simp [E.den]; omega
 refine den_for (l.length - 1) (fun k => .int .i64 k :: partL (wrapTo l k)) (fun k => ∀ i, i < k → (!decide ((wrapR l i).code = 0)) = false) rfl (by omega) ?_
 intro k hkn hI _
 simp only [List.cons_append, List.nil_append, partL]
 have ec : ∀ (env : List D), (E.cut (.var 0) (.li .i64 1) (.len (.var 0))).den (encS l :: env) = encS (tailL l) := fun env => cut_den rfl
 refine den_ite (fun h3 => ?_) (fun h3 => ?_)
 ·have h3 : k < l.length - 1 := by
   have : (D.bool (cmpI .lss (k : Int) (lenD ((E.cut (.var 0) (.li .i64 1) (.len (.var 0))).den (encS l :: .tup [enc (newPart (nth l 0)), .bool (kindOk (nth l 0))] :: .int .i64 k :: partL (wrapTo l k)))))).toB = true := h3
   rw [ec, encS_len, len_tail] at this
   simp [cmpI] at this; omega
  refine den_cond (fun _ => ?_) ?_
  ·show D.bool (decide (0 ≤ (k : Int) ∧ (k : Int) < lenD ((E.cut (.var 0) (.li .i64 1) (.len (.var 0))).den (encS l :: .tup [enc (newPart (nth l 0)), .bool (kindOk (nth l 0))] :: .int .i64 k :: partL (wrapTo l k))))) = .bool true
   rw [ec, encS_len, len_tail]
   simp; omega
  refine den_callR (xs := [enc (wrapTo l k), .str (nth l (k + 1))]) ?_ (c_spec_Wrap (wrapTo l k) (nth l (k + 1)) (by rw [(wrapTo_small l k).1]; simp) (by have := (wrapTo_small l k).2; omega)) (show HasVT _ _ _ from ⟨ty_Part _, ty_Reply _, trivial⟩) ?_
  ·show [enc (wrapTo l k), (E.cell (.row [.str] (.cut (.var 0) (.li .i64 1) (.len (.var 0))) (.var 2)) 0).den (encS l :: .tup [enc (newPart (nth l 0)), .bool (kindOk (nth l 0))] :: .int .i64 k :: partL (wrapTo l k))] = _
   simp only [E.den, List.getD_cons_zero, List.getD_cons_succ, D.toI_int]
   have e := ec (.tup [enc (newPart (nth l 0)), .bool (kindOk (nth l 0))] :: .int .i64 k :: partL (wrapTo l k))
   simp only [E.den, List.getD_cons_zero, List.getD_cons_succ, D.toI_int] at e
   rw [e]
   simp only [E.den, dEq, iEq, sEq, row_str, cells_str, nth_tail h3]
  simp only [cA]
  refine den_ite (fun h4 => ?_) (fun h4 => ?_)
  ·simp only [E.den, dEq, iEq, sEq, cells_Reply] at h4
   have hb : (!decide ((wrapR l k).code = 0)) = true := by unfold wrapR; grind
   refine den_ret ?_
   unfold makeP
   rw [if_neg hmk, firstTo_some hb hI h3]
   rfl
  ·simp only [E.den, dEq, iEq, sEq, cells_Reply] at h4
   have hb : (!decide ((wrapR l k).code = 0)) = false := by unfold wrapR; grind
   refine den_next h3 ?_ fun i hi => ?_
   ·simp only [E.den, dEq, iEq, sEq, cells_Part]
    rw [ar_add (by omega) (by omega)]; rfl
   ·rcases Nat.lt_or_ge i k with h | h
    ·exact hI i h
    ·obtain rfl : i = k := by omega
     exact hb
 ·have h3 : k = l.length - 1 := by
   have : (D.bool (cmpI .lss (k : Int) (lenD ((E.cut (.var 0) (.li .i64 1) (.len (.var 0))).den (encS l :: .tup [enc (newPart (nth l 0)), .bool (kindOk (nth l 0))] :: .int .i64 k :: partL (wrapTo l k)))))).toB = false := h3
   rw [ec, encS_len, len_tail] at this
   simp [cmpI] at this; omega
  subst h3
  ((first | refine den_call ?_ (c_spec_FaceOf (wrapTo l (l.length - 1))) (rfl) ?_ | refine den_callR ?_ (c_spec_FaceOf (wrapTo l (l.length - 1))) (rfl) ?_ | refine den_call ?_ (.ofR (c_spec_FaceOf (wrapTo l (l.length - 1)))) (rfl) ?_); (focus (simp only [VC.den, E.den, dEq, gsH_nil, and_true]; try exact rfl)); (simp only [cA]))
  refine den_ret ?_
  unfold makeP
  rw [if_neg hmk, firstTo_none hI]
  rfl
def recF (l : List ByteArray) : Int := if (makeP l).2.code = 0 then (makeP l).2.val else 0
def recOk (l : List ByteArray) : Bool := decide ((makeP l).2.code = 0)
theorem c_impl_RecipeFace (l : List ByteArray) : Fun Try.prog 48 none [encS l] (.tup [.int .i64 (recF l), .bool (recOk l)]) [] := by
 refine Fun.ofV vc_impl_RecipeFace_ok ty_impl_RecipeFace_ok rfl ?_ (fun hfit => ?_)
 ·exact ⟨ty_strS l, trivial⟩
 unfold vc_impl_RecipeFace
 ((first | refine den_call ?_ (c_impl_MakePart l) (⟨ty_Part _, ty_Reply _, trivial⟩) ?_ | refine den_callR ?_ (c_impl_MakePart l) (⟨ty_Part _, ty_Reply _, trivial⟩) ?_ | refine den_call ?_ (.ofR (c_impl_MakePart l)) (⟨ty_Part _, ty_Reply _, trivial⟩) ?_); (focus (simp only [VC.den, E.den, dEq, gsH_nil, and_true]; try exact rfl)); (simp only [cA]))
 refine den_ite (fun h => ?_) (fun h => ?_)
 ·simp only [E.den, dEq, iEq, sEq, cells_Reply] at h
  have h : ¬ (makeP l).2.code = 0 := by grind
  exact den_ret (by simp [E.den, recF, recOk, h])
 ·simp only [E.den, dEq, iEq, sEq, cells_Reply] at h
  have h : (makeP l).2.code = 0 := by grind
  exact den_ret (by simp [E.den, recF, recOk, h, cells_Reply])
theorem c_spec_RecipeFace (l : List ByteArray) : Fun Try.prog 43 none [encS l] (.tup [.int .i64 (recF l), .bool (recOk l)]) [] := by
 refine Fun.ofV vc_spec_RecipeFace_ok ty_spec_RecipeFace_ok rfl ?_ (fun hfit => ?_)
 ·exact ⟨ty_strS l, trivial⟩
 unfold vc_spec_RecipeFace
 ((first | refine den_call ?_ (c_spec_MakePart l) (⟨ty_Part _, ty_Reply _, trivial⟩) ?_ | refine den_callR ?_ (c_spec_MakePart l) (⟨ty_Part _, ty_Reply _, trivial⟩) ?_ | refine den_call ?_ (.ofR (c_spec_MakePart l)) (⟨ty_Part _, ty_Reply _, trivial⟩) ?_); (focus (simp only [VC.den, E.den, dEq, gsH_nil, and_true]; try exact rfl)); (simp only [cA]))
 refine den_ite (fun h => ?_) (fun h => ?_)
 ·simp only [E.den, dEq, iEq, sEq, cells_Reply] at h
  have h : ¬ (makeP l).2.code = 0 := by grind
  exact den_ret (by simp [E.den, recF, recOk, h])
 ·simp only [E.den, dEq, iEq, sEq, cells_Reply] at h
  have h : (makeP l).2.code = 0 := by grind
  exact den_ret (by simp [E.den, recF, recOk, h, cells_Reply])
end Go.Proofs.Ytjmakbnblpjkhaa
/- Needs, entries, registries, providers: what the program and the reference compute. -/
namespace Go.Proofs.Ytjmakbnblpjkhaa
open Go.RowKit Go
variable [GC]
def noText : ByteArray := ⟨#[]⟩
def needB (n : Need) : Bool := isFaceB n.face && !decide (n.face = 0) && (decide (n.frm = noText) || nameB n.frm) && n.least.ok
theorem c_impl_IsNeed (n : Need) : Fun Try.prog 51 none [enc n] (.bool (needB n)) [] := by
 refine Fun.ofV vc_impl_IsNeed_ok ty_impl_IsNeed_ok rfl ?_ (fun hfit => ?_)
 ·exact ⟨ty_Need n, trivial⟩
 unfold vc_impl_IsNeed
 ((first | refine den_call ?_ (c_impl_IsFace n.face) (trivial) ?_ | refine den_callR ?_ (c_impl_IsFace n.face) (trivial) ?_ | refine den_call ?_ (.ofR (c_impl_IsFace n.face)) (trivial) ?_); (focus (simp only [VC.den, E.den, dEq, gsH_nil, and_true, cells_Need]; try exact rfl)); (simp only [cA]))
 ((first | refine den_call ?_ (c_impl_IsName n.frm) (trivial) ?_ | refine den_callR ?_ (c_impl_IsName n.frm) (trivial) ?_ | refine den_call ?_ (.ofR (c_impl_IsName n.frm)) (trivial) ?_); (focus (simp only [VC.den, E.den, dEq, gsH_nil, and_true, cells_Need]; try exact rfl)); (simp only [cA]))
 ((first | refine den_call ?_ (c_impl_IsVersion n.least) (trivial) ?_ | refine den_callR ?_ (c_impl_IsVersion n.least) (trivial) ?_ | refine den_call ?_ (.ofR (c_impl_IsVersion n.least)) (trivial) ?_); (focus (simp only [VC.den, E.den, dEq, gsH_nil, and_true, cells_Need]; try exact rfl)); (simp only [cA]))
 refine den_ret ?_
 simp only [E.den, dEq, iEq, sEq, cells_Need]
 simp only [D.bool.injEq]
 unfold needB noText; grind
theorem c_spec_IsNeed (n : Need) : Fun Try.prog 46 none [enc n] (.bool (needB n)) [] := by
 refine Fun.ofV vc_spec_IsNeed_ok ty_spec_IsNeed_ok rfl ?_ (fun hfit => ?_)
 ·exact ⟨ty_Need n, trivial⟩
 unfold vc_spec_IsNeed
 ((first | refine den_call ?_ (c_spec_IsFace' n.face) (trivial) ?_ | refine den_callR ?_ (c_spec_IsFace' n.face) (trivial) ?_ | refine den_call ?_ (.ofR (c_spec_IsFace' n.face)) (trivial) ?_); (focus (simp only [VC.den, E.den, dEq, gsH_nil, and_true, cells_Need]; try exact rfl)); (simp only [cA]))
 ((first | refine den_call ?_ (c_spec_IsName n.frm) (trivial) ?_ | refine den_callR ?_ (c_spec_IsName n.frm) (trivial) ?_ | refine den_call ?_ (.ofR (c_spec_IsName n.frm)) (trivial) ?_); (focus (simp only [VC.den, E.den, dEq, gsH_nil, and_true, cells_Need]; try exact rfl)); (simp only [cA]))
 ((first | refine den_call ?_ (c_spec_IsVersion n.least) (trivial) ?_ | refine den_callR ?_ (c_spec_IsVersion n.least) (trivial) ?_ | refine den_call ?_ (.ofR (c_spec_IsVersion n.least)) (trivial) ?_); (focus (simp only [VC.den, E.den, dEq, gsH_nil, and_true, cells_Need]; try exact rfl)); (simp only [cA]))
 refine den_ret ?_
 simp only [E.den, dEq, iEq, sEq, cells_Need]
 simp only [D.bool.injEq]
 unfold needB noText; grind
def needAt (e : Entry) (k : Nat) : Bool := needB (nth e.needs k) && !decide ((nth e.needs k).frm = e.name)
def entryB (e : Entry) : Bool := recOk e.recipe && nameB e.name && e.ver.ok && decide (e.needs.length ≤ 3) && allTo (needAt e) e.needs.length
theorem c_impl_IsEntry (e : Entry) : Fun Try.prog 36 none [enc e] (.bool (entryB e)) [] := by
 refine Fun.ofV vc_impl_IsEntry_ok ty_impl_IsEntry_ok rfl ?_ (fun hfit => ?_)
 ·exact ⟨ty_Entry e, trivial⟩
 unfold vc_impl_IsEntry
 ((first | refine den_call ?_ (c_impl_RecipeFace e.recipe) (⟨rfl, trivial, trivial⟩) ?_ | refine den_callR ?_ (c_impl_RecipeFace e.recipe) (⟨rfl, trivial, trivial⟩) ?_ | refine den_call ?_ (.ofR (c_impl_RecipeFace e.recipe)) (⟨rfl, trivial, trivial⟩) ?_); (focus (simp only [VC.den, E.den, dEq, gsH_nil, and_true, cells_Entry]; try exact rfl)); (simp only [cA]))
 ((first | refine den_call ?_ (c_impl_IsName e.name) (trivial) ?_ | refine den_callR ?_ (c_impl_IsName e.name) (trivial) ?_ | refine den_call ?_ (.ofR (c_impl_IsName e.name)) (trivial) ?_); (focus (simp only [VC.den, E.den, dEq, gsH_nil, and_true, cells_Entry]; try exact rfl)); (simp only [cA]))
 ((first | refine den_call ?_ (c_impl_IsVersion e.ver) (trivial) ?_ | refine den_callR ?_ (c_impl_IsVersion e.ver) (trivial) ?_ | refine den_call ?_ (.ofR (c_impl_IsVersion e.ver)) (trivial) ?_); (focus (simp only [VC.den, E.den, dEq, gsH_nil, and_true, cells_Entry]; try exact rfl)); (simp only [cA]))
 refine den_ite (fun h => ?_) (fun h => ?_)
 ·simp only [E.den, dEq, iEq, sEq, cells_Entry] at h
  refine den_ret ?_
  simp only [E.den, D.bool.injEq]
  unfold entryB; grind
 simp only [E.den, dEq, iEq, sEq, cells_Entry] at h
 have h1 : recOk e.recipe = true := by grind
 have h2 : nameB e.name = true := by grind
 have h3 : e.ver.ok = true := by grind
 have h4 : e.needs.length ≤ 3 := by grind
 refine den_for e.needs.length (fun k => [.int .i64 k]) (fun k => allTo (needAt e) k = true) rfl rfl ?_
 intro k hk hI _
 simp only [cA]
 refine den_ite (fun h5 => ?_) (fun h5 => ?_)
 ·simp only [E.den, dEq, iEq, sEq, cells_Entry] at h5
  have h5 : k < e.needs.length := by simp at h5; exact h5
  (refine den_cond (fun hg => ?_) ?_; (focus (simp only [gsH, gE, E.den, dEq, iEq, sEq, cells_Entry] at hg ⊢; (try simp only [D.bool.injEq] at hg); (try simp only [D.bool.injEq]); grind)))
  ((first | refine den_call ?_ (c_impl_IsNeed (nth e.needs k)) (trivial) ?_ | refine den_callR ?_ (c_impl_IsNeed (nth e.needs k)) (trivial) ?_ | refine den_call ?_ (.ofR (c_impl_IsNeed (nth e.needs k))) (trivial) ?_); (focus (simp only [VC.den, E.den, dEq, gsH_nil, and_true, cells_Entry, row_Need]; try exact rfl)); (simp only [cA]))
  refine den_ite (fun h6 => ?_) (fun h6 => ?_)
  ·simp only [E.den, dEq, iEq, sEq, cells_Entry, row_Need, cells_Need] at h6
   have hb : needAt e k = false := by unfold needAt; grind
   refine den_ret ?_
   simp [E.den, entryB, allTo_bad h5 hb]
  ·simp only [E.den, dEq, iEq, sEq, cells_Entry, row_Need, cells_Need] at h6
   have hb : needAt e k = true := by unfold needAt; grind
   refine den_next h5 ?_ (show (allTo (needAt e) k && needAt e k) = true by rw [hI, hb]; rfl)
   simp only [E.den, dEq, iEq, sEq]
   rw [ar_add (by omega) (by omega)]; rfl
 ·simp only [E.den, dEq, iEq, sEq, cells_Entry] at h5
  obtain rfl : k = e.needs.length := by simp at h5; omega
  exact den_ret (by simp [E.den, entryB, hI, h1, h2, h3, h4])
theorem c_spec_IsEntry (e : Entry) : Fun Try.prog 32 none [enc e] (.bool (entryB e)) [] := by
 refine Fun.ofV vc_spec_IsEntry_ok ty_spec_IsEntry_ok rfl ?_ (fun hfit => ?_)
 ·exact ⟨ty_Entry e, trivial⟩
 unfold vc_spec_IsEntry
 ((first | refine den_call ?_ (c_spec_RecipeFace e.recipe) (⟨rfl, trivial, trivial⟩) ?_ | refine den_callR ?_ (c_spec_RecipeFace e.recipe) (⟨rfl, trivial, trivial⟩) ?_ | refine den_call ?_ (.ofR (c_spec_RecipeFace e.recipe)) (⟨rfl, trivial, trivial⟩) ?_); (focus (simp only [VC.den, E.den, dEq, gsH_nil, and_true, cells_Entry]; try exact rfl)); (simp only [cA]))
 ((first | refine den_call ?_ (c_spec_IsName e.name) (trivial) ?_ | refine den_callR ?_ (c_spec_IsName e.name) (trivial) ?_ | refine den_call ?_ (.ofR (c_spec_IsName e.name)) (trivial) ?_); (focus (simp only [VC.den, E.den, dEq, gsH_nil, and_true, cells_Entry]; try exact rfl)); (simp only [cA]))
 ((first | refine den_call ?_ (c_spec_IsVersion e.ver) (trivial) ?_ | refine den_callR ?_ (c_spec_IsVersion e.ver) (trivial) ?_ | refine den_call ?_ (.ofR (c_spec_IsVersion e.ver)) (trivial) ?_); (focus (simp only [VC.den, E.den, dEq, gsH_nil, and_true, cells_Entry]; try exact rfl)); (simp only [cA]))
 refine den_ite (fun h => ?_) (fun h => ?_)
 ·simp only [E.den, dEq, iEq, sEq, cells_Entry] at h
  refine den_ret ?_
  simp only [E.den, D.bool.injEq]
  unfold entryB; grind
 simp only [E.den, dEq, iEq, sEq, cells_Entry] at h
 have h1 : recOk e.recipe = true := by grind
 have h2 : nameB e.name = true := by grind
 have h3 : e.ver.ok = true := by grind
 have h4 : e.needs.length ≤ 3 := by grind
 refine den_for e.needs.length (fun k => [.int .i64 k]) (fun k => allTo (needAt e) k = true) rfl rfl ?_
 intro k hk hI _
 simp only [cA]
 refine den_ite (fun h5 => ?_) (fun h5 => ?_)
 ·simp only [E.den, dEq, iEq, sEq, cells_Entry] at h5
  have h5 : k < e.needs.length := by simp at h5; exact h5
  (refine den_cond (fun hg => ?_) ?_; (focus (simp only [gsH, gE, E.den, dEq, iEq, sEq, cells_Entry] at hg ⊢; (try simp only [D.bool.injEq] at hg); (try simp only [D.bool.injEq]); grind)))
  ((first | refine den_call ?_ (c_spec_IsNeed (nth e.needs k)) (trivial) ?_ | refine den_callR ?_ (c_spec_IsNeed (nth e.needs k)) (trivial) ?_ | refine den_call ?_ (.ofR (c_spec_IsNeed (nth e.needs k))) (trivial) ?_); (focus (simp only [VC.den, E.den, dEq, gsH_nil, and_true, cells_Entry, row_Need]; try exact rfl)); (simp only [cA]))
  refine den_ite (fun h6 => ?_) (fun h6 => ?_)
  ·simp only [E.den, dEq, iEq, sEq, cells_Entry, row_Need, cells_Need] at h6
   have hb : needAt e k = false := by unfold needAt; grind
   refine den_ret ?_
   simp [E.den, entryB, allTo_bad h5 hb]
  ·simp only [E.den, dEq, iEq, sEq, cells_Entry, row_Need, cells_Need] at h6
   have hb : needAt e k = true := by unfold needAt; grind
   refine den_next h5 ?_ (show (allTo (needAt e) k && needAt e k) = true by rw [hI, hb]; rfl)
   simp only [E.den, dEq, iEq, sEq]
   rw [ar_add (by omega) (by omega)]; rfl
 ·simp only [E.den, dEq, iEq, sEq, cells_Entry] at h5
  obtain rfl : k = e.needs.length := by simp at h5; omega
  exact den_ret (by simp [E.den, entryB, hI, h1, h2, h3, h4])
def entryAt (l : List Entry) (k : Nat) : Bool := entryB (nth l k) && (k == 0 || ltB (nth l (k - 1)).name (nth l k).name)
def regB (l : List Entry) : Bool := decide (l.length ≤ 6) && allTo (entryAt l) l.length
theorem c_impl_IsRegistry (l : List Entry) : Fun Try.prog 23 none [encS l] (.bool (regB l)) [] := by
 refine Fun.ofV vc_impl_IsRegistry_ok ty_impl_IsRegistry_ok rfl ?_ (fun hfit => ?_)
 ·exact ⟨ty_EntryS l, trivial⟩
 have hl : l.length ≤ 9223372036854775807 := fits_encS hfit.1
 unfold vc_impl_IsRegistry
 refine den_ite (fun h => ?_) (fun h => ?_)
 ·simp only [E.den, dEq, iEq, sEq] at h
  refine den_ret ?_
  simp only [E.den, D.bool.injEq]
  unfold regB; grind
 simp only [E.den, dEq, iEq, sEq] at h
 have h4 : l.length ≤ 6 := by grind
 refine den_for l.length (fun k => [.int .i64 k]) (fun k => allTo (entryAt l) k = true) rfl rfl ?_
 intro k hk hI _
 simp only [cA]
 refine den_ite (fun h2 => ?_) (fun h2 => ?_)
 ·simp only [E.den, dEq, iEq, sEq] at h2
  have h2 : k < l.length := by simp at h2; exact h2
  (refine den_cond (fun hg => ?_) ?_; (focus (simp only [gsH, gE, E.den, dEq, iEq, sEq] at hg ⊢; (try simp only [D.bool.injEq] at hg); (try simp only [D.bool.injEq]); grind)))
  ((first | refine den_call ?_ (c_impl_IsEntry (nth l k)) (trivial) ?_ | refine den_callR ?_ (c_impl_IsEntry (nth l k)) (trivial) ?_ | refine den_call ?_ (.ofR (c_impl_IsEntry (nth l k))) (trivial) ?_); (focus (simp only [VC.den, E.den, dEq, gsH_nil, and_true, row_Entry, Int.toNat_natCast]; try exact rfl)); (simp only [cA]))
  refine den_cond (fun hg => ?_) ?_
  ·simp [gsH, E.den, cmpI] at hg ⊢
   rw [ar_sub (by omega) (by omega)]; omega
  refine den_ite (fun h3 => ?_) (fun h3 => ?_)
  ·simp only [E.den, dEq, iEq, sEq, row_Entry, cells_Entry] at h3
   have hb : entryAt l k = false := by
    unfold entryAt
    by_cases e : 0 < k
    ·rw [sub_one e (by omega)] at h3; grind
    ·grind
   refine den_ret ?_
   simp [E.den, regB, allTo_bad h2 hb]
  ·simp only [E.den, dEq, iEq, sEq, row_Entry, cells_Entry] at h3
   have hb : entryAt l k = true := by
    unfold entryAt
    by_cases e : 0 < k
    ·rw [sub_one e (by omega)] at h3; grind
    ·grind
   refine den_next h2 ?_ (show (allTo (entryAt l) k && entryAt l k) = true by rw [hI, hb]; rfl)
   simp only [E.den, dEq, iEq, sEq]
   rw [ar_add (by omega) (by omega)]; rfl
 ·simp only [E.den, dEq, iEq, sEq] at h2
  obtain rfl : k = l.length := by simp at h2; omega
  exact den_ret (by simp [E.den, regB, hI, h4])
theorem c_spec_IsRegistry (l : List Entry) : Fun Try.prog 18 none [encS l] (.bool (regB l)) [] := by
 refine Fun.ofV vc_spec_IsRegistry_ok ty_spec_IsRegistry_ok rfl ?_ (fun hfit => ?_)
 ·exact ⟨ty_EntryS l, trivial⟩
 have hl : l.length ≤ 9223372036854775807 := fits_encS hfit.1
 unfold vc_spec_IsRegistry
 refine den_for l.length (fun k => [.int .i64 k]) (fun k => allTo (entryAt l) k = true) rfl rfl ?_
 intro k hk hI _
 simp only [cA]
 refine den_ite (fun h2 => ?_) (fun h2 => ?_)
 ·simp only [E.den, dEq, iEq, sEq] at h2
  have h2 : k < l.length := by simp at h2; exact h2
  (refine den_cond (fun hg => ?_) ?_; (focus (simp only [gsH, gE, E.den, dEq, iEq, sEq] at hg ⊢; (try simp only [D.bool.injEq] at hg); (try simp only [D.bool.injEq]); grind)))
  ((first | refine den_call ?_ (c_spec_IsEntry (nth l k)) (trivial) ?_ | refine den_callR ?_ (c_spec_IsEntry (nth l k)) (trivial) ?_ | refine den_call ?_ (.ofR (c_spec_IsEntry (nth l k))) (trivial) ?_); (focus (simp only [VC.den, E.den, dEq, gsH_nil, and_true, row_Entry, Int.toNat_natCast]; try exact rfl)); (simp only [cA]))
  refine den_cond (fun hg => ?_) ?_
  ·simp [gsH, E.den, cmpI] at hg ⊢
   rw [ar_sub (by omega) (by omega)]; omega
  refine den_ite (fun h3 => ?_) (fun h3 => ?_)
  ·simp only [E.den, dEq, iEq, sEq, row_Entry, cells_Entry] at h3
   have hb : entryAt l k = false := by
    unfold entryAt
    by_cases e : 0 < k
    ·rw [sub_one e (by omega)] at h3; grind
    ·grind
   refine den_ret ?_
   simp [E.den, regB, allTo_bad h2 hb]
  ·simp only [E.den, dEq, iEq, sEq, row_Entry, cells_Entry] at h3
   have hb : entryAt l k = true := by
    unfold entryAt
    by_cases e : 0 < k
    ·rw [sub_one e (by omega)] at h3; grind
    ·grind
   refine den_next h2 ?_ (show (allTo (entryAt l) k && entryAt l k) = true by rw [hI, hb]; rfl)
   simp only [E.den, dEq, iEq, sEq]
   rw [ar_add (by omega) (by omega)]; rfl
 ·simp only [E.den, dEq, iEq, sEq] at h2
  obtain rfl : k = l.length := by simp at h2; omega
  refine den_ret ?_
  simp only [E.den, dEq, iEq, sEq]
  simp only [regB, hI, Bool.and_true, D.bool.injEq]
  grind
theorem firstTo_lt {p : Nat → Bool} {k : Nat} : ∀ {n : Nat}, firstTo p n = some k → k < n ∧ p k = true ∧ ∀ i, i < k → p i = false
 | 0, h => by cases h
 | n + 1, h => by
  simp only [firstTo] at h
  split at h
  ·rename_i j hj
   cases h
   obtain ⟨h1, h2, h3⟩ := firstTo_lt hj
   exact ⟨by omega, h2, h3⟩
  ·rename_i hj
   split at h
   ·rename_i hp
    cases h
    refine ⟨by omega, hp, fun i hi => ?_⟩
    cases hb : p i with
    | false => rfl
    | true =>
     exfalso
     have : ∀ {n : Nat}, firstTo p n = none → ∀ i, i < n → p i = false := by
      intro n
      induction n with
      | zero => intro _ i hi; omega
      | succ n ih =>
       intro h i hi
       simp only [firstTo] at h
       split at h
       ·cases h
       ·rename_i hn
        split at h
        ·cases h
        ·rename_i hp
         by_cases e : i = n
         ·subst e; simpa using hp
         ·exact ih hn i (by omega)
     rw [this hj i hi] at hb; cases hb
   ·cases h
end Go.Proofs.Ytjmakbnblpjkhaa
/- The closure of a relation on places, step by step in place, as the program reckons it. Plain mathematics. -/
namespace Go.Proofs.Ytjmakbnblpjkhaa
end Go.Proofs.Ytjmakbnblpjkhaa
/- Ascending lists: they are what they hold; a text put into one. No program in sight. -/
namespace Go.Proofs.Ytjmakbnblpjkhaa
section
variable {α : Type} [DecidableEq α]
variable {lt : α → α → Bool}
variable [Inhabited α]
end
end Go.Proofs.Ytjmakbnblpjkhaa
/- Contract: who needs whom, the wiring of a registry, as the program reckons it. -/
namespace Go.Proofs.Ytjmakbnblpjkhaa
open Go.RowKit Go
variable [GC]
/-! Rows of one cell each, as data -/
def rowsOf (f : Nat → D) (n : Nat) : List (List D) := (List.range n).map fun a => [f a]
@[simp] theorem rowsOf_len (f : Nat → D) (n : Nat) : (rowsOf f n).length = n := by simp [rowsOf]
/-! Who needs whom -/
end Go.Proofs.Ytjmakbnblpjkhaa
