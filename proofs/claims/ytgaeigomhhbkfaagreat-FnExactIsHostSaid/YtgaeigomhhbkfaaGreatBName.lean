/- Names, kinds, faces: what the program and the reference compute. -/
import Derived.Test.YtgaeigomhhbkfaaGreatBAllow
import Derived.Test.YtgaeigomhhbkfaaGreatBTypes
namespace Go.Proofs.YtgaeigomhhbkfaaGreat
open Go.RowKit Go
set_option linter.unusedVariables false
set_option linter.unusedSimpArgs false
set_option maxRecDepth 100000
set_option linter.unusedSectionVars false
variable [GC]
def letB (s : ByteArray) (k : Nat) : Bool := (decide (97 ≤ byteZ s k) && decide (byteZ s k ≤ 122)) || (!(k == 0) && (decide (48 ≤ byteZ s k) && decide (byteZ s k ≤ 57)))
def nameB (s : ByteArray) : Bool := decide (1 ≤ s.size) && decide (s.size ≤ 8) && allTo (letB s) s.size
theorem c_spec_l1Letter (b : Int) (f : Bool) : Fun Tryz.prog 88 none [.int .u8 b, .bool f] (.bool ((decide (97 ≤ b) && decide (b ≤ 122)) || (!f && (decide (48 ≤ b) && decide (b ≤ 57))))) [] := by
  refine Fun.ofV vc_spec_l1Letter_ok ty_spec_l1Letter_ok rfl ?_ (fun hfit => ?_)
  · exact ⟨rfl, trivial, trivial⟩
  unfold vc_spec_l1Letter
  refine den_ret ?_
  simp [E.den, cmpI, Bool.and_assoc]
theorem c_spec_IsName (s : ByteArray) : Fun Tryz.prog 56 none [.str s] (.bool (nameB s)) [] := by
  refine Fun.ofV vc_spec_IsName_ok ty_spec_IsName_ok rfl ?_ (fun hfit => ?_)
  · exact ⟨trivial, trivial⟩
  have hl := fits_str hfit.1
  unfold vc_spec_IsName
  refine den_for s.size (fun k => [.int .i64 k]) (fun k => allTo (letB s) k = true) rfl rfl ?_
  intro k hk hI _
  simp only [List.cons_append, List.nil_append]
  refine den_ite (fun h2 => ?_) (fun h2 => ?_)
  · simp only [E.den, dEq, iEq, sEq] at h2
    have h2 : k < s.size := by simp at h2; exact h2
    (refine den_cond (fun hg => ?_) ?_; (focus (simp only [gsH, List.mem_cons, List.not_mem_nil, or_false, forall_eq_or_imp, forall_eq, E.den, dEq, iEq, sEq] at hg ⊢; (try simp only [D.bool.injEq] at hg); (try simp only [D.bool.injEq]); grind)))
    ((first | refine den_call ?_ (c_spec_l1Letter (byteZ s k) ((k : Int) == 0)) (trivial) ?_ | refine den_callR ?_ (c_spec_l1Letter (byteZ s k) ((k : Int) == 0)) (trivial) ?_ | refine den_call ?_ (.ofR (c_spec_l1Letter (byteZ s k) ((k : Int) == 0))) (trivial) ?_); (focus (simp only [VC.den, E.den, dEq, gsH_nil, and_true, at_byte, cmpI_eql, Int.toNat_natCast]; try exact rfl)); (simp only [List.cons_append, List.nil_append]))
    refine den_ite (fun h3 => ?_) (fun h3 => ?_)
    · simp only [E.den, dEq, iEq, sEq] at h3
      have hb : letB s k = false := by
        simp at h3
        simp [letB]; omega
      refine den_ret ?_
      simp [E.den, nameB, allTo_bad h2 hb]
    · simp only [E.den, dEq, iEq, sEq] at h3
      have hb : letB s k = true := by
        simp at h3
        simp [letB]; omega
      refine den_next h2 ?_ (show (allTo (letB s) k && letB s k) = true by rw [hI, hb]; rfl)
      simp only [E.den, dEq, iEq, sEq]
      rw [ar_add (by omega) (by omega)]; rfl
  · simp only [E.den, dEq, iEq, sEq] at h2
    obtain rfl : k = s.size := by simp at h2; omega
    refine den_ret ?_
    simp only [nameB, hI, Bool.and_true]
    simp only [E.den, dEq, iEq, sEq]
    congr 1
    grind
theorem c_impl_IsName (s : ByteArray) : Fun Tryz.prog 67 none [.str s] (.bool (nameB s)) [] := by
  refine Fun.ofV vc_impl_IsName_ok ty_impl_IsName_ok rfl ?_ (fun hfit => ?_)
  · exact ⟨trivial, trivial⟩
  have hl := fits_str hfit.1
  unfold vc_impl_IsName
  (refine den_cond (fun hg => ?_) ?_; (focus (simp only [gsH, List.mem_cons, List.not_mem_nil, or_false, forall_eq_or_imp, forall_eq, E.den, dEq, iEq, sEq] at hg ⊢; (try simp only [D.bool.injEq] at hg); (try simp only [D.bool.injEq]); grind)))
  (refine den_cond (fun hg => ?_) ?_; (focus (simp only [gsH, List.mem_cons, List.not_mem_nil, or_false, forall_eq_or_imp, forall_eq, E.den, dEq, iEq, sEq] at hg ⊢; (try simp only [D.bool.injEq] at hg); (try simp only [D.bool.injEq]); grind)))
  refine den_ite (fun h => ?_) (fun h => ?_)
  · simp only [E.den, dEq, iEq, sEq] at h
    refine den_ret ?_
    simp only [E.den, D.bool.injEq]
    by_cases h0 : 1 ≤ s.size ∧ s.size ≤ 8
    · have hb : letB s 0 = false := by
        simp at h
        simp [letB]; omega
      simp [nameB, allTo_bad (show 0 < s.size by omega) hb]
    · have : (decide (1 ≤ s.size) && decide (s.size ≤ 8)) = false := by simp; omega
      simp [nameB, this]
  simp only [E.den, dEq, iEq, sEq] at h
  have h0 : 1 ≤ s.size ∧ s.size ≤ 8 := by grind
  refine den_for s.size (fun k => [.int .i64 k]) (fun k => allTo (letB s) k = true) rfl rfl ?_
  intro k hk hI _
  simp only [List.cons_append, List.nil_append]
  refine den_ite (fun h2 => ?_) (fun h2 => ?_)
  · simp only [E.den, dEq, iEq, sEq] at h2
    have h2 : k < s.size := by simp at h2; exact h2
    (refine den_cond (fun hg => ?_) ?_; (focus (simp only [gsH, List.mem_cons, List.not_mem_nil, or_false, forall_eq_or_imp, forall_eq, E.den, dEq, iEq, sEq] at hg ⊢; (try simp only [D.bool.injEq] at hg); (try simp only [D.bool.injEq]); grind)))
    (refine den_cond (fun hg => ?_) ?_; (focus (simp only [gsH, List.mem_cons, List.not_mem_nil, or_false, forall_eq_or_imp, forall_eq, E.den, dEq, iEq, sEq] at hg ⊢; (try simp only [D.bool.injEq] at hg); (try simp only [D.bool.injEq]); grind)))
    (refine den_cond (fun hg => ?_) ?_; (focus (simp only [gsH, List.mem_cons, List.not_mem_nil, or_false, forall_eq_or_imp, forall_eq, E.den, dEq, iEq, sEq] at hg ⊢; (try simp only [D.bool.injEq] at hg); (try simp only [D.bool.injEq]); grind)))
    (refine den_cond (fun hg => ?_) ?_; (focus (simp only [gsH, List.mem_cons, List.not_mem_nil, or_false, forall_eq_or_imp, forall_eq, E.den, dEq, iEq, sEq] at hg ⊢; (try simp only [D.bool.injEq] at hg); (try simp only [D.bool.injEq]); grind)))
    refine den_ite (fun h3 => ?_) (fun h3 => ?_)
    · simp only [E.den, dEq, iEq, sEq] at h3
      have hb : letB s k = false := by
        simp at h3
        simp [letB]; omega
      refine den_ret ?_
      simp [E.den, nameB, allTo_bad h2 hb]
    · simp only [E.den, dEq, iEq, sEq] at h3
      have hb : letB s k = true := by
        simp at h h3
        by_cases e : k = 0
        · subst e; simp [letB]; omega
        · simp [letB]; omega
      refine den_next h2 ?_ (show (allTo (letB s) k && letB s k) = true by rw [hI, hb]; rfl)
      simp only [E.den, dEq, iEq, sEq]
      rw [ar_add (by omega) (by omega)]; rfl
  · simp only [E.den, dEq, iEq, sEq] at h2
    obtain rfl : k = s.size := by simp at h2; omega
    refine den_ret ?_
    simp [E.den, nameB, hI, h0]
def numB (n : Int) : Bool := decide (0 ≤ n) && decide (n ≤ 999)
theorem c_impl_isNumber (n : Int) : Fun Tryz.prog 66 none [.int .i64 n] (.bool (numB n)) [] := by
  refine Fun.ofV vc_impl_isNumber_ok ty_impl_isNumber_ok rfl ?_ (fun hfit => ?_)
  · exact ⟨rfl, trivial⟩
  exact den_ret (by simp [E.den, cmpI, numB])
/-- Kinds. -/
def kinds : List ByteArray := [⟨#[115, 116, 111, 110, 101]⟩, ⟨#[108, 97, 109, 112]⟩, ⟨#[115, 104, 101, 108, 102]⟩, ⟨#[109, 101, 116, 101, 114]⟩, ⟨#[100, 114, 97, 119, 101, 114]⟩, ⟨#[104, 111, 114, 110]⟩, ⟨#[118, 97, 117, 108, 116]⟩, ⟨#[114, 111, 98, 111, 116]⟩]
def kindFs : List Nat := [0, 1, 2, 5, 3, 9, 19, 63]
def kindAt (s : ByteArray) : Option Nat := if s = nth kinds 0 then some 0 else if s = nth kinds 1 then some 1 else if s = nth kinds 2 then some 2 else if s = nth kinds 3 then some 3 else if s = nth kinds 4 then some 4 else if s = nth kinds 5 then some 5 else if s = nth kinds 6 then some 6 else if s = nth kinds 7 then some 7 else none
def kindN (s : ByteArray) : Nat := match kindAt s with | some k => kindFs.getD k 0 | none => 0
def kindOk (s : ByteArray) : Bool := (kindAt s).isSome
theorem kindN_lt (s : ByteArray) : kindN s < 64 := by
  unfold kindN
  split
  · rename_i k _
    by_cases h : k < 8
    · obtain rfl | rfl | rfl | rfl | rfl | rfl | rfl | rfl : k = 0 ∨ k = 1 ∨ k = 2 ∨ k = 3 ∨ k = 4 ∨ k = 5 ∨ k = 6 ∨ k = 7 := by omega
      all_goals decide
    · rw [List.getD, List.getElem?_eq_none (by simp [kindFs]; omega)]; decide
  · decide
theorem kindAt_none {s : ByteArray} (h : ∀ j, j < 8 → nth kinds j ≠ s) : kindAt s = none := by
  unfold kindAt
  rw [if_neg (fun e => h 0 (by omega) e.symm), if_neg (fun e => h 1 (by omega) e.symm), if_neg (fun e => h 2 (by omega) e.symm), if_neg (fun e => h 3 (by omega) e.symm), if_neg (fun e => h 4 (by omega) e.symm), if_neg (fun e => h 5 (by omega) e.symm), if_neg (fun e => h 6 (by omega) e.symm), if_neg (fun e => h 7 (by omega) e.symm)]
theorem eight {k : Nat} (h : k < 8) : k = 0 ∨ k = 1 ∨ k = 2 ∨ k = 3 ∨ k = 4 ∨ k = 5 ∨ k = 6 ∨ k = 7 := by omega
theorem c_impl_KindFace (s : ByteArray) : Fun Tryz.prog 97 none [.str s] (.tup [.int .i64 (kindN s), .bool (kindOk s)]) [] := by
  refine Fun.ofV vc_impl_KindFace_ok ty_impl_KindFace_ok rfl ?_ (fun hfit => ?_)
  · exact ⟨trivial, trivial⟩
  clear hfit
  unfold vc_impl_KindFace
  refine den_ite (fun h => ?_) (fun h0 => ?_)
  · simp only [E.den, dEq, iEq, sEq] at h; simp at h; subst h; exact den_ret rfl
  refine den_ite (fun h => ?_) (fun h1 => ?_)
  · simp only [E.den, dEq, iEq, sEq] at h; simp at h; subst h; exact den_ret rfl
  refine den_ite (fun h => ?_) (fun h2 => ?_)
  · simp only [E.den, dEq, iEq, sEq] at h; simp at h; subst h; exact den_ret rfl
  refine den_ite (fun h => ?_) (fun h3 => ?_)
  · simp only [E.den, dEq, iEq, sEq] at h; simp at h; subst h; exact den_ret rfl
  refine den_ite (fun h => ?_) (fun h4 => ?_)
  · simp only [E.den, dEq, iEq, sEq] at h; simp at h; subst h; exact den_ret rfl
  refine den_ite (fun h => ?_) (fun h5 => ?_)
  · simp only [E.den, dEq, iEq, sEq] at h; simp at h; subst h; exact den_ret rfl
  refine den_ite (fun h => ?_) (fun h6 => ?_)
  · simp only [E.den, dEq, iEq, sEq] at h; simp at h; subst h; exact den_ret rfl
  refine den_ite (fun h => ?_) (fun h7 => ?_)
  · simp only [E.den, dEq, iEq, sEq] at h; simp at h; subst h; exact den_ret rfl
  simp only [E.den, dEq, iEq, sEq] at h0 h1 h2 h3 h4 h5 h6 h7
  simp at h0 h1 h2 h3 h4 h5 h6 h7
  have hn : kindAt s = none := kindAt_none fun j hj => by
    obtain rfl | rfl | rfl | rfl | rfl | rfl | rfl | rfl := eight hj
    all_goals (intro e; first | exact h0 e.symm | exact h1 e.symm | exact h2 e.symm | exact h3 e.symm | exact h4 e.symm | exact h5 e.symm | exact h6 e.symm | exact h7 e.symm)
  exact den_ret (by simp [E.den, kindN, kindOk, hn])
theorem kindAt_nth : ∀ k : Fin 8, kindAt (nth kinds k.val) = some k.val := by decide +kernel
def kindE : E := .put (.put (.put (.put (.put (.put (.put (.put (.nilS 9) (.ag1 (.ls ⟨#[115, 116, 111, 110, 101]⟩))) (.ag1 (.ls ⟨#[108, 97, 109, 112]⟩))) (.ag1 (.ls ⟨#[115, 104, 101, 108, 102]⟩))) (.ag1 (.ls ⟨#[109, 101, 116, 101, 114]⟩))) (.ag1 (.ls ⟨#[100, 114, 97, 119, 101, 114]⟩))) (.ag1 (.ls ⟨#[104, 111, 114, 110]⟩))) (.ag1 (.ls ⟨#[118, 97, 117, 108, 116]⟩))) (.ag1 (.ls ⟨#[114, 111, 98, 111, 116]⟩))
def kindFE : E := .put (.put (.put (.put (.put (.put (.put (.put (.nilS 3) (.ag1 (.li .i64 0))) (.ag1 (.li .i64 1))) (.ag1 (.li .i64 2))) (.ag1 (.li .i64 5))) (.ag1 (.li .i64 3))) (.ag1 (.li .i64 9))) (.ag1 (.li .i64 19))) (.ag1 (.li .i64 63))
theorem kindE_den (env : List D) : kindE.den env = encS kinds := rfl
theorem kindFE_den (env : List D) : kindFE.den env = encS (kindFs.map fun (n : Nat) => (n : Int)) := rfl
theorem c_spec_KindFace (s : ByteArray) : Fun Tryz.prog 81 none [.str s] (.tup [.int .i64 (kindN s), .bool (kindOk s)]) [] := by
  refine Fun.ofV vc_spec_KindFace_ok ty_spec_KindFace_ok rfl ?_ (fun hfit => ?_)
  · exact ⟨trivial, trivial⟩
  clear hfit
  show VC.den _ _ (.loop [.one (.c (.int .i64))] [.li .i64 0] (.ite (.ic .lss (.var 1) (.len kindE)) (.rq (.cond [] (.inb kindE (.var 1))) (.ite (.sc .eql (.cell (.row [.str] kindE (.var 1)) 0) (.var 0)) (.rq (.cond [] (.inb kindFE (.var 1))) (.ret (.tp1 (.tp1 .tp0 (.cell (.row [.int .i64] kindFE (.var 1)) 0)) (.lb true)) [])) (.again 0 [.ar .add .i64 (.var 1) (.li .i64 1)]))) (.ret (.tp1 (.tp1 .tp0 (.li .i64 0)) (.lb false)) []))) _ _ _
  have e8 : kinds.length = 8 := rfl
  refine den_for 8 (fun k => [.int .i64 k]) (fun k => ∀ j, j < k → nth kinds j ≠ s) rfl (by omega) ?_
  intro k hk hI _
  simp only [List.cons_append, List.nil_append]
  refine den_ite (fun h2 => ?_) (fun h2 => ?_)
  · simp only [E.den, dEq, iEq, sEq, kindE_den, e8] at h2
    have h2 : k < 8 := by simp at h2; omega
    refine den_cond (fun _ => ?_) ?_
    · simp only [E.den, dEq, iEq, sEq, kindE_den, e8]
      simp; omega
    refine den_ite (fun h3 => ?_) (fun h3 => ?_)
    · simp only [E.den, dEq, iEq, sEq, kindE_den, row_str, cells_str] at h3
      simp at h3
      refine den_cond (fun _ => ?_) ?_
      · simp only [E.den, dEq, iEq, sEq, kindFE_den, List.length_map]
        simp [kindFs]; omega
      refine den_ret ?_
      simp only [E.den, dEq, iEq, sEq, kindFE_den, row_int, cells_int]
      have hn : kindAt s = some k := by rw [← h3]; exact kindAt_nth ⟨k, h2⟩
      simp only [kindN, kindOk, hn]
      obtain rfl | rfl | rfl | rfl | rfl | rfl | rfl | rfl : k = 0 ∨ k = 1 ∨ k = 2 ∨ k = 3 ∨ k = 4 ∨ k = 5 ∨ k = 6 ∨ k = 7 := by omega
      all_goals rfl
    · simp only [E.den, dEq, iEq, sEq, kindE_den, row_str, cells_str] at h3
      simp at h3
      refine den_next h2 ?_ fun j hj => ?_
      · simp only [E.den, dEq, iEq, sEq]
        rw [ar_add (by omega) (by omega)]; rfl
      · rcases Nat.lt_or_ge j k with h | h
        · exact hI j h
        · obtain rfl : j = k := by omega
          exact h3
  · simp only [E.den, dEq, iEq, sEq, kindE_den, e8] at h2
    obtain rfl : k = 8 := by simp at h2; omega
    refine den_ret ?_
    have hn := kindAt_none hI
    simp [E.den, kindN, kindOk, hn]
/-- Layers. -/
def layers : List ByteArray := [⟨#[112, 108, 97, 105, 110]⟩, ⟨#[114, 117, 110, 115]⟩, ⟨#[107, 101, 101, 112, 115]⟩, ⟨#[99, 111, 117, 110, 116, 115]⟩, ⟨#[108, 97, 122, 121]⟩, ⟨#[114, 101, 97, 100, 115]⟩, ⟨#[104, 101, 97, 114, 115]⟩, ⟨#[104, 101, 97, 108, 115]⟩, ⟨#[116, 119, 105, 99, 101]⟩]
def layN : List Nat := [0, 1, 2, 2, 3, 2, 1, 1, 4]
def layG : List Nat := [0, 1, 2, 6, 3, 2, 9, 33, 4]
def layAt (s : ByteArray) : Option Nat := if s = nth layers 0 then some 0 else if s = nth layers 1 then some 1 else if s = nth layers 2 then some 2 else if s = nth layers 3 then some 3 else if s = nth layers 4 then some 4 else if s = nth layers 5 then some 5 else if s = nth layers 6 then some 6 else if s = nth layers 7 then some 7 else if s = nth layers 8 then some 8 else none
def needN (s : ByteArray) : Nat := match layAt s with | some k => layN.getD k 0 | none => 0
def giveN (s : ByteArray) : Nat := match layAt s with | some k => layG.getD k 0 | none => 0
def layOk (s : ByteArray) : Bool := (layAt s).isSome
theorem nine {k : Nat} (h : k < 9) : k = 0 ∨ k = 1 ∨ k = 2 ∨ k = 3 ∨ k = 4 ∨ k = 5 ∨ k = 6 ∨ k = 7 ∨ k = 8 := by omega
theorem needN_lt (s : ByteArray) : needN s < 64 := by
  unfold needN
  split
  · rename_i k _
    by_cases h : k < 9
    · obtain rfl | rfl | rfl | rfl | rfl | rfl | rfl | rfl | rfl := nine h
      all_goals decide
    · rw [List.getD, List.getElem?_eq_none (by simp [layN]; omega)]; decide
  · decide
theorem giveN_lt (s : ByteArray) : giveN s < 64 := by
  unfold giveN
  split
  · rename_i k _
    by_cases h : k < 9
    · obtain rfl | rfl | rfl | rfl | rfl | rfl | rfl | rfl | rfl := nine h
      all_goals decide
    · rw [List.getD, List.getElem?_eq_none (by simp [layG]; omega)]; decide
  · decide
theorem layAt_none {s : ByteArray} (h : ∀ j, j < 9 → nth layers j ≠ s) : layAt s = none := by
  unfold layAt
  rw [if_neg (fun e => h 0 (by omega) e.symm), if_neg (fun e => h 1 (by omega) e.symm), if_neg (fun e => h 2 (by omega) e.symm), if_neg (fun e => h 3 (by omega) e.symm), if_neg (fun e => h 4 (by omega) e.symm), if_neg (fun e => h 5 (by omega) e.symm), if_neg (fun e => h 6 (by omega) e.symm), if_neg (fun e => h 7 (by omega) e.symm), if_neg (fun e => h 8 (by omega) e.symm)]
theorem layAt_nth : ∀ k : Fin 9, layAt (nth layers k.val) = some k.val := by decide +kernel
def layD (s : ByteArray) : D := .tup [.int .i64 (needN s), .int .i64 (giveN s), .bool (layOk s)]
theorem c_impl_layerFaces (s : ByteArray) : Fun Tryz.prog 63 none [.str s] (layD s) [] := by
  refine Fun.ofV vc_impl_layerFaces_ok ty_impl_layerFaces_ok rfl ?_ (fun hfit => ?_)
  · exact ⟨trivial, trivial⟩
  clear hfit
  unfold vc_impl_layerFaces
  refine den_ite (fun h => ?_) (fun h0 => ?_)
  · simp only [E.den, dEq, iEq, sEq] at h; simp at h; subst h; exact den_ret rfl
  refine den_ite (fun h => ?_) (fun h1 => ?_)
  · simp only [E.den, dEq, iEq, sEq] at h; simp at h; subst h; exact den_ret rfl
  refine den_ite (fun h => ?_) (fun h2 => ?_)
  · refine den_ite (fun _ => ?_) (fun h' => ?_)
    · simp only [E.den, dEq, iEq, sEq] at h; simp at h; subst h; exact den_ret rfl
    · rw [h] at h'; cases h'
  refine den_ite (fun h => ?_) (fun h3 => ?_)
  · simp only [E.den, dEq, iEq, sEq] at h; simp at h; subst h; exact den_ret rfl
  refine den_ite (fun h => ?_) (fun h4 => ?_)
  · simp only [E.den, dEq, iEq, sEq] at h; simp at h; subst h; exact den_ret rfl
  refine den_ite (fun h => ?_) (fun h5 => ?_)
  · simp only [E.den, dEq, iEq, sEq] at h; simp at h; subst h; exact den_ret rfl
  refine den_ite (fun h => ?_) (fun h6 => ?_)
  · simp only [E.den, dEq, iEq, sEq] at h; simp at h; subst h; exact den_ret rfl
  refine den_ite (fun h => ?_) (fun h7 => ?_)
  · simp only [E.den, dEq, iEq, sEq] at h; simp at h; subst h; exact den_ret rfl
  refine den_ite (fun h => ?_) (fun h8 => ?_)
  · simp only [E.den, dEq, iEq, sEq] at h; simp at h; subst h; exact den_ret rfl
  simp only [E.den, dEq, iEq, sEq] at h0 h1 h2 h3 h4 h5 h6 h7 h8
  simp at h0 h1 h2 h3 h4 h5 h6 h7 h8
  have hn : layAt s = none := layAt_none fun j hj => by
    obtain rfl | rfl | rfl | rfl | rfl | rfl | rfl | rfl | rfl := nine hj
    all_goals (intro e; first | exact h0 e.symm | exact h1 e.symm | exact h2 e.symm | exact h3 e.symm | exact h4 e.symm | exact h5 e.symm | exact h6 e.symm | exact h7 e.symm | exact h8 e.symm)
  exact den_ret (by simp [E.den, layD, needN, giveN, layOk, hn])
def layE : E := .put (.put (.put (.put (.put (.put (.put (.put (.put (.nilS 9) (.ag1 (.ls ⟨#[112, 108, 97, 105, 110]⟩))) (.ag1 (.ls ⟨#[114, 117, 110, 115]⟩))) (.ag1 (.ls ⟨#[107, 101, 101, 112, 115]⟩))) (.ag1 (.ls ⟨#[99, 111, 117, 110, 116, 115]⟩))) (.ag1 (.ls ⟨#[108, 97, 122, 121]⟩))) (.ag1 (.ls ⟨#[114, 101, 97, 100, 115]⟩))) (.ag1 (.ls ⟨#[104, 101, 97, 114, 115]⟩))) (.ag1 (.ls ⟨#[104, 101, 97, 108, 115]⟩))) (.ag1 (.ls ⟨#[116, 119, 105, 99, 101]⟩))
def layNE : E := .put (.put (.put (.put (.put (.put (.put (.put (.put (.nilS 3) (.ag1 (.li .i64 0))) (.ag1 (.li .i64 1))) (.ag1 (.li .i64 2))) (.ag1 (.li .i64 2))) (.ag1 (.li .i64 3))) (.ag1 (.li .i64 2))) (.ag1 (.li .i64 1))) (.ag1 (.li .i64 1))) (.ag1 (.li .i64 4))
def layGE : E := .put (.put (.put (.put (.put (.put (.put (.put (.put (.nilS 3) (.ag1 (.li .i64 0))) (.ag1 (.li .i64 1))) (.ag1 (.li .i64 2))) (.ag1 (.li .i64 6))) (.ag1 (.li .i64 3))) (.ag1 (.li .i64 2))) (.ag1 (.li .i64 9))) (.ag1 (.li .i64 33))) (.ag1 (.li .i64 4))
theorem layE_den (env : List D) : layE.den env = encS layers := rfl
theorem layNE_den (env : List D) : layNE.den env = encS (layN.map fun (n : Nat) => (n : Int)) := rfl
theorem layGE_den (env : List D) : layGE.den env = encS (layG.map fun (n : Nat) => (n : Int)) := rfl
theorem c_spec_l4Row (s : ByteArray) : Fun Tryz.prog 84 none [.str s] (layD s) [] := by
  refine Fun.ofV vc_spec_l4Row_ok ty_spec_l4Row_ok rfl ?_ (fun hfit => ?_)
  · exact ⟨trivial, trivial⟩
  clear hfit
  show VC.den _ _ (.loop [.one (.c (.int .i64))] [.li .i64 0] (.ite (.ic .lss (.var 1) (.len layE)) (.rq (.cond [] (.inb layE (.var 1))) (.ite (.sc .eql (.cell (.row [.str] layE (.var 1)) 0) (.var 0)) (.rq (.cond [] (.inb layNE (.var 1))) (.rq (.cond [] (.inb layGE (.var 1))) (.ret (.tp1 (.tp1 (.tp1 .tp0 (.cell (.row [.int .i64] layNE (.var 1)) 0)) (.cell (.row [.int .i64] layGE (.var 1)) 0)) (.lb true)) []))) (.again 0 [.ar .add .i64 (.var 1) (.li .i64 1)]))) (.ret (.tp1 (.tp1 (.tp1 .tp0 (.li .i64 0)) (.li .i64 0)) (.lb false)) []))) _ _ _
  have e9 : layers.length = 9 := rfl
  refine den_for 9 (fun k => [.int .i64 k]) (fun k => ∀ j, j < k → nth layers j ≠ s) rfl (by omega) ?_
  intro k hk hI _
  simp only [List.cons_append, List.nil_append]
  refine den_ite (fun h2 => ?_) (fun h2 => ?_)
  · simp only [E.den, dEq, iEq, sEq, layE_den, e9] at h2
    have h2 : k < 9 := by simp at h2; omega
    refine den_cond (fun _ => ?_) ?_
    · simp only [E.den, dEq, iEq, sEq, layE_den, e9]
      simp; omega
    refine den_ite (fun h3 => ?_) (fun h3 => ?_)
    · simp only [E.den, dEq, iEq, sEq, layE_den, row_str, cells_str] at h3
      simp at h3
      refine den_cond (fun _ => ?_) (den_cond (fun _ => ?_) ?_)
      · simp only [E.den, dEq, iEq, sEq, layNE_den, List.length_map]
        simp [layN]; omega
      · simp only [E.den, dEq, iEq, sEq, layGE_den, List.length_map]
        simp [layG]; omega
      refine den_ret ?_
      simp only [E.den, dEq, iEq, sEq, layNE_den, layGE_den, row_int, cells_int]
      have hn : layAt s = some k := by rw [← h3]; exact layAt_nth ⟨k, h2⟩
      simp only [layD, needN, giveN, layOk, hn]
      obtain rfl | rfl | rfl | rfl | rfl | rfl | rfl | rfl | rfl := nine h2
      all_goals rfl
    · simp only [E.den, dEq, iEq, sEq, layE_den, row_str, cells_str] at h3
      simp at h3
      refine den_next h2 ?_ fun j hj => ?_
      · simp only [E.den, dEq, iEq, sEq]
        rw [ar_add (by omega) (by omega)]; rfl
      · rcases Nat.lt_or_ge j k with h | h
        · exact hI j h
        · obtain rfl : j = k := by omega
          exact h3
  · simp only [E.den, dEq, iEq, sEq, layE_den, e9] at h2
    obtain rfl : k = 9 := by simp at h2; omega
    refine den_ret ?_
    have hn := layAt_none hI
    simp [E.den, layD, needN, giveN, layOk, hn]
theorem c_spec_LayerNeeds (s : ByteArray) : Fun Tryz.prog 51 none [.str s] (.tup [.int .i64 (needN s), .bool (layOk s)]) [] := by
  refine Fun.ofV vc_spec_LayerNeeds_ok ty_spec_LayerNeeds_ok rfl ?_ (fun hfit => ?_)
  · exact ⟨trivial, trivial⟩
  unfold vc_spec_LayerNeeds
  ((first | refine den_call ?_ (c_spec_l4Row s) (⟨rfl, rfl, trivial, trivial⟩) ?_ | refine den_callR ?_ (c_spec_l4Row s) (⟨rfl, rfl, trivial, trivial⟩) ?_ | refine den_call ?_ (.ofR (c_spec_l4Row s)) (⟨rfl, rfl, trivial, trivial⟩) ?_); (focus (simp only [VC.den, E.den, dEq, gsH_nil, and_true]; try exact rfl)); (simp only [List.cons_append, List.nil_append]))
  exact den_ret rfl
theorem off6 : ∀ n m : Fin 64, ((List.range 6).all fun k => !(m.val.testBit k && !n.val.testBit k)) = decide (m.val &&& n.val = m.val) := by decide +kernel
theorem offN_eq : ∀ n m : Fin 64, cmpI .eql (arI .andNot .i64 ((m.val : Nat) : Int) ((n.val : Nat) : Int)) 0 = decide (m.val &&& n.val = m.val) := by decide +kernel
theorem c_spec_Offers (a b : Int) : Fun Tryz.prog 52 none [.int .i64 a, .int .i64 b] (.bool (offersB a b)) [] := by
  refine Fun.ofV vc_spec_Offers_ok ty_spec_Offers_ok rfl ?_ (fun hfit => ?_)
  · exact ⟨rfl, rfl, trivial⟩
  unfold vc_spec_Offers
  ((first | refine den_call ?_ (c_spec_IsFace' a) (trivial) ?_ | refine den_callR ?_ (c_spec_IsFace' a) (trivial) ?_ | refine den_call ?_ (.ofR (c_spec_IsFace' a)) (trivial) ?_); (focus (simp only [VC.den, E.den, dEq, gsH_nil, and_true]; try exact rfl)); (simp only [List.cons_append, List.nil_append]))
  ((first | refine den_call ?_ (c_spec_IsFace' b) (trivial) ?_ | refine den_callR ?_ (c_spec_IsFace' b) (trivial) ?_ | refine den_call ?_ (.ofR (c_spec_IsFace' b)) (trivial) ?_); (focus (simp only [VC.den, E.den, dEq, gsH_nil, and_true]; try exact rfl)); (simp only [List.cons_append, List.nil_append]))
  refine den_ite (fun h => ?_) (fun h => ?_)
  · simp only [E.den, dEq, iEq, sEq] at h
    refine den_ret ?_
    simp only [E.den, D.bool.injEq]
    unfold offersB
    grind
  simp only [E.den, dEq, iEq, sEq] at h
  have ha : isFaceB a = true := by grind
  have hb : isFaceB b = true := by grind
  obtain ⟨n, rfl, hn⟩ := isFaceB_nat ha
  obtain ⟨m, rfl, hm⟩ := isFaceB_nat hb
  have ho : offersB (n : Int) (m : Int) = ((List.range 6).all fun k => !(m.testBit k && !n.testBit k)) := by
    unfold offersB
    rw [ha, hb, Bool.true_and, Bool.true_and, offN_eq ⟨n, hn⟩ ⟨m, hm⟩, off6 ⟨n, hn⟩ ⟨m, hm⟩]
  rw [ho]
  refine den_for 6 (fun k => [.int .i64 k]) (fun k => ∀ j, j < k → (!(m.testBit j && !n.testBit j)) = true) rfl (by omega) ?_
  intro k hk hI _
  simp only [List.cons_append, List.nil_append]
  refine den_ite (fun h2 => ?_) (fun h2 => ?_)
  · simp only [E.den, dEq, iEq, sEq] at h2
    have h2 : k < 6 := by simp at h2; omega
    ((first | refine den_call ?_ (c_spec_l2Has m k hm h2) (trivial) ?_ | refine den_callR ?_ (c_spec_l2Has m k hm h2) (trivial) ?_ | refine den_call ?_ (.ofR (c_spec_l2Has m k hm h2)) (trivial) ?_); (focus (simp only [VC.den, E.den, dEq, gsH_nil, and_true]; try exact rfl)); (simp only [List.cons_append, List.nil_append]))
    ((first | refine den_call ?_ (c_spec_l2Has n k hn h2) (trivial) ?_ | refine den_callR ?_ (c_spec_l2Has n k hn h2) (trivial) ?_ | refine den_call ?_ (.ofR (c_spec_l2Has n k hn h2)) (trivial) ?_); (focus (simp only [VC.den, E.den, dEq, gsH_nil, and_true]; try exact rfl)); (simp only [List.cons_append, List.nil_append]))
    refine den_ite (fun h3 => ?_) (fun h3 => ?_)
    · simp only [E.den, dEq, iEq, sEq] at h3
      refine den_ret ?_
      simp only [E.den, D.bool.injEq]
      symm
      rw [List.all_eq_false]
      exact ⟨k, by simpa using h2, by rw [h3]; simp⟩
    · simp only [E.den, dEq, iEq, sEq] at h3
      refine den_next h2 ?_ fun j hj => ?_
      · simp only [E.den, dEq, iEq, sEq]
        rw [ar_add (by omega) (by omega)]; rfl
      · rcases Nat.lt_or_ge j k with h | h
        · exact hI j h
        · obtain rfl : j = k := by omega
          rw [h3]; rfl
  · simp only [E.den, dEq, iEq, sEq] at h2
    obtain rfl : k = 6 := by simp at h2; omega
    refine den_ret ?_
    simp only [E.den, D.bool.injEq]
    symm
    rw [List.all_eq_true]
    intro j hj
    exact hI j (by simpa using hj)
end Go.Proofs.YtgaeigomhhbkfaaGreat
