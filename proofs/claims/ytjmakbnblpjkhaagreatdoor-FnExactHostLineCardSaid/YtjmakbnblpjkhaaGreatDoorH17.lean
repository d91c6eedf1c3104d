/- The laws' helpers: sizes, copies, equality. Written by gen3.py. -/
import Derived.Test.YtjmakbnblpjkhaaGreatDoorH16
set_option linter.unusedVariables false
set_option linter.unusedSimpArgs false
set_option maxRecDepth 100000
set_option linter.unusedSectionVars false
namespace Go.Proofs.YtjmakbnblpjkhaaGreatDoor
open Go.RowKit Go
variable [GC]
def isZ (n : Int) (P : Prop) (r : D) : Prop := ∃ m : Int, r = .int .i64 m ∧ -1 ≤ m ∧ m ≤ n ∧ (0 ≤ m → P)
theorem isZ.no {n : Int} {P : Prop} (h : 0 ≤ n) : isZ n P (.int .i64 (-1)) := ⟨-1, rfl, by omega, by omega, by omega⟩
theorem isZ.ty {n : Int} {P : Prop} {r : D} (h : isZ n P r) : HasVT tbl.tab (.one (.c (.int .i64))) r := by obtain ⟨m, rfl, _⟩ := h; rfl
class Sm (α : Type) where
 sm : α → Prop
instance : Sm ByteArray := ⟨fun s => s.size ≤ 1048576⟩
instance {α : Type} [Inhabited α] [Sm α] : Sm (List α) := ⟨fun l => l.length ≤ 1048576 ∧ ∀ k, k < l.length → Sm.sm (nth l k)⟩
theorem sm_str {s : ByteArray} : Sm.sm s ↔ s.size ≤ 1048576 := Iff.rfl
theorem sm_list {α : Type} [Inhabited α] [Sm α] {l : List α} : Sm.sm l ↔ l.length ≤ 1048576 ∧ ∀ k, k < l.length → Sm.sm (nth l k) := Iff.rfl
theorem z_StringS (l : List ByteArray) (n : Int) (h0 : 0 ≤ n) (h1 : n ≤ 1048576) : ∃ r, isZ n (Sm.sm l) r ∧ Fun Tryz.prog 23 none [encS l, .int .i64 n] r [] := by
 refine Fun.exV vc_laws_szStringS_ok rfl ty_laws_szStringS_ok ⟨ty_strS l, rfl, trivial⟩ (.int .i64 (-1)) (isZ.no h0) fun hfit => ?_; unfold vc_laws_szStringS
 have hl : l.length ≤ 9223372036854775807 := fits_encS hfit.1
 have e : arI .sub .i64 n l.length = n - l.length := ar_sub (by omega) (by omega)
 refine den_ite (fun h => ?_) (fun h => ?_)
 ·exact ⟨isZ.no h0, rfl⟩
 simp only [E.den, List.map_cons, List.map_nil, List.getD_cons_zero, List.getD_cons_succ, D.toI_int, D.toB_bool, D.toS_str, enc_toA, encS_toR, encS_len, len_str, cmpI_lss, e] at h
 simp at h
 refine den_loop (Int × Nat) (fun s => [.int .i64 s.1, .int .i64 s.2]) (fun s => s.2 ≤ l.length ∧ s.1 ≤ n - l.length ∧ 0 ≤ s.1 ∧ ∀ i, i < s.2 → Sm.sm (nth l i)) (fun s => l.length - s.2) (n - l.length, 0) (fun s s' h => by simp at h; omega) ?_ ⟨by omega, by omega, by omega, by omega⟩ ?_
 ·simp only [E.den, List.map_cons, List.map_nil, List.getD_cons_zero, List.getD_cons_succ, D.toI_int, D.toB_bool, D.toS_str, enc_toA, encS_toR, encS_len, len_str, cmpI_lss, e]; rfl
 rintro ⟨m, k⟩ ⟨hk, hm, hm0, hI⟩ -
 simp only at hk hm hm0 hI
 simp only [cA]
 refine den_ite (fun h2 => ?_) (fun h2 => ?_)
 ·simp [E.den, cmpI] at h2
  refine den_cond (fun hg => ?_) ?_
  ·simp [E.den]; omega
  have hs2 := fits_str (fits_nth hfit.1 h2).1
  have e2 : arI .sub .i64 m (nth l k).size = m - (nth l k).size := ar_sub (by omega) (by omega)
  refine den_ite (fun h3 => ?_) (fun h3 => ?_)
  ·exact ⟨isZ.no h0, rfl⟩
  simp only [E.den, List.map_cons, List.map_nil, List.getD_cons_zero, List.getD_cons_succ, D.toI_int, D.toB_bool, D.toS_str, enc_toA, encS_toR, encS_len, len_str, cmpI_lss, row_str, cells_str, Int.toNat_natCast, e2] at h3
  simp at h3
  refine ⟨(m - (nth l k).size, k + 1), ?_, ⟨by omega, by omega, by omega, fun i hi => ?_⟩, by omega⟩
  ·simp only [E.den, List.map_cons, List.map_nil, List.getD_cons_zero, List.getD_cons_succ, D.toI_int, D.toB_bool, D.toS_str, enc_toA, encS_toR, encS_len, len_str, cmpI_lss, row_str, cells_str, Int.toNat_natCast, e2]; rw [ar_add (by omega) (by omega)]; rfl
  rcases Nat.lt_or_ge i k with h' | h'
  ·exact hI i h'
  ·obtain rfl : i = k := by omega
   exact sm_str.2 (by omega)
 ·simp [E.den, cmpI] at h2
  obtain rfl : k = l.length := by omega
  exact ⟨⟨m, rfl, by omega, by omega, fun _ => sm_list.2 ⟨by omega, hI⟩⟩, rfl⟩
def copyTo {α : Type} [Enc α] (l : List α) (z : List D) (k : Nat) : List (List D) := (l.take k).map Enc.cells ++ List.replicate (l.length - k) z
theorem copyTo_zero {α : Type} [Enc α] (l : List α) (z : List D) : List.replicate l.length z = copyTo l z 0 := by simp [copyTo]
theorem copyTo_all {α : Type} [Enc α] (l : List α) (z : List D) : D.sl (copyTo l z l.length) = encS l := by simp [copyTo, encS]
theorem setL_all {α : Type} {cs l : List α} (h : l.length = cs.length) : setL cs 0 l = l := by
 apply List.ext_getElem?
 intro i
 rw [setL_get?]
 split
 ·rw [Nat.sub_zero]
 ·rw [List.getElem?_eq_none (by omega), List.getElem?_eq_none (by omega)]
theorem copyTo_upd {α : Type} [Enc α] {l : List α} {z : List D} {k : Nat} (hk : k < l.length) (hz : (Enc.cells (nth l k)).length = z.length) : updR (copyTo l z k) k 0 (Enc.cells (nth l k)) = copyTo l z (k + 1) := by
 have hA : ((l.take k).map (Enc.cells (α := α))).length = k := by simp; omega
 have hr : List.replicate (l.length - k) z = z :: List.replicate (l.length - (k + 1)) z := by
  rw [show l.length - k = (l.length - (k + 1)) + 1 by omega, List.replicate_succ]
 unfold updR copyTo
 rw [hr]
 have hg : (((l.take k).map Enc.cells ++ z :: List.replicate (l.length - (k + 1)) z).getD k []) = z := by
  rw [List.getD, List.getElem?_append_right (by omega), hA, Nat.sub_self]; rfl
 rw [hg, setL_all hz, List.set_append_right _ _ (by omega), hA, Nat.sub_self, List.set_cons_zero, List.take_succ_eq_append_getElem hk, List.map_append]
 have : nth l k = l[k] := by simp [nth, hk]
 rw [this]
 simp
theorem c_laws_toStringS (l : List ByteArray) (h : l.length ≤ 1048576) : FunR Tryz.prog 31 none [encS l] (encS l) [] [(0, 1)] := by
 refine FunR.ofV vc_laws_toStringS_ok ty_laws_toStringS_ok rt_laws_toStringS_ok rfl ?_ (fun hfit => ?_)
 ·exact ⟨ty_strS l, trivial⟩
 unfold vc_laws_toStringS
 refine den_cond (fun _ => ?_) ?_
 ·simp only [E.den, dEq, iEq, sEq]; simp; omega
 refine den_for l.length (fun k => [.int .i64 k, .sl (copyTo l (List.map zeroD [.str]) k)]) (fun _ => True) ?_ trivial ?_
 ·simp only [E.den, dEq, iEq, sEq]
  rw [copyTo_zero]; rfl
 intro k hk _ _
 simp only [cA]
 refine den_ite (fun h2 => ?_) (fun h2 => ?_)
 ·simp only [E.den, dEq, iEq, sEq] at h2
  have h2 : k < l.length := by simp at h2; exact h2
  (refine den_cond (fun hg => ?_) ?_; (focus (simp only [gsH, gE, E.den, dEq, iEq, sEq] at hg ⊢; (try simp only [D.bool.injEq] at hg); (try simp only [D.bool.injEq]); grind)))
  refine den_cond (fun _ => ?_) ?_
  ·simp only [E.den, dEq, iEq, sEq, lenD_sl, lenD_mem]; simp; omega
  refine den_next h2 ?_ trivial
  simp only [E.den, dEq, iEq, sEq, row_str, cells_str]
  rw [ar_add (by omega) (by omega)]
  exact congrArg (fun r => [D.int .i64 ((k + 1 : Nat) : Int), D.sl r]) (copyTo_upd h2 rfl)
 ·simp only [E.den, dEq, iEq, sEq] at h2
  obtain rfl : k = l.length := by simp at h2; omega
  refine den_ret ?_
  simp only [E.den, dEq, iEq, sEq]
  exact copyTo_all l _
theorem c_laws_eqStringS (l l' : List ByteArray) : Fun Tryz.prog 40 none [encS l, encS l'] (.bool (decide (l = l'))) [] := by
 refine Fun.ofV vc_laws_eqStringS_ok ty_laws_eqStringS_ok rfl ?_ (fun hfit => ?_)
 ·exact ⟨ty_strS l, ty_strS l', trivial⟩
 have hl : l.length ≤ 9223372036854775807 := fits_encS hfit.1
 unfold vc_laws_eqStringS
 refine den_ite (fun h => ?_) (fun h => ?_)
 ·simp [E.den, cmpI] at h
  refine den_ret ?_
  have : l ≠ l' := fun e => h (by rw [e])
  simp [E.den, this]
 simp [E.den, cmpI] at h
 have h : l.length = l'.length := by omega
 refine den_for l.length (fun k => [.int .i64 k]) (fun k => ∀ i, i < k → nth l i = nth l' i) rfl (by omega) ?_
 intro k hk hI _
 simp only [cA]
 refine den_ite (fun h2 => ?_) (fun h2 => ?_)
 ·simp [E.den, cmpI] at h2
  refine den_cond (fun hg => ?_) (den_cond (fun hg => ?_) ?_)
  ·simp [E.den]; omega
  ·simp [E.den]; omega
  refine den_ite (fun h3 => ?_) (fun h3 => ?_)
  ·simp only [E.den, List.map_cons, List.map_nil, List.getD_cons_zero, List.getD_cons_succ, D.toI_int, D.toB_bool, D.toS_str, enc_toA, encS_toR, encS_len, len_str, cmpI_lss, row_str, cells_str, Int.toNat_natCast, cmpS_neq] at h3
   simp at h3
   exact den_ret (by have : l ≠ l' := fun e => h3 (by rw [e])
                     simp [E.den, this])
  simp only [E.den, List.map_cons, List.map_nil, List.getD_cons_zero, List.getD_cons_succ, D.toI_int, D.toB_bool, D.toS_str, enc_toA, encS_toR, encS_len, len_str, cmpI_lss, row_str, cells_str, Int.toNat_natCast, cmpS_neq] at h3
  simp at h3
  refine den_next h2 ?_ fun i hi => ?_
  ·simp [E.den]; rw [ar_add (by omega) (by omega)]
  rcases Nat.lt_or_ge i k with h' | h'
  ·exact hI i h'
  ·obtain rfl : i = k := by omega
   exact h3
 ·simp [E.den, cmpI] at h2
  obtain rfl : k = l.length := by omega
  exact den_ret (by simp [E.den, ext_nth h hI])
instance : Sm Layer := ⟨fun x => Sm.sm x.name⟩
theorem z_Layer (x : Layer) (n : Int) (h0 : 0 ≤ n) (h1 : n ≤ 1048576) : ∃ r, isZ n (Sm.sm x) r ∧ Fun Tryz.prog 161 none [enc x, .int .i64 n] r [] := by
 refine Fun.exV vc_laws_szLayer_ok rfl ty_laws_szLayer_ok ⟨ty_laws_Layer x, rfl, trivial⟩ (.int .i64 (-1)) (isZ.no h0) fun hfit => ?_; unfold vc_laws_szLayer
 have hf := hfit.1
 simp only [enc, Fits, cells_Layer, FitsL] at hf
 have hs0 : x.name.size ≤ 9223372036854775807 := fits_str (by simp only [Fits]; exact hf.1)
 have e0 : arI .sub .i64 n x.name.size = n - x.name.size := ar_sub (by omega) (by omega)
 refine den_ite (fun h => ⟨isZ.no h0, rfl⟩) (fun g0 => ?_)
 simp only [E.den, List.map_cons, List.map_nil, List.getD_cons_zero, List.getD_cons_succ, D.toI_int, D.toB_bool, D.toS_str, enc_toA, encS_toR, encS_len, len_str, cmpI_lss, cells_Layer, e0] at g0
 simp at g0
 refine ⟨⟨(n - x.name.size), ?_, by omega, by omega, fun _ => sm_str.2 (by omega)⟩, rfl⟩
 simp only [E.den, List.map_cons, List.map_nil, List.getD_cons_zero, List.getD_cons_succ, D.toI_int, D.toB_bool, D.toS_str, enc_toA, encS_toR, encS_len, len_str, cmpI_lss, cells_Layer, e0]
theorem z_LayerS (l : List Layer) (n : Int) (h0 : 0 ≤ n) (h1 : n ≤ 1048576) : ∃ r, isZ n (Sm.sm l) r ∧ Fun Tryz.prog 117 none [encS l, .int .i64 n] r [] := by
 refine Fun.exV vc_laws_szLayerS_ok rfl ty_laws_szLayerS_ok ⟨ty_laws_LayerS l, rfl, trivial⟩ (.int .i64 (-1)) (isZ.no h0) fun hfit => ?_; unfold vc_laws_szLayerS
 have hl : l.length ≤ 9223372036854775807 := fits_encS hfit.1
 have e : arI .sub .i64 n l.length = n - l.length := ar_sub (by omega) (by omega)
 refine den_ite (fun h => ?_) (fun h => ?_)
 ·exact ⟨isZ.no h0, rfl⟩
 simp only [E.den, List.map_cons, List.map_nil, List.getD_cons_zero, List.getD_cons_succ, D.toI_int, D.toB_bool, D.toS_str, enc_toA, encS_toR, encS_len, len_str, cmpI_lss, e] at h
 simp at h
 refine den_loop (Int × Nat) (fun s => [.int .i64 s.1, .int .i64 s.2]) (fun s => s.2 ≤ l.length ∧ s.1 ≤ n - l.length ∧ 0 ≤ s.1 ∧ ∀ i, i < s.2 → Sm.sm (nth l i)) (fun s => l.length - s.2) (n - l.length, 0) (fun s s' h => by simp at h; omega) ?_ ⟨by omega, by omega, by omega, by omega⟩ ?_
 ·simp only [E.den, List.map_cons, List.map_nil, List.getD_cons_zero, List.getD_cons_succ, D.toI_int, D.toB_bool, D.toS_str, enc_toA, encS_toR, encS_len, len_str, cmpI_lss, e]; rfl
 rintro ⟨m, k⟩ ⟨hk, hm, hm0, hI⟩ -
 simp only at hk hm hm0 hI
 simp only [cA]
 refine den_ite (fun h2 => ?_) (fun h2 => ?_)
 ·simp [E.den, cmpI] at h2
  refine den_cond (fun hg => ?_) ?_
  ·simp [E.den]; omega
  ((first | refine den_callE ?_ (z_Layer (nth l k) m hm0 (by omega)) (fun _ h => isZ.ty h) ?_ | refine den_callRE ?_ (z_Layer (nth l k) m hm0 (by omega)) (fun _ h => isZ.ty h) ?_ | refine den_callE ?_ (exR (z_Layer (nth l k) m hm0 (by omega))) (fun _ h => isZ.ty h) ?_); (focus (simp only [VC.den, E.den, dEq, gsH_nil, and_true, row_Layer, Int.toNat_natCast]; try exact rfl)); rintro _ ⟨q, rfl, q1, q2, q3⟩; (simp only [cA]))
  refine den_ite (fun h3 => ?_) (fun h3 => ?_)
  ·exact ⟨isZ.no h0, rfl⟩
  simp only [E.den, List.map_cons, List.map_nil, List.getD_cons_zero, List.getD_cons_succ, D.toI_int, D.toB_bool, D.toS_str, enc_toA, encS_toR, encS_len, len_str, cmpI_lss] at h3
  simp at h3
  refine ⟨(q, k + 1), ?_, ⟨by omega, by omega, h3, fun i hi => ?_⟩, by omega⟩
  ·simp only [E.den, List.map_cons, List.map_nil, List.getD_cons_zero, List.getD_cons_succ, D.toI_int, D.toB_bool, D.toS_str, enc_toA, encS_toR, encS_len, len_str, cmpI_lss]; rw [ar_add (by omega) (by omega)]; rfl
  rcases Nat.lt_or_ge i k with h' | h'
  ·exact hI i h'
  ·obtain rfl : i = k := by omega
   exact q3 h3
 ·simp [E.den, cmpI] at h2
  obtain rfl : k = l.length := by omega
  exact ⟨⟨m, rfl, by omega, by omega, fun _ => sm_list.2 ⟨by omega, hI⟩⟩, rfl⟩
theorem c_laws_toLayer (x : Layer) (h : Sm.sm x) : Fun Tryz.prog 172 none [enc x] (enc x) [] := by
 refine Fun.ofV vc_laws_toLayer_ok ty_laws_toLayer_ok rfl ?_ (fun hfit => ?_)
 ·exact ⟨ty_laws_Layer x, trivial⟩
 unfold vc_laws_toLayer
 exact den_ret (by simp [E.den, cells_Layer, enc])
theorem c_laws_toLayerS (l : List Layer) (h : l.length ≤ 1048576) (H : ∀ k, k < l.length → Sm.sm (nth l k)) : FunR Tryz.prog 134 none [encS l] (encS l) [] [(0, 2)] := by
 refine FunR.ofV vc_laws_toLayerS_ok ty_laws_toLayerS_ok rt_laws_toLayerS_ok rfl ?_ (fun hfit => ?_)
 ·exact ⟨ty_laws_LayerS l, trivial⟩
 unfold vc_laws_toLayerS
 refine den_cond (fun _ => ?_) ?_
 ·simp only [E.den, dEq, iEq, sEq]; simp; omega
 refine den_for l.length (fun k => [.int .i64 k, .sl (copyTo l (List.map zeroD [.str, .int .i64]) k)]) (fun _ => True) ?_ trivial ?_
 ·simp only [E.den, dEq, iEq, sEq]
  rw [copyTo_zero]; rfl
 intro k hk _ _
 simp only [cA]
 refine den_ite (fun h2 => ?_) (fun h2 => ?_)
 ·simp only [E.den, dEq, iEq, sEq] at h2
  have h2 : k < l.length := by simp at h2; exact h2
  (refine den_cond (fun hg => ?_) ?_; (focus (simp only [gsH, gE, E.den, dEq, iEq, sEq] at hg ⊢; (try simp only [D.bool.injEq] at hg); (try simp only [D.bool.injEq]); grind)))
  ((first | refine den_call ?_ (c_laws_toLayer (nth l k) (H k h2)) (ty_Layer _) ?_ | refine den_callR ?_ (c_laws_toLayer (nth l k) (H k h2)) (ty_Layer _) ?_ | refine den_call ?_ (.ofR (c_laws_toLayer (nth l k) (H k h2))) (ty_Layer _) ?_); (focus (simp only [VC.den, E.den, dEq, gsH_nil, and_true, row_Layer, Int.toNat_natCast]; try exact rfl)); (simp only [cA]))
  refine den_cond (fun _ => ?_) ?_
  ·simp only [E.den, dEq, iEq, sEq, lenD_sl, lenD_mem]; simp; omega
  refine den_next h2 ?_ trivial
  simp only [E.den, dEq, iEq, sEq, enc_toA]
  rw [ar_add (by omega) (by omega)]
  exact congrArg (fun r => [D.int .i64 ((k + 1 : Nat) : Int), D.sl r]) (copyTo_upd h2 rfl)
 ·simp only [E.den, dEq, iEq, sEq] at h2
  obtain rfl : k = l.length := by simp at h2; omega
  refine den_ret ?_
  simp only [E.den, dEq, iEq, sEq]
  exact copyTo_all l _
theorem c_laws_eqLayer (x y : Layer) : Fun Tryz.prog 179 none [enc x, enc y] (.bool (decide (x = y))) [] := by
 refine Fun.ofV vc_laws_eqLayer_ok ty_laws_eqLayer_ok rfl ?_ (fun hfit => ?_)
 ·exact ⟨ty_Layer x, ty_Layer y, trivial⟩
 have e := eq_Layer x y
 unfold vc_laws_eqLayer
 refine den_ite (fun h => ?_) (fun h0 => ?_)
 ·simp [E.den, cmpI, cmpS_neq, cells_Layer] at h
  exact den_ret (by simp [E.den, e, h])
 simp [E.den, cmpI, cmpS_neq, cells_Layer] at h0
 refine den_ite (fun h => ?_) (fun h1 => ?_)
 ·simp [E.den, cmpI, cmpS_neq, cells_Layer] at h
  exact den_ret (by simp [E.den, e, h])
 simp [E.den, cmpI, cmpS_neq, cells_Layer] at h1
 exact den_ret (by simp [E.den, e, h0, h1])
theorem c_laws_eqLayerS (l l' : List Layer) : Fun Tryz.prog 147 none [encS l, encS l'] (.bool (decide (l = l'))) [] := by
 refine Fun.ofV vc_laws_eqLayerS_ok ty_laws_eqLayerS_ok rfl ?_ (fun hfit => ?_)
 ·exact ⟨ty_LayerS l, ty_LayerS l', trivial⟩
 have hl : l.length ≤ 9223372036854775807 := fits_encS hfit.1
 unfold vc_laws_eqLayerS
 refine den_ite (fun h => ?_) (fun h => ?_)
 ·simp [E.den, cmpI] at h
  refine den_ret ?_
  have : l ≠ l' := fun e => h (by rw [e])
  simp [E.den, this]
 simp [E.den, cmpI] at h
 have h : l.length = l'.length := by omega
 refine den_for l.length (fun k => [.int .i64 k]) (fun k => ∀ i, i < k → nth l i = nth l' i) rfl (by omega) ?_
 intro k hk hI _
 simp only [cA]
 refine den_ite (fun h2 => ?_) (fun h2 => ?_)
 ·simp [E.den, cmpI] at h2
  refine den_cond (fun hg => ?_) (den_cond (fun hg => ?_) ?_)
  ·simp [E.den]; omega
  ·simp [E.den]; omega
  ((first | refine den_call ?_ (c_laws_eqLayer (nth l k) (nth l' k)) (trivial) ?_ | refine den_callR ?_ (c_laws_eqLayer (nth l k) (nth l' k)) (trivial) ?_ | refine den_call ?_ (.ofR (c_laws_eqLayer (nth l k) (nth l' k))) (trivial) ?_); (focus (simp only [VC.den, E.den, dEq, gsH_nil, and_true, row_Layer, Int.toNat_natCast]; try exact rfl)); (simp only [cA]))
  refine den_ite (fun h3 => ?_) (fun h3 => ?_)
  ·simp [E.den] at h3
   exact den_ret (by have : l ≠ l' := fun e => h3 (by rw [e])
                     simp [E.den, this])
  simp [E.den] at h3
  refine den_next h2 ?_ fun i hi => ?_
  ·simp [E.den]; rw [ar_add (by omega) (by omega)]
  rcases Nat.lt_or_ge i k with h' | h'
  ·exact hI i h'
  ·obtain rfl : i = k := by omega
   exact h3
 ·simp [E.den, cmpI] at h2
  obtain rfl : k = l.length := by omega
  exact den_ret (by simp [E.den, ext_nth h hI])
instance : Sm Cell := ⟨fun x => Sm.sm x.key⟩
theorem z_Cell (x : Cell) (n : Int) (h0 : 0 ≤ n) (h1 : n ≤ 1048576) : ∃ r, isZ n (Sm.sm x) r ∧ Fun Tryz.prog 194 none [enc x, .int .i64 n] r [] := by
 refine Fun.exV vc_laws_szCell_ok rfl ty_laws_szCell_ok ⟨ty_laws_Cell x, rfl, trivial⟩ (.int .i64 (-1)) (isZ.no h0) fun hfit => ?_; unfold vc_laws_szCell
 have hf := hfit.1
 simp only [enc, Fits, cells_Cell, FitsL] at hf
 have hs0 : x.key.size ≤ 9223372036854775807 := fits_str (by simp only [Fits]; exact hf.1)
 have e0 : arI .sub .i64 n x.key.size = n - x.key.size := ar_sub (by omega) (by omega)
 refine den_ite (fun h => ⟨isZ.no h0, rfl⟩) (fun g0 => ?_)
 simp only [E.den, List.map_cons, List.map_nil, List.getD_cons_zero, List.getD_cons_succ, D.toI_int, D.toB_bool, D.toS_str, enc_toA, encS_toR, encS_len, len_str, cmpI_lss, cells_Cell, e0] at g0
 simp at g0
 refine ⟨⟨(n - x.key.size), ?_, by omega, by omega, fun _ => sm_str.2 (by omega)⟩, rfl⟩
 simp only [E.den, List.map_cons, List.map_nil, List.getD_cons_zero, List.getD_cons_succ, D.toI_int, D.toB_bool, D.toS_str, enc_toA, encS_toR, encS_len, len_str, cmpI_lss, cells_Cell, e0]
theorem z_CellS (l : List Cell) (n : Int) (h0 : 0 ≤ n) (h1 : n ≤ 1048576) : ∃ r, isZ n (Sm.sm l) r ∧ Fun Tryz.prog 160 none [encS l, .int .i64 n] r [] := by
 refine Fun.exV vc_laws_szCellS_ok rfl ty_laws_szCellS_ok ⟨ty_laws_CellS l, rfl, trivial⟩ (.int .i64 (-1)) (isZ.no h0) fun hfit => ?_; unfold vc_laws_szCellS
 have hl : l.length ≤ 9223372036854775807 := fits_encS hfit.1
 have e : arI .sub .i64 n l.length = n - l.length := ar_sub (by omega) (by omega)
 refine den_ite (fun h => ?_) (fun h => ?_)
 ·exact ⟨isZ.no h0, rfl⟩
 simp only [E.den, List.map_cons, List.map_nil, List.getD_cons_zero, List.getD_cons_succ, D.toI_int, D.toB_bool, D.toS_str, enc_toA, encS_toR, encS_len, len_str, cmpI_lss, e] at h
 simp at h
 refine den_loop (Int × Nat) (fun s => [.int .i64 s.1, .int .i64 s.2]) (fun s => s.2 ≤ l.length ∧ s.1 ≤ n - l.length ∧ 0 ≤ s.1 ∧ ∀ i, i < s.2 → Sm.sm (nth l i)) (fun s => l.length - s.2) (n - l.length, 0) (fun s s' h => by simp at h; omega) ?_ ⟨by omega, by omega, by omega, by omega⟩ ?_
 ·simp only [E.den, List.map_cons, List.map_nil, List.getD_cons_zero, List.getD_cons_succ, D.toI_int, D.toB_bool, D.toS_str, enc_toA, encS_toR, encS_len, len_str, cmpI_lss, e]; rfl
 rintro ⟨m, k⟩ ⟨hk, hm, hm0, hI⟩ -
 simp only at hk hm hm0 hI
 simp only [cA]
 refine den_ite (fun h2 => ?_) (fun h2 => ?_)
 ·simp [E.den, cmpI] at h2
  refine den_cond (fun hg => ?_) ?_
  ·simp [E.den]; omega
  ((first | refine den_callE ?_ (z_Cell (nth l k) m hm0 (by omega)) (fun _ h => isZ.ty h) ?_ | refine den_callRE ?_ (z_Cell (nth l k) m hm0 (by omega)) (fun _ h => isZ.ty h) ?_ | refine den_callE ?_ (exR (z_Cell (nth l k) m hm0 (by omega))) (fun _ h => isZ.ty h) ?_); (focus (simp only [VC.den, E.den, dEq, gsH_nil, and_true, row_Cell, Int.toNat_natCast]; try exact rfl)); rintro _ ⟨q, rfl, q1, q2, q3⟩; (simp only [cA]))
  refine den_ite (fun h3 => ?_) (fun h3 => ?_)
  ·exact ⟨isZ.no h0, rfl⟩
  simp only [E.den, List.map_cons, List.map_nil, List.getD_cons_zero, List.getD_cons_succ, D.toI_int, D.toB_bool, D.toS_str, enc_toA, encS_toR, encS_len, len_str, cmpI_lss] at h3
  simp at h3
  refine ⟨(q, k + 1), ?_, ⟨by omega, by omega, h3, fun i hi => ?_⟩, by omega⟩
  ·simp only [E.den, List.map_cons, List.map_nil, List.getD_cons_zero, List.getD_cons_succ, D.toI_int, D.toB_bool, D.toS_str, enc_toA, encS_toR, encS_len, len_str, cmpI_lss]; rw [ar_add (by omega) (by omega)]; rfl
  rcases Nat.lt_or_ge i k with h' | h'
  ·exact hI i h'
  ·obtain rfl : i = k := by omega
   exact q3 h3
 ·simp [E.den, cmpI] at h2
  obtain rfl : k = l.length := by omega
  exact ⟨⟨m, rfl, by omega, by omega, fun _ => sm_list.2 ⟨by omega, hI⟩⟩, rfl⟩
theorem c_laws_toCell (x : Cell) (h : Sm.sm x) : Fun Tryz.prog 200 none [enc x] (enc x) [] := by
 refine Fun.ofV vc_laws_toCell_ok ty_laws_toCell_ok rfl ?_ (fun hfit => ?_)
 ·exact ⟨ty_laws_Cell x, trivial⟩
 unfold vc_laws_toCell
 exact den_ret (by simp [E.den, cells_Cell, enc])
theorem c_laws_toCellS (l : List Cell) (h : l.length ≤ 1048576) (H : ∀ k, k < l.length → Sm.sm (nth l k)) : FunR Tryz.prog 171 none [encS l] (encS l) [] [(0, 2)] := by
 refine FunR.ofV vc_laws_toCellS_ok ty_laws_toCellS_ok rt_laws_toCellS_ok rfl ?_ (fun hfit => ?_)
 ·exact ⟨ty_laws_CellS l, trivial⟩
 unfold vc_laws_toCellS
 refine den_cond (fun _ => ?_) ?_
 ·simp only [E.den, dEq, iEq, sEq]; simp; omega
 refine den_for l.length (fun k => [.int .i64 k, .sl (copyTo l (List.map zeroD [.str, .int .i64]) k)]) (fun _ => True) ?_ trivial ?_
 ·simp only [E.den, dEq, iEq, sEq]
  rw [copyTo_zero]; rfl
 intro k hk _ _
 simp only [cA]
 refine den_ite (fun h2 => ?_) (fun h2 => ?_)
 ·simp only [E.den, dEq, iEq, sEq] at h2
  have h2 : k < l.length := by simp at h2; exact h2
  (refine den_cond (fun hg => ?_) ?_; (focus (simp only [gsH, gE, E.den, dEq, iEq, sEq] at hg ⊢; (try simp only [D.bool.injEq] at hg); (try simp only [D.bool.injEq]); grind)))
  ((first | refine den_call ?_ (c_laws_toCell (nth l k) (H k h2)) (ty_Cell _) ?_ | refine den_callR ?_ (c_laws_toCell (nth l k) (H k h2)) (ty_Cell _) ?_ | refine den_call ?_ (.ofR (c_laws_toCell (nth l k) (H k h2))) (ty_Cell _) ?_); (focus (simp only [VC.den, E.den, dEq, gsH_nil, and_true, row_Cell, Int.toNat_natCast]; try exact rfl)); (simp only [cA]))
  refine den_cond (fun _ => ?_) ?_
  ·simp only [E.den, dEq, iEq, sEq, lenD_sl, lenD_mem]; simp; omega
  refine den_next h2 ?_ trivial
  simp only [E.den, dEq, iEq, sEq, enc_toA]
  rw [ar_add (by omega) (by omega)]
  exact congrArg (fun r => [D.int .i64 ((k + 1 : Nat) : Int), D.sl r]) (copyTo_upd h2 rfl)
 ·simp only [E.den, dEq, iEq, sEq] at h2
  obtain rfl : k = l.length := by simp at h2; omega
  refine den_ret ?_
  simp only [E.den, dEq, iEq, sEq]
  exact copyTo_all l _
theorem c_laws_eqCell (x y : Cell) : Fun Tryz.prog 205 none [enc x, enc y] (.bool (decide (x = y))) [] := by
 refine Fun.ofV vc_laws_eqCell_ok ty_laws_eqCell_ok rfl ?_ (fun hfit => ?_)
 ·exact ⟨ty_Cell x, ty_Cell y, trivial⟩
 have e := eq_Cell x y
 unfold vc_laws_eqCell
 refine den_ite (fun h => ?_) (fun h0 => ?_)
 ·simp [E.den, cmpI, cmpS_neq, cells_Cell] at h
  exact den_ret (by simp [E.den, e, h])
 simp [E.den, cmpI, cmpS_neq, cells_Cell] at h0
 refine den_ite (fun h => ?_) (fun h1 => ?_)
 ·simp [E.den, cmpI, cmpS_neq, cells_Cell] at h
  exact den_ret (by simp [E.den, e, h])
 simp [E.den, cmpI, cmpS_neq, cells_Cell] at h1
 exact den_ret (by simp [E.den, e, h0, h1])
theorem c_laws_eqCellS (l l' : List Cell) : Fun Tryz.prog 178 none [encS l, encS l'] (.bool (decide (l = l'))) [] := by
 refine Fun.ofV vc_laws_eqCellS_ok ty_laws_eqCellS_ok rfl ?_ (fun hfit => ?_)
 ·exact ⟨ty_CellS l, ty_CellS l', trivial⟩
 have hl : l.length ≤ 9223372036854775807 := fits_encS hfit.1
 unfold vc_laws_eqCellS
 refine den_ite (fun h => ?_) (fun h => ?_)
 ·simp [E.den, cmpI] at h
  refine den_ret ?_
  have : l ≠ l' := fun e => h (by rw [e])
  simp [E.den, this]
 simp [E.den, cmpI] at h
 have h : l.length = l'.length := by omega
 refine den_for l.length (fun k => [.int .i64 k]) (fun k => ∀ i, i < k → nth l i = nth l' i) rfl (by omega) ?_
 intro k hk hI _
 simp only [cA]
 refine den_ite (fun h2 => ?_) (fun h2 => ?_)
 ·simp [E.den, cmpI] at h2
  refine den_cond (fun hg => ?_) (den_cond (fun hg => ?_) ?_)
  ·simp [E.den]; omega
  ·simp [E.den]; omega
  ((first | refine den_call ?_ (c_laws_eqCell (nth l k) (nth l' k)) (trivial) ?_ | refine den_callR ?_ (c_laws_eqCell (nth l k) (nth l' k)) (trivial) ?_ | refine den_call ?_ (.ofR (c_laws_eqCell (nth l k) (nth l' k))) (trivial) ?_); (focus (simp only [VC.den, E.den, dEq, gsH_nil, and_true, row_Cell, Int.toNat_natCast]; try exact rfl)); (simp only [cA]))
  refine den_ite (fun h3 => ?_) (fun h3 => ?_)
  ·simp [E.den] at h3
   exact den_ret (by have : l ≠ l' := fun e => h3 (by rw [e])
                     simp [E.den, this])
  simp [E.den] at h3
  refine den_next h2 ?_ fun i hi => ?_
  ·simp [E.den]; rw [ar_add (by omega) (by omega)]
  rcases Nat.lt_or_ge i k with h' | h'
  ·exact hI i h'
  ·obtain rfl : i = k := by omega
   exact h3
 ·simp [E.den, cmpI] at h2
  obtain rfl : k = l.length := by omega
  exact den_ret (by simp [E.den, ext_nth h hI])
instance : Sm Core := ⟨fun x => Sm.sm x.kind ∧ Sm.sm x.cells⟩
theorem z_Core (x : Core) (n : Int) (h0 : 0 ≤ n) (h1 : n ≤ 1048576) : ∃ r, isZ n (Sm.sm x) r ∧ Fun Tryz.prog 116 none [enc x, .int .i64 n] r [] := by
 refine Fun.exV vc_laws_szCore_ok rfl ty_laws_szCore_ok ⟨ty_laws_Core x, rfl, trivial⟩ (.int .i64 (-1)) (isZ.no h0) fun hfit => ?_; unfold vc_laws_szCore
 have hf := hfit.1
 simp only [enc, Fits, cells_Core, FitsL] at hf
 have hs0 : x.kind.size ≤ 9223372036854775807 := fits_str (by simp only [Fits]; exact hf.1)
 have e0 : arI .sub .i64 n x.kind.size = n - x.kind.size := ar_sub (by omega) (by omega)
 refine den_ite (fun h => ⟨isZ.no h0, rfl⟩) (fun g0 => ?_)
 simp only [E.den, List.map_cons, List.map_nil, List.getD_cons_zero, List.getD_cons_succ, D.toI_int, D.toB_bool, D.toS_str, enc_toA, encS_toR, encS_len, len_str, cmpI_lss, cells_Core, e0] at g0
 simp at g0
 ((first | refine den_callE ?_ (z_CellS x.cells (n - x.kind.size) (by omega) (by omega)) (fun _ h => isZ.ty h) ?_ | refine den_callRE ?_ (z_CellS x.cells (n - x.kind.size) (by omega) (by omega)) (fun _ h => isZ.ty h) ?_ | refine den_callE ?_ (exR (z_CellS x.cells (n - x.kind.size) (by omega) (by omega))) (fun _ h => isZ.ty h) ?_); (focus (simp only [VC.den, E.den, dEq, gsH_nil, and_true, cells_Core, len_str, e0]; try exact rfl)); rintro _ ⟨m1, rfl, p1, q1, s1⟩; (simp only [cA]))
 refine den_ite (fun h => ⟨isZ.no h0, rfl⟩) (fun g1 => ?_)
 simp only [E.den, List.map_cons, List.map_nil, List.getD_cons_zero, List.getD_cons_succ, D.toI_int, D.toB_bool, D.toS_str, enc_toA, encS_toR, encS_len, len_str, cmpI_lss] at g1
 simp at g1
 refine ⟨⟨m1, ?_, by omega, by omega, fun _ => ⟨sm_str.2 (by omega), s1 g1⟩⟩, rfl⟩
 simp only [E.den, List.map_cons, List.map_nil, List.getD_cons_zero, List.getD_cons_succ, D.toI_int, D.toB_bool, D.toS_str, enc_toA, encS_toR, encS_len, len_str, cmpI_lss, cells_Core, e0]
theorem cR_laws_toCore (x : Core) (h : Sm.sm x) : FunR Tryz.prog 133 none [enc x] (enc x) [] [(3, 2)] := by
 refine FunR.ofV vc_laws_toCore_ok ty_laws_toCore_ok rt_laws_toCore_ok rfl ?_ (fun hfit => ?_)
 ·exact ⟨ty_laws_Core x, trivial⟩
 unfold vc_laws_toCore
 ((first | refine den_call ?_ (c_laws_toCellS x.cells (sm_list.1 (h.2)).1 (sm_list.1 (h.2)).2) (ty_CellS _) ?_ | refine den_callR ?_ (c_laws_toCellS x.cells (sm_list.1 (h.2)).1 (sm_list.1 (h.2)).2) (ty_CellS _) ?_ | refine den_call ?_ (.ofR (c_laws_toCellS x.cells (sm_list.1 (h.2)).1 (sm_list.1 (h.2)).2)) (ty_CellS _) ?_); (focus (simp only [VC.den, E.den, dEq, gsH_nil, and_true, cells_Core]; try exact rfl)); (simp only [cA]))
 exact den_ret (by simp [E.den, cells_Core, enc])
theorem c_laws_eqCore (x y : Core) : Fun Tryz.prog 146 none [enc x, enc y] (.bool (decide (x = y))) [] := by
 refine Fun.ofV vc_laws_eqCore_ok ty_laws_eqCore_ok rfl ?_ (fun hfit => ?_)
 ·exact ⟨ty_Core x, ty_Core y, trivial⟩
 have e := eq_Core x y
 unfold vc_laws_eqCore
 refine den_ite (fun h => ?_) (fun h0 => ?_)
 ·simp [E.den, cmpI, cmpS_neq, cells_Core] at h
  exact den_ret (by simp [E.den, e, h])
 simp [E.den, cmpI, cmpS_neq, cells_Core] at h0
 refine den_ite (fun h => ?_) (fun h1 => ?_)
 ·simp [E.den, cmpI, cmpS_neq, cells_Core] at h
  exact den_ret (by simp [E.den, e, h])
 simp [E.den, cmpI, cmpS_neq, cells_Core] at h1
 refine den_ite (fun h => ?_) (fun h2 => ?_)
 ·simp [E.den, cmpI, cmpS_neq, cells_Core] at h
  exact den_ret (by simp [E.den, e, h])
 simp [E.den, cmpI, cmpS_neq, cells_Core] at h2
 ((first | refine den_call ?_ (c_laws_eqCellS x.cells y.cells) (trivial) ?_ | refine den_callR ?_ (c_laws_eqCellS x.cells y.cells) (trivial) ?_ | refine den_call ?_ (.ofR (c_laws_eqCellS x.cells y.cells)) (trivial) ?_); (focus (simp only [VC.den, E.den, dEq, gsH_nil, and_true, cells_Core]; try exact rfl)); (simp only [cA]))
 refine den_ite (fun h => ?_) (fun h3 => ?_)
 ·simp [E.den] at h
  exact den_ret (by simp [E.den, e, h])
 simp [E.den] at h3
 refine den_ite (fun h => ?_) (fun h4 => ?_)
 ·simp [E.den, cmpI, cmpS_neq, cells_Core] at h
  exact den_ret (by simp [E.den, e, h])
 simp [E.den, cmpI, cmpS_neq, cells_Core] at h4
 exact den_ret (by simp [E.den, e, h0, h1, h2, h3, h4])
instance : Sm Call := ⟨fun x => Sm.sm x.method ∧ Sm.sm x.key ∧ Sm.sm x.text⟩
theorem z_Call (x : Call) (n : Int) (h0 : 0 ≤ n) (h1 : n ≤ 1048576) : ∃ r, isZ n (Sm.sm x) r ∧ Fun Tryz.prog 118 none [enc x, .int .i64 n] r [] := by
 refine Fun.exV vc_laws_szCall_ok rfl ty_laws_szCall_ok ⟨ty_laws_Call x, rfl, trivial⟩ (.int .i64 (-1)) (isZ.no h0) fun hfit => ?_; unfold vc_laws_szCall
 have hf := hfit.1
 simp only [enc, Fits, cells_Call, FitsL] at hf
 have hs0 : x.method.size ≤ 9223372036854775807 := fits_str (by simp only [Fits]; exact hf.1)
 have e0 : arI .sub .i64 n x.method.size = n - x.method.size := ar_sub (by omega) (by omega)
 refine den_ite (fun h => ⟨isZ.no h0, rfl⟩) (fun g0 => ?_)
 simp only [E.den, List.map_cons, List.map_nil, List.getD_cons_zero, List.getD_cons_succ, D.toI_int, D.toB_bool, D.toS_str, enc_toA, encS_toR, encS_len, len_str, cmpI_lss, cells_Call, e0] at g0
 simp at g0
 have hs1 : x.key.size ≤ 9223372036854775807 := fits_str (by simp only [Fits]; exact hf.2.1)
 have e1 : arI .sub .i64 (n - x.method.size) x.key.size = (n - x.method.size) - x.key.size := ar_sub (by omega) (by omega)
 refine den_ite (fun h => ⟨isZ.no h0, rfl⟩) (fun g1 => ?_)
 simp only [E.den, List.map_cons, List.map_nil, List.getD_cons_zero, List.getD_cons_succ, D.toI_int, D.toB_bool, D.toS_str, enc_toA, encS_toR, encS_len, len_str, cmpI_lss, cells_Call, e0, e1] at g1
 simp at g1
 have hs2 : x.text.size ≤ 9223372036854775807 := fits_str (by simp only [Fits]; exact hf.2.2.2.1)
 have e2 : arI .sub .i64 ((n - x.method.size) - x.key.size) x.text.size = ((n - x.method.size) - x.key.size) - x.text.size := ar_sub (by omega) (by omega)
 refine den_ite (fun h => ⟨isZ.no h0, rfl⟩) (fun g2 => ?_)
 simp only [E.den, List.map_cons, List.map_nil, List.getD_cons_zero, List.getD_cons_succ, D.toI_int, D.toB_bool, D.toS_str, enc_toA, encS_toR, encS_len, len_str, cmpI_lss, cells_Call, e0, e1, e2] at g2
 simp at g2
 refine ⟨⟨(((n - x.method.size) - x.key.size) - x.text.size), ?_, by omega, by omega, fun _ => ⟨sm_str.2 (by omega), sm_str.2 (by omega), sm_str.2 (by omega)⟩⟩, rfl⟩
 simp only [E.den, List.map_cons, List.map_nil, List.getD_cons_zero, List.getD_cons_succ, D.toI_int, D.toB_bool, D.toS_str, enc_toA, encS_toR, encS_len, len_str, cmpI_lss, cells_Call, e0, e1, e2]
theorem c_laws_toCall (x : Call) (h : Sm.sm x) : Fun Tryz.prog 135 none [enc x] (enc x) [] := by
 refine Fun.ofV vc_laws_toCall_ok ty_laws_toCall_ok rfl ?_ (fun hfit => ?_)
 ·exact ⟨ty_laws_Call x, trivial⟩
 unfold vc_laws_toCall
 exact den_ret (by simp [E.den, cells_Call, enc])
theorem c_laws_eqCall (x y : Call) : Fun Tryz.prog 52 none [enc x, enc y] (.bool (decide (x = y))) [] := by
 refine Fun.ofV vc_laws_eqCall_ok ty_laws_eqCall_ok rfl ?_ (fun hfit => ?_)
 ·exact ⟨ty_Call x, ty_Call y, trivial⟩
 have e := eq_Call x y
 unfold vc_laws_eqCall
 refine den_ite (fun h => ?_) (fun h0 => ?_)
 ·simp [E.den, cmpI, cmpS_neq, cells_Call] at h
  exact den_ret (by simp [E.den, e, h])
 simp [E.den, cmpI, cmpS_neq, cells_Call] at h0
 refine den_ite (fun h => ?_) (fun h1 => ?_)
 ·simp [E.den, cmpI, cmpS_neq, cells_Call] at h
  exact den_ret (by simp [E.den, e, h])
 simp [E.den, cmpI, cmpS_neq, cells_Call] at h1
 refine den_ite (fun h => ?_) (fun h2 => ?_)
 ·simp [E.den, cmpI, cmpS_neq, cells_Call] at h
  exact den_ret (by simp [E.den, e, h])
 simp [E.den, cmpI, cmpS_neq, cells_Call] at h2
 refine den_ite (fun h => ?_) (fun h3 => ?_)
 ·simp [E.den, cmpI, cmpS_neq, cells_Call] at h
  exact den_ret (by simp [E.den, e, h])
 simp [E.den, cmpI, cmpS_neq, cells_Call] at h3
 exact den_ret (by simp [E.den, e, h0, h1, h2, h3])
instance : Sm Reply := ⟨fun x => Sm.sm x.text⟩
instance : Sm Part := ⟨fun x => Sm.sm x.core ∧ Sm.sm x.layers⟩
theorem z_Part (x : Part) (n : Int) (h0 : 0 ≤ n) (h1 : n ≤ 1048576) : ∃ r, isZ n (Sm.sm x) r ∧ Fun Tryz.prog 67 none [enc x, .int .i64 n] r [] := by
 refine Fun.exV vc_laws_szPart_ok rfl ty_laws_szPart_ok ⟨ty_laws_Part x, rfl, trivial⟩ (.int .i64 (-1)) (isZ.no h0) fun hfit => ?_; unfold vc_laws_szPart
 have hf := hfit.1
 simp only [enc, Fits, cells_Part, FitsL] at hf
 ((first | refine den_callE ?_ (z_Core x.core n (by omega) (by omega)) (fun _ h => isZ.ty h) ?_ | refine den_callRE ?_ (z_Core x.core n (by omega) (by omega)) (fun _ h => isZ.ty h) ?_ | refine den_callE ?_ (exR (z_Core x.core n (by omega) (by omega))) (fun _ h => isZ.ty h) ?_); (focus (simp only [VC.den, E.den, dEq, gsH_nil, and_true, cells_Part]; try exact rfl)); rintro _ ⟨m0, rfl, p0, q0, s0⟩; (simp only [cA]))
 refine den_ite (fun h => ⟨isZ.no h0, rfl⟩) (fun g0 => ?_)
 simp only [E.den, List.map_cons, List.map_nil, List.getD_cons_zero, List.getD_cons_succ, D.toI_int, D.toB_bool, D.toS_str, enc_toA, encS_toR, encS_len, len_str, cmpI_lss] at g0
 simp at g0
 ((first | refine den_callE ?_ (z_LayerS x.layers m0 (by omega) (by omega)) (fun _ h => isZ.ty h) ?_ | refine den_callRE ?_ (z_LayerS x.layers m0 (by omega) (by omega)) (fun _ h => isZ.ty h) ?_ | refine den_callE ?_ (exR (z_LayerS x.layers m0 (by omega) (by omega))) (fun _ h => isZ.ty h) ?_); (focus (simp only [VC.den, E.den, dEq, gsH_nil, and_true, cells_Part]; try exact rfl)); rintro _ ⟨m1, rfl, p1, q1, s1⟩; (simp only [cA]))
 refine den_ite (fun h => ⟨isZ.no h0, rfl⟩) (fun g1 => ?_)
 simp only [E.den, List.map_cons, List.map_nil, List.getD_cons_zero, List.getD_cons_succ, D.toI_int, D.toB_bool, D.toS_str, enc_toA, encS_toR, encS_len, len_str, cmpI_lss] at g1
 simp at g1
 refine ⟨⟨m1, ?_, by omega, by omega, fun _ => ⟨s0 g0, s1 g1⟩⟩, rfl⟩
 simp only [E.den, List.map_cons, List.map_nil, List.getD_cons_zero, List.getD_cons_succ, D.toI_int, D.toB_bool, D.toS_str, enc_toA, encS_toR, encS_len, len_str, cmpI_lss, cells_Part]
theorem z_PartS (l : List Part) (n : Int) (h0 : 0 ≤ n) (h1 : n ≤ 1048576) : ∃ r, isZ n (Sm.sm l) r ∧ Fun Tryz.prog 22 none [encS l, .int .i64 n] r [] := by
 refine Fun.exV vc_laws_szPartS_ok rfl ty_laws_szPartS_ok ⟨ty_laws_PartS l, rfl, trivial⟩ (.int .i64 (-1)) (isZ.no h0) fun hfit => ?_; unfold vc_laws_szPartS
 have hl : l.length ≤ 9223372036854775807 := fits_encS hfit.1
 have e : arI .sub .i64 n l.length = n - l.length := ar_sub (by omega) (by omega)
 refine den_ite (fun h => ?_) (fun h => ?_)
 ·exact ⟨isZ.no h0, rfl⟩
 simp only [E.den, List.map_cons, List.map_nil, List.getD_cons_zero, List.getD_cons_succ, D.toI_int, D.toB_bool, D.toS_str, enc_toA, encS_toR, encS_len, len_str, cmpI_lss, e] at h
 simp at h
 refine den_loop (Int × Nat) (fun s => [.int .i64 s.1, .int .i64 s.2]) (fun s => s.2 ≤ l.length ∧ s.1 ≤ n - l.length ∧ 0 ≤ s.1 ∧ ∀ i, i < s.2 → Sm.sm (nth l i)) (fun s => l.length - s.2) (n - l.length, 0) (fun s s' h => by simp at h; omega) ?_ ⟨by omega, by omega, by omega, by omega⟩ ?_
 ·simp only [E.den, List.map_cons, List.map_nil, List.getD_cons_zero, List.getD_cons_succ, D.toI_int, D.toB_bool, D.toS_str, enc_toA, encS_toR, encS_len, len_str, cmpI_lss, e]; rfl
 rintro ⟨m, k⟩ ⟨hk, hm, hm0, hI⟩ -
 simp only at hk hm hm0 hI
 simp only [cA]
 refine den_ite (fun h2 => ?_) (fun h2 => ?_)
 ·simp [E.den, cmpI] at h2
  refine den_cond (fun hg => ?_) ?_
  ·simp [E.den]; omega
  ((first | refine den_callE ?_ (z_Part (nth l k) m hm0 (by omega)) (fun _ h => isZ.ty h) ?_ | refine den_callRE ?_ (z_Part (nth l k) m hm0 (by omega)) (fun _ h => isZ.ty h) ?_ | refine den_callE ?_ (exR (z_Part (nth l k) m hm0 (by omega))) (fun _ h => isZ.ty h) ?_); (focus (simp only [VC.den, E.den, dEq, gsH_nil, and_true, row_laws_Part, Int.toNat_natCast]; try exact rfl)); rintro _ ⟨q, rfl, q1, q2, q3⟩; (simp only [cA]))
  refine den_ite (fun h3 => ?_) (fun h3 => ?_)
  ·exact ⟨isZ.no h0, rfl⟩
  simp only [E.den, List.map_cons, List.map_nil, List.getD_cons_zero, List.getD_cons_succ, D.toI_int, D.toB_bool, D.toS_str, enc_toA, encS_toR, encS_len, len_str, cmpI_lss] at h3
  simp at h3
  refine ⟨(q, k + 1), ?_, ⟨by omega, by omega, h3, fun i hi => ?_⟩, by omega⟩
  ·simp only [E.den, List.map_cons, List.map_nil, List.getD_cons_zero, List.getD_cons_succ, D.toI_int, D.toB_bool, D.toS_str, enc_toA, encS_toR, encS_len, len_str, cmpI_lss]; rw [ar_add (by omega) (by omega)]; rfl
  rcases Nat.lt_or_ge i k with h' | h'
  ·exact hI i h'
  ·obtain rfl : i = k := by omega
   exact q3 h3
 ·simp [E.den, cmpI] at h2
  obtain rfl : k = l.length := by omega
  exact ⟨⟨m, rfl, by omega, by omega, fun _ => sm_list.2 ⟨by omega, hI⟩⟩, rfl⟩
theorem cR_laws_toPart (x : Part) (h : Sm.sm x) : FunR Tryz.prog 79 none [enc x] (enc x) [] [(3, 2), (5, 2)] := by
 refine FunR.ofV vc_laws_toPart_ok ty_laws_toPart_ok rt_laws_toPart_ok rfl ?_ (fun hfit => ?_)
 ·exact ⟨ty_laws_Part x, trivial⟩
 unfold vc_laws_toPart
 ((first | refine den_call ?_ (cR_laws_toCore x.core (h.1)) (ty_Core _) ?_ | refine den_callR ?_ (cR_laws_toCore x.core (h.1)) (ty_Core _) ?_ | refine den_call ?_ (.ofR (cR_laws_toCore x.core (h.1))) (ty_Core _) ?_); (focus (simp only [VC.den, E.den, dEq, gsH_nil, and_true, cells_Part]; try exact rfl)); (simp only [cA]))
 ((first | refine den_call ?_ (c_laws_toLayerS x.layers (sm_list.1 (h.2)).1 (sm_list.1 (h.2)).2) (ty_LayerS _) ?_ | refine den_callR ?_ (c_laws_toLayerS x.layers (sm_list.1 (h.2)).1 (sm_list.1 (h.2)).2) (ty_LayerS _) ?_ | refine den_call ?_ (.ofR (c_laws_toLayerS x.layers (sm_list.1 (h.2)).1 (sm_list.1 (h.2)).2)) (ty_LayerS _) ?_); (focus (simp only [VC.den, E.den, dEq, gsH_nil, and_true, cells_Part]; try exact rfl)); (simp only [cA]))
 exact den_ret (by simp [E.den, cells_Part, cells_Core, enc])
theorem c_laws_toPart (x : Part) (h : Sm.sm x) : Fun Tryz.prog 79 none [enc x] (enc x) [] := .ofR (cR_laws_toPart x h)
theorem c_laws_toPartS (l : List Part) (hs : l.length ≤ 1048576) (hx : ∀ k, k < l.length → Sm.sm (nth l k)) : Fun Tryz.prog 30 none [encS l] (encS l) [] := by
 refine Fun.of_callsG (by kernel_rfl) fun w M vs hG hr => ?_
 have hM := hG.1
 obtain ⟨v, q, rfl, hv, rfl⟩ := hr
 have hlen := map_len (n := 6) (fun x => rfl) l
 obtain ⟨a, cap, rfl, hml, hel⟩ := arg_slice hlen hv
 rw [List.length_map] at hml hv ⊢
 have HE := Lib.hid hel
 have HV := Lib.hid hv
 clear hel hv
 have hmk := fun W => run_make_at (P := Tryz.prog) 31 67 (z := .agg #[.string ⟨#[]⟩, .bool false, .bool false, .slice none 0 0, .int .i64 0, .slice none 0 0]) (size := 6) (bytes := 80) Tryz.underlying31 (by kernel_rfl) .i64 .i64 l.length (by omega) (by omega) W
 go_enter Tryz.func30, Tryz.ntmps30
 go_wp2
 go_loopw [4] (fun i wr => Below w.heap.size w wr ∧ ∃ k : Nat, k ≤ l.length ∧ i = .int .i64 k ∧ RowN wr (own M w.heap.size) w.heap.size 67 l.length 6 k (l.map Enc.cells)) (fun i _ => l.length - (intOf i).toNat)
 case atStart => exact ⟨by go_grown, 0, by omega, rfl, RowN.new (RBlk.new _ _ _) (by rw [size_madeCells])⟩
 case round =>
  obtain ⟨hB, k, hk, rfl, hR⟩ := hrel
  have hBs := hB.size
  have hgl := hR.lt
  by_cases hlt : k < l.length
  ·have hrow := get_map l (k := k) (by omega)
   obtain ⟨b, o, us, rfl, hul, hus, hcell⟩ := HE.out k _ hrow
   obtain ⟨u0, u1, u2, u3, u4, u5, rfl⟩ := len_6 hul
   have he0 := cell_keep hB (hcell 0 _ rfl); have he1 := cell_keep hB (hcell 1 _ rfl); have he2 := cell_keep hB (hcell 2 _ rfl); have he3 := cell_keep hB (hcell 3 _ rfl); have he4 := cell_keep hB (hcell 4 _ rfl); have he5 := cell_keep hB (hcell 5 _ rfl)
   (try simp only [Nat.add_zero, Nat.mul_one] at he0)
   have hi0 : (0 : Int) ≤ (k : Int) := by omega
   have hi1 : (k : Int) < (l.length : Int) := by omega
   have hMw : ∀ p, own M w.heap.size p → p.block < wr.heap.size := fun p hp => by
    rcases hp with hp | hp
    ·exact Nat.lt_of_lt_of_le (hM p hp) hB.size
    ·omega
   have hus' : Rs wr (own M w.heap.size) [enc (nth l k)] [.agg #[u0, u1, u2, u3, u4, u5]] := Rs.one ⟨_, rfl, Rs.keep (Keeps.below hB fun p hp h => h.elim id fun e => by omega) _ _ hus⟩
   have HC := Lib.hid (fun (w0 : World) (hb : Below wr.heap.size wr w0) => (c_laws_toPart (nth l k) (hx k hlt)).2 w0 (own M w.heap.size) 0 [.agg #[u0, u1, u2, u3, u4, u5]] (hG.below (bt hB hb) fun p hp => Nat.lt_of_lt_of_le (hMw p hp) hb.size) (Rs.keep (Keeps.below hb fun _ _ h => h) _ _ hus') (fun cs h => by cases h))
   go_wp2_with (go_at_call 79; refine (HC.out _ (by go_grown)).mono ?_; rintro e w1 ⟨v1, rfl, ⟨cs1, rfl, hr1⟩, hb1, -⟩; replace hb1 := hb1.to_below; have hR1 := hR.keep hb1; obtain ⟨y0, y1, y2, y3, y4, y5, hy⟩ := len_6 (show cs1.toList.length = 6 from hr1.length); have hy' : cs1 = #[y0, y1, y2, y3, y4, y5] := (by rw [← Array.toList_inj, hy]); subst hy'; replace hr1 : Rs w1 (own M w.heap.size) (Enc.cells (nth l k)) [y0, y1, y2, y3, y4, y5] := hr1; have hone := cells_one (ty_Part (nth l k)) hr1; have hbk := hR1.blkN; obtain ⟨hst0, hbk0⟩ := hbk.store (P := Tryz.prog) (o := k * 6) (v := y0) (by have := off_lt (n := 6) (j := 0) hlt (by decide); omega) (hone _ (by simp)); obtain ⟨hst1, hbk1⟩ := hbk0.store (P := Tryz.prog) (o := k * 6 + 1) (v := y1) (by have := off_lt (n := 6) (j := 1) hlt (by decide); omega) (hone _ (by simp)); obtain ⟨hst2, hbk2⟩ := hbk1.store (P := Tryz.prog) (o := k * 6 + 2) (v := y2) (by have := off_lt (n := 6) (j := 2) hlt (by decide); omega) (hone _ (by simp)); obtain ⟨hst3, hbk3⟩ := hbk2.store (P := Tryz.prog) (o := k * 6 + 3) (v := y3) (by have := off_lt (n := 6) (j := 3) hlt (by decide); omega) (hone _ (by simp)); obtain ⟨hst4, hbk4⟩ := hbk3.store (P := Tryz.prog) (o := k * 6 + 4) (v := y4) (by have := off_lt (n := 6) (j := 4) hlt (by decide); omega) (hone _ (by simp)); obtain ⟨hst5, hbk5⟩ := hbk4.store (P := Tryz.prog) (o := k * 6 + 5) (v := y5) (by have := off_lt (n := 6) (j := 5) hlt (by decide); omega) (hone _ (by simp)))
   have hx : RowN (setN w1 w.heap.size (k * 6) [y0, y1, y2, y3, y4, y5]) (own M w.heap.size) w.heap.size 67 l.length 6 (k + 1) (l.map Enc.cells) := hR1.step hlt hrow hlen hr1
   exact ⟨⟨by have h2 := bt hB hb1; go_grown, k + 1, by omega, by go_num, hx⟩, by simp [intOf]; omega⟩
  ·go_wp2
   go_ret
   obtain rfl : k = l.length := by omega
   exact ⟨_, rfl, hR.done (by simp) hlen (fun p hp h => by have := hM p h; omega) (by unfold maxLen; omega), hB⟩
theorem c_laws_eqPart (x y : Part) : Fun Tryz.prog 92 none [enc x, enc y] (.bool (decide (x = y))) [] := by
 refine Fun.ofV vc_laws_eqPart_ok ty_laws_eqPart_ok rfl ?_ (fun hfit => ?_)
 ·exact ⟨ty_Part x, ty_Part y, trivial⟩
 have e := eq_Part x y
 unfold vc_laws_eqPart
 ((first | refine den_call ?_ (c_laws_eqCore x.core y.core) (trivial) ?_ | refine den_callR ?_ (c_laws_eqCore x.core y.core) (trivial) ?_ | refine den_call ?_ (.ofR (c_laws_eqCore x.core y.core)) (trivial) ?_); (focus (simp only [VC.den, E.den, dEq, gsH_nil, and_true, cells_Part]; try exact rfl)); (simp only [cA]))
 refine den_ite (fun h => ?_) (fun h0 => ?_)
 ·simp [E.den] at h
  exact den_ret (by simp [E.den, e, h])
 simp [E.den] at h0
 ((first | refine den_call ?_ (c_laws_eqLayerS x.layers y.layers) (trivial) ?_ | refine den_callR ?_ (c_laws_eqLayerS x.layers y.layers) (trivial) ?_ | refine den_call ?_ (.ofR (c_laws_eqLayerS x.layers y.layers)) (trivial) ?_); (focus (simp only [VC.den, E.den, dEq, gsH_nil, and_true, cells_Part]; try exact rfl)); (simp only [cA]))
 refine den_ite (fun h => ?_) (fun h1 => ?_)
 ·simp [E.den] at h
  exact den_ret (by simp [E.den, e, h])
 simp [E.den] at h1
 exact den_ret (by simp [E.den, e, h0, h1])
theorem c_laws_eqPartS (l l' : List Part) : Fun Tryz.prog 39 none [encS l, encS l'] (.bool (decide (l = l'))) [] := by
 refine Fun.ofV vc_laws_eqPartS_ok ty_laws_eqPartS_ok rfl ?_ (fun hfit => ?_)
 ·exact ⟨ty_PartS l, ty_PartS l', trivial⟩
 have hl : l.length ≤ 9223372036854775807 := fits_encS hfit.1
 unfold vc_laws_eqPartS
 refine den_ite (fun h => ?_) (fun h => ?_)
 ·simp [E.den, cmpI] at h
  refine den_ret ?_
  have : l ≠ l' := fun e => h (by rw [e])
  simp [E.den, this]
 simp [E.den, cmpI] at h
 have h : l.length = l'.length := by omega
 refine den_for l.length (fun k => [.int .i64 k]) (fun k => ∀ i, i < k → nth l i = nth l' i) rfl (by omega) ?_
 intro k hk hI _
 simp only [cA]
 refine den_ite (fun h2 => ?_) (fun h2 => ?_)
 ·simp [E.den, cmpI] at h2
  refine den_cond (fun hg => ?_) (den_cond (fun hg => ?_) ?_)
  ·simp [E.den]; omega
  ·simp [E.den]; omega
  ((first | refine den_call ?_ (c_laws_eqPart (nth l k) (nth l' k)) (trivial) ?_ | refine den_callR ?_ (c_laws_eqPart (nth l k) (nth l' k)) (trivial) ?_ | refine den_call ?_ (.ofR (c_laws_eqPart (nth l k) (nth l' k))) (trivial) ?_); (focus (simp only [VC.den, E.den, dEq, gsH_nil, and_true, row_Part, Int.toNat_natCast]; try exact rfl)); (simp only [cA]))
  refine den_ite (fun h3 => ?_) (fun h3 => ?_)
  ·simp [E.den] at h3
   exact den_ret (by have : l ≠ l' := fun e => h3 (by rw [e])
                     simp [E.den, this])
  simp [E.den] at h3
  refine den_next h2 ?_ fun i hi => ?_
  ·simp [E.den]; rw [ar_add (by omega) (by omega)]
  rcases Nat.lt_or_ge i k with h' | h'
  ·exact hI i h'
  ·obtain rfl : i = k := by omega
   exact h3
 ·simp [E.den, cmpI] at h2
  obtain rfl : k = l.length := by omega
  exact den_ret (by simp [E.den, ext_nth h hI])
instance : Sm Ver := ⟨fun x => True⟩
theorem c_laws_toVersion (x : Ver) : Fun Tryz.prog 131 none [enc x] (enc x) [] := by
 refine Fun.ofV vc_laws_toVersion_ok ty_laws_toVersion_ok rfl ?_ (fun hfit => ?_)
 ·exact ⟨ty_laws_Ver x, trivial⟩
 unfold vc_laws_toVersion
 exact den_ret (by simp [E.den, cells_Ver, enc])
theorem c_laws_eqVersion (x y : Ver) : Fun Tryz.prog 62 none [enc x, enc y] (.bool (decide (x = y))) [] := by
 refine Fun.ofV vc_laws_eqVersion_ok ty_laws_eqVersion_ok rfl ?_ (fun hfit => ?_)
 ·exact ⟨ty_Ver x, ty_Ver y, trivial⟩
 have e := eq_Ver x y
 unfold vc_laws_eqVersion
 refine den_ite (fun h => ?_) (fun h0 => ?_)
 ·simp [E.den, cmpI, cmpS_neq, cells_Ver] at h
  exact den_ret (by simp [E.den, e, h])
 simp [E.den, cmpI, cmpS_neq, cells_Ver] at h0
 refine den_ite (fun h => ?_) (fun h1 => ?_)
 ·simp [E.den, cmpI, cmpS_neq, cells_Ver] at h
  exact den_ret (by simp [E.den, e, h])
 simp [E.den, cmpI, cmpS_neq, cells_Ver] at h1
 exact den_ret (by simp [E.den, e, h0, h1])
instance : Sm Need := ⟨fun x => Sm.sm x.frm⟩
theorem z_Need (x : Need) (n : Int) (h0 : 0 ≤ n) (h1 : n ≤ 1048576) : ∃ r, isZ n (Sm.sm x) r ∧ Fun Tryz.prog 159 none [enc x, .int .i64 n] r [] := by
 refine Fun.exV vc_laws_szNeed_ok rfl ty_laws_szNeed_ok ⟨ty_laws_Need x, rfl, trivial⟩ (.int .i64 (-1)) (isZ.no h0) fun hfit => ?_; unfold vc_laws_szNeed
 have hf := hfit.1
 simp only [enc, Fits, cells_Need, FitsL] at hf
 have hs0 : x.frm.size ≤ 9223372036854775807 := fits_str (by simp only [Fits]; exact hf.2.1)
 have e0 : arI .sub .i64 n x.frm.size = n - x.frm.size := ar_sub (by omega) (by omega)
 refine den_ite (fun h => ⟨isZ.no h0, rfl⟩) (fun g0 => ?_)
 simp only [E.den, List.map_cons, List.map_nil, List.getD_cons_zero, List.getD_cons_succ, D.toI_int, D.toB_bool, D.toS_str, enc_toA, encS_toR, encS_len, len_str, cmpI_lss, cells_Need, e0] at g0
 simp at g0
 refine ⟨⟨(n - x.frm.size), ?_, by omega, by omega, fun _ => sm_str.2 (by omega)⟩, rfl⟩
 simp only [E.den, List.map_cons, List.map_nil, List.getD_cons_zero, List.getD_cons_succ, D.toI_int, D.toB_bool, D.toS_str, enc_toA, encS_toR, encS_len, len_str, cmpI_lss, cells_Need, e0]
theorem z_NeedS (l : List Need) (n : Int) (h0 : 0 ≤ n) (h1 : n ≤ 1048576) : ∃ r, isZ n (Sm.sm l) r ∧ Fun Tryz.prog 115 none [encS l, .int .i64 n] r [] := by
 refine Fun.exV vc_laws_szNeedS_ok rfl ty_laws_szNeedS_ok ⟨ty_laws_NeedS l, rfl, trivial⟩ (.int .i64 (-1)) (isZ.no h0) fun hfit => ?_; unfold vc_laws_szNeedS
 have hl : l.length ≤ 9223372036854775807 := fits_encS hfit.1
 have e : arI .sub .i64 n l.length = n - l.length := ar_sub (by omega) (by omega)
 refine den_ite (fun h => ?_) (fun h => ?_)
 ·exact ⟨isZ.no h0, rfl⟩
 simp only [E.den, List.map_cons, List.map_nil, List.getD_cons_zero, List.getD_cons_succ, D.toI_int, D.toB_bool, D.toS_str, enc_toA, encS_toR, encS_len, len_str, cmpI_lss, e] at h
 simp at h
 refine den_loop (Int × Nat) (fun s => [.int .i64 s.1, .int .i64 s.2]) (fun s => s.2 ≤ l.length ∧ s.1 ≤ n - l.length ∧ 0 ≤ s.1 ∧ ∀ i, i < s.2 → Sm.sm (nth l i)) (fun s => l.length - s.2) (n - l.length, 0) (fun s s' h => by simp at h; omega) ?_ ⟨by omega, by omega, by omega, by omega⟩ ?_
 ·simp only [E.den, List.map_cons, List.map_nil, List.getD_cons_zero, List.getD_cons_succ, D.toI_int, D.toB_bool, D.toS_str, enc_toA, encS_toR, encS_len, len_str, cmpI_lss, e]; rfl
 rintro ⟨m, k⟩ ⟨hk, hm, hm0, hI⟩ -
 simp only at hk hm hm0 hI
 simp only [cA]
 refine den_ite (fun h2 => ?_) (fun h2 => ?_)
 ·simp [E.den, cmpI] at h2
  refine den_cond (fun hg => ?_) ?_
  ·simp [E.den]; omega
  ((first | refine den_callE ?_ (z_Need (nth l k) m hm0 (by omega)) (fun _ h => isZ.ty h) ?_ | refine den_callRE ?_ (z_Need (nth l k) m hm0 (by omega)) (fun _ h => isZ.ty h) ?_ | refine den_callE ?_ (exR (z_Need (nth l k) m hm0 (by omega))) (fun _ h => isZ.ty h) ?_); (focus (simp only [VC.den, E.den, dEq, gsH_nil, and_true, row_Need, Int.toNat_natCast]; try exact rfl)); rintro _ ⟨q, rfl, q1, q2, q3⟩; (simp only [cA]))
  refine den_ite (fun h3 => ?_) (fun h3 => ?_)
  ·exact ⟨isZ.no h0, rfl⟩
  simp only [E.den, List.map_cons, List.map_nil, List.getD_cons_zero, List.getD_cons_succ, D.toI_int, D.toB_bool, D.toS_str, enc_toA, encS_toR, encS_len, len_str, cmpI_lss] at h3
  simp at h3
  refine ⟨(q, k + 1), ?_, ⟨by omega, by omega, h3, fun i hi => ?_⟩, by omega⟩
  ·simp only [E.den, List.map_cons, List.map_nil, List.getD_cons_zero, List.getD_cons_succ, D.toI_int, D.toB_bool, D.toS_str, enc_toA, encS_toR, encS_len, len_str, cmpI_lss]; rw [ar_add (by omega) (by omega)]; rfl
  rcases Nat.lt_or_ge i k with h' | h'
  ·exact hI i h'
  ·obtain rfl : i = k := by omega
   exact q3 h3
 ·simp [E.den, cmpI] at h2
  obtain rfl : k = l.length := by omega
  exact ⟨⟨m, rfl, by omega, by omega, fun _ => sm_list.2 ⟨by omega, hI⟩⟩, rfl⟩
theorem c_laws_toNeed (x : Need) (h : Sm.sm x) : Fun Tryz.prog 170 none [enc x] (enc x) [] := by
 refine Fun.ofV vc_laws_toNeed_ok ty_laws_toNeed_ok rfl ?_ (fun hfit => ?_)
 ·exact ⟨ty_laws_Need x, trivial⟩
 unfold vc_laws_toNeed
 ((first | refine den_call ?_ (c_laws_toVersion x.least) (ty_Ver _) ?_ | refine den_callR ?_ (c_laws_toVersion x.least) (ty_Ver _) ?_ | refine den_call ?_ (.ofR (c_laws_toVersion x.least)) (ty_Ver _) ?_); (focus (simp only [VC.den, E.den, dEq, gsH_nil, and_true, cells_Need]; try exact rfl)); (simp only [cA]))
 exact den_ret (by simp [E.den, cells_Need, cells_Ver, enc])
theorem c_laws_toNeedS (l : List Need) (h : l.length ≤ 1048576) (H : ∀ k, k < l.length → Sm.sm (nth l k)) : FunR Tryz.prog 132 none [encS l] (encS l) [] [(0, 4)] := by
 refine FunR.ofV vc_laws_toNeedS_ok ty_laws_toNeedS_ok rt_laws_toNeedS_ok rfl ?_ (fun hfit => ?_)
 ·exact ⟨ty_laws_NeedS l, trivial⟩
 unfold vc_laws_toNeedS
 refine den_cond (fun _ => ?_) ?_
 ·simp only [E.den, dEq, iEq, sEq]; simp; omega
 refine den_for l.length (fun k => [.int .i64 k, .sl (copyTo l (List.map zeroD [.int .i64, .str, .int .i64, .int .i64]) k)]) (fun _ => True) ?_ trivial ?_
 ·simp only [E.den, dEq, iEq, sEq]
  rw [copyTo_zero]; rfl
 intro k hk _ _
 simp only [cA]
 refine den_ite (fun h2 => ?_) (fun h2 => ?_)
 ·simp only [E.den, dEq, iEq, sEq] at h2
  have h2 : k < l.length := by simp at h2; exact h2
  (refine den_cond (fun hg => ?_) ?_; (focus (simp only [gsH, gE, E.den, dEq, iEq, sEq] at hg ⊢; (try simp only [D.bool.injEq] at hg); (try simp only [D.bool.injEq]); grind)))
  ((first | refine den_call ?_ (c_laws_toNeed (nth l k) (H k h2)) (ty_Need _) ?_ | refine den_callR ?_ (c_laws_toNeed (nth l k) (H k h2)) (ty_Need _) ?_ | refine den_call ?_ (.ofR (c_laws_toNeed (nth l k) (H k h2))) (ty_Need _) ?_); (focus (simp only [VC.den, E.den, dEq, gsH_nil, and_true, row_Need, Int.toNat_natCast]; try exact rfl)); (simp only [cA]))
  refine den_cond (fun _ => ?_) ?_
  ·simp only [E.den, dEq, iEq, sEq, lenD_sl, lenD_mem]; simp; omega
  refine den_next h2 ?_ trivial
  simp only [E.den, dEq, iEq, sEq, enc_toA]
  rw [ar_add (by omega) (by omega)]
  exact congrArg (fun r => [D.int .i64 ((k + 1 : Nat) : Int), D.sl r]) (copyTo_upd h2 rfl)
 ·simp only [E.den, dEq, iEq, sEq] at h2
  obtain rfl : k = l.length := by simp at h2; omega
  refine den_ret ?_
  simp only [E.den, dEq, iEq, sEq]
  exact copyTo_all l _
theorem c_laws_eqNeed (x y : Need) : Fun Tryz.prog 114 none [enc x, enc y] (.bool (decide (x = y))) [] := by
 refine Fun.ofV vc_laws_eqNeed_ok ty_laws_eqNeed_ok rfl ?_ (fun hfit => ?_)
 ·exact ⟨ty_Need x, ty_Need y, trivial⟩
 have e := eq_Need x y
 unfold vc_laws_eqNeed
 refine den_ite (fun h => ?_) (fun h0 => ?_)
 ·simp [E.den, cmpI, cmpS_neq, cells_Need] at h
  exact den_ret (by simp [E.den, e, h])
 simp [E.den, cmpI, cmpS_neq, cells_Need] at h0
 refine den_ite (fun h => ?_) (fun h1 => ?_)
 ·simp [E.den, cmpI, cmpS_neq, cells_Need] at h
  exact den_ret (by simp [E.den, e, h])
 simp [E.den, cmpI, cmpS_neq, cells_Need] at h1
 ((first | refine den_call ?_ (c_laws_eqVersion x.least y.least) (trivial) ?_ | refine den_callR ?_ (c_laws_eqVersion x.least y.least) (trivial) ?_ | refine den_call ?_ (.ofR (c_laws_eqVersion x.least y.least)) (trivial) ?_); (focus (simp only [VC.den, E.den, dEq, gsH_nil, and_true, cells_Need]; try exact rfl)); (simp only [cA]))
 refine den_ite (fun h => ?_) (fun h2 => ?_)
 ·simp [E.den] at h
  exact den_ret (by simp [E.den, e, h])
 simp [E.den] at h2
 exact den_ret (by simp [E.den, e, h0, h1, h2])
theorem c_laws_eqNeedS (l l' : List Need) : Fun Tryz.prog 63 none [encS l, encS l'] (.bool (decide (l = l'))) [] := by
 refine Fun.ofV vc_laws_eqNeedS_ok ty_laws_eqNeedS_ok rfl ?_ (fun hfit => ?_)
 ·exact ⟨ty_NeedS l, ty_NeedS l', trivial⟩
 have hl : l.length ≤ 9223372036854775807 := fits_encS hfit.1
 unfold vc_laws_eqNeedS
 refine den_ite (fun h => ?_) (fun h => ?_)
 ·simp [E.den, cmpI] at h
  refine den_ret ?_
  have : l ≠ l' := fun e => h (by rw [e])
  simp [E.den, this]
 simp [E.den, cmpI] at h
 have h : l.length = l'.length := by omega
 refine den_for l.length (fun k => [.int .i64 k]) (fun k => ∀ i, i < k → nth l i = nth l' i) rfl (by omega) ?_
 intro k hk hI _
 simp only [cA]
 refine den_ite (fun h2 => ?_) (fun h2 => ?_)
 ·simp [E.den, cmpI] at h2
  refine den_cond (fun hg => ?_) (den_cond (fun hg => ?_) ?_)
  ·simp [E.den]; omega
  ·simp [E.den]; omega
  ((first | refine den_call ?_ (c_laws_eqNeed (nth l k) (nth l' k)) (trivial) ?_ | refine den_callR ?_ (c_laws_eqNeed (nth l k) (nth l' k)) (trivial) ?_ | refine den_call ?_ (.ofR (c_laws_eqNeed (nth l k) (nth l' k))) (trivial) ?_); (focus (simp only [VC.den, E.den, dEq, gsH_nil, and_true, row_Need, Int.toNat_natCast]; try exact rfl)); (simp only [cA]))
  refine den_ite (fun h3 => ?_) (fun h3 => ?_)
  ·simp [E.den] at h3
   exact den_ret (by have : l ≠ l' := fun e => h3 (by rw [e])
                     simp [E.den, this])
  simp [E.den] at h3
  refine den_next h2 ?_ fun i hi => ?_
  ·simp [E.den]; rw [ar_add (by omega) (by omega)]
  rcases Nat.lt_or_ge i k with h' | h'
  ·exact hI i h'
  ·obtain rfl : i = k := by omega
   exact h3
 ·simp [E.den, cmpI] at h2
  obtain rfl : k = l.length := by omega
  exact den_ret (by simp [E.den, ext_nth h hI])
instance : Sm Entry := ⟨fun x => Sm.sm x.name ∧ Sm.sm x.recipe ∧ Sm.sm x.needs⟩
theorem z_Entry (x : Entry) (n : Int) (h0 : 0 ≤ n) (h1 : n ≤ 1048576) : ∃ r, isZ n (Sm.sm x) r ∧ Fun Tryz.prog 66 none [enc x, .int .i64 n] r [] := by
 refine Fun.exV vc_laws_szEntry_ok rfl ty_laws_szEntry_ok ⟨ty_laws_Entry x, rfl, trivial⟩ (.int .i64 (-1)) (isZ.no h0) fun hfit => ?_; unfold vc_laws_szEntry
 have hf := hfit.1
 simp only [enc, Fits, cells_Entry, FitsL] at hf
 have hs0 : x.name.size ≤ 9223372036854775807 := fits_str (by simp only [Fits]; exact hf.1)
 have e0 : arI .sub .i64 n x.name.size = n - x.name.size := ar_sub (by omega) (by omega)
 refine den_ite (fun h => ⟨isZ.no h0, rfl⟩) (fun g0 => ?_)
 simp only [E.den, List.map_cons, List.map_nil, List.getD_cons_zero, List.getD_cons_succ, D.toI_int, D.toB_bool, D.toS_str, enc_toA, encS_toR, encS_len, len_str, cmpI_lss, cells_Entry, e0] at g0
 simp at g0
 ((first | refine den_callE ?_ (z_StringS x.recipe (n - x.name.size) (by omega) (by omega)) (fun _ h => isZ.ty h) ?_ | refine den_callRE ?_ (z_StringS x.recipe (n - x.name.size) (by omega) (by omega)) (fun _ h => isZ.ty h) ?_ | refine den_callE ?_ (exR (z_StringS x.recipe (n - x.name.size) (by omega) (by omega))) (fun _ h => isZ.ty h) ?_); (focus (simp only [VC.den, E.den, dEq, gsH_nil, and_true, cells_Entry, len_str, e0]; try exact rfl)); rintro _ ⟨m1, rfl, p1, q1, s1⟩; (simp only [cA]))
 refine den_ite (fun h => ⟨isZ.no h0, rfl⟩) (fun g1 => ?_)
 simp only [E.den, List.map_cons, List.map_nil, List.getD_cons_zero, List.getD_cons_succ, D.toI_int, D.toB_bool, D.toS_str, enc_toA, encS_toR, encS_len, len_str, cmpI_lss] at g1
 simp at g1
 ((first | refine den_callE ?_ (z_NeedS x.needs m1 (by omega) (by omega)) (fun _ h => isZ.ty h) ?_ | refine den_callRE ?_ (z_NeedS x.needs m1 (by omega) (by omega)) (fun _ h => isZ.ty h) ?_ | refine den_callE ?_ (exR (z_NeedS x.needs m1 (by omega) (by omega))) (fun _ h => isZ.ty h) ?_); (focus (simp only [VC.den, E.den, dEq, gsH_nil, and_true, cells_Entry, len_str, e0]; try exact rfl)); rintro _ ⟨m2, rfl, p2, q2, s2⟩; (simp only [cA]))
 refine den_ite (fun h => ⟨isZ.no h0, rfl⟩) (fun g2 => ?_)
 simp only [E.den, List.map_cons, List.map_nil, List.getD_cons_zero, List.getD_cons_succ, D.toI_int, D.toB_bool, D.toS_str, enc_toA, encS_toR, encS_len, len_str, cmpI_lss] at g2
 simp at g2
 refine ⟨⟨m2, ?_, by omega, by omega, fun _ => ⟨sm_str.2 (by omega), s1 g1, s2 g2⟩⟩, rfl⟩
 simp only [E.den, List.map_cons, List.map_nil, List.getD_cons_zero, List.getD_cons_succ, D.toI_int, D.toB_bool, D.toS_str, enc_toA, encS_toR, encS_len, len_str, cmpI_lss, cells_Entry, e0]
theorem z_EntryS (l : List Entry) (n : Int) (h0 : 0 ≤ n) (h1 : n ≤ 1048576) : ∃ r, isZ n (Sm.sm l) r ∧ Fun Tryz.prog 21 none [encS l, .int .i64 n] r [] := by
 refine Fun.exV vc_laws_szEntryS_ok rfl ty_laws_szEntryS_ok ⟨ty_laws_EntryS l, rfl, trivial⟩ (.int .i64 (-1)) (isZ.no h0) fun hfit => ?_; unfold vc_laws_szEntryS
 have hl : l.length ≤ 9223372036854775807 := fits_encS hfit.1
 have e : arI .sub .i64 n l.length = n - l.length := ar_sub (by omega) (by omega)
 refine den_ite (fun h => ?_) (fun h => ?_)
 ·exact ⟨isZ.no h0, rfl⟩
 simp only [E.den, List.map_cons, List.map_nil, List.getD_cons_zero, List.getD_cons_succ, D.toI_int, D.toB_bool, D.toS_str, enc_toA, encS_toR, encS_len, len_str, cmpI_lss, e] at h
 simp at h
 refine den_loop (Int × Nat) (fun s => [.int .i64 s.1, .int .i64 s.2]) (fun s => s.2 ≤ l.length ∧ s.1 ≤ n - l.length ∧ 0 ≤ s.1 ∧ ∀ i, i < s.2 → Sm.sm (nth l i)) (fun s => l.length - s.2) (n - l.length, 0) (fun s s' h => by simp at h; omega) ?_ ⟨by omega, by omega, by omega, by omega⟩ ?_
 ·simp only [E.den, List.map_cons, List.map_nil, List.getD_cons_zero, List.getD_cons_succ, D.toI_int, D.toB_bool, D.toS_str, enc_toA, encS_toR, encS_len, len_str, cmpI_lss, e]; rfl
 rintro ⟨m, k⟩ ⟨hk, hm, hm0, hI⟩ -
 simp only at hk hm hm0 hI
 simp only [cA]
 refine den_ite (fun h2 => ?_) (fun h2 => ?_)
 ·simp [E.den, cmpI] at h2
  refine den_cond (fun hg => ?_) ?_
  ·simp [E.den]; omega
  ((first | refine den_callE ?_ (z_Entry (nth l k) m hm0 (by omega)) (fun _ h => isZ.ty h) ?_ | refine den_callRE ?_ (z_Entry (nth l k) m hm0 (by omega)) (fun _ h => isZ.ty h) ?_ | refine den_callE ?_ (exR (z_Entry (nth l k) m hm0 (by omega))) (fun _ h => isZ.ty h) ?_); (focus (simp only [VC.den, E.den, dEq, gsH_nil, and_true, row_laws_Entry, Int.toNat_natCast]; try exact rfl)); rintro _ ⟨q, rfl, q1, q2, q3⟩; (simp only [cA]))
  refine den_ite (fun h3 => ?_) (fun h3 => ?_)
  ·exact ⟨isZ.no h0, rfl⟩
  simp only [E.den, List.map_cons, List.map_nil, List.getD_cons_zero, List.getD_cons_succ, D.toI_int, D.toB_bool, D.toS_str, enc_toA, encS_toR, encS_len, len_str, cmpI_lss] at h3
  simp at h3
  refine ⟨(q, k + 1), ?_, ⟨by omega, by omega, h3, fun i hi => ?_⟩, by omega⟩
  ·simp only [E.den, List.map_cons, List.map_nil, List.getD_cons_zero, List.getD_cons_succ, D.toI_int, D.toB_bool, D.toS_str, enc_toA, encS_toR, encS_len, len_str, cmpI_lss]; rw [ar_add (by omega) (by omega)]; rfl
  rcases Nat.lt_or_ge i k with h' | h'
  ·exact hI i h'
  ·obtain rfl : i = k := by omega
   exact q3 h3
 ·simp [E.den, cmpI] at h2
  obtain rfl : k = l.length := by omega
  exact ⟨⟨m, rfl, by omega, by omega, fun _ => sm_list.2 ⟨by omega, hI⟩⟩, rfl⟩
theorem cR_laws_toEntry (x : Entry) (h : Sm.sm x) : FunR Tryz.prog 78 none [enc x] (enc x) [] [(1, 1), (4, 4)] := by
 refine FunR.ofV vc_laws_toEntry_ok ty_laws_toEntry_ok rt_laws_toEntry_ok rfl ?_ (fun hfit => ?_)
 ·exact ⟨ty_laws_Entry x, trivial⟩
 unfold vc_laws_toEntry
 ((first | refine den_call ?_ (c_laws_toStringS x.recipe (sm_list.1 (h.2.1)).1) (ty_strS _) ?_ | refine den_callR ?_ (c_laws_toStringS x.recipe (sm_list.1 (h.2.1)).1) (ty_strS _) ?_ | refine den_call ?_ (.ofR (c_laws_toStringS x.recipe (sm_list.1 (h.2.1)).1)) (ty_strS _) ?_); (focus (simp only [VC.den, E.den, dEq, gsH_nil, and_true, cells_Entry]; try exact rfl)); (simp only [cA]))
 ((first | refine den_call ?_ (c_laws_toVersion x.ver) (ty_Ver _) ?_ | refine den_callR ?_ (c_laws_toVersion x.ver) (ty_Ver _) ?_ | refine den_call ?_ (.ofR (c_laws_toVersion x.ver)) (ty_Ver _) ?_); (focus (simp only [VC.den, E.den, dEq, gsH_nil, and_true, cells_Entry]; try exact rfl)); (simp only [cA]))
 ((first | refine den_call ?_ (c_laws_toNeedS x.needs (sm_list.1 (h.2.2)).1 (sm_list.1 (h.2.2)).2) (ty_NeedS _) ?_ | refine den_callR ?_ (c_laws_toNeedS x.needs (sm_list.1 (h.2.2)).1 (sm_list.1 (h.2.2)).2) (ty_NeedS _) ?_ | refine den_call ?_ (.ofR (c_laws_toNeedS x.needs (sm_list.1 (h.2.2)).1 (sm_list.1 (h.2.2)).2)) (ty_NeedS _) ?_); (focus (simp only [VC.den, E.den, dEq, gsH_nil, and_true, cells_Entry]; try exact rfl)); (simp only [cA]))
 exact den_ret (by simp [E.den, cells_Entry, cells_Ver, enc])
theorem c_laws_toEntry (x : Entry) (h : Sm.sm x) : Fun Tryz.prog 78 none [enc x] (enc x) [] := .ofR (cR_laws_toEntry x h)
theorem c_laws_toEntryS (l : List Entry) (hs : l.length ≤ 1048576) (hx : ∀ k, k < l.length → Sm.sm (nth l k)) : Fun Tryz.prog 29 none [encS l] (encS l) [] := by
 refine Fun.of_callsG (by kernel_rfl) fun w M vs hG hr => ?_
 have hM := hG.1
 obtain ⟨v, q, rfl, hv, rfl⟩ := hr
 have hlen := map_len (n := 5) (fun x => rfl) l
 obtain ⟨a, cap, rfl, hml, hel⟩ := arg_slice hlen hv
 rw [List.length_map] at hml hv ⊢
 have HE := Lib.hid hel
 have HV := Lib.hid hv
 clear hel hv
 have hmk := fun W => run_make_at (P := Tryz.prog) 30 51 (z := .agg #[.string ⟨#[]⟩, .slice none 0 0, .int .i64 0, .int .i64 0, .slice none 0 0]) (size := 5) (bytes := 80) Tryz.underlying30 (by kernel_rfl) .i64 .i64 l.length (by omega) (by omega) W
 go_enter Tryz.func29, Tryz.ntmps29
 go_wp2
 go_loopw [4] (fun i wr => Below w.heap.size w wr ∧ ∃ k : Nat, k ≤ l.length ∧ i = .int .i64 k ∧ RowN wr (own M w.heap.size) w.heap.size 51 l.length 5 k (l.map Enc.cells)) (fun i _ => l.length - (intOf i).toNat)
 case atStart => exact ⟨by go_grown, 0, by omega, rfl, RowN.new (RBlk.new _ _ _) (by rw [size_madeCells])⟩
 case round =>
  obtain ⟨hB, k, hk, rfl, hR⟩ := hrel
  have hBs := hB.size
  have hgl := hR.lt
  by_cases hlt : k < l.length
  ·have hrow := get_map l (k := k) (by omega)
   obtain ⟨b, o, us, rfl, hul, hus, hcell⟩ := HE.out k _ hrow
   obtain ⟨u0, u1, u2, u3, u4, rfl⟩ := len_5 hul
   have he0 := cell_keep hB (hcell 0 _ rfl); have he1 := cell_keep hB (hcell 1 _ rfl); have he2 := cell_keep hB (hcell 2 _ rfl); have he3 := cell_keep hB (hcell 3 _ rfl); have he4 := cell_keep hB (hcell 4 _ rfl)
   (try simp only [Nat.add_zero, Nat.mul_one] at he0)
   have hi0 : (0 : Int) ≤ (k : Int) := by omega
   have hi1 : (k : Int) < (l.length : Int) := by omega
   have hMw : ∀ p, own M w.heap.size p → p.block < wr.heap.size := fun p hp => by
    rcases hp with hp | hp
    ·exact Nat.lt_of_lt_of_le (hM p hp) hB.size
    ·omega
   have hus' : Rs wr (own M w.heap.size) [enc (nth l k)] [.agg #[u0, u1, u2, u3, u4]] := Rs.one ⟨_, rfl, Rs.keep (Keeps.below hB fun p hp h => h.elim id fun e => by omega) _ _ hus⟩
   have HC := Lib.hid (fun (w0 : World) (hb : Below wr.heap.size wr w0) => (c_laws_toEntry (nth l k) (hx k hlt)).2 w0 (own M w.heap.size) 0 [.agg #[u0, u1, u2, u3, u4]] (hG.below (bt hB hb) fun p hp => Nat.lt_of_lt_of_le (hMw p hp) hb.size) (Rs.keep (Keeps.below hb fun _ _ h => h) _ _ hus') (fun cs h => by cases h))
   go_wp2_with (go_at_call 78; refine (HC.out _ (by go_grown)).mono ?_; rintro e w1 ⟨v1, rfl, ⟨cs1, rfl, hr1⟩, hb1, -⟩; replace hb1 := hb1.to_below; have hR1 := hR.keep hb1; obtain ⟨y0, y1, y2, y3, y4, hy⟩ := len_5 (show cs1.toList.length = 5 from hr1.length); have hy' : cs1 = #[y0, y1, y2, y3, y4] := (by rw [← Array.toList_inj, hy]); subst hy'; replace hr1 : Rs w1 (own M w.heap.size) (Enc.cells (nth l k)) [y0, y1, y2, y3, y4] := hr1; have hone := cells_one (ty_Entry (nth l k)) hr1; have hbk := hR1.blkN; obtain ⟨hst0, hbk0⟩ := hbk.store (P := Tryz.prog) (o := k * 5) (v := y0) (by have := off_lt (n := 5) (j := 0) hlt (by decide); omega) (hone _ (by simp)); obtain ⟨hst1, hbk1⟩ := hbk0.store (P := Tryz.prog) (o := k * 5 + 1) (v := y1) (by have := off_lt (n := 5) (j := 1) hlt (by decide); omega) (hone _ (by simp)); obtain ⟨hst2, hbk2⟩ := hbk1.store (P := Tryz.prog) (o := k * 5 + 2) (v := y2) (by have := off_lt (n := 5) (j := 2) hlt (by decide); omega) (hone _ (by simp)); obtain ⟨hst3, hbk3⟩ := hbk2.store (P := Tryz.prog) (o := k * 5 + 3) (v := y3) (by have := off_lt (n := 5) (j := 3) hlt (by decide); omega) (hone _ (by simp)); obtain ⟨hst4, hbk4⟩ := hbk3.store (P := Tryz.prog) (o := k * 5 + 4) (v := y4) (by have := off_lt (n := 5) (j := 4) hlt (by decide); omega) (hone _ (by simp)))
   have hx : RowN (setN w1 w.heap.size (k * 5) [y0, y1, y2, y3, y4]) (own M w.heap.size) w.heap.size 51 l.length 5 (k + 1) (l.map Enc.cells) := hR1.step hlt hrow hlen hr1
   exact ⟨⟨by have h2 := bt hB hb1; go_grown, k + 1, by omega, by go_num, hx⟩, by simp [intOf]; omega⟩
  ·go_wp2
   go_ret
   obtain rfl : k = l.length := by omega
   exact ⟨_, rfl, hR.done (by simp) hlen (fun p hp h => by have := hM p h; omega) (by unfold maxLen; omega), hB⟩
theorem c_laws_eqEntry (x y : Entry) : Fun Tryz.prog 18 none [enc x, enc y] (.bool (decide (x = y))) [] := by
 refine Fun.ofV vc_laws_eqEntry_ok ty_laws_eqEntry_ok rfl ?_ (fun hfit => ?_)
 ·exact ⟨ty_Entry x, ty_Entry y, trivial⟩
 have e := eq_Entry x y
 unfold vc_laws_eqEntry
 refine den_ite (fun h => ?_) (fun h0 => ?_)
 ·simp [E.den, cmpI, cmpS_neq, cells_Entry] at h
  exact den_ret (by simp [E.den, e, h])
 simp [E.den, cmpI, cmpS_neq, cells_Entry] at h0
 ((first | refine den_call ?_ (c_laws_eqStringS x.recipe y.recipe) (trivial) ?_ | refine den_callR ?_ (c_laws_eqStringS x.recipe y.recipe) (trivial) ?_ | refine den_call ?_ (.ofR (c_laws_eqStringS x.recipe y.recipe)) (trivial) ?_); (focus (simp only [VC.den, E.den, dEq, gsH_nil, and_true, cells_Entry]; try exact rfl)); (simp only [cA]))
 refine den_ite (fun h => ?_) (fun h1 => ?_)
 ·simp [E.den] at h
  exact den_ret (by simp [E.den, e, h])
 simp [E.den] at h1
 ((first | refine den_call ?_ (c_laws_eqVersion x.ver y.ver) (trivial) ?_ | refine den_callR ?_ (c_laws_eqVersion x.ver y.ver) (trivial) ?_ | refine den_call ?_ (.ofR (c_laws_eqVersion x.ver y.ver)) (trivial) ?_); (focus (simp only [VC.den, E.den, dEq, gsH_nil, and_true, cells_Entry]; try exact rfl)); (simp only [cA]))
 refine den_ite (fun h => ?_) (fun h2 => ?_)
 ·simp [E.den] at h
  exact den_ret (by simp [E.den, e, h])
 simp [E.den] at h2
 ((first | refine den_call ?_ (c_laws_eqNeedS x.needs y.needs) (trivial) ?_ | refine den_callR ?_ (c_laws_eqNeedS x.needs y.needs) (trivial) ?_ | refine den_call ?_ (.ofR (c_laws_eqNeedS x.needs y.needs)) (trivial) ?_); (focus (simp only [VC.den, E.den, dEq, gsH_nil, and_true, cells_Entry]; try exact rfl)); (simp only [cA]))
 refine den_ite (fun h => ?_) (fun h3 => ?_)
 ·simp [E.den] at h
  exact den_ret (by simp [E.den, e, h])
 simp [E.den] at h3
 exact den_ret (by simp [E.den, e, h0, h1, h2, h3])
theorem c_laws_eqEntryS (l l' : List Entry) : Fun Tryz.prog 38 none [encS l, encS l'] (.bool (decide (l = l'))) [] := by
 refine Fun.ofV vc_laws_eqEntryS_ok ty_laws_eqEntryS_ok rfl ?_ (fun hfit => ?_)
 ·exact ⟨ty_EntryS l, ty_EntryS l', trivial⟩
 have hl : l.length ≤ 9223372036854775807 := fits_encS hfit.1
 unfold vc_laws_eqEntryS
 refine den_ite (fun h => ?_) (fun h => ?_)
 ·simp [E.den, cmpI] at h
  refine den_ret ?_
  have : l ≠ l' := fun e => h (by rw [e])
  simp [E.den, this]
 simp [E.den, cmpI] at h
 have h : l.length = l'.length := by omega
 refine den_for l.length (fun k => [.int .i64 k]) (fun k => ∀ i, i < k → nth l i = nth l' i) rfl (by omega) ?_
 intro k hk hI _
 simp only [cA]
 refine den_ite (fun h2 => ?_) (fun h2 => ?_)
 ·simp [E.den, cmpI] at h2
  refine den_cond (fun hg => ?_) (den_cond (fun hg => ?_) ?_)
  ·simp [E.den]; omega
  ·simp [E.den]; omega
  ((first | refine den_call ?_ (c_laws_eqEntry (nth l k) (nth l' k)) (trivial) ?_ | refine den_callR ?_ (c_laws_eqEntry (nth l k) (nth l' k)) (trivial) ?_ | refine den_call ?_ (.ofR (c_laws_eqEntry (nth l k) (nth l' k))) (trivial) ?_); (focus (simp only [VC.den, E.den, dEq, gsH_nil, and_true, row_Entry, Int.toNat_natCast]; try exact rfl)); (simp only [cA]))
  refine den_ite (fun h3 => ?_) (fun h3 => ?_)
  ·simp [E.den] at h3
   exact den_ret (by have : l ≠ l' := fun e => h3 (by rw [e])
                     simp [E.den, this])
  simp [E.den] at h3
  refine den_next h2 ?_ fun i hi => ?_
  ·simp [E.den]; rw [ar_add (by omega) (by omega)]
  rcases Nat.lt_or_ge i k with h' | h'
  ·exact hI i h'
  ·obtain rfl : i = k := by omega
   exact h3
 ·simp [E.den, cmpI] at h2
  obtain rfl : k = l.length := by omega
  exact den_ret (by simp [E.den, ext_nth h hI])
instance : Sm Link := ⟨fun x => Sm.sm x.frm ∧ Sm.sm x.to⟩
instance : Sm Event := ⟨fun x => Sm.sm x.name ∧ Sm.sm x.call ∧ Sm.sm x.recipe⟩
theorem z_Event (x : Event) (n : Int) (h0 : 0 ≤ n) (h1 : n ≤ 1048576) : ∃ r, isZ n (Sm.sm x) r ∧ Fun Tryz.prog 68 none [enc x, .int .i64 n] r [] := by
 refine Fun.exV vc_laws_szEvent_ok rfl ty_laws_szEvent_ok ⟨ty_laws_Event x, rfl, trivial⟩ (.int .i64 (-1)) (isZ.no h0) fun hfit => ?_; unfold vc_laws_szEvent
 have hf := hfit.1
 simp only [enc, Fits, cells_Event, FitsL] at hf
 have hs0 : x.name.size ≤ 9223372036854775807 := fits_str (by simp only [Fits]; exact hf.2.1)
 have e0 : arI .sub .i64 n x.name.size = n - x.name.size := ar_sub (by omega) (by omega)
 refine den_ite (fun h => ⟨isZ.no h0, rfl⟩) (fun g0 => ?_)
 simp only [E.den, List.map_cons, List.map_nil, List.getD_cons_zero, List.getD_cons_succ, D.toI_int, D.toB_bool, D.toS_str, enc_toA, encS_toR, encS_len, len_str, cmpI_lss, cells_Event, e0] at g0
 simp at g0
 ((first | refine den_callE ?_ (z_Call x.call (n - x.name.size) (by omega) (by omega)) (fun _ h => isZ.ty h) ?_ | refine den_callRE ?_ (z_Call x.call (n - x.name.size) (by omega) (by omega)) (fun _ h => isZ.ty h) ?_ | refine den_callE ?_ (exR (z_Call x.call (n - x.name.size) (by omega) (by omega))) (fun _ h => isZ.ty h) ?_); (focus (simp only [VC.den, E.den, dEq, gsH_nil, and_true, cells_Event, len_str, e0]; try exact rfl)); rintro _ ⟨m1, rfl, p1, q1, s1⟩; (simp only [cA]))
 refine den_ite (fun h => ⟨isZ.no h0, rfl⟩) (fun g1 => ?_)
 simp only [E.den, List.map_cons, List.map_nil, List.getD_cons_zero, List.getD_cons_succ, D.toI_int, D.toB_bool, D.toS_str, enc_toA, encS_toR, encS_len, len_str, cmpI_lss] at g1
 simp at g1
 ((first | refine den_callE ?_ (z_StringS x.recipe m1 (by omega) (by omega)) (fun _ h => isZ.ty h) ?_ | refine den_callRE ?_ (z_StringS x.recipe m1 (by omega) (by omega)) (fun _ h => isZ.ty h) ?_ | refine den_callE ?_ (exR (z_StringS x.recipe m1 (by omega) (by omega))) (fun _ h => isZ.ty h) ?_); (focus (simp only [VC.den, E.den, dEq, gsH_nil, and_true, cells_Event, len_str, e0]; try exact rfl)); rintro _ ⟨m2, rfl, p2, q2, s2⟩; (simp only [cA]))
 refine den_ite (fun h => ⟨isZ.no h0, rfl⟩) (fun g2 => ?_)
 simp only [E.den, List.map_cons, List.map_nil, List.getD_cons_zero, List.getD_cons_succ, D.toI_int, D.toB_bool, D.toS_str, enc_toA, encS_toR, encS_len, len_str, cmpI_lss] at g2
 simp at g2
 refine ⟨⟨m2, ?_, by omega, by omega, fun _ => ⟨sm_str.2 (by omega), s1 g1, s2 g2⟩⟩, rfl⟩
 simp only [E.den, List.map_cons, List.map_nil, List.getD_cons_zero, List.getD_cons_succ, D.toI_int, D.toB_bool, D.toS_str, enc_toA, encS_toR, encS_len, len_str, cmpI_lss, cells_Event, e0]
theorem z_EventS (l : List Event) (n : Int) (h0 : 0 ≤ n) (h1 : n ≤ 1048576) : ∃ r, isZ n (Sm.sm l) r ∧ Fun Tryz.prog 24 none [encS l, .int .i64 n] r [] := by
 refine Fun.exV vc_laws_szEventS_ok rfl ty_laws_szEventS_ok ⟨ty_laws_EventS l, rfl, trivial⟩ (.int .i64 (-1)) (isZ.no h0) fun hfit => ?_; unfold vc_laws_szEventS
 have hl : l.length ≤ 9223372036854775807 := fits_encS hfit.1
 have e : arI .sub .i64 n l.length = n - l.length := ar_sub (by omega) (by omega)
 refine den_ite (fun h => ?_) (fun h => ?_)
 ·exact ⟨isZ.no h0, rfl⟩
 simp only [E.den, List.map_cons, List.map_nil, List.getD_cons_zero, List.getD_cons_succ, D.toI_int, D.toB_bool, D.toS_str, enc_toA, encS_toR, encS_len, len_str, cmpI_lss, e] at h
 simp at h
 refine den_loop (Int × Nat) (fun s => [.int .i64 s.1, .int .i64 s.2]) (fun s => s.2 ≤ l.length ∧ s.1 ≤ n - l.length ∧ 0 ≤ s.1 ∧ ∀ i, i < s.2 → Sm.sm (nth l i)) (fun s => l.length - s.2) (n - l.length, 0) (fun s s' h => by simp at h; omega) ?_ ⟨by omega, by omega, by omega, by omega⟩ ?_
 ·simp only [E.den, List.map_cons, List.map_nil, List.getD_cons_zero, List.getD_cons_succ, D.toI_int, D.toB_bool, D.toS_str, enc_toA, encS_toR, encS_len, len_str, cmpI_lss, e]; rfl
 rintro ⟨m, k⟩ ⟨hk, hm, hm0, hI⟩ -
 simp only at hk hm hm0 hI
 simp only [cA]
 refine den_ite (fun h2 => ?_) (fun h2 => ?_)
 ·simp [E.den, cmpI] at h2
  refine den_cond (fun hg => ?_) ?_
  ·simp [E.den]; omega
  ((first | refine den_callE ?_ (z_Event (nth l k) m hm0 (by omega)) (fun _ h => isZ.ty h) ?_ | refine den_callRE ?_ (z_Event (nth l k) m hm0 (by omega)) (fun _ h => isZ.ty h) ?_ | refine den_callE ?_ (exR (z_Event (nth l k) m hm0 (by omega))) (fun _ h => isZ.ty h) ?_); (focus (simp only [VC.den, E.den, dEq, gsH_nil, and_true, row_Event, Int.toNat_natCast]; try exact rfl)); rintro _ ⟨q, rfl, q1, q2, q3⟩; (simp only [cA]))
  refine den_ite (fun h3 => ?_) (fun h3 => ?_)
  ·exact ⟨isZ.no h0, rfl⟩
  simp only [E.den, List.map_cons, List.map_nil, List.getD_cons_zero, List.getD_cons_succ, D.toI_int, D.toB_bool, D.toS_str, enc_toA, encS_toR, encS_len, len_str, cmpI_lss] at h3
  simp at h3
  refine ⟨(q, k + 1), ?_, ⟨by omega, by omega, h3, fun i hi => ?_⟩, by omega⟩
  ·simp only [E.den, List.map_cons, List.map_nil, List.getD_cons_zero, List.getD_cons_succ, D.toI_int, D.toB_bool, D.toS_str, enc_toA, encS_toR, encS_len, len_str, cmpI_lss]; rw [ar_add (by omega) (by omega)]; rfl
  rcases Nat.lt_or_ge i k with h' | h'
  ·exact hI i h'
  ·obtain rfl : i = k := by omega
   exact q3 h3
 ·simp [E.den, cmpI] at h2
  obtain rfl : k = l.length := by omega
  exact ⟨⟨m, rfl, by omega, by omega, fun _ => sm_list.2 ⟨by omega, hI⟩⟩, rfl⟩
theorem cR_laws_toEvent (x : Event) (h : Sm.sm x) : FunR Tryz.prog 80 none [enc x] (enc x) [] [(6, 1)] := by
 refine FunR.ofV vc_laws_toEvent_ok ty_laws_toEvent_ok rt_laws_toEvent_ok rfl ?_ (fun hfit => ?_)
 ·exact ⟨ty_laws_Event x, trivial⟩
 unfold vc_laws_toEvent
 ((first | refine den_call ?_ (c_laws_toCall x.call (h.2.1)) (ty_Call _) ?_ | refine den_callR ?_ (c_laws_toCall x.call (h.2.1)) (ty_Call _) ?_ | refine den_call ?_ (.ofR (c_laws_toCall x.call (h.2.1))) (ty_Call _) ?_); (focus (simp only [VC.den, E.den, dEq, gsH_nil, and_true, cells_Event]; try exact rfl)); (simp only [cA]))
 ((first | refine den_call ?_ (c_laws_toStringS x.recipe (sm_list.1 (h.2.2)).1) (ty_strS _) ?_ | refine den_callR ?_ (c_laws_toStringS x.recipe (sm_list.1 (h.2.2)).1) (ty_strS _) ?_ | refine den_call ?_ (.ofR (c_laws_toStringS x.recipe (sm_list.1 (h.2.2)).1)) (ty_strS _) ?_); (focus (simp only [VC.den, E.den, dEq, gsH_nil, and_true, cells_Event]; try exact rfl)); (simp only [cA]))
 exact den_ret (by simp [E.den, cells_Event, cells_Call, enc])
theorem c_laws_toEvent (x : Event) (h : Sm.sm x) : Fun Tryz.prog 80 none [enc x] (enc x) [] := .ofR (cR_laws_toEvent x h)
theorem c_laws_toEventS (l : List Event) (hs : l.length ≤ 1048576) (hx : ∀ k, k < l.length → Sm.sm (nth l k)) : Fun Tryz.prog 32 none [encS l] (encS l) [] := by
 refine Fun.of_callsG (by kernel_rfl) fun w M vs hG hr => ?_
 have hM := hG.1
 obtain ⟨v, q, rfl, hv, rfl⟩ := hr
 have hlen := map_len (n := 7) (fun x => rfl) l
 obtain ⟨a, cap, rfl, hml, hel⟩ := arg_slice hlen hv
 rw [List.length_map] at hml hv ⊢
 have HE := Lib.hid hel
 have HV := Lib.hid hv
 clear hel hv
 have hmk := fun W => run_make_at (P := Tryz.prog) 32 41 (z := .agg #[.int .i64 0, .string ⟨#[]⟩, .string ⟨#[]⟩, .string ⟨#[]⟩, .int .i64 0, .string ⟨#[]⟩, .slice none 0 0]) (size := 7) (bytes := 104) Tryz.underlying32 (by kernel_rfl) .i64 .i64 l.length (by omega) (by omega) W
 go_enter Tryz.func32, Tryz.ntmps32
 go_wp2
 go_loopw [4] (fun i wr => Below w.heap.size w wr ∧ ∃ k : Nat, k ≤ l.length ∧ i = .int .i64 k ∧ RowN wr (own M w.heap.size) w.heap.size 41 l.length 7 k (l.map Enc.cells)) (fun i _ => l.length - (intOf i).toNat)
 case atStart => exact ⟨by go_grown, 0, by omega, rfl, RowN.new (RBlk.new _ _ _) (by rw [size_madeCells])⟩
 case round =>
  obtain ⟨hB, k, hk, rfl, hR⟩ := hrel
  have hBs := hB.size
  have hgl := hR.lt
  by_cases hlt : k < l.length
  ·have hrow := get_map l (k := k) (by omega)
   obtain ⟨b, o, us, rfl, hul, hus, hcell⟩ := HE.out k _ hrow
   obtain ⟨u0, u1, u2, u3, u4, u5, u6, rfl⟩ := len_7 hul
   have he0 := cell_keep hB (hcell 0 _ rfl); have he1 := cell_keep hB (hcell 1 _ rfl); have he2 := cell_keep hB (hcell 2 _ rfl); have he3 := cell_keep hB (hcell 3 _ rfl); have he4 := cell_keep hB (hcell 4 _ rfl); have he5 := cell_keep hB (hcell 5 _ rfl); have he6 := cell_keep hB (hcell 6 _ rfl)
   (try simp only [Nat.add_zero, Nat.mul_one] at he0)
   have hi0 : (0 : Int) ≤ (k : Int) := by omega
   have hi1 : (k : Int) < (l.length : Int) := by omega
   have hMw : ∀ p, own M w.heap.size p → p.block < wr.heap.size := fun p hp => by
    rcases hp with hp | hp
    ·exact Nat.lt_of_lt_of_le (hM p hp) hB.size
    ·omega
   have hus' : Rs wr (own M w.heap.size) [enc (nth l k)] [.agg #[u0, u1, u2, u3, u4, u5, u6]] := Rs.one ⟨_, rfl, Rs.keep (Keeps.below hB fun p hp h => h.elim id fun e => by omega) _ _ hus⟩
   have HC := Lib.hid (fun (w0 : World) (hb : Below wr.heap.size wr w0) => (c_laws_toEvent (nth l k) (hx k hlt)).2 w0 (own M w.heap.size) 0 [.agg #[u0, u1, u2, u3, u4, u5, u6]] (hG.below (bt hB hb) fun p hp => Nat.lt_of_lt_of_le (hMw p hp) hb.size) (Rs.keep (Keeps.below hb fun _ _ h => h) _ _ hus') (fun cs h => by cases h))
   go_wp2_with (go_at_call 80; refine (HC.out _ (by go_grown)).mono ?_; rintro e w1 ⟨v1, rfl, ⟨cs1, rfl, hr1⟩, hb1, -⟩; replace hb1 := hb1.to_below; have hR1 := hR.keep hb1; obtain ⟨y0, y1, y2, y3, y4, y5, y6, hy⟩ := len_7 (show cs1.toList.length = 7 from hr1.length); have hy' : cs1 = #[y0, y1, y2, y3, y4, y5, y6] := (by rw [← Array.toList_inj, hy]); subst hy'; replace hr1 : Rs w1 (own M w.heap.size) (Enc.cells (nth l k)) [y0, y1, y2, y3, y4, y5, y6] := hr1; have hone := cells_one (ty_Event (nth l k)) hr1; have hbk := hR1.blkN; obtain ⟨hst0, hbk0⟩ := hbk.store (P := Tryz.prog) (o := k * 7) (v := y0) (by have := off_lt (n := 7) (j := 0) hlt (by decide); omega) (hone _ (by simp)); obtain ⟨hst1, hbk1⟩ := hbk0.store (P := Tryz.prog) (o := k * 7 + 1) (v := y1) (by have := off_lt (n := 7) (j := 1) hlt (by decide); omega) (hone _ (by simp)); obtain ⟨hst2, hbk2⟩ := hbk1.store (P := Tryz.prog) (o := k * 7 + 2) (v := y2) (by have := off_lt (n := 7) (j := 2) hlt (by decide); omega) (hone _ (by simp)); obtain ⟨hst3, hbk3⟩ := hbk2.store (P := Tryz.prog) (o := k * 7 + 3) (v := y3) (by have := off_lt (n := 7) (j := 3) hlt (by decide); omega) (hone _ (by simp)); obtain ⟨hst4, hbk4⟩ := hbk3.store (P := Tryz.prog) (o := k * 7 + 4) (v := y4) (by have := off_lt (n := 7) (j := 4) hlt (by decide); omega) (hone _ (by simp)); obtain ⟨hst5, hbk5⟩ := hbk4.store (P := Tryz.prog) (o := k * 7 + 5) (v := y5) (by have := off_lt (n := 7) (j := 5) hlt (by decide); omega) (hone _ (by simp)); obtain ⟨hst6, hbk6⟩ := hbk5.store (P := Tryz.prog) (o := k * 7 + 6) (v := y6) (by have := off_lt (n := 7) (j := 6) hlt (by decide); omega) (hone _ (by simp)))
   have hx : RowN (setN w1 w.heap.size (k * 7) [y0, y1, y2, y3, y4, y5, y6]) (own M w.heap.size) w.heap.size 41 l.length 7 (k + 1) (l.map Enc.cells) := hR1.step hlt hrow hlen hr1
   exact ⟨⟨by have h2 := bt hB hb1; go_grown, k + 1, by omega, by go_num, hx⟩, by simp [intOf]; omega⟩
  ·go_wp2
   go_ret
   obtain rfl : k = l.length := by omega
   exact ⟨_, rfl, hR.done (by simp) hlen (fun p hp h => by have := hM p h; omega) (by unfold maxLen; omega), hB⟩
theorem c_laws_eqEvent (x y : Event) : Fun Tryz.prog 13 none [enc x, enc y] (.bool (decide (x = y))) [] := by
 refine Fun.ofV vc_laws_eqEvent_ok ty_laws_eqEvent_ok rfl ?_ (fun hfit => ?_)
 ·exact ⟨ty_Event x, ty_Event y, trivial⟩
 have e := eq_Event x y
 unfold vc_laws_eqEvent
 refine den_ite (fun h => ?_) (fun h0 => ?_)
 ·simp [E.den, cmpI, cmpS_neq, cells_Event] at h
  exact den_ret (by simp [E.den, e, h])
 simp [E.den, cmpI, cmpS_neq, cells_Event] at h0
 refine den_ite (fun h => ?_) (fun h1 => ?_)
 ·simp [E.den, cmpI, cmpS_neq, cells_Event] at h
  exact den_ret (by simp [E.den, e, h])
 simp [E.den, cmpI, cmpS_neq, cells_Event] at h1
 ((first | refine den_call ?_ (c_laws_eqCall x.call y.call) (trivial) ?_ | refine den_callR ?_ (c_laws_eqCall x.call y.call) (trivial) ?_ | refine den_call ?_ (.ofR (c_laws_eqCall x.call y.call)) (trivial) ?_); (focus (simp only [VC.den, E.den, dEq, gsH_nil, and_true, cells_Event]; try exact rfl)); (simp only [cA]))
 refine den_ite (fun h => ?_) (fun h2 => ?_)
 ·simp [E.den] at h
  exact den_ret (by simp [E.den, e, h])
 simp [E.den] at h2
 ((first | refine den_call ?_ (c_laws_eqStringS x.recipe y.recipe) (trivial) ?_ | refine den_callR ?_ (c_laws_eqStringS x.recipe y.recipe) (trivial) ?_ | refine den_call ?_ (.ofR (c_laws_eqStringS x.recipe y.recipe)) (trivial) ?_); (focus (simp only [VC.den, E.den, dEq, gsH_nil, and_true, cells_Event]; try exact rfl)); (simp only [cA]))
 refine den_ite (fun h => ?_) (fun h3 => ?_)
 ·simp [E.den] at h
  exact den_ret (by simp [E.den, e, h])
 simp [E.den] at h3
 exact den_ret (by simp [E.den, e, h0, h1, h2, h3])
theorem c_laws_eqEventS (l l' : List Event) : Fun Tryz.prog 41 none [encS l, encS l'] (.bool (decide (l = l'))) [] := by
 refine Fun.ofV vc_laws_eqEventS_ok ty_laws_eqEventS_ok rfl ?_ (fun hfit => ?_)
 ·exact ⟨ty_EventS l, ty_EventS l', trivial⟩
 have hl : l.length ≤ 9223372036854775807 := fits_encS hfit.1
 unfold vc_laws_eqEventS
 refine den_ite (fun h => ?_) (fun h => ?_)
 ·simp [E.den, cmpI] at h
  refine den_ret ?_
  have : l ≠ l' := fun e => h (by rw [e])
  simp [E.den, this]
 simp [E.den, cmpI] at h
 have h : l.length = l'.length := by omega
 refine den_for l.length (fun k => [.int .i64 k]) (fun k => ∀ i, i < k → nth l i = nth l' i) rfl (by omega) ?_
 intro k hk hI _
 simp only [cA]
 refine den_ite (fun h2 => ?_) (fun h2 => ?_)
 ·simp [E.den, cmpI] at h2
  refine den_cond (fun hg => ?_) (den_cond (fun hg => ?_) ?_)
  ·simp [E.den]; omega
  ·simp [E.den]; omega
  ((first | refine den_call ?_ (c_laws_eqEvent (nth l k) (nth l' k)) (trivial) ?_ | refine den_callR ?_ (c_laws_eqEvent (nth l k) (nth l' k)) (trivial) ?_ | refine den_call ?_ (.ofR (c_laws_eqEvent (nth l k) (nth l' k))) (trivial) ?_); (focus (simp only [VC.den, E.den, dEq, gsH_nil, and_true, row_Event, Int.toNat_natCast]; try exact rfl)); (simp only [cA]))
  refine den_ite (fun h3 => ?_) (fun h3 => ?_)
  ·simp [E.den] at h3
   exact den_ret (by have : l ≠ l' := fun e => h3 (by rw [e])
                     simp [E.den, this])
  simp [E.den] at h3
  refine den_next h2 ?_ fun i hi => ?_
  ·simp [E.den]; rw [ar_add (by omega) (by omega)]
  rcases Nat.lt_or_ge i k with h' | h'
  ·exact hI i h'
  ·obtain rfl : i = k := by omega
   exact h3
 ·simp [E.den, cmpI] at h2
  obtain rfl : k = l.length := by omega
  exact den_ret (by simp [E.den, ext_nth h hI])
instance : Sm Host := ⟨fun x => Sm.sm x.entries ∧ Sm.sm x.parts ∧ Sm.sm x.up ∧ Sm.sm x.shut ∧ Sm.sm x.log⟩
theorem z_Host (x : Host) (n : Int) (h0 : 0 ≤ n) (h1 : n ≤ 1048576) : ∃ r, isZ n (Sm.sm x) r ∧ Fun Tryz.prog 6 none [enc x, .int .i64 n] r [] := by
 refine Fun.exV vc_laws_szHost_ok rfl ty_laws_szHost_ok ⟨ty_laws_Host x, rfl, trivial⟩ (.int .i64 (-1)) (isZ.no h0) fun hfit => ?_; unfold vc_laws_szHost
 have hf := hfit.1
 simp only [enc, Fits, cells_Host, FitsL] at hf
 ((first | refine den_callE ?_ (z_EntryS x.entries n (by omega) (by omega)) (fun _ h => isZ.ty h) ?_ | refine den_callRE ?_ (z_EntryS x.entries n (by omega) (by omega)) (fun _ h => isZ.ty h) ?_ | refine den_callE ?_ (exR (z_EntryS x.entries n (by omega) (by omega))) (fun _ h => isZ.ty h) ?_); (focus (simp only [VC.den, E.den, dEq, gsH_nil, and_true, cells_Host]; try exact rfl)); rintro _ ⟨m0, rfl, p0, q0, s0⟩; (simp only [cA]))
 refine den_ite (fun h => ⟨isZ.no h0, rfl⟩) (fun g0 => ?_)
 simp only [E.den, List.map_cons, List.map_nil, List.getD_cons_zero, List.getD_cons_succ, D.toI_int, D.toB_bool, D.toS_str, enc_toA, encS_toR, encS_len, len_str, cmpI_lss] at g0
 simp at g0
 ((first | refine den_callE ?_ (z_PartS x.parts m0 (by omega) (by omega)) (fun _ h => isZ.ty h) ?_ | refine den_callRE ?_ (z_PartS x.parts m0 (by omega) (by omega)) (fun _ h => isZ.ty h) ?_ | refine den_callE ?_ (exR (z_PartS x.parts m0 (by omega) (by omega))) (fun _ h => isZ.ty h) ?_); (focus (simp only [VC.den, E.den, dEq, gsH_nil, and_true, cells_Host]; try exact rfl)); rintro _ ⟨m1, rfl, p1, q1, s1⟩; (simp only [cA]))
 refine den_ite (fun h => ⟨isZ.no h0, rfl⟩) (fun g1 => ?_)
 simp only [E.den, List.map_cons, List.map_nil, List.getD_cons_zero, List.getD_cons_succ, D.toI_int, D.toB_bool, D.toS_str, enc_toA, encS_toR, encS_len, len_str, cmpI_lss] at g1
 simp at g1
 ((first | refine den_callE ?_ (z_StringS x.up m1 (by omega) (by omega)) (fun _ h => isZ.ty h) ?_ | refine den_callRE ?_ (z_StringS x.up m1 (by omega) (by omega)) (fun _ h => isZ.ty h) ?_ | refine den_callE ?_ (exR (z_StringS x.up m1 (by omega) (by omega))) (fun _ h => isZ.ty h) ?_); (focus (simp only [VC.den, E.den, dEq, gsH_nil, and_true, cells_Host]; try exact rfl)); rintro _ ⟨m2, rfl, p2, q2, s2⟩; (simp only [cA]))
 refine den_ite (fun h => ⟨isZ.no h0, rfl⟩) (fun g2 => ?_)
 simp only [E.den, List.map_cons, List.map_nil, List.getD_cons_zero, List.getD_cons_succ, D.toI_int, D.toB_bool, D.toS_str, enc_toA, encS_toR, encS_len, len_str, cmpI_lss] at g2
 simp at g2
 ((first | refine den_callE ?_ (z_StringS x.shut m2 (by omega) (by omega)) (fun _ h => isZ.ty h) ?_ | refine den_callRE ?_ (z_StringS x.shut m2 (by omega) (by omega)) (fun _ h => isZ.ty h) ?_ | refine den_callE ?_ (exR (z_StringS x.shut m2 (by omega) (by omega))) (fun _ h => isZ.ty h) ?_); (focus (simp only [VC.den, E.den, dEq, gsH_nil, and_true, cells_Host]; try exact rfl)); rintro _ ⟨m3, rfl, p3, q3, s3⟩; (simp only [cA]))
 refine den_ite (fun h => ⟨isZ.no h0, rfl⟩) (fun g3 => ?_)
 simp only [E.den, List.map_cons, List.map_nil, List.getD_cons_zero, List.getD_cons_succ, D.toI_int, D.toB_bool, D.toS_str, enc_toA, encS_toR, encS_len, len_str, cmpI_lss] at g3
 simp at g3
 ((first | refine den_callE ?_ (z_EventS x.log m3 (by omega) (by omega)) (fun _ h => isZ.ty h) ?_ | refine den_callRE ?_ (z_EventS x.log m3 (by omega) (by omega)) (fun _ h => isZ.ty h) ?_ | refine den_callE ?_ (exR (z_EventS x.log m3 (by omega) (by omega))) (fun _ h => isZ.ty h) ?_); (focus (simp only [VC.den, E.den, dEq, gsH_nil, and_true, cells_Host]; try exact rfl)); rintro _ ⟨m4, rfl, p4, q4, s4⟩; (simp only [cA]))
 refine den_ite (fun h => ⟨isZ.no h0, rfl⟩) (fun g4 => ?_)
 simp only [E.den, List.map_cons, List.map_nil, List.getD_cons_zero, List.getD_cons_succ, D.toI_int, D.toB_bool, D.toS_str, enc_toA, encS_toR, encS_len, len_str, cmpI_lss] at g4
 simp at g4
 refine ⟨⟨m4, ?_, by omega, by omega, fun _ => ⟨s0 g0, s1 g1, s2 g2, s3 g3, s4 g4⟩⟩, rfl⟩
 simp only [E.den, List.map_cons, List.map_nil, List.getD_cons_zero, List.getD_cons_succ, D.toI_int, D.toB_bool, D.toS_str, enc_toA, encS_toR, encS_len, len_str, cmpI_lss, cells_Host]
theorem cR_laws_toHost (x : Host) (h : Sm.sm x) : FunR Tryz.prog 8 none [enc x] (enc x) [] [(2, 1), (3, 1)] := by
 refine FunR.ofV vc_laws_toHost_ok ty_laws_toHost_ok rt_laws_toHost_ok rfl ?_ (fun hfit => ?_)
 ·exact ⟨ty_laws_Host x, trivial⟩
 unfold vc_laws_toHost
 ((first | refine den_call ?_ (c_laws_toEntryS x.entries (sm_list.1 (h.1)).1 (sm_list.1 (h.1)).2) (ty_EntryS _) ?_ | refine den_callR ?_ (c_laws_toEntryS x.entries (sm_list.1 (h.1)).1 (sm_list.1 (h.1)).2) (ty_EntryS _) ?_ | refine den_call ?_ (.ofR (c_laws_toEntryS x.entries (sm_list.1 (h.1)).1 (sm_list.1 (h.1)).2)) (ty_EntryS _) ?_); (focus (simp only [VC.den, E.den, dEq, gsH_nil, and_true, cells_Host]; try exact rfl)); (simp only [cA]))
 ((first | refine den_call ?_ (c_laws_toPartS x.parts (sm_list.1 (h.2.1)).1 (sm_list.1 (h.2.1)).2) (ty_PartS _) ?_ | refine den_callR ?_ (c_laws_toPartS x.parts (sm_list.1 (h.2.1)).1 (sm_list.1 (h.2.1)).2) (ty_PartS _) ?_ | refine den_call ?_ (.ofR (c_laws_toPartS x.parts (sm_list.1 (h.2.1)).1 (sm_list.1 (h.2.1)).2)) (ty_PartS _) ?_); (focus (simp only [VC.den, E.den, dEq, gsH_nil, and_true, cells_Host]; try exact rfl)); (simp only [cA]))
 ((first | refine den_call ?_ (c_laws_toStringS x.up (sm_list.1 (h.2.2.1)).1) (ty_strS _) ?_ | refine den_callR ?_ (c_laws_toStringS x.up (sm_list.1 (h.2.2.1)).1) (ty_strS _) ?_ | refine den_call ?_ (.ofR (c_laws_toStringS x.up (sm_list.1 (h.2.2.1)).1)) (ty_strS _) ?_); (focus (simp only [VC.den, E.den, dEq, gsH_nil, and_true, cells_Host]; try exact rfl)); (simp only [cA]))
 ((first | refine den_call ?_ (c_laws_toStringS x.shut (sm_list.1 (h.2.2.2.1)).1) (ty_strS _) ?_ | refine den_callR ?_ (c_laws_toStringS x.shut (sm_list.1 (h.2.2.2.1)).1) (ty_strS _) ?_ | refine den_call ?_ (.ofR (c_laws_toStringS x.shut (sm_list.1 (h.2.2.2.1)).1)) (ty_strS _) ?_); (focus (simp only [VC.den, E.den, dEq, gsH_nil, and_true, cells_Host]; try exact rfl)); (simp only [cA]))
 ((first | refine den_call ?_ (c_laws_toEventS x.log (sm_list.1 (h.2.2.2.2)).1 (sm_list.1 (h.2.2.2.2)).2) (ty_EventS _) ?_ | refine den_callR ?_ (c_laws_toEventS x.log (sm_list.1 (h.2.2.2.2)).1 (sm_list.1 (h.2.2.2.2)).2) (ty_EventS _) ?_ | refine den_call ?_ (.ofR (c_laws_toEventS x.log (sm_list.1 (h.2.2.2.2)).1 (sm_list.1 (h.2.2.2.2)).2)) (ty_EventS _) ?_); (focus (simp only [VC.den, E.den, dEq, gsH_nil, and_true, cells_Host]; try exact rfl)); (simp only [cA]))
 exact den_ret (by simp [E.den, cells_Host, enc])
theorem c_laws_eqHost (x y : Host) : Fun Tryz.prog 10 none [enc x, enc y] (.bool (decide (x = y))) [] := by
 refine Fun.ofV vc_laws_eqHost_ok ty_laws_eqHost_ok rfl ?_ (fun hfit => ?_)
 ·exact ⟨ty_Host x, ty_Host y, trivial⟩
 have e := eq_Host x y
 unfold vc_laws_eqHost
 ((first | refine den_call ?_ (c_laws_eqEntryS x.entries y.entries) (trivial) ?_ | refine den_callR ?_ (c_laws_eqEntryS x.entries y.entries) (trivial) ?_ | refine den_call ?_ (.ofR (c_laws_eqEntryS x.entries y.entries)) (trivial) ?_); (focus (simp only [VC.den, E.den, dEq, gsH_nil, and_true, cells_Host]; try exact rfl)); (simp only [cA]))
 refine den_ite (fun h => ?_) (fun h0 => ?_)
 ·simp [E.den] at h
  exact den_ret (by simp [E.den, e, h])
 simp [E.den] at h0
 ((first | refine den_call ?_ (c_laws_eqPartS x.parts y.parts) (trivial) ?_ | refine den_callR ?_ (c_laws_eqPartS x.parts y.parts) (trivial) ?_ | refine den_call ?_ (.ofR (c_laws_eqPartS x.parts y.parts)) (trivial) ?_); (focus (simp only [VC.den, E.den, dEq, gsH_nil, and_true, cells_Host]; try exact rfl)); (simp only [cA]))
 refine den_ite (fun h => ?_) (fun h1 => ?_)
 ·simp [E.den] at h
  exact den_ret (by simp [E.den, e, h])
 simp [E.den] at h1
 ((first | refine den_call ?_ (c_laws_eqStringS x.up y.up) (trivial) ?_ | refine den_callR ?_ (c_laws_eqStringS x.up y.up) (trivial) ?_ | refine den_call ?_ (.ofR (c_laws_eqStringS x.up y.up)) (trivial) ?_); (focus (simp only [VC.den, E.den, dEq, gsH_nil, and_true, cells_Host]; try exact rfl)); (simp only [cA]))
 refine den_ite (fun h => ?_) (fun h2 => ?_)
 ·simp [E.den] at h
  exact den_ret (by simp [E.den, e, h])
 simp [E.den] at h2
 ((first | refine den_call ?_ (c_laws_eqStringS x.shut y.shut) (trivial) ?_ | refine den_callR ?_ (c_laws_eqStringS x.shut y.shut) (trivial) ?_ | refine den_call ?_ (.ofR (c_laws_eqStringS x.shut y.shut)) (trivial) ?_); (focus (simp only [VC.den, E.den, dEq, gsH_nil, and_true, cells_Host]; try exact rfl)); (simp only [cA]))
 refine den_ite (fun h => ?_) (fun h3 => ?_)
 ·simp [E.den] at h
  exact den_ret (by simp [E.den, e, h])
 simp [E.den] at h3
 ((first | refine den_call ?_ (c_laws_eqEventS x.log y.log) (trivial) ?_ | refine den_callR ?_ (c_laws_eqEventS x.log y.log) (trivial) ?_ | refine den_call ?_ (.ofR (c_laws_eqEventS x.log y.log)) (trivial) ?_); (focus (simp only [VC.den, E.den, dEq, gsH_nil, and_true, cells_Host]; try exact rfl)); (simp only [cA]))
 refine den_ite (fun h => ?_) (fun h4 => ?_)
 ·simp [E.den] at h
  exact den_ret (by simp [E.den, e, h])
 simp [E.den] at h4
 exact den_ret (by simp [E.den, e, h0, h1, h2, h3, h4])
end Go.Proofs.YtjmakbnblpjkhaaGreatDoor
