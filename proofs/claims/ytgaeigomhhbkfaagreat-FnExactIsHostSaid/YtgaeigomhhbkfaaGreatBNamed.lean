/- Contracts: the names of entries that something holds of; who misses, reaches, needs, is stuck; the links; the order of the start: the program's side. -/
import Derived.Test.YtgaeigomhhbkfaaGreatBWireLaw
namespace Go.Proofs.YtgaeigomhhbkfaaGreat
open Go.RowKit Go
set_option linter.unusedVariables false
set_option linter.unusedSimpArgs false
set_option maxRecDepth 100000
set_option linter.unusedSectionVars false
variable [GC]
theorem nm_snoc (l : List ByteArray) (s : ByteArray) : D.sl (l.map Enc.cells ++ [[.str s]]) = encS (l ++ [s]) := by simp [encS, cells_str]
/-! What the wiring holds, typed -/
theorem tab_bool : tbl.tab 4 = [.bool] := by kernel_rfl
theorem tab_bools : tbl.tab 71 = [.sl 4] := by kernel_rfl
theorem ty_bRow (n : Nat) (f : Nat → Bool) : HasTy tbl.tab (.sl 4) (bRow n f) := by
  show RowsTy _ (tbl.tab _) _
  rw [tab_bool]
  refine RowsTy.of fun r hr => ?_
  unfold rowsOf at hr
  obtain ⟨a, _, rfl⟩ := List.mem_map.1 hr
  exact ⟨trivial, trivial⟩
theorem ty_bMat (n : Nat) (S : Nat → Nat → Bool) : HasTy tbl.tab (.sl 71) (bMat n S) := by
  show RowsTy _ (tbl.tab _) _
  rw [tab_bools]
  refine RowsTy.of fun r hr => ?_
  unfold rowsOf at hr
  obtain ⟨a, _, rfl⟩ := List.mem_map.1 hr
  exact ⟨ty_bRow _ _, trivial⟩
def wireC (l : List Entry) : List D := [bRow l.length (missS l), bMat l.length (needS l), bMat l.length (reachS l)]
theorem ty_wireC (l : List Entry) : RowTy tbl.tab [.sl 4, .sl 71, .sl 71] (wireC l) := ⟨ty_bRow _ _, ty_bMat _ _, ty_bMat _ _, trivial⟩
theorem ty_wireD (l : List Entry) : HasVT tbl.tab (.one (.agg [.sl 4, .sl 71, .sl 71])) (wireD l) := ty_wireC l
/-! The functions that are handed to it -/
theorem findI_lt {l : List Entry} {s : ByteArray} : findI l s < 0 ↔ findO l s = none := by
  unfold findI
  split <;> rename_i h <;> simp [h] <;> omega
abbrev rOut (l : List Entry) (k : Nat) : Nat → Bool := reachS l k
abbrev rIn (l : List Entry) (k : Nat) : Nat → Bool := fun i => reachS l i k
end Go.Proofs.YtgaeigomhhbkfaaGreat
/- Contracts: links, who is stuck, the order of the start: the program's side. -/
namespace Go.Proofs.YtgaeigomhhbkfaaGreat
open Go.RowKit Go
set_option linter.unusedVariables false
set_option linter.unusedSimpArgs false
set_option maxRecDepth 100000
set_option linter.unusedSectionVars false
variable [GC]
theorem prov_some {l : List Entry} {i j c : Nat} (h : prv l i j = some c) : provI l (nth l i).name (nth (nth l i).needs j) = c := by
  unfold provI
  rw [show provO l (nth l i).name (nth (nth l i).needs j) = some c from h]
theorem prov_none {l : List Entry} {i j : Nat} (h : prv l i j = none) : provI l (nth l i).name (nth (nth l i).needs j) = -1 := by
  unfold provI
  rw [show provO l (nth l i).name (nth (nth l i).needs j) = none from h]
theorem provN_some {l : List Entry} {i j c : Nat} (h : prv l i j = some c) : provN l (nth l i).name (nth (nth l i).needs j) = (nth l c).name := by
  unfold provN
  rw [show provO l (nth l i).name (nth (nth l i).needs j) = some c from h]
theorem provN_none {l : List Entry} {i j : Nat} (h : prv l i j = none) : provN l (nth l i).name (nth (nth l i).needs j) = noText := by
  unfold provN
  rw [show provO l (nth l i).name (nth (nth l i).needs j) = none from h]
theorem links_some {l : List Entry} {i j c : Nat} (h : prv l i j = some c) : linksOne l i (j + 1) = linksOne l i j ++ [⟨(nth l i).name, (nth l c).name, (nth (nth l i).needs j).face⟩] := by
  rw [linksOne_succ]
  unfold linkAt
  rw [h]
  rfl
theorem links_none {l : List Entry} {i j : Nat} (h : prv l i j = none) : linksOne l i (j + 1) = linksOne l i j := by
  rw [linksOne_succ]
  unfold linkAt
  rw [h]
  simp
theorem links_few {l : List Entry} (hr : regB l = true) {i : Nat} (hi : i < l.length) (j : Nat) (hj : j ≤ (nth l i).needs.length) : (linksTo l i ++ linksOne l i j).length ≤ 100 := by
  have h1 := linksTo_len hr i (by omega)
  have h2 := linksOne_len l i j
  have h3 := reg_needs hr hi
  have h4 := (reg_parts hr).1
  rw [List.length_append]; omega
theorem link_snoc (a : List Link) (x : Link) (q : List Link) : D.sl (a.map Enc.cells ++ [[.str x.frm, .str x.to, .int .i64 x.face]]) = encS (a ++ [x]) := by simp [encS, cells_Link]
theorem den_next1' {P : Program} {tab : Nat → List CT} {env : List D} {Q : D → List D → Prop} {L : List (List D → Prop)} {r : List D → Prop} {es : List E} {xs : List D} {p q : Prop}
    (hp : p) (h : es.map (·.den env) = xs) (hq : q) : (VC.again 1 es).den P tab env Q (r :: (fun ys => p ∧ ys = xs ∧ q) :: L) := ⟨hp, h, hq⟩
def stuckTo (l : List Entry) (i j : Nat) : Bool := badS l i || anyT (fun j => reachS l i j && badS l j) j
def sF (l : List Entry) (i a : Nat) : Bool := decide (a < i) && stuckS l a
def sG (l : List Entry) (i j a : Nat) : Bool := if a < i then stuckS l a else if a = i then stuckTo l i j else false
theorem c_impl_stuck (l : List Entry) (hl : l.length ≤ 1048576) : FunR Tryz.prog 29 none [wireD l] (bRow l.length (stuckS l)) [] [(0, 1)] := by
  refine FunR.ofV vc__impl_wiring__stuck_ok ty__impl_wiring__stuck_ok rt__impl_wiring__stuck_ok rfl ?_ (fun hfit => ?_)
  · exact ⟨ty_wireD l, trivial⟩
  unfold vc__impl_wiring__stuck
  refine den_cond (fun _ => ?_) ?_
  · simp only [E.den, dEq, iEq, sEq, wireD, bRow_len]; simp; omega
  refine den_for l.length (fun i => [.int .i64 i, bRow l.length (sF l i)]) (fun _ => True) ?_ trivial ?_
  · simp only [E.den, dEq, iEq, sEq, wireD, bRow_len, zeroD]
    simp only [Int.toNat_natCast, List.map_cons, List.map_nil, zeroD, rowsOf_rep]
    rw [show bRow l.length (sF l 0) = bRow l.length (fun _ => false) from bRow_congr fun a _ => by simp [sF]]
    rfl
  intro i hi _ _
  simp only [List.cons_append, List.nil_append]
  refine den_ite (fun h2 => ?_) (fun h2 => ?_)
  · simp only [E.den, dEq, iEq, sEq, wireD, bRow_len, lenD_mem] at h2
    have h2 : i < l.length := by simp at h2; exact h2
    refine den_cond (fun _ => ?_) (den_cond (fun _ => ?_) (den_cond (fun _ => ?_) (den_cond (fun _ => ?_) ?_)))
    · simp only [E.den, dEq, iEq, sEq, wireD, bRow_len]; simp; omega
    · simp only [E.den, dEq, iEq, sEq, wireD, bMat_len]; simp; omega
    · simp only [E.den, dEq, iEq, sEq, wireD, bMat_get h2, bRow_len]; simp; omega
    · simp only [E.den, dEq, iEq, sEq, wireD, bRow_len, lenD_mem]; simp; omega
    refine den_for l.length (fun j => [.int .i64 j, bRow l.length (sG l i j)]) (fun _ => True) ?_ trivial ?_
    · simp only [E.den, dEq, iEq, sEq, wireD, bRow_get h2, bMat_get h2, bRow_upd]
      rw [show bRow l.length (sG l i 0) = bRow l.length (fun a => if a = i then missS l i || reachS l i i else sF l i a) from bRow_congr fun a _ => by
        unfold sG sF
        by_cases e : a = i
        · subst e; simp [stuckTo, badS, anyT]
        · by_cases e2 : a < i <;> simp [e, e2]]
      rfl
    intro j hj _ _
    simp only [List.cons_append, List.nil_append]
    refine den_ite (fun h3 => ?_) (fun h3 => ?_)
    · simp only [E.den, dEq, iEq, sEq, wireD, bRow_len, lenD_mem] at h3
      have h3 : j < l.length := by simp at h3; exact h3
      refine den_cond (fun _ => ?_) (den_cond (fun _ => ?_) (den_cond (fun _ => ?_) (den_cond (fun _ => ?_) (den_cond (fun _ => ?_) (den_cond (fun _ => ?_) (den_cond (fun _ => ?_) ?_))))))
      · simp only [E.den, dEq, iEq, sEq, wireD, bRow_len, lenD_mem]; simp; omega
      · simp only [E.den, dEq, iEq, sEq, wireD, bMat_len]; simp; omega
      · simp only [E.den, dEq, iEq, sEq, wireD, bMat_get h2, bRow_len]; simp; omega
      · simp only [E.den, dEq, iEq, sEq, wireD, bRow_len]; simp; omega
      · simp only [E.den, dEq, iEq, sEq, wireD, bMat_len]; simp; omega
      · simp only [E.den, dEq, iEq, sEq, wireD, bMat_get h3, bRow_len]; simp; omega
      · simp only [E.den, dEq, iEq, sEq, wireD, bRow_len, lenD_mem]; simp; omega
      refine den_next h3 ?_ trivial
      simp only [E.den, dEq, iEq, sEq, wireD, bRow_get h2, bRow_get h3, bMat_get h2, bMat_get h3, bRow_upd]
      rw [ar_add (by omega) (by omega), show bRow l.length (sG l i (j + 1)) = bRow l.length (fun a => if a = i then sG l i j i || (reachS l i j && (missS l j || reachS l j j)) else sG l i j a) from bRow_congr fun a _ => by
        unfold sG
        by_cases e : a = i
        · subst e; simp [stuckTo, badS, anyT, Bool.or_assoc]
        · simp [e]]
      rfl
    · simp only [E.den, dEq, iEq, sEq, wireD, bRow_len, lenD_mem] at h3
      obtain rfl : j = l.length := by simp at h3; omega
      refine den_next1 h2 ?_ trivial
      simp only [E.den, dEq, iEq, sEq]
      rw [ar_add (by omega) (by omega), show bRow l.length (sG l i l.length) = bRow l.length (sF l (i + 1)) from bRow_congr fun a _ => by
        unfold sG sF
        by_cases e : a = i
        · subst e; simp [stuckTo, stuckS]
        · have : a < i + 1 ↔ a < i := by omega
          by_cases e2 : a < i <;> simp [e, e2, this]]
      rfl
  · simp only [E.den, dEq, iEq, sEq, wireD, bRow_len, lenD_mem] at h2
    obtain rfl : i = l.length := by simp at h2; omega
    exact den_ret (by simp only [E.den, dEq, iEq, sEq]; exact bRow_congr fun a ha => by simp [sF, ha])
/-! The order of the start -/
def nx (l : List Entry) (o : List Nat) (i : Nat) : Int := match firstTo (readyB l o) i with | some j => j | none => -1
theorem nmL_snoc (l : List Entry) (o : List Nat) (j : Nat) : nmL l (o ++ [j]) = nmL l o ++ [(nth l j).name] := by simp [nmL]
theorem nmL_len (l : List Entry) (o : List Nat) : (nmL l o).length = o.length := by simp [nmL]
theorem nx_succ (l : List Entry) (o : List Nat) (i : Nat) : nx l o (i + 1) = if nx l o i < 0 ∧ readyB l o i = true then (i : Int) else nx l o i := by
  unfold nx
  rw [firstTo]
  cases h : firstTo (readyB l o) i with
  | some j => simp; omega
  | none => cases hb : readyB l o i <;> simp
end Go.Proofs.YtgaeigomhhbkfaaGreat
