/- Contract: who needs whom, the wiring of a registry, as the program reckons it. -/
import Derived.Test.YtjmakbnblpjkhaaGreatDoorH13
set_option linter.unusedVariables false
set_option linter.unusedSimpArgs false
set_option maxRecDepth 100000
set_option linter.unusedSectionVars false
namespace Go.Proofs.YtjmakbnblpjkhaaGreatDoor
open Go.RowKit Go
variable [GC]
/-! Rows of one cell each, as data -/
def rowsOf (f : Nat → D) (n : Nat) : List (List D) := (List.range n).map fun a => [f a]
@[simp] theorem rowsOf_len (f : Nat → D) (n : Nat) : (rowsOf f n).length = n := by simp [rowsOf]
theorem rowsOf_get {f : Nat → D} {n i : Nat} (h : i < n) (z : List D) : ((rowsOf f n)[i]?).getD z = [f i] := by simp [rowsOf, h]
theorem rowsOf_congr {f g : Nat → D} {n : Nat} (h : ∀ a, a < n → f a = g a) : rowsOf f n = rowsOf g n := by
 unfold rowsOf
 exact List.map_congr_left fun a ha => by rw [h a (by simpa using ha)]
theorem rowsOf_rep (x : D) (n : Nat) : List.replicate n [x] = rowsOf (fun _ => x) n := by
 apply List.ext_getElem?
 intro i
 by_cases h : i < n
 ·simp [rowsOf, List.getElem?_replicate, h]
 ·rw [List.getElem?_eq_none (by simp; omega), List.getElem?_eq_none (by simp; omega)]
theorem rowsOf_upd (f : Nat → D) (n i : Nat) (x : D) : updR (rowsOf f n) i 0 [x] = rowsOf (fun a => if a = i then x else f a) n := by
 unfold updR
 apply List.ext_getElem?
 intro j
 rw [List.getElem?_set]
 by_cases hj : j < n
 ·by_cases e : i = j
  ·subst e
   simp [rowsOf, hj, List.getD, setL]
  ·rw [if_neg e]
   simp [rowsOf, hj]
   intro h; exact absurd h.symm e
 ·by_cases e : i = j
  ·subst e
   rw [if_pos rfl, if_neg (by simp; omega), List.getElem?_eq_none (by simp; omega)]
  ·rw [if_neg e, List.getElem?_eq_none (by simp; omega), List.getElem?_eq_none (by simp; omega)]
def bRow (n : Nat) (f : Nat → Bool) : D := .sl (rowsOf (fun j => .bool (f j)) n)
def bMat (n : Nat) (S : Nat → Nat → Bool) : D := .sl (rowsOf (fun i => bRow n (S i)) n)
theorem bRow_upd (n : Nat) (f : Nat → Bool) (i : Nat) (b : Bool) : D.sl (updR (bRow n f).toR i 0 [.bool b]) = bRow n (fun a => if a = i then b else f a) := by
 unfold bRow
 rw [D.toR_sl, rowsOf_upd]
 congr 1
 refine rowsOf_congr fun a _ => ?_
 show _ = D.bool (if a = i then b else f a)
 split <;> rfl
theorem bRow_congr {n : Nat} {f g : Nat → Bool} (h : ∀ a, a < n → f a = g a) : bRow n f = bRow n g := by
 unfold bRow
 rw [rowsOf_congr fun a ha => by rw [h a ha]]
theorem bRow_len (n : Nat) (f : Nat → Bool) : lenD (bRow n f) = n := by simp [bRow, lenD]
theorem bMat_len (n : Nat) (S : Nat → Nat → Bool) : lenD (bMat n S) = n := by simp [bMat, lenD]
theorem bRow_get {n : Nat} {f : Nat → Bool} {i : Nat} (h : i < n) (z : List D) : (((bRow n f).toR)[i]?).getD z = [.bool (f i)] := by
 unfold bRow
 rw [D.toR_sl, rowsOf_get h]
theorem bMat_get {n : Nat} {S : Nat → Nat → Bool} {i : Nat} (h : i < n) (z : List D) : (((bMat n S).toR)[i]?).getD z = [bRow n (S i)] := by
 unfold bMat
 rw [D.toR_sl, rowsOf_get h]
theorem bMat_congr {n : Nat} {S T : Nat → Nat → Bool} (h : ∀ a b, a < n → b < n → S a b = T a b) : bMat n S = bMat n T := by
 unfold bMat
 rw [rowsOf_congr fun a ha => bRow_congr fun b hb => h a b ha hb]
theorem bMat_upd (n : Nat) (S : Nat → Nat → Bool) (i : Nat) (f : Nat → Bool) : D.sl (updR (bMat n S).toR i 0 [bRow n f]) = bMat n (fun a b => if a = i then f b else S a b) := by
 unfold bMat
 rw [D.toR_sl, rowsOf_upd]
 congr 1
 refine rowsOf_congr fun a _ => ?_
 by_cases e : a = i <;> simp [e]
def anyT (p : Nat → Bool) : Nat → Bool
 | 0 => false
 | n + 1 => anyT p n || p n
theorem anyT_iff {p : Nat → Bool} : ∀ {n : Nat}, anyT p n = true ↔ ∃ k, k < n ∧ p k = true
 | 0 => by simp [anyT]
 | n + 1 => by
  simp only [anyT, Bool.or_eq_true, anyT_iff (n := n)]
  constructor
  ·rintro (⟨k, hk, h⟩ | h)
   ·exact ⟨k, by omega, h⟩
   ·exact ⟨n, by omega, h⟩
  ·rintro ⟨k, hk, h⟩
   by_cases e : k = n
   ·subst e; exact .inr h
   ·exact .inl ⟨k, by omega, h⟩
/-! Who needs whom -/
def prv (l : List Entry) (a k : Nat) : Option Nat := provO l (nth l a).name (nth (nth l a).needs k)
def needTo (l : List Entry) (a j c : Nat) : Bool := anyT (fun k => decide (prv l a k = some c)) j
def missTo (l : List Entry) (a j : Nat) : Bool := anyT (fun k => (prv l a k).isNone) j
def needS (l : List Entry) (a c : Nat) : Bool := needTo l a (nth l a).needs.length c
def missS (l : List Entry) (a : Nat) : Bool := missTo l a (nth l a).needs.length
def reachS (l : List Entry) : Nat → Nat → Bool := fwK l.length (needS l) l.length
def wireD (l : List Entry) : D := .agg [bRow l.length (missS l), bMat l.length (needS l), bMat l.length (reachS l)]
def nF (l : List Entry) (n i a : Nat) : D := if a < i then bRow n (needS l a) else .sl []
def mF (l : List Entry) (i a : Nat) : Bool := decide (a < i) && missS l a
def nG (l : List Entry) (n i j a : Nat) : D := if a < i then bRow n (needS l a) else if a = i then bRow n (needTo l i j) else .sl []
def mG (l : List Entry) (i j a : Nat) : Bool := if a < i then missS l a else if a = i then missTo l i j else false
theorem prv_lt {l : List Entry} {a k c : Nat} (h : prv l a k = some c) : c < l.length := (firstTo_lt h).1
theorem den_next1 {P : Program} {tab : Nat → List CT} {env : List D} {Q : D → List D → Prop} {L : List (List D → Prop)} {r : List D → Prop} {es : List E} {xs : List D} {p q : Prop}
  (hp : p) (h : es.map (·.den env) = xs) (hq : q) : (VC.again 1 es).den P tab env Q (r :: (fun ys => p ∧ ys = xs ∧ q) :: L) := ⟨hp, h, hq⟩
theorem c_impl_wire (l : List Entry) (h20 : l.length ≤ 1048576) : FunR Tryz.prog 83 none [encS l] (wireD l) [] [(0, 1), (1, 1), (2, 1)] := by
 refine FunR.ofV vc_impl_wire_ok ty_impl_wire_ok rt_impl_wire_ok rfl ?_ (fun hfit => ?_)
 ·exact ⟨ty_EntryS l, trivial⟩
 unfold vc_impl_wire
 have hfl := hfit.1
 refine den_cond (fun _ => ?_) (den_cond (fun _ => ?_) (den_cond (fun _ => ?_) ?_))
 ·simp only [E.den, dEq, iEq, sEq]; simp; omega
 ·simp only [E.den, dEq, iEq, sEq]; simp; omega
 ·simp only [E.den, dEq, iEq, sEq]; simp; omega
 refine den_for l.length (fun i => [.int .i64 i, .sl (rowsOf (nF l l.length i) l.length), .sl (rowsOf (nF l l.length i) l.length), bRow l.length (mF l i)]) (fun _ => True) ?_ trivial ?_
 ·simp only [E.den, dEq, iEq, sEq, zeroD]
  have e : ∀ x : D, List.replicate l.length [x] = rowsOf (fun _ => x) l.length := fun x => rowsOf_rep x _
  simp only [Int.toNat_natCast, List.map_cons, List.map_nil, zeroD, e]
  have e1 : rowsOf (nF l l.length 0) l.length = rowsOf (fun _ => .sl []) l.length := rowsOf_congr fun a _ => by simp [nF]
  have e2 : bRow l.length (mF l 0) = bRow l.length (fun _ => false) := bRow_congr fun a _ => by simp [mF]
  rw [e1, e2]
  rfl
 intro i hi _ _
 simp only [cA]
 refine den_ite (fun h2 => ?_) (fun h2 => ?_)
 ·simp only [E.den, dEq, iEq, sEq] at h2
  have h2 : i < l.length := by simp at h2; exact h2
  have hnl : (nth l i).needs.length ≤ 9223372036854775807 := fits_encS (fits_nth hfl h2).2.2.2.2.1
  (refine den_cond (fun hg => ?_) ?_; (focus (simp only [gsH, gE, E.den, dEq, iEq, sEq] at hg ⊢; (try simp only [D.bool.injEq] at hg); (try simp only [D.bool.injEq]); grind)))
  refine den_cond (fun _ => ?_) ?_
  ·simp only [E.den, dEq, iEq, sEq]; simp; omega
  refine den_cond (fun _ => ?_) ?_
  ·simp only [E.den, dEq, iEq, sEq, lenD_sl, lenD_mem]; simp; omega
  refine den_for (nth l i).needs.length (fun j => [.int .i64 j, .sl (rowsOf (nF l l.length i) l.length), .sl (rowsOf (nG l l.length i j) l.length), bRow l.length (mG l i j)]) (fun _ => True) ?_ trivial ?_
  ·simp only [E.den, dEq, iEq, sEq, zeroD]
   simp only [Int.toNat_natCast, List.map_cons, List.map_nil, zeroD, rowsOf_rep, rowsOf_upd]
   have e1 : rowsOf (fun a => if a = i then D.sl (rowsOf (fun _ => .bool false) l.length) else nF l l.length i a) l.length = rowsOf (nG l l.length i 0) l.length := rowsOf_congr fun a _ => by
    unfold nF nG
    by_cases e : a = i
    ·subst e; simp [needTo, anyT, bRow]
    ·simp [e]
   have e2 : bRow l.length (mF l i) = bRow l.length (mG l i 0) := bRow_congr fun a _ => by
    unfold mF mG missTo anyT
    by_cases e : a < i <;> simp [e]
   rw [e1, e2]
   rfl
  intro j hj _ _
  simp only [cA]
  have hgi : nG l l.length i j i = bRow l.length (needTo l i j) := by simp [nG]
  refine den_ite (fun h3 => ?_) (fun h3 => ?_)
  ·simp only [E.den, dEq, iEq, sEq, row_Entry, cells_Entry] at h3
   have h3 : j < (nth l i).needs.length := by simp at h3; exact h3
   (refine den_cond (fun hg => ?_) ?_; (focus (simp only [gsH, gE, E.den, dEq, iEq, sEq, row_Entry, cells_Entry] at hg ⊢; (try simp only [D.bool.injEq] at hg); (try simp only [D.bool.injEq]); grind)))
   ((first | refine den_call ?_ (c_impl_provider l (nth l i).name (nth (nth l i).needs j)) (rfl) ?_ | refine den_callR ?_ (c_impl_provider l (nth l i).name (nth (nth l i).needs j)) (rfl) ?_ | refine den_call ?_ (.ofR (c_impl_provider l (nth l i).name (nth (nth l i).needs j))) (rfl) ?_); (focus (simp only [VC.den, E.den, dEq, gsH_nil, and_true, row_Entry, cells_Entry, row_Need, Int.toNat_natCast]; try exact rfl)); (simp only [cA]))
   refine den_ite (fun h4 => ?_) (fun h4 => ?_)
   ·simp only [E.den, dEq, iEq, sEq] at h4
    obtain ⟨c, hc⟩ : ∃ c, prv l i j = some c := by
     cases hp : prv l i j with
     | some c => exact ⟨c, rfl⟩
     | none =>
      have : provI l (nth l i).name (nth (nth l i).needs j) = -1 := by
       unfold provI
       rw [show provO l (nth l i).name (nth (nth l i).needs j) = none from hp]
      rw [this] at h4; simp at h4
    have hcl := prv_lt hc
    have hpi : provI l (nth l i).name (nth (nth l i).needs j) = c := by
     unfold provI
     rw [show provO l (nth l i).name (nth (nth l i).needs j) = some c from hc]
    rw [hpi]
    refine den_cond (fun _ => ?_) ?_
    ·simp only [E.den, dEq, iEq, sEq, lenD_sl, lenD_mem]; simp; omega
    refine den_cond (fun _ => ?_) ?_
    ·simp only [E.den, dEq, iEq, sEq, rowsOf_get h2, hgi, bRow_len]
     simp only [Int.toNat_natCast, lenD]
     simp; omega
    refine den_next h3 ?_ trivial
    simp only [E.den, dEq, iEq, sEq, rowsOf_get h2, hgi, bRow_upd, rowsOf_upd]
    rw [ar_add (by omega) (by omega)]
    have e1 : rowsOf (fun a => if a = i then bRow l.length (fun b => if b = c then true else needTo l i j b) else nG l l.length i j a) l.length = rowsOf (nG l l.length i (j + 1)) l.length := rowsOf_congr fun a _ => by
     unfold nG
     by_cases e : a = i
     ·subst e
      simp only [if_true, Nat.lt_irrefl, if_false]
      refine bRow_congr fun b _ => ?_
      simp only [needTo, anyT, hc]
      by_cases e2 : b = c
      ·subst e2; simp
      ·have : ¬ (some c = some b) := fun h => e2 (by simpa using h.symm)
       simp [e2, this]
     ·simp [e]
    have e2 : bRow l.length (mG l i j) = bRow l.length (mG l i (j + 1)) := bRow_congr fun a _ => by
     unfold mG
     by_cases e : a = i
     ·subst e; simp [missTo, anyT, hc]
     ·simp [e]
    rw [e1, e2]
    rfl
   ·simp only [E.den, dEq, iEq, sEq] at h4
    have hc : prv l i j = none := by
     cases hp : prv l i j with
     | none => rfl
     | some c =>
      have : provI l (nth l i).name (nth (nth l i).needs j) = c := by
       unfold provI
       rw [show provO l (nth l i).name (nth (nth l i).needs j) = some c from hp]
      rw [this] at h4; simp at h4
    refine den_cond (fun _ => ?_) ?_
    ·simp only [E.den, dEq, iEq, sEq, lenD_sl, lenD_mem]; simp; omega
    refine den_next h3 ?_ trivial
    simp only [E.den, dEq, iEq, sEq, bRow_upd]
    rw [ar_add (by omega) (by omega)]
    have e1 : rowsOf (nG l l.length i j) l.length = rowsOf (nG l l.length i (j + 1)) l.length := rowsOf_congr fun a _ => by
     unfold nG
     by_cases e : a = i
     ·subst e
      simp only [if_true, Nat.lt_irrefl, if_false]
      refine bRow_congr fun b _ => ?_
      simp [needTo, anyT, hc]
     ·simp [e]
    have e2 : bRow l.length (fun a => if a = i then true else mG l i j a) = bRow l.length (mG l i (j + 1)) := bRow_congr fun a _ => by
     unfold mG
     by_cases e : a = i
     ·subst e; simp [missTo, anyT, hc]
     ·simp [e]
    rw [e1, e2]
    rfl
  ·simp only [E.den, dEq, iEq, sEq, row_Entry, cells_Entry] at h3
   obtain rfl : j = (nth l i).needs.length := by simp at h3; omega
   refine den_cond (fun _ => ?_) ?_
   ·simp only [E.den, dEq, iEq, sEq, lenD_sl, lenD_mem]; simp; omega
   refine den_cond (fun _ => ?_) ?_
   ·simp only [E.den, dEq, iEq, sEq, rowsOf_get h2, hgi, bRow_len]; simp; omega
   refine den_cond (fun _ => ?_) ?_
   ·simp only [E.den, dEq, iEq, sEq, lenD_sl, lenD_mem]; simp; omega
   refine den_next1 h2 ?_ trivial
   simp only [E.den, dEq, iEq, sEq, rowsOf_get h2, hgi, rowsOf_upd]
   rw [ar_add (by omega) (by omega)]
   have e1 : rowsOf (fun a => if a = i then bRow l.length (needTo l i (nth l i).needs.length) else nF l l.length i a) l.length = rowsOf (nF l l.length (i + 1)) l.length := rowsOf_congr fun a _ => by
    unfold nF
    by_cases e : a = i
    ·subst e; simp [needS]; rfl
    ·have : a < i + 1 ↔ a < i := by omega
     simp [e, this]
   have e2 : rowsOf (nG l l.length i (nth l i).needs.length) l.length = rowsOf (nF l l.length (i + 1)) l.length := rowsOf_congr fun a _ => by
    unfold nF nG
    by_cases e : a = i
    ·subst e; simp [needS]; rfl
    ·have : a < i + 1 ↔ a < i := by omega
     simp [e, this]
   have e3 : bRow l.length (mG l i (nth l i).needs.length) = bRow l.length (mF l (i + 1)) := bRow_congr fun a _ => by
    unfold mF mG
    by_cases e : a = i
    ·subst e; simp [missS]
    ·have : a < i + 1 ↔ a < i := by omega
     by_cases h : a < i <;> simp [e, this, h]
   rw [e1, e2, e3]
   rfl
 ·simp only [E.den, dEq, iEq, sEq] at h2
  obtain rfl : i = l.length := by simp at h2; omega
  have e1 : D.sl (rowsOf (nF l l.length l.length) l.length) = bMat l.length (needS l) := by
   unfold bMat
   rw [rowsOf_congr (g := fun i => bRow l.length (needS l i)) fun a ha => by simp [nF, ha]]
  have e2 : bRow l.length (mF l l.length) = bRow l.length (missS l) := bRow_congr fun a ha => by simp [mF, ha]
  rw [e1, e2]
  refine den_for l.length (fun k => [.int .i64 k, bMat l.length (fwK l.length (needS l) k), bMat l.length (needS l), bRow l.length (missS l)]) (fun _ => True) rfl trivial ?_
  intro k hk _ _
  simp only [cA]
  refine den_ite (fun h3 => ?_) (fun h3 => ?_)
  ·simp only [E.den, dEq, iEq, sEq] at h3
   have h3 : k < l.length := by simp at h3; exact h3
   refine den_for l.length (fun i => [.int .i64 i, bMat l.length (fwI l.length k (fwK l.length (needS l) k) i), bMat l.length (needS l), bRow l.length (missS l)]) (fun _ => True) rfl trivial ?_
   intro i hi2 _ _
   simp only [cA]
   refine den_ite (fun h4 => ?_) (fun h4 => ?_)
   ·simp only [E.den, dEq, iEq, sEq] at h4
    have h4 : i < l.length := by simp at h4; exact h4
    refine den_for l.length (fun j => [.int .i64 j, bMat l.length (fwJ k i (fwI l.length k (fwK l.length (needS l) k) i) j), bMat l.length (needS l), bRow l.length (missS l)]) (fun _ => True) rfl trivial ?_
    intro j hj2 _ _
    simp only [cA]
    refine den_ite (fun h5 => ?_) (fun h5 => ?_)
    ·simp only [E.den, dEq, iEq, sEq] at h5
     have h5 : j < l.length := by simp at h5; exact h5
     generalize hT : fwJ k i (fwI l.length k (fwK l.length (needS l) k) i) j = T
     have hs : fwJ k i (fwI l.length k (fwK l.length (needS l) k) i) (j + 1) = updM T i j (T i j || (T i k && T k j)) := by rw [← hT]; rfl
     refine den_cond (fun _ => ?_) (den_cond (fun _ => ?_) (den_cond (fun _ => ?_) (den_cond (fun _ => ?_) (den_cond (fun _ => ?_) (den_cond (fun _ => ?_) (den_cond (fun _ => ?_) (den_cond (fun _ => ?_) ?_)))))))
     ·simp only [E.den, dEq, iEq, sEq, lenD_sl, lenD_mem]; simp; omega
     ·simp only [E.den, dEq, iEq, sEq, lenD_sl, lenD_mem]; simp; omega
     ·simp only [E.den, dEq, iEq, sEq, bMat_get h4, bRow_len]; simp only [Int.toNat_natCast, lenD]; simp; omega
     ·simp only [E.den, dEq, iEq, sEq, lenD_sl, lenD_mem]; simp; omega
     ·simp only [E.den, dEq, iEq, sEq, bMat_get h4, bRow_len]; simp only [Int.toNat_natCast, lenD]; simp; omega
     ·simp only [E.den, dEq, iEq, sEq, lenD_sl, lenD_mem]; simp; omega
     ·simp only [E.den, dEq, iEq, sEq, bMat_get h3, bRow_len]; simp only [Int.toNat_natCast, lenD]; simp; omega
     ·simp only [E.den, dEq, iEq, sEq, bMat_get h4, bRow_len]; simp only [Int.toNat_natCast, lenD]; simp; omega
     refine den_next h5 ?_ trivial
     simp only [E.den, dEq, iEq, sEq, bMat_get h4, bMat_get h3, bRow_get h5, bRow_get h3, bRow_upd, bMat_upd]
     rw [ar_add (by omega) (by omega), hs]
     have e3 : bMat l.length (fun a b => if a = i then (if b = j then T i j || (T i k && T k j) else T i b) else T a b) = bMat l.length (updM T i j (T i j || (T i k && T k j))) := bMat_congr fun a b _ _ => by
      unfold updM
      by_cases e : a = i
      ·subst e; by_cases e4 : b = j <;> simp [e4]
      ·simp [e]
     rw [e3]
     rfl
    ·simp only [E.den, dEq, iEq, sEq] at h5
     obtain rfl : j = l.length := by simp at h5; omega
     refine den_next1 h4 ?_ trivial
     simp only [E.den, dEq, iEq, sEq]
     rw [ar_add (by omega) (by omega)]
     rfl
   ·simp only [E.den, dEq, iEq, sEq] at h4
    obtain rfl : i = l.length := by simp at h4; omega
    refine den_next1 h3 ?_ trivial
    simp only [E.den, dEq, iEq, sEq]
    rw [ar_add (by omega) (by omega)]
    rfl
  ·simp only [E.den, dEq, iEq, sEq] at h3
   obtain rfl : k = l.length := by simp at h3; omega
   exact den_ret rfl
end Go.Proofs.YtjmakbnblpjkhaaGreatDoor
/- Registries: copies, finding, adding: what the program and the reference compute. -/
namespace Go.Proofs.YtjmakbnblpjkhaaGreatDoor
open Go.RowKit Go
variable [GC]
theorem take_snoc {α : Type} [Inhabited α] (l : List α) {k : Nat} (h : k < l.length) : l.take (k + 1) = l.take k ++ [nth l k] := by
 rw [List.take_succ_eq_append_getElem h]
 simp [nth, List.getD_eq_getElem?_getD, List.getElem?_eq_getElem h]
def findO (l : List Entry) (s : ByteArray) : Option Nat := firstTo (fun k => decide ((nth l k).name = s)) l.length
def findI (l : List Entry) (s : ByteArray) : Int := match findO l s with | some k => k | none => -1
theorem c_impl_FindEntry (l : List Entry) (s : ByteArray) : Fun Tryz.prog 33 none [encS l, .str s] (.int .i64 (findI l s)) [] := by
 refine Fun.ofV vc_impl_FindEntry_ok ty_impl_FindEntry_ok rfl ?_ (fun hfit => ?_)
 ·exact ⟨ty_EntryS l, trivial, trivial⟩
 have hl : l.length ≤ 9223372036854775807 := fits_encS hfit.1
 unfold vc_impl_FindEntry
 refine den_for l.length (fun k => [.int .i64 k]) (fun k => ∀ i, i < k → decide ((nth l i).name = s) = false) rfl (by omega) ?_
 intro k hk hI _
 simp only [cA]
 refine den_ite (fun h2 => ?_) (fun h2 => ?_)
 ·simp only [E.den, dEq, iEq, sEq] at h2
  have h2 : k < l.length := by simp at h2; exact h2
  (refine den_cond (fun hg => ?_) ?_; (focus (simp only [gsH, gE, E.den, dEq, iEq, sEq] at hg ⊢; (try simp only [D.bool.injEq] at hg); (try simp only [D.bool.injEq]); grind)))
  refine den_ite (fun h3 => ?_) (fun h3 => ?_)
  ·simp only [E.den, dEq, iEq, sEq, row_Entry, cells_Entry] at h3
   refine den_ret ?_
   simp [E.den, findI, findO, firstTo_some (p := fun k => decide ((nth l k).name = s)) h3 hI h2]
  ·simp only [E.den, dEq, iEq, sEq, row_Entry, cells_Entry] at h3
   refine den_next h2 ?_ fun i hi => ?_
   ·simp only [E.den, dEq, iEq, sEq]
    rw [ar_add (by omega) (by omega)]; rfl
   ·rcases Nat.lt_or_ge i k with h | h
    ·exact hI i h
    ·obtain rfl : i = k := by omega
     exact h3
 ·simp only [E.den, dEq, iEq, sEq] at h2
  obtain rfl : k = l.length := by simp at h2; omega
  exact den_ret (by simp [E.den, findI, findO, firstTo_none hI])
theorem c_spec_FindEntry (l : List Entry) (s : ByteArray) : Fun Tryz.prog 25 none [encS l, .str s] (.int .i64 (findI l s)) [] := by
 refine Fun.ofV vc_spec_FindEntry_ok ty_spec_FindEntry_ok rfl ?_ (fun hfit => ?_)
 ·exact ⟨ty_EntryS l, trivial, trivial⟩
 have hl : l.length ≤ 9223372036854775807 := fits_encS hfit.1
 unfold vc_spec_FindEntry
 refine den_for l.length (fun k => [.int .i64 k]) (fun k => ∀ i, i < k → decide ((nth l i).name = s) = false) rfl (by omega) ?_
 intro k hk hI _
 simp only [cA]
 refine den_ite (fun h2 => ?_) (fun h2 => ?_)
 ·simp only [E.den, dEq, iEq, sEq] at h2
  have h2 : k < l.length := by simp at h2; exact h2
  (refine den_cond (fun hg => ?_) ?_; (focus (simp only [gsH, gE, E.den, dEq, iEq, sEq] at hg ⊢; (try simp only [D.bool.injEq] at hg); (try simp only [D.bool.injEq]); grind)))
  refine den_ite (fun h3 => ?_) (fun h3 => ?_)
  ·simp only [E.den, dEq, iEq, sEq, row_Entry, cells_Entry] at h3
   refine den_ret ?_
   simp [E.den, findI, findO, firstTo_some (p := fun k => decide ((nth l k).name = s)) h3 hI h2]
  ·simp only [E.den, dEq, iEq, sEq, row_Entry, cells_Entry] at h3
   refine den_next h2 ?_ fun i hi => ?_
   ·simp only [E.den, dEq, iEq, sEq]
    rw [ar_add (by omega) (by omega)]; rfl
   ·rcases Nat.lt_or_ge i k with h | h
    ·exact hI i h
    ·obtain rfl : i = k := by omega
     exact h3
 ·simp only [E.den, dEq, iEq, sEq] at h2
  obtain rfl : k = l.length := by simp at h2; omega
  exact den_ret (by simp [E.den, findI, findO, firstTo_none hI])
theorem bl_asymm : ∀ {a b : List UInt8}, Op.bytesLess a b = true → Op.bytesLess b a = false
 | [], [], h => by simp [Op.bytesLess] at h
 | [], _ :: _, _ => by simp [Op.bytesLess]
 | _ :: _, [], h => by simp [Op.bytesLess] at h
 | x :: a, y :: b, h => by
  simp only [Op.bytesLess] at h ⊢
  by_cases e : x = y
  ·subst e; simp at h ⊢; exact bl_asymm h
  ·have e' : ¬ y = x := fun h => e h.symm
   simp [e, e'] at h ⊢
   exact UInt8.le_of_lt h
theorem bl_total : ∀ {a b : List UInt8}, a ≠ b → Op.bytesLess a b = false → Op.bytesLess b a = true
 | [], [], h, _ => by simp at h
 | [], _ :: _, _, h => by simp [Op.bytesLess] at h
 | _ :: _, [], _, _ => by simp [Op.bytesLess]
 | x :: a, y :: b, hn, h => by
  simp only [Op.bytesLess] at h ⊢
  by_cases e : x = y
  ·subst e; simp at h hn ⊢; exact bl_total hn h
  ·have e' : ¬ y = x := fun h => e h.symm
   simp [e, e'] at h ⊢
   exact UInt8.lt_of_le_of_ne h e'
theorem ltB_asymm {a b : ByteArray} (h : ltB a b = true) : ltB b a = false := bl_asymm h
theorem ltB_total {a b : ByteArray} (hn : a ≠ b) (h : ltB a b = false) : ltB b a = true :=
 bl_total (fun e => hn (by have := toList_eqB a b; rw [e] at this; simpa using this.symm)) h
theorem firstTo_no {p : Nat → Bool} : ∀ {n : Nat}, firstTo p n = none → ∀ i, i < n → p i = false
 | 0, _, i, h => by omega
 | n + 1, h, i, hi => by
  simp only [firstTo] at h
  split at h
  ·cases h
  ·rename_i hn
   split at h
   ·cases h
   ·rename_i hp
    by_cases e : i = n
    ·subst e; simpa using hp
    ·exact firstTo_no hn i (by omega)
theorem findI_some {l : List Entry} {s : ByteArray} (h : 0 ≤ findI l s) : ∃ i : Nat, findI l s = (i : Int) ∧ i < l.length ∧ (nth l i).name = s := by
 unfold findI at h ⊢
 cases hf : findO l s with
 | none => rw [hf] at h; simp at h
 | some k =>
  obtain ⟨h1, h2, _⟩ := firstTo_lt hf
  exact ⟨k, rfl, h1, by simpa using h2⟩
end Go.Proofs.YtjmakbnblpjkhaaGreatDoor
/- Whether a list of texts has one; where it stands. -/
namespace Go.Proofs.YtjmakbnblpjkhaaGreatDoor
open Go.RowKit Go
variable [GC]
def hasB (l : List ByteArray) (s : ByteArray) : Bool := l.any fun t => decide (t = s)
theorem c_impl_hasText (l : List ByteArray) (s : ByteArray) : Fun Tryz.prog 35 none [encS l, .str s] (.bool (hasB l s)) [] := by
 refine Fun.ofV vc_impl_hasText_ok ty_impl_hasText_ok rfl ?_ (fun hfit => ?_)
 ·exact ⟨ty_strS l, trivial, trivial⟩
 have hl : l.length ≤ 9223372036854775807 := fits_encS hfit.1
 unfold vc_impl_hasText
 refine den_for l.length (fun k => [.int .i64 k]) (fun k => ∀ i, i < k → nth l i ≠ s) rfl (by omega) ?_
 intro k hk hI _
 simp only [cA]
 refine den_ite (fun h2 => ?_) (fun h2 => ?_)
 ·simp only [E.den, dEq, iEq, sEq] at h2
  have h2 : k < l.length := by simp at h2; exact h2
  (refine den_cond (fun hg => ?_) ?_; (focus (simp only [gsH, gE, E.den, dEq, iEq, sEq] at hg ⊢; (try simp only [D.bool.injEq] at hg); (try simp only [D.bool.injEq]); grind)))
  refine den_ite (fun h3 => ?_) (fun h3 => ?_)
  ·simp only [E.den, dEq, iEq, sEq, row_str, cells_str] at h3
   have hb : hasB l s = true := by
    unfold hasB; rw [List.any_eq_true]; refine ⟨s, ?_, by simp⟩
    have : nth l k = s := by grind
    rw [← this, nth, List.getD_eq_getElem?_getD, List.getElem?_eq_getElem h2]; simp
   exact den_ret (by simp [E.den, hb])
  ·simp only [E.den, dEq, iEq, sEq, row_str, cells_str] at h3
   refine den_next h2 ?_ fun i hi => ?_
   ·simp only [E.den, dEq, iEq, sEq]
    rw [ar_add (by omega) (by omega)]; rfl
   ·rcases Nat.lt_or_ge i k with h | h
    ·exact hI i h
    ·obtain rfl : i = k := by omega
     grind
 ·simp only [E.den, dEq, iEq, sEq] at h2
  obtain rfl : k = l.length := by simp at h2; omega
  have hb : hasB l s = false := by
   unfold hasB; rw [List.any_eq_false]; intro t h
   obtain ⟨i, hi, rfl⟩ := List.getElem_of_mem h
   have := hI i hi
   simpa [nth, List.getD_eq_getElem?_getD, hi] using this
  exact den_ret (by simp [E.den, hb])
theorem c_spec_l1HasText (l : List ByteArray) (s : ByteArray) : Fun Tryz.prog 27 none [encS l, .str s] (.bool (hasB l s)) [] := by
 refine Fun.ofV vc_spec_l1HasText_ok ty_spec_l1HasText_ok rfl ?_ (fun hfit => ?_)
 ·exact ⟨ty_strS l, trivial, trivial⟩
 have hl : l.length ≤ 9223372036854775807 := fits_encS hfit.1
 unfold vc_spec_l1HasText
 refine den_for l.length (fun k => [.int .i64 k]) (fun k => ∀ i, i < k → nth l i ≠ s) rfl (by omega) ?_
 intro k hk hI _
 simp only [cA]
 refine den_ite (fun h2 => ?_) (fun h2 => ?_)
 ·simp only [E.den, dEq, iEq, sEq] at h2
  have h2 : k < l.length := by simp at h2; exact h2
  (refine den_cond (fun hg => ?_) ?_; (focus (simp only [gsH, gE, E.den, dEq, iEq, sEq] at hg ⊢; (try simp only [D.bool.injEq] at hg); (try simp only [D.bool.injEq]); grind)))
  refine den_ite (fun h3 => ?_) (fun h3 => ?_)
  ·simp only [E.den, dEq, iEq, sEq, row_str, cells_str] at h3
   have hb : hasB l s = true := by
    unfold hasB; rw [List.any_eq_true]; refine ⟨s, ?_, by simp⟩
    have : nth l k = s := by grind
    rw [← this, nth, List.getD_eq_getElem?_getD, List.getElem?_eq_getElem h2]; simp
   exact den_ret (by simp [E.den, hb])
  ·simp only [E.den, dEq, iEq, sEq, row_str, cells_str] at h3
   refine den_next h2 ?_ fun i hi => ?_
   ·simp only [E.den, dEq, iEq, sEq]
    rw [ar_add (by omega) (by omega)]; rfl
   ·rcases Nat.lt_or_ge i k with h | h
    ·exact hI i h
    ·obtain rfl : i = k := by omega
     grind
 ·simp only [E.den, dEq, iEq, sEq] at h2
  obtain rfl : k = l.length := by simp at h2; omega
  have hb : hasB l s = false := by
   unfold hasB; rw [List.any_eq_false]; intro t h
   obtain ⟨i, hi, rfl⟩ := List.getElem_of_mem h
   have := hI i hi
   simpa [nth, List.getD_eq_getElem?_getD, hi] using this
  exact den_ret (by simp [E.den, hb])
end Go.Proofs.YtjmakbnblpjkhaaGreatDoor
/- Reaching, being stuck, the order of the start: what holds of them. No program in sight but the entries' data. -/
namespace Go.Proofs.YtjmakbnblpjkhaaGreatDoor
open Go.RowKit Go
variable [GC]
theorem needS_lt {l : List Entry} {a c : Nat} (h : needS l a c = true) : c < l.length := by
 unfold needS needTo at h
 obtain ⟨k, _, hk⟩ := anyT_iff.1 h
 exact prv_lt (by simpa using hk)
theorem reach_way {l : List Entry} {a b : Nat} (ha : a < l.length) (hb : b < l.length) : reachS l a b = true ↔ Way (needS l) l.length a b := fwK_spec _ _ _ (Nat.le_refl _) a b ha hb
theorem reach_trans {l : List Entry} {a b c : Nat} (ha : a < l.length) (hb : b < l.length) (hc : c < l.length) (h1 : reachS l a b = true) (h2 : reachS l b c = true) : reachS l a c = true :=
 (reach_way ha hc).2 (.step hb ((reach_way ha hb).1 h1) ((reach_way hb hc).1 h2))
theorem reach_need {l : List Entry} {a c : Nat} (ha : a < l.length) (h : needS l a c = true) : reachS l a c = true := (reach_way ha (needS_lt h)).2 (.edge h)
def badS (l : List Entry) (j : Nat) : Bool := missS l j || reachS l j j
def stuckS (l : List Entry) (i : Nat) : Bool := badS l i || anyT (fun j => reachS l i j && badS l j) l.length
/-! The order of the start -/
def readyB (l : List Entry) (o : List Nat) (i : Nat) : Bool := !o.contains i && !missS l i && allTo (fun k => !needS l i k || o.contains k) l.length
def cnt (p : Nat → Bool) : Nat → Nat
 | 0 => 0
 | n + 1 => cnt p n + if p n then 1 else 0
/-! Names -/
theorem reg_parts {l : List Entry} (h : regB l = true) : l.length ≤ 6 ∧ ∀ k, k < l.length → entryAt l k = true := by
 unfold regB at h
 rw [Bool.and_eq_true, decide_eq_true_eq, allTo_iff] at h
 exact h
theorem bl_trans : ∀ {a b c : List UInt8}, Op.bytesLess a b = true → Op.bytesLess b c = true → Op.bytesLess a c = true
 | _, [], _, h, _ => by simp [Op.bytesLess] at h
 | _, _ :: _, [], _, h => by simp [Op.bytesLess] at h
 | [], _ :: _, _ :: _, _, _ => by simp [Op.bytesLess]
 | x :: a, y :: b, z :: c, h1, h2 => by
  have ih := @bl_trans a b c
  simp only [Op.bytesLess, Bool.or_eq_true, Bool.and_eq_true, decide_eq_true_eq, beq_iff_eq] at h1 h2 ⊢
  grind
theorem ltB_trans {a b c : ByteArray} (h1 : ltB a b = true) (h2 : ltB b c = true) : ltB a c = true := bl_trans h1 h2
theorem ltB_irrefl (a : ByteArray) : ltB a a = false := by
 cases h : ltB a a with
 | false => rfl
 | true => rw [ltB_asymm h] at h; cases h
theorem reg_lt {l : List Entry} (h : regB l = true) {i : Nat} : ∀ {j : Nat}, i < j → j < l.length → ltB (nth l i).name (nth l j).name = true
 | 0, hij, _ => by omega
 | j + 1, hij, hj => by
  have h1 := (reg_parts h).2 (j + 1) hj
  unfold entryAt at h1
  simp only [Bool.and_eq_true, Bool.or_eq_true] at h1
  have h2 : ltB (nth l j).name (nth l (j + 1)).name = true := by
   rcases h1.2 with h | h
   ·simp at h
   ·simpa using h
  rcases Nat.lt_or_ge i j with h3 | h3
  ·exact ltB_trans (reg_lt h h3 (by omega)) h2
  ·obtain rfl : i = j := by omega
   exact h2
theorem reg_inj {l : List Entry} (h : regB l = true) {i j : Nat} (hi : i < l.length) (hj : j < l.length) (e : (nth l i).name = (nth l j).name) : i = j := by
 rcases Nat.lt_trichotomy i j with h1 | h1 | h1
 ·have := reg_lt h h1 hj
  rw [e, ltB_irrefl] at this; cases this
 ·exact h1
 ·have := reg_lt h h1 hi
  rw [e, ltB_irrefl] at this; cases this
def namesTo (l : List Entry) (p : Nat → Bool) (k : Nat) : List ByteArray := ((List.range k).filter p).map fun i => (nth l i).name
def namesOf (l : List Entry) (p : Nat → Bool) : List ByteArray := namesTo l p l.length
theorem namesTo_succ (l : List Entry) (p : Nat → Bool) (k : Nat) : namesTo l p (k + 1) = if p k = true then namesTo l p k ++ [(nth l k).name] else namesTo l p k := by
 unfold namesTo
 rw [List.range_succ, List.filter_append, List.map_append]
 cases h : p k <;> simp [h]
theorem namesTo_len (l : List Entry) (p : Nat → Bool) (k : Nat) : (namesTo l p k).length ≤ k := by
 unfold namesTo
 rw [List.length_map]
 have := List.length_filter_le p (List.range k)
 simpa using this
theorem names_has {l : List Entry} (h : regB l = true) {p : Nat → Bool} {k : Nat} (hk : k < l.length) : hasB (namesOf l p) (nth l k).name = p k := by
 rw [Bool.eq_iff_iff]
 unfold hasB namesOf namesTo
 simp only [List.any_eq_true, List.mem_map, List.mem_filter, List.mem_range, decide_eq_true_eq]
 constructor
 ·rintro ⟨t, ⟨i, ⟨h1, h2⟩, rfl⟩, e⟩
  rw [← reg_inj h h1 hk e]; exact h2
 ·intro hp
  exact ⟨_, ⟨k, ⟨hk, hp⟩, rfl⟩, rfl⟩
end Go.Proofs.YtjmakbnblpjkhaaGreatDoor
/- Names of entries that something holds of: ascending lists; links; ways by links. No program in sight but the entries' data. -/
namespace Go.Proofs.YtjmakbnblpjkhaaGreatDoor
open Go.RowKit Go
variable [GC]
theorem ordB : Ord ltB := ⟨ltB_irrefl, ltB_trans, fun h hn => ltB_total hn h⟩
theorem names_mem {l : List Entry} {p : Nat → Bool} {x : ByteArray} : x ∈ namesOf l p ↔ ∃ i, i < l.length ∧ p i = true ∧ (nth l i).name = x := by
 unfold namesOf namesTo
 simp only [List.mem_map, List.mem_filter, List.mem_range, and_assoc]
theorem names_asc {l : List Entry} (h : regB l = true) (p : Nat → Bool) : Asc ltB (namesOf l p) := by
 unfold Asc namesOf namesTo
 rw [List.pairwise_map]
 refine List.Pairwise.imp_of_mem (R := fun a b => a < b) ?_ (List.Pairwise.filter _ List.pairwise_lt_range)
 intro a b ha hb hab
 simp only [List.mem_filter, List.mem_range] at ha hb
 exact reg_lt h hab hb.1
theorem names_congr {l : List Entry} {p q : Nat → Bool} (h : ∀ i, i < l.length → p i = q i) : namesOf l p = namesOf l q := by
 unfold namesOf namesTo
 congr 1
 exact List.filter_congr fun i hi => h i (by simpa using hi)
theorem names_none (l : List Entry) : namesOf l (fun _ => false) = [] := by
 unfold namesOf namesTo
 simp
theorem names_put {l : List Entry} (h : regB l = true) {p : Nat → Bool} {i : Nat} (hi : i < l.length) : putG ltB (namesOf l p) (nth l i).name = namesOf l (fun a => p a || decide (a = i)) := by
 refine asc_ext ordB (putG_asc ordB (names_asc h p) _) (names_asc h _) fun x => ?_
 rw [putG_mem, names_mem, names_mem]
 simp only [Bool.or_eq_true, decide_eq_true_eq]
 constructor
 ·rintro (⟨j, h1, h2, h3⟩ | rfl)
  ·exact ⟨j, h1, .inl h2, h3⟩
  ·exact ⟨i, hi, .inr rfl, rfl⟩
 ·rintro ⟨j, h1, h2 | rfl, h3⟩
  ·exact .inl ⟨j, h1, h2, h3⟩
  ·exact .inr h3.symm
/-! Links -/
def linkAt (l : List Entry) (a k : Nat) : Option Link := (prv l a k).map fun c => ⟨(nth l a).name, (nth l c).name, (nth (nth l a).needs k).face⟩
def linksOne (l : List Entry) (a j : Nat) : List Link := (List.range j).filterMap (linkAt l a)
def linksTo (l : List Entry) (i : Nat) : List Link := (List.range i).flatMap fun a => linksOne l a (nth l a).needs.length
def linksL (l : List Entry) : List Link := if regB l then linksTo l l.length else []
theorem linksOne_succ (l : List Entry) (a j : Nat) : linksOne l a (j + 1) = linksOne l a j ++ (linkAt l a j).toList := by
 unfold linksOne
 rw [List.range_succ, List.filterMap_append]
 cases h : linkAt l a j <;> simp [h]
theorem linksTo_succ (l : List Entry) (i : Nat) : linksTo l (i + 1) = linksTo l i ++ linksOne l i (nth l i).needs.length := by
 unfold linksTo
 rw [List.range_succ, List.flatMap_append]
 simp
theorem linksOne_len (l : List Entry) (a j : Nat) : (linksOne l a j).length ≤ j := by
 unfold linksOne
 have := List.length_filterMap_le (linkAt l a) (List.range j)
 simpa using this
theorem mem_linksOne {l : List Entry} {a j : Nat} {x : Link} : x ∈ linksOne l a j ↔ ∃ k, k < j ∧ linkAt l a k = some x := by
 unfold linksOne
 simp only [List.mem_filterMap, List.mem_range]
theorem mem_linksTo {l : List Entry} {i : Nat} {x : Link} : x ∈ linksTo l i ↔ ∃ a k, a < i ∧ k < (nth l a).needs.length ∧ linkAt l a k = some x := by
 unfold linksTo
 simp only [List.mem_flatMap, List.mem_range, mem_linksOne]
 constructor
 ·rintro ⟨a, h1, k, h2, h3⟩; exact ⟨a, k, h1, h2, h3⟩
 ·rintro ⟨a, k, h1, h2, h3⟩; exact ⟨a, h1, k, h2, h3⟩
theorem reg_needs {l : List Entry} (h : regB l = true) {a : Nat} (ha : a < l.length) : (nth l a).needs.length ≤ 3 := by
 have := (reg_parts h).2 a ha
 unfold entryAt entryB at this
 simp only [Bool.and_eq_true, decide_eq_true_eq] at this
 exact this.1.1.2
theorem reg_name {l : List Entry} (h : regB l = true) {a : Nat} (ha : a < l.length) : (nth l a).name ≠ noText := by
 have := (reg_parts h).2 a ha
 unfold entryAt entryB at this
 simp only [Bool.and_eq_true, decide_eq_true_eq] at this
 have h2 := this.1.1.1.1.2
 intro e
 rw [e] at h2
 exact absurd h2 (by decide)
theorem linksTo_len {l : List Entry} (h : regB l = true) : ∀ i, i ≤ l.length → (linksTo l i).length ≤ 3 * i
 | 0, _ => by simp [linksTo]
 | i + 1, hi => by
  rw [linksTo_succ, List.length_append]
  have h1 := linksTo_len h i (by omega)
  have h2 := linksOne_len l i (nth l i).needs.length
  have h3 := reg_needs h (a := i) (by omega)
  omega
theorem linksL_len (l : List Entry) : (linksL l).length ≤ 18 := by
 unfold linksL
 split
 ·rename_i h
  have := linksTo_len h l.length (Nat.le_refl _)
  have := (reg_parts h).1
  omega
 ·simp
theorem need_iff {l : List Entry} {a c : Nat} : needS l a c = true ↔ ∃ k, k < (nth l a).needs.length ∧ prv l a k = some c := by
 unfold needS needTo
 rw [anyT_iff]
 simp only [decide_eq_true_eq]
def lFrom (x : Link) (back : Bool) : ByteArray := if back then x.to else x.frm
def lTo (x : Link) (back : Bool) : ByteArray := if back then x.frm else x.to
def Edge (ls : List Link) (back : Bool) (a b : ByteArray) : Prop := ∃ x ∈ ls, lFrom x back = a ∧ lTo x back = b
theorem link_edge {l : List Entry} (h : regB l = true) {a b : ByteArray} : Edge (linksL l) false a b ↔ ∃ i c, i < l.length ∧ c < l.length ∧ needS l i c = true ∧ (nth l i).name = a ∧ (nth l c).name = b := by
 unfold Edge linksL
 rw [if_pos h]
 simp only [mem_linksTo, lFrom, lTo, Bool.false_eq_true, if_false]
 constructor
 ·rintro ⟨x, ⟨i, k, h1, h2, h3⟩, rfl, rfl⟩
  unfold linkAt at h3
  simp only [Option.map_eq_some_iff] at h3
  obtain ⟨c, h4, rfl⟩ := h3
  exact ⟨i, c, h1, prv_lt h4, need_iff.2 ⟨k, h2, h4⟩, rfl, rfl⟩
 ·rintro ⟨i, c, h1, h2, h3, rfl, rfl⟩
  obtain ⟨k, h4, h5⟩ := need_iff.1 h3
  exact ⟨_, ⟨i, k, h1, h4, by unfold linkAt; rw [h5]; rfl⟩, rfl, rfl⟩
inductive WayT (E : ByteArray → ByteArray → Prop) : ByteArray → ByteArray → Prop
 | edge {a b : ByteArray} (h : E a b) : WayT E a b
 | snoc {a b c : ByteArray} (h : WayT E a b) (e : E b c) : WayT E a c
theorem WayT.trans {E : ByteArray → ByteArray → Prop} {a b c : ByteArray} (h : WayT E a b) (h' : WayT E b c) : WayT E a c := by
 induction h' with
 | edge e => exact .snoc h e
 | snoc _ e ih => exact .snoc ih e
theorem way_links {l : List Entry} (h : regB l = true) {a b : ByteArray} : WayT (Edge (linksL l) false) a b ↔ ∃ i c, i < l.length ∧ c < l.length ∧ reachS l i c = true ∧ (nth l i).name = a ∧ (nth l c).name = b := by
 constructor
 ·intro hw
  induction hw with
  | edge e =>
   obtain ⟨i, c, h1, h2, h3, h4, h5⟩ := (link_edge h).1 e
   exact ⟨i, c, h1, h2, reach_need h1 h3, h4, h5⟩
  | snoc _ e ih =>
   obtain ⟨i, c, h1, h2, h3, h4, h5⟩ := ih
   obtain ⟨j, d, h6, h7, h8, h9, h10⟩ := (link_edge h).1 e
   have : j = c := reg_inj h h6 h2 (by rw [h9, h5])
   subst this
   exact ⟨i, d, h1, h7, reach_trans h1 h2 h7 h3 (reach_need h2 h8), h4, h10⟩
 ·rintro ⟨i, c, h1, h2, h3, rfl, rfl⟩
  have hw := (reach_way h1 h2).1 h3
  clear h3
  induction hw with
  | @edge a b hn => exact .edge ((link_edge h).2 ⟨a, b, h1, h2, hn, rfl, rfl⟩)
  | @step a m b hm hw1 hw2 ih1 ih2 => exact .trans (ih1 h1 hm) (ih2 hm h2)
theorem find_some {l : List Entry} (h : regB l = true) {k : Nat} (hk : k < l.length) : findO l (nth l k).name = some k := by
 unfold findO
 refine firstTo_some (by simp) (fun i hi => ?_) hk
 rw [decide_eq_false_iff_not]
 intro e
 have := reg_inj h (by omega) hk e
 omega
theorem find_none {l : List Entry} {s : ByteArray} (h : findO l s = none) {k : Nat} (hk : k < l.length) : (nth l k).name ≠ s := by
 unfold findO at h
 have := firstTo_no h k hk
 simpa using this
theorem find_is {l : List Entry} {s : ByteArray} {k : Nat} (h : findO l s = some k) : k < l.length ∧ (nth l k).name = s := by
 obtain ⟨h1, h2, _⟩ := firstTo_lt h
 exact ⟨h1, by simpa using h2⟩
/-! What the functions answer -/
def missN (l : List Entry) : List ByteArray := if regB l then namesOf l (missS l) else []
def reachN (l : List Entry) (s : ByteArray) : List ByteArray := if regB l then match findO l s with | some k => namesOf l (reachS l k) | none => [] else []
def stuckN (l : List Entry) : List ByteArray := if regB l then namesOf l (stuckS l) else []
theorem asc_nil : Asc ltB [] := List.Pairwise.nil
theorem links_bad {l : List Entry} (h : ¬ regB l = true) : linksL l = [] := by unfold linksL; rw [if_neg h]
theorem way_bad {back : Bool} {a b : ByteArray} : ¬ WayT (Edge [] back) a b := by
 intro h
 induction h with
 | edge e => obtain ⟨x, hx, _⟩ := e; simp at hx
 | snoc _ e _ => obtain ⟨x, hx, _⟩ := e; simp at hx
theorem reach_walk (l : List Entry) (s : ByteArray) : Asc ltB (reachN l s) ∧ ∀ x, x ∈ reachN l s ↔ WayT (Edge (linksL l) false) s x := by
 unfold reachN
 split
 ·rename_i h
  split
  ·rename_i k hk
   obtain ⟨h1, h2⟩ := find_is hk
   refine ⟨names_asc h _, fun x => ?_⟩
   rw [names_mem, way_links h]
   constructor
   ·rintro ⟨i, h3, h4, h5⟩; exact ⟨k, i, h1, h3, h4, h2, h5⟩
   ·rintro ⟨j, i, h3, h4, h5, h6, h7⟩
    have : j = k := reg_inj h h3 h1 (by rw [h6, h2])
    subst this
    exact ⟨i, h4, h5, h7⟩
  ·rename_i hk
   refine ⟨asc_nil, fun x => ?_⟩
   rw [way_links h]
   simp only [List.not_mem_nil, false_iff]
   rintro ⟨j, i, h3, h4, h5, h6, h7⟩
   exact find_none hk h3 h6
 ·rename_i h
  rw [links_bad h]
  exact ⟨asc_nil, fun x => by simp [way_bad]⟩
end Go.Proofs.YtjmakbnblpjkhaaGreatDoor
/- A registry of which the last need of the first stuck entry is taken away, until none is stuck. No program in sight but the entries' data. -/
namespace Go.Proofs.YtjmakbnblpjkhaaGreatDoor
open Go.RowKit Go
variable [GC]
def tot (l : List Entry) : Nat := (l.map fun e => e.needs.length).sum
end Go.Proofs.YtjmakbnblpjkhaaGreatDoor
/- Contracts: the names of entries that something holds of; who misses, reaches, needs, is stuck; the links; the order of the start: the program's side. -/
namespace Go.Proofs.YtjmakbnblpjkhaaGreatDoor
open Go.RowKit Go
variable [GC]
theorem nm_snoc (l : List ByteArray) (s : ByteArray) : D.sl (l.map Enc.cells ++ [[.str s]]) = encS (l ++ [s]) := by simp [encS, cells_str]
/-! What the wiring holds, typed -/
theorem tab_bool : tbl.tab 4 = [.bool] := by kernel_rfl
theorem tab_bools : tbl.tab 129 = [.sl 4] := by kernel_rfl
theorem ty_bRow (n : Nat) (f : Nat → Bool) : HasTy tbl.tab (.sl 4) (bRow n f) := by
 show RowsTy _ (tbl.tab _) _
 rw [tab_bool]
 refine RowsTy.of fun r hr => ?_
 unfold rowsOf at hr
 obtain ⟨a, _, rfl⟩ := List.mem_map.1 hr
 exact ⟨trivial, trivial⟩
theorem ty_bMat (n : Nat) (S : Nat → Nat → Bool) : HasTy tbl.tab (.sl 129) (bMat n S) := by
 show RowsTy _ (tbl.tab _) _
 rw [tab_bools]
 refine RowsTy.of fun r hr => ?_
 unfold rowsOf at hr
 obtain ⟨a, _, rfl⟩ := List.mem_map.1 hr
 exact ⟨ty_bRow _ _, trivial⟩
def wireC (l : List Entry) : List D := [bRow l.length (missS l), bMat l.length (needS l), bMat l.length (reachS l)]
theorem ty_wireC (l : List Entry) : RowTy tbl.tab [.sl 4, .sl 129, .sl 129] (wireC l) := ⟨ty_bRow _ _, ty_bMat _ _, ty_bMat _ _, trivial⟩
theorem ty_wireD (l : List Entry) : HasVT tbl.tab (.one (.agg [.sl 4, .sl 129, .sl 129])) (wireD l) := ty_wireC l
/-! The functions that are handed to it -/
end Go.Proofs.YtjmakbnblpjkhaaGreatDoor
/- Contracts: links, who is stuck, the order of the start: the program's side. -/
namespace Go.Proofs.YtjmakbnblpjkhaaGreatDoor
open Go.RowKit Go
variable [GC]
theorem provN_some {l : List Entry} {i j c : Nat} (h : prv l i j = some c) : provN l (nth l i).name (nth (nth l i).needs j) = (nth l c).name := by
 unfold provN
 rw [show provO l (nth l i).name (nth (nth l i).needs j) = some c from h]
theorem provN_none {l : List Entry} {i j : Nat} (h : prv l i j = none) : provN l (nth l i).name (nth (nth l i).needs j) = noText := by
 unfold provN
 rw [show provO l (nth l i).name (nth (nth l i).needs j) = none from h]
theorem links_some {l : List Entry} {i j c : Nat} (h : prv l i j = some c) : linksOne l i (j + 1) = linksOne l i j ++ [⟨(nth l i).name, (nth l c).name, (nth (nth l i).needs j).face⟩] := by
 rw [linksOne_succ]
 unfold linkAt
 rw [h]
 rfl
theorem links_none {l : List Entry} {i j : Nat} (h : prv l i j = none) : linksOne l i (j + 1) = linksOne l i j := by
 rw [linksOne_succ]
 unfold linkAt
 rw [h]
 simp
theorem links_few {l : List Entry} (hr : regB l = true) {i : Nat} (hi : i < l.length) (j : Nat) (hj : j ≤ (nth l i).needs.length) : (linksTo l i ++ linksOne l i j).length ≤ 100 := by
 have h1 := linksTo_len hr i (by omega)
 have h2 := linksOne_len l i j
 have h3 := reg_needs hr hi
 have h4 := (reg_parts hr).1
 rw [List.length_append]; omega
theorem link_snoc (a : List Link) (x : Link) (q : List Link) : D.sl (a.map Enc.cells ++ [[.str x.frm, .str x.to, .int .i64 x.face]]) = encS (a ++ [x]) := by simp [encS, cells_Link]
def stuckTo (l : List Entry) (i j : Nat) : Bool := badS l i || anyT (fun j => reachS l i j && badS l j) j
def sF (l : List Entry) (i a : Nat) : Bool := decide (a < i) && stuckS l a
def sG (l : List Entry) (i j a : Nat) : Bool := if a < i then stuckS l a else if a = i then stuckTo l i j else false
theorem c_impl_stuck (l : List Entry) (hl : l.length ≤ 1048576) : FunR Tryz.prog 84 none [wireD l] (bRow l.length (stuckS l)) [] [(0, 1)] := by
 refine FunR.ofV vc__impl_wiring__stuck_ok ty__impl_wiring__stuck_ok rt__impl_wiring__stuck_ok rfl ?_ (fun hfit => ?_)
 ·exact ⟨ty_wireD l, trivial⟩
 unfold vc__impl_wiring__stuck
 refine den_cond (fun _ => ?_) ?_
 ·simp only [E.den, dEq, iEq, sEq, wireD, bRow_len]; simp; omega
 refine den_for l.length (fun i => [.int .i64 i, bRow l.length (sF l i)]) (fun _ => True) ?_ trivial ?_
 ·simp only [E.den, dEq, iEq, sEq, wireD, bRow_len, zeroD]
  simp only [Int.toNat_natCast, List.map_cons, List.map_nil, zeroD, rowsOf_rep]
  rw [show bRow l.length (sF l 0) = bRow l.length (fun _ => false) from bRow_congr fun a _ => by simp [sF]]
  rfl
 intro i hi _ _
 simp only [cA]
 refine den_ite (fun h2 => ?_) (fun h2 => ?_)
 ·simp only [E.den, dEq, iEq, sEq, wireD, bRow_len, lenD_mem] at h2
  have h2 : i < l.length := by simp at h2; exact h2
  refine den_cond (fun _ => ?_) (den_cond (fun _ => ?_) (den_cond (fun _ => ?_) (den_cond (fun _ => ?_) ?_)))
  ·simp only [E.den, dEq, iEq, sEq, wireD, bRow_len]; simp; omega
  ·simp only [E.den, dEq, iEq, sEq, wireD, bMat_len]; simp; omega
  ·simp only [E.den, dEq, iEq, sEq, wireD, bMat_get h2, bRow_len]; simp; omega
  ·simp only [E.den, dEq, iEq, sEq, wireD, bRow_len, lenD_mem]; simp; omega
  refine den_for l.length (fun j => [.int .i64 j, bRow l.length (sG l i j)]) (fun _ => True) ?_ trivial ?_
  ·simp only [E.den, dEq, iEq, sEq, wireD, bRow_get h2, bMat_get h2, bRow_upd]
   rw [show bRow l.length (sG l i 0) = bRow l.length (fun a => if a = i then missS l i || reachS l i i else sF l i a) from bRow_congr fun a _ => by
    unfold sG sF
    by_cases e : a = i
    ·subst e; simp [stuckTo, badS, anyT]
    ·by_cases e2 : a < i <;> simp [e, e2]]
   rfl
  intro j hj _ _
  simp only [cA]
  refine den_ite (fun h3 => ?_) (fun h3 => ?_)
  ·simp only [E.den, dEq, iEq, sEq, wireD, bRow_len, lenD_mem] at h3
   have h3 : j < l.length := by simp at h3; exact h3
   refine den_cond (fun _ => ?_) (den_cond (fun _ => ?_) (den_cond (fun _ => ?_) (den_cond (fun _ => ?_) (den_cond (fun _ => ?_) (den_cond (fun _ => ?_) (den_cond (fun _ => ?_) ?_))))))
   ·simp only [E.den, dEq, iEq, sEq, wireD, bRow_len, lenD_mem]; simp; omega
   ·simp only [E.den, dEq, iEq, sEq, wireD, bMat_len]; simp; omega
   ·simp only [E.den, dEq, iEq, sEq, wireD, bMat_get h2, bRow_len]; simp; omega
   ·simp only [E.den, dEq, iEq, sEq, wireD, bRow_len]; simp; omega
   ·simp only [E.den, dEq, iEq, sEq, wireD, bMat_len]; simp; omega
   ·simp only [E.den, dEq, iEq, sEq, wireD, bMat_get h3, bRow_len]; simp; omega
   ·simp only [E.den, dEq, iEq, sEq, wireD, bRow_len, lenD_mem]; simp; omega
   refine den_next h3 ?_ trivial
   simp only [E.den, dEq, iEq, sEq, wireD, bRow_get h2, bRow_get h3, bMat_get h2, bMat_get h3, bRow_upd]
   rw [ar_add (by omega) (by omega), show bRow l.length (sG l i (j + 1)) = bRow l.length (fun a => if a = i then sG l i j i || (reachS l i j && (missS l j || reachS l j j)) else sG l i j a) from bRow_congr fun a _ => by
    unfold sG
    by_cases e : a = i
    ·subst e; simp [stuckTo, badS, anyT, Bool.or_assoc]
    ·simp [e]]
   rfl
  ·simp only [E.den, dEq, iEq, sEq, wireD, bRow_len, lenD_mem] at h3
   obtain rfl : j = l.length := by simp at h3; omega
   refine den_next1 h2 ?_ trivial
   simp only [E.den, dEq, iEq, sEq]
   rw [ar_add (by omega) (by omega), show bRow l.length (sG l i l.length) = bRow l.length (sF l (i + 1)) from bRow_congr fun a _ => by
    unfold sG sF
    by_cases e : a = i
    ·subst e; simp [stuckTo, stuckS]
    ·have : a < i + 1 ↔ a < i := by omega
     by_cases e2 : a < i <;> simp [e, e2, this]]
   rfl
 ·simp only [E.den, dEq, iEq, sEq, wireD, bRow_len, lenD_mem] at h2
  obtain rfl : i = l.length := by simp at h2; omega
  exact den_ret (by simp only [E.den, dEq, iEq, sEq]; exact bRow_congr fun a ha => by simp [sF, ha])
/-! The order of the start -/
def nx (l : List Entry) (o : List Nat) (i : Nat) : Int := match firstTo (readyB l o) i with | some j => j | none => -1
end Go.Proofs.YtjmakbnblpjkhaaGreatDoor
/- Contracts: a text put into ascending ones, links, who misses, what is reached by links: the reference's side. -/
namespace Go.Proofs.YtjmakbnblpjkhaaGreatDoor
open Go.RowKit Go
variable [GC]
abbrev putB (l : List ByteArray) (s : ByteArray) : List ByteArray := putG ltB l s
theorem nm_snoc2 (l : List ByteArray) (s t : ByteArray) : D.sl ((l.map Enc.cells ++ [[.str s]]) ++ [[.str t]]) = encS (l ++ [s] ++ [t]) := by simp [encS, cells_str]
theorem c_spec_l1Put (l : List ByteArray) (s : ByteArray) (hl : l.length ≤ 1048576) : FunR Tryz.prog 122 none [encS l, .str s] (encS (putB l s)) [] [(0, 1)] := by
 refine FunR.ofV vc_spec_l1Put_ok ty_spec_l1Put_ok rt_spec_l1Put_ok rfl ?_ (fun hfit => ?_)
 ·exact ⟨ty_strS l, trivial, trivial⟩
 unfold vc_spec_l1Put
 refine den_for l.length (fun k => [.bool (putK ltB l s k).2, encS (putK ltB l s k).1, .int .i64 k]) (fun _ => True) rfl trivial ?_
 intro k hk _ _
 simp only [cA]
 have hlen := putK_len (lt := ltB) l s k
 have hlen2 : (putK ltB l s k).1.length ≤ 1048577 := by split at hlen <;> omega
 refine den_ite (fun h2 => ?_) (fun h2 => ?_)
 ·simp only [E.den, dEq, iEq, sEq] at h2
  have h2 : k < l.length := by simp at h2; exact h2
  have hnth : l.getD k default = nth l k := rfl
  (refine den_cond (fun hg => ?_) ?_; (focus (simp only [gsH, gE, E.den, dEq, iEq, sEq] at hg ⊢; (try simp only [D.bool.injEq] at hg); (try simp only [D.bool.injEq]); grind)))
  refine den_ite (fun h3 => ?_) (fun h3 => ?_)
  ·simp only [E.den, dEq, iEq, sEq, row_str, cells_str] at h3
   have h3 : (putK ltB l s k).2 = false ∧ ltB (nth l k) s = false := by simpa using h3
   refine den_ite (fun h4 => ?_) (fun h4 => ?_)
   ·simp only [E.den, dEq, iEq, sEq, row_str, cells_str] at h4
    have h4 : ¬ nth l k = s := by simpa using h4
    refine den_cond (fun _ => ?_) (den_cond (fun _ => ?_) ?_)
    ·simp [E.den]; omega
    ·simp [E.den]; omega
    refine den_next h2 ?_ trivial
    simp only [E.den, dEq, iEq, sEq, row_str, cells_str]
    rw [ar_add (by omega) (by omega), nm_snoc2]
    simp only [putK, h3.1, hnth, h3.2, h4, Bool.false_eq_true, if_false]
    rfl
   ·simp only [E.den, dEq, iEq, sEq, row_str, cells_str] at h4
    have h4 : nth l k = s := by simpa using h4
    refine den_cond (fun _ => ?_) ?_
    ·simp [E.den]; omega
    refine den_next h2 ?_ trivial
    simp only [E.den, dEq, iEq, sEq, row_str, cells_str]
    rw [ar_add (by omega) (by omega), nm_snoc]
    have h5 := h3.2
    rw [h4] at h5
    simp only [putK, h3.1, hnth, h4, h5, Bool.false_eq_true, if_false, if_true]
    rfl
  ·simp only [E.den, dEq, iEq, sEq, row_str, cells_str] at h3
   refine den_cond (fun _ => ?_) ?_
   ·simp [E.den]; omega
   refine den_next h2 ?_ trivial
   simp only [E.den, dEq, iEq, sEq, row_str, cells_str]
   rw [ar_add (by omega) (by omega), nm_snoc]
   cases hd : (putK ltB l s k).2 with
   | true =>
    simp only [putK, hd, hnth, if_true]
    rfl
   | false =>
    have h5 : ltB (nth l k) s = true := by
     rw [hd] at h3; simpa using h3
    simp only [putK, hd, hnth, h5, Bool.false_eq_true, if_false, if_true]
    rfl
 ·simp only [E.den, dEq, iEq, sEq] at h2
  obtain rfl : k = l.length := by simp at h2; omega
  refine den_ite (fun h3 => ?_) (fun h3 => ?_)
  ·simp only [E.den, dEq, iEq, sEq] at h3
   have h3 : (putK ltB l s l.length).2 = false := by simpa using h3
   refine den_cond (fun _ => ?_) (den_ret ?_)
   ·simp [E.den]; omega
   ·simp only [E.den, dEq, iEq, sEq]
    rw [nm_snoc]
    unfold putB putG
    rw [h3]
    rfl
  ·simp only [E.den, dEq, iEq, sEq] at h3
   have h3 : (putK ltB l s l.length).2 = true := by simpa using h3
   refine den_ret ?_
   simp only [E.den, dEq, iEq, sEq]
   unfold putB putG
   rw [h3]
   rfl
theorem c_spec_LinksOf (l : List Entry) : FunR Tryz.prog 119 none [encS l] (encS (linksL l)) [] [(0, 3)] := by
 refine FunR.ofV vc_spec_LinksOf_ok ty_spec_LinksOf_ok rt_spec_LinksOf_ok rfl ?_ (fun hfit => ?_)
 ·exact ⟨ty_EntryS l, trivial⟩
 unfold vc_spec_LinksOf
 ((first | refine den_call ?_ (c_spec_IsRegistry l) (trivial) ?_ | refine den_callR ?_ (c_spec_IsRegistry l) (trivial) ?_ | refine den_call ?_ (.ofR (c_spec_IsRegistry l)) (trivial) ?_); (focus (simp only [VC.den, E.den, dEq, gsH_nil, and_true]; try exact rfl)); (simp only [cA]))
 refine den_ite (fun h => ?_) (fun h => ?_)
 ·simp only [E.den, dEq, iEq, sEq] at h
  have : regB l = false := by simpa using h
  exact den_ret (by simp [E.den, linksL, this, encS])
 simp only [E.den, dEq, iEq, sEq] at h
 have hr : regB l = true := by simpa using h
 have h6 := (reg_parts hr).1
 refine den_for l.length (fun i => [encS (linksTo l i), .int .i64 i]) (fun _ => True) rfl trivial ?_
 intro i hi _ _
 simp only [cA]
 refine den_ite (fun h2 => ?_) (fun h2 => ?_)
 ·simp only [E.den, dEq, iEq, sEq] at h2
  have h2 : i < l.length := by simp at h2; exact h2
  have h3n := reg_needs hr h2
  (refine den_cond (fun hg => ?_) ?_; (focus (simp only [gsH, gE, E.den, dEq, iEq, sEq] at hg ⊢; (try simp only [D.bool.injEq] at hg); (try simp only [D.bool.injEq]); grind)))
  refine den_for (nth l i).needs.length (fun j => [encS (linksTo l i ++ linksOne l i j), .int .i64 j]) (fun _ => True) ?_ trivial ?_
  ·simp only [E.den, dEq, iEq, sEq]; simp [linksOne]
  intro j hj _ _
  simp only [cA]
  have hfew := links_few hr h2 j hj
  refine den_ite (fun h3 => ?_) (fun h3 => ?_)
  ·simp only [E.den, dEq, iEq, sEq, row_Entry, cells_Entry] at h3
   have h3 : j < (nth l i).needs.length := by simp at h3; exact h3
   (refine den_cond (fun hg => ?_) ?_; (focus (simp only [gsH, gE, E.den, dEq, iEq, sEq, row_Entry, cells_Entry] at hg ⊢; (try simp only [D.bool.injEq] at hg); (try simp only [D.bool.injEq]); grind)))
   ((first | refine den_call ?_ (c_spec_ProviderOf l (nth l i).name (nth (nth l i).needs j)) (trivial) ?_ | refine den_callR ?_ (c_spec_ProviderOf l (nth l i).name (nth (nth l i).needs j)) (trivial) ?_ | refine den_call ?_ (.ofR (c_spec_ProviderOf l (nth l i).name (nth (nth l i).needs j))) (trivial) ?_); (focus (simp only [VC.den, E.den, dEq, gsH_nil, and_true, row_Entry, cells_Entry, row_Need, Int.toNat_natCast]; try exact rfl)); (simp only [cA]))
   cases hc : prv l i j with
   | none =>
    rw [provN_none hc]
    refine den_ite (fun h4 => ?_) (fun h4 => ?_)
    ·simp only [E.den, dEq, iEq, sEq] at h4
     simp [noText] at h4
    refine den_next h3 ?_ trivial
    simp only [E.den, dEq, iEq, sEq]
    rw [ar_add (by omega) (by omega), links_none hc]; rfl
   | some c =>
    rw [provN_some hc]
    have hcl := prv_lt hc
    refine den_ite (fun h4 => ?_) (fun h4 => ?_)
    ·refine den_cond (fun _ => ?_) ?_
     ·simp [E.den]; simp at hfew; omega
     refine den_next h3 ?_ trivial
     simp only [E.den, dEq, iEq, sEq, row_Entry, cells_Entry, row_Need, cells_Need]
     rw [ar_add (by omega) (by omega), links_some hc, ← List.append_assoc, ← link_snoc _ _ []]; rfl
    ·simp only [E.den, dEq, iEq, sEq] at h4
     have := reg_name hr hcl
     unfold noText at this
     simp [this] at h4
  ·simp only [E.den, dEq, iEq, sEq, row_Entry, cells_Entry] at h3
   obtain rfl : j = (nth l i).needs.length := by simp at h3; omega
   refine den_next1 h2 ?_ trivial
   simp only [E.den, dEq, iEq, sEq]
   rw [ar_add (by omega) (by omega), linksTo_succ]; rfl
 ·simp only [E.den, dEq, iEq, sEq] at h2
  obtain rfl : i = l.length := by simp at h2; omega
  exact den_ret (by simp [E.den, linksL, hr])
theorem names_len (l : List Entry) (p : Nat → Bool) : (namesOf l p).length ≤ l.length := namesTo_len l p l.length
theorem c_spec_MissingOf (l : List Entry) : FunR Tryz.prog 120 none [encS l] (encS (missN l)) [] [(0, 1)] := by
 refine FunR.ofV vc_spec_MissingOf_ok ty_spec_MissingOf_ok rt_spec_MissingOf_ok rfl ?_ (fun hfit => ?_)
 ·exact ⟨ty_EntryS l, trivial⟩
 unfold vc_spec_MissingOf
 ((first | refine den_call ?_ (c_spec_IsRegistry l) (trivial) ?_ | refine den_callR ?_ (c_spec_IsRegistry l) (trivial) ?_ | refine den_call ?_ (.ofR (c_spec_IsRegistry l)) (trivial) ?_); (focus (simp only [VC.den, E.den, dEq, gsH_nil, and_true]; try exact rfl)); (simp only [cA]))
 refine den_ite (fun h => ?_) (fun h => ?_)
 ·simp only [E.den, dEq, iEq, sEq] at h
  have : regB l = false := by simpa using h
  exact den_ret (by simp [E.den, missN, this, encS])
 simp only [E.den, dEq, iEq, sEq] at h
 have hr : regB l = true := by simpa using h
 have h6 := (reg_parts hr).1
 refine den_for l.length (fun i => [encS (namesOf l (mF l i)), .int .i64 i]) (fun _ => True) ?_ trivial ?_
 ·simp only [E.den, dEq, iEq, sEq]
  rw [show namesOf l (mF l 0) = [] by rw [← names_none l]; exact names_congr fun a _ => by simp [mF]]
  rfl
 intro i hi _ _
 simp only [cA]
 refine den_ite (fun h2 => ?_) (fun h2 => ?_)
 ·simp only [E.den, dEq, iEq, sEq] at h2
  have h2 : i < l.length := by simp at h2; exact h2
  have h3n := reg_needs hr h2
  (refine den_cond (fun hg => ?_) ?_; (focus (simp only [gsH, gE, E.den, dEq, iEq, sEq] at hg ⊢; (try simp only [D.bool.injEq] at hg); (try simp only [D.bool.injEq]); grind)))
  refine den_for (nth l i).needs.length (fun j => [encS (namesOf l (mG l i j)), .int .i64 j]) (fun _ => True) ?_ trivial ?_
  ·simp only [E.den, dEq, iEq, sEq]
   rw [show namesOf l (mG l i 0) = namesOf l (mF l i) from names_congr fun a _ => by
    unfold mF mG
    by_cases e : a = i
    ·subst e; simp [missTo, anyT]
    ·by_cases e2 : a < i <;> simp [e, e2]]
   rfl
  intro j hj _ _
  simp only [cA]
  refine den_ite (fun h3 => ?_) (fun h3 => ?_)
  ·simp only [E.den, dEq, iEq, sEq, row_Entry, cells_Entry] at h3
   have h3 : j < (nth l i).needs.length := by simp at h3; exact h3
   (refine den_cond (fun hg => ?_) ?_; (focus (simp only [gsH, gE, E.den, dEq, iEq, sEq, row_Entry, cells_Entry] at hg ⊢; (try simp only [D.bool.injEq] at hg); (try simp only [D.bool.injEq]); grind)))
   ((first | refine den_call ?_ (c_spec_ProviderOf l (nth l i).name (nth (nth l i).needs j)) (trivial) ?_ | refine den_callR ?_ (c_spec_ProviderOf l (nth l i).name (nth (nth l i).needs j)) (trivial) ?_ | refine den_call ?_ (.ofR (c_spec_ProviderOf l (nth l i).name (nth (nth l i).needs j))) (trivial) ?_); (focus (simp only [VC.den, E.den, dEq, gsH_nil, and_true, row_Entry, cells_Entry, row_Need, Int.toNat_natCast]; try exact rfl)); (simp only [cA]))
   have hnl := names_len l (mG l i j)
   cases hc : prv l i j with
   | none =>
    rw [provN_none hc]
    refine den_ite (fun h4 => ?_) (fun h4 => ?_)
    ·((first | refine den_call ?_ (c_spec_l1Put (namesOf l (mG l i j)) (nth l i).name (by omega)) (ty_strS _) ?_ | refine den_callR ?_ (c_spec_l1Put (namesOf l (mG l i j)) (nth l i).name (by omega)) (ty_strS _) ?_ | refine den_call ?_ (.ofR (c_spec_l1Put (namesOf l (mG l i j)) (nth l i).name (by omega))) (ty_strS _) ?_); (focus (simp only [VC.den, E.den, dEq, gsH_nil, and_true, row_Entry, cells_Entry]; try exact rfl)); (simp only [cA]))
     refine den_next h3 ?_ trivial
     simp only [E.den, dEq, iEq, sEq]
     rw [ar_add (by omega) (by omega)]
     show [encS (putG ltB (namesOf l (mG l i j)) (nth l i).name), _] = _
     rw [names_put hr h2, show namesOf l (mG l i (j + 1)) = namesOf l (fun a => mG l i j a || decide (a = i)) from names_congr fun a _ => by
      unfold mG
      by_cases e : a = i
      ·subst e; simp [missTo, anyT, hc]
      ·by_cases e2 : a < i <;> simp [e, e2]]
     rfl
    ·simp only [E.den, dEq, iEq, sEq] at h4
     simp [noText] at h4
   | some c =>
    rw [provN_some hc]
    have hcl := prv_lt hc
    refine den_ite (fun h4 => ?_) (fun h4 => ?_)
    ·simp only [E.den, dEq, iEq, sEq] at h4
     have := reg_name hr hcl
     unfold noText at this
     simp [this] at h4
    ·refine den_next h3 ?_ trivial
     simp only [E.den, dEq, iEq, sEq]
     rw [ar_add (by omega) (by omega), show namesOf l (mG l i (j + 1)) = namesOf l (mG l i j) from names_congr fun a _ => by
      unfold mG
      by_cases e : a = i
      ·subst e; simp [missTo, anyT, hc]
      ·simp [e]]
     rfl
  ·simp only [E.den, dEq, iEq, sEq, row_Entry, cells_Entry] at h3
   obtain rfl : j = (nth l i).needs.length := by simp at h3; omega
   refine den_next1 h2 ?_ trivial
   simp only [E.den, dEq, iEq, sEq]
   rw [ar_add (by omega) (by omega), show namesOf l (mG l i (nth l i).needs.length) = namesOf l (mF l (i + 1)) from names_congr fun a _ => by
    unfold mF mG
    by_cases e : a = i
    ·subst e; simp [missS]
    ·have : a < i + 1 ↔ a < i := by omega
     by_cases e2 : a < i <;> simp [e, e2, this]]
   rfl
 ·simp only [E.den, dEq, iEq, sEq] at h2
  obtain rfl : i = l.length := by simp at h2; omega
  refine den_ret ?_
  simp only [E.den, dEq, iEq, sEq]
  unfold missN
  rw [if_pos hr, names_congr fun a ha => show mF l l.length a = missS l a by simp [mF, ha]]
/-! What is reached by links -/
theorem nodup_len {α : Type} [DecidableEq α] : ∀ {a b : List α}, a.Nodup → (∀ x ∈ a, x ∈ b) → a.length ≤ b.length
 | [], b, _, _ => by simp
 | x :: a, b, hn, hs => by
  have hx : x ∈ b := hs x (by simp)
  rw [List.nodup_cons] at hn
  have := nodup_len (a := a) (b := b.erase x) hn.2 fun y hy => by
   have hne : y ≠ x := fun e => hn.1 (e ▸ hy)
   exact (List.mem_erase_of_ne hne).2 (hs y (by simp [hy]))
  rw [List.length_erase_of_mem hx] at this
  have hp : 0 < b.length := List.length_pos_of_mem hx
  simp only [List.length_cons]; omega
theorem way_to {ls : List Link} {back : Bool} {a b : ByteArray} (h : WayT (Edge ls back) a b) : b ∈ ls.map fun x => lTo x back := by
 have key : ∀ {a b}, Edge ls back a b → b ∈ ls.map fun x => lTo x back := by
  rintro a b ⟨x, hx, _, rfl⟩
  exact List.mem_map.2 ⟨x, hx, rfl⟩
 cases h with
 | edge e => exact key e
 | snoc _ e => exact key e
structure WI (ls : List Link) (back : Bool) (nm : ByteArray) (seen next : List ByteArray) : Prop where
 asc : Asc ltB seen
 way : ∀ x ∈ seen, WayT (Edge ls back) nm x
 nxt : ∀ x ∈ next, x = nm ∨ x ∈ seen
 cls : ∀ z, (z = nm ∨ z ∈ seen) → z ∈ next ∨ ∀ y, Edge ls back z y → y ∈ seen
 few : next.length ≤ seen.length + 1
theorem WI.len {ls : List Link} {back : Bool} {nm : ByteArray} {seen next : List ByteArray} (h : WI ls back nm seen next) : seen.length ≤ ls.length := by
 have := nodup_len (asc_nodup ordB h.asc) (b := ls.map fun x => lTo x back) fun x hx => way_to (h.way x hx)
 simpa using this
theorem WI.done {ls : List Link} {back : Bool} {nm : ByteArray} {seen : List ByteArray} (h : WI ls back nm seen []) (x : ByteArray) : x ∈ seen ↔ WayT (Edge ls back) nm x := by
 refine ⟨h.way x, fun hw => ?_⟩
 induction hw with
 | edge e =>
  rcases h.cls _ (.inl rfl) with h1 | h1
  ·simp at h1
  ·exact h1 _ e
 | snoc _ e ih =>
  rcases h.cls _ (.inr ih) with h1 | h1
  ·simp at h1
  ·exact h1 _ e
structure WJ (ls : List Link) (back : Bool) (nm t : ByteArray) (d : Nat) (seen next : List ByteArray) (j : Nat) : Prop where
 asc : Asc ltB seen
 way : ∀ x ∈ seen, WayT (Edge ls back) nm x
 nxt : ∀ x ∈ next, x = nm ∨ x ∈ seen
 cls : ∀ z, (z = nm ∨ z ∈ seen) → z ∈ next ∨ (z = t ∧ ∀ i, i < j → lFrom (nth ls i) back = t → lTo (nth ls i) back ∈ seen) ∨ ∀ y, Edge ls back z y → y ∈ seen
 few : next.length ≤ seen.length
 src : t = nm ∨ WayT (Edge ls back) nm t
 cnt : (ls.length - seen.length) + next.length ≤ d
 le : j ≤ ls.length
theorem WJ.len {ls : List Link} {back : Bool} {nm t : ByteArray} {d j : Nat} {seen next : List ByteArray} (h : WJ ls back nm t d seen next j) : seen.length ≤ ls.length := by
 have := nodup_len (asc_nodup ordB h.asc) (b := ls.map fun x => lTo x back) fun x hx => way_to (h.way x hx)
 simpa using this
theorem WI.start {ls : List Link} {back : Bool} {nm t : ByteArray} {seen next : List ByteArray} (h : WI ls back nm seen (t :: next)) : WJ ls back nm t (ls.length - seen.length + next.length) seen next 0 where
 asc := h.asc
 way := h.way
 nxt := fun x hx => h.nxt x (by simp [hx])
 cls := fun z hz => by
  rcases h.cls z hz with h1 | h1
  ·rcases List.mem_cons.1 h1 with rfl | h1
   ·exact .inr (.inl ⟨rfl, fun i hi => absurd hi (by omega)⟩)
   ·exact .inl h1
  ·exact .inr (.inr h1)
 few := by have := h.few; simp only [List.length_cons] at this; omega
 src := (h.nxt t (by simp)).imp id (h.way t)
 cnt := Nat.le_refl _
 le := Nat.zero_le _
theorem WJ.skip {ls : List Link} {back : Bool} {nm t : ByteArray} {d j : Nat} {seen next : List ByteArray} (h : WJ ls back nm t d seen next j) (hj : j < ls.length) (hs : lFrom (nth ls j) back = t → lTo (nth ls j) back ∈ seen) : WJ ls back nm t d seen next (j + 1) :=
 { h with
  le := hj
  cls := fun z hz => by
   rcases h.cls z hz with h1 | ⟨rfl, h1⟩ | h1
   ·exact .inl h1
   ·refine .inr (.inl ⟨rfl, fun i hi => ?_⟩)
    rcases Nat.lt_or_ge i j with h2 | h2
    ·exact h1 i h2
    ·obtain rfl : i = j := by omega
     exact hs
   ·exact .inr (.inr h1) }
theorem WJ.add {ls : List Link} {back : Bool} {nm t : ByteArray} {d j : Nat} {seen next : List ByteArray} (h : WJ ls back nm t d seen next j) (hj : j < ls.length) (hf : lFrom (nth ls j) back = t) (hn : lTo (nth ls j) back ∉ seen) :
  WJ ls back nm t d (putB seen (lTo (nth ls j) back)) (next ++ [lTo (nth ls j) back]) (j + 1) := by
 have he : Edge ls back t (lTo (nth ls j) back) := ⟨nth ls j, nth_mem hj, hf, rfl⟩
 have hw : WayT (Edge ls back) nm (lTo (nth ls j) back) := by
  rcases h.src with e | hw
  ·rw [e] at he; exact .edge he
  ·exact .snoc hw he
 generalize hs : lTo (nth ls j) back = s at *
 have hl : (putB seen s).length = seen.length + 1 := by
  have h1 := putG_len (lt := ltB) seen s
  have h2 := nodup_len (a := s :: seen) (b := putB seen s) (List.nodup_cons.2 ⟨hn, asc_nodup ordB h.asc⟩) fun x hx => by
   rw [putG_mem]
   rcases List.mem_cons.1 hx with rfl | hx
   ·exact .inr rfl
   ·exact .inl hx
  simp only [List.length_cons] at h2
  have h1 : (putB seen s).length ≤ seen.length + 1 := h1
  omega
 have hasc : Asc ltB (putB seen s) := putG_asc ordB h.asc s
 have hway : ∀ x ∈ putB seen s, WayT (Edge ls back) nm x := fun x hx => by
  rcases (putG_mem _ _ _).1 hx with hx | rfl
  ·exact h.way x hx
  ·exact hw
 have hle : (putB seen s).length ≤ ls.length := by
  have := nodup_len (asc_nodup ordB hasc) (b := ls.map fun x => lTo x back) fun x hx => way_to (hway x hx)
  simpa using this
 refine ⟨hasc, hway, fun x hx => ?_, fun z hz => ?_, ?_, h.src, ?_, hj⟩
 ·rw [putG_mem]
  rcases List.mem_append.1 hx with hx | hx
  ·exact (h.nxt x hx).imp id .inl
  ·simp at hx; exact .inr (.inr hx)
 ·have hz' : (z = nm ∨ z ∈ seen) ∨ z = s := by
   rcases hz with hz | hz
   ·exact .inl (.inl hz)
   ·rcases (putG_mem _ _ _).1 hz with hz | hz
    ·exact .inl (.inr hz)
    ·exact .inr hz
  rcases hz' with hz' | rfl
  ·rcases h.cls z hz' with h1 | ⟨rfl, h1⟩ | h1
   ·exact .inl (by simp [h1])
   ·refine .inr (.inl ⟨rfl, fun i hi hfi => ?_⟩)
    rw [putG_mem]
    rcases Nat.lt_or_ge i j with h2 | h2
    ·exact .inl (h1 i h2 hfi)
    ·obtain rfl : i = j := by omega
     exact .inr hs
   ·exact .inr (.inr fun y hy => (putG_mem _ _ _).2 (.inl (h1 y hy)))
  ·exact .inl (by simp)
 ·have := h.few
  rw [List.length_append, hl]; simp; omega
 ·have := h.cnt
  rw [List.length_append, hl]
  rw [hl] at hle
  simp only [List.length_cons, List.length_nil]
  omega
theorem WJ.done {ls : List Link} {back : Bool} {nm t : ByteArray} {d : Nat} {seen next : List ByteArray} (h : WJ ls back nm t d seen next ls.length) : WI ls back nm seen next where
 asc := h.asc
 way := h.way
 nxt := h.nxt
 cls := fun z hz => by
  rcases h.cls z hz with h1 | ⟨rfl, h1⟩ | h1
  ·exact .inl h1
  ·refine .inr ?_
   rintro y ⟨x, hx, h2, rfl⟩
   obtain ⟨i, hi, rfl⟩ := List.getElem_of_mem hx
   have e : nth ls i = ls[i] := by simp [nth, List.getD_eq_getElem?_getD, hi]
   have := h1 i hi (by rw [e]; exact h2)
   rwa [e] at this
  ·exact .inr h1
 few := by have := h.few; omega
structure WSt where
 seen : List ByteArray
 next : List ByteArray
structure WSu where
 seen : List ByteArray
 next : List ByteArray
 j : Nat
theorem cut_one (s : ByteArray) (l : List ByteArray) : cutD (encS (s :: l)) 1 (((s :: l).length : Nat) : Int) = encS l := by
 simp [cutD, encS]
 exact List.take_of_length_le (by simp)
theorem den_iteF {P : Program} {tab : Nat → List CT} {env : List D} {Q : D → List D → Prop} {L : List (List D → Prop)} {c : E} {a b : VC}
  (h : (c.den env).toB = false) (hb : b.den P tab env Q L) : (VC.ite c a b).den P tab env Q L := ⟨fun q => by rw [h] at q; exact Bool.noConfusion q, fun _ => hb⟩
theorem c_spec_l6Walk_false (ls : List Link) (nm : ByteArray) (S : List ByteArray) (hA : Asc ltB S) (hS : ∀ x, x ∈ S ↔ WayT (Edge ls false) nm x) (hl : ls.length ≤ 1000) : FunR Tryz.prog 121 none [encS ls, .str nm, .bool false] (encS S) [] [(0, 1)] := by
 refine FunR.ofV vc_spec_l6Walk_ok ty_spec_l6Walk_ok rt_spec_l6Walk_ok rfl ?_ (fun hfit => ?_)
 ·exact ⟨ty_LinkS ls, trivial, trivial, trivial⟩
 unfold vc_spec_l6Walk
 refine den_loop WSt (fun s => [encS s.seen, encS s.next]) (fun s => WI ls false nm s.seen s.next) (fun s => (ls.length - s.seen.length) + s.next.length) ⟨[], [nm]⟩ (fun s s' h => ?_) ?_ ?_ ?_
 ·simp only [List.cons.injEq] at h
  have h1 := congrArg lenD h.1
  have h2 := congrArg lenD h.2.1
  rw [encS_len, encS_len] at h1 h2
  omega
 ·simp only [E.den, dEq, iEq, sEq]
  simp [encS, cells_str]
 ·exact ⟨asc_nil, by simp, by simp, by simp, by simp⟩
 rintro ⟨seen, next⟩ hI _
 simp only at hI
 simp only [cA]
 have hsl := hI.len
 have hfw := hI.few
 refine den_ite (fun h2 => ?_) (fun h2 => ?_)
 ·simp only [E.den, dEq, iEq, sEq] at h2
  have h2 : 0 < next.length := by simp at h2; exact h2
  obtain ⟨t, next, rfl⟩ : ∃ t r, next = t :: r := by
   cases next with
   | nil => simp at h2
   | cons t r => exact ⟨t, r, rfl⟩
  simp only [List.length_cons] at hfw
  refine den_cond (fun _ => ?_) (den_cond (fun _ => ?_) ?_)
  ·simp only [E.den, dEq, iEq, sEq]; simp; (try omega)
  ·simp only [E.den, dEq, iEq, sEq]; simp; (try omega)
  have ht : nth (t :: next) 0 = t := rfl
  refine den_loop WSu (fun s => [encS s.seen, encS s.next, .int .i64 s.j]) (fun s => WJ ls false nm t (ls.length - seen.length + next.length) s.seen s.next s.j) (fun s => ls.length - s.j) ⟨seen, next, 0⟩ (fun s s' h => ?_) ?_ hI.start ?_
  ·simp at h; omega
  ·simp only [E.den, dEq, iEq, sEq]
   rw [cut_one]
   rfl
  rintro ⟨sn, nx, j⟩ hJ _
  simp only at hJ
  simp only [cA]
  have hsn := hJ.len
  have hfn := hJ.few
  have hjl := hJ.le
  refine den_ite (fun h3 => ?_) (fun h3 => ?_)
  ·simp only [E.den, dEq, iEq, sEq] at h3
   have h3 : j < ls.length := by simp at h3; exact h3
   (refine den_cond (fun hg => ?_) ?_; (focus (simp only [gsH, gE, E.den, dEq, iEq, sEq] at hg ⊢; (try simp only [D.bool.injEq] at hg); (try simp only [D.bool.injEq]); grind)))
   refine den_iteF rfl ?_
   ((first | refine den_call ?_ (c_spec_l1HasText sn (lTo (nth ls j) false)) (trivial) ?_ | refine den_callR ?_ (c_spec_l1HasText sn (lTo (nth ls j) false)) (trivial) ?_ | refine den_call ?_ (.ofR (c_spec_l1HasText sn (lTo (nth ls j) false))) (trivial) ?_); (focus (simp only [VC.den, E.den, dEq, gsH_nil, and_true, row_Link, cells_Link, lTo]; try exact rfl)); (simp only [cA]))
   refine den_ite (fun h4 => ?_) (fun h4 => ?_)
   ·simp only [E.den, dEq, iEq, sEq, row_Link, cells_Link, row_str, cells_str, Int.toNat_zero, ht] at h4
    have h4 : lFrom (nth ls j) false = t ∧ hasB sn (lTo (nth ls j) false) = false := by simpa [lFrom] using h4
    have hns : lTo (nth ls j) false ∉ sn := fun hm => by
     have : hasB sn (lTo (nth ls j) false) = true := by unfold hasB; rw [List.any_eq_true]; exact ⟨_, hm, by simp⟩
     rw [this] at h4; simp at h4
    ((first | refine den_call ?_ (c_spec_l1Put sn (lTo (nth ls j) false) (by omega)) (ty_strS _) ?_ | refine den_callR ?_ (c_spec_l1Put sn (lTo (nth ls j) false) (by omega)) (ty_strS _) ?_ | refine den_call ?_ (.ofR (c_spec_l1Put sn (lTo (nth ls j) false) (by omega))) (ty_strS _) ?_); (focus (simp only [VC.den, E.den, dEq, gsH_nil, and_true, row_Link, cells_Link, lTo]; try exact rfl)); (simp only [cA]))
    refine den_cond (fun _ => ?_) ?_
    ·simp [E.den]; omega
    refine den_again ⟨putB sn (lTo (nth ls j) false), nx ++ [lTo (nth ls j) false], j + 1⟩ ?_ (hJ.add h3 h4.1 hns) (by simp only; omega)
    simp only [E.den, dEq, iEq, sEq, row_Link, cells_Link]
    rw [ar_add (by omega) (by omega), nm_snoc]; rfl
   ·simp only [E.den, dEq, iEq, sEq, row_Link, cells_Link, row_str, cells_str, Int.toNat_zero, ht] at h4
    refine den_again ⟨sn, nx, j + 1⟩ ?_ (hJ.skip h3 fun hf => ?_) (by simp only; omega)
    ·simp only [E.den, dEq, iEq, sEq]
     rw [ar_add (by omega) (by omega)]; rfl
    ·have h5 : hasB sn (lTo (nth ls j) false) = true := by
      have hf' := hf
      simp only [lFrom, Bool.false_eq_true, if_false, if_true] at hf'
      simpa [hf'] using h4
     unfold hasB at h5
     rw [List.any_eq_true] at h5
     obtain ⟨x, hx, e⟩ := h5
     rw [decide_eq_true_eq] at e
     rw [← e]; exact hx
  ·simp only [E.den, dEq, iEq, sEq] at h3
   obtain rfl : j = ls.length := by simp at h3; omega
   refine ⟨⟨sn, nx⟩, rfl, hJ.done, ?_⟩
   have := hJ.cnt
   simp only [List.length_cons]; omega
 ·simp only [E.den, dEq, iEq, sEq] at h2
  obtain rfl : next = [] := by cases next <;> simp at h2 ⊢
  refine den_ret ?_
  simp only [E.den, dEq, iEq, sEq]
  rw [asc_ext ordB hI.asc hA fun x => (hI.done x).trans (hS x).symm]
end Go.Proofs.YtjmakbnblpjkhaaGreatDoor
/- Contracts: who is stuck, the order of the start: the reference's side. -/
namespace Go.Proofs.YtjmakbnblpjkhaaGreatDoor
open Go.RowKit Go
variable [GC]
theorem reachN_at {l : List Entry} (hr : regB l = true) {i : Nat} (hi : i < l.length) : reachN l (nth l i).name = namesOf l (reachS l i) := by
 unfold reachN
 rw [if_pos hr, find_some hr hi]
def bdF (l : List Entry) (i a : Nat) : Bool := missS l a || (decide (a < i) && reachS l a a)
theorem any_names {l : List Entry} (hr : regB l = true) {p q : Nat → Bool} : (namesOf l p).any (hasB (namesOf l q)) = anyT (fun j => p j && q j) l.length := by
 rw [Bool.eq_iff_iff, List.any_eq_true, anyT_iff]
 constructor
 ·rintro ⟨x, h1, h2⟩
  obtain ⟨j, h3, h4, rfl⟩ := names_mem.1 h1
  rw [names_has hr h3] at h2
  exact ⟨j, h3, by rw [h4, h2]; rfl⟩
 ·rintro ⟨j, h3, h4⟩
  rw [Bool.and_eq_true] at h4
  exact ⟨_, names_mem.2 ⟨j, h3, h4.1, rfl⟩, by rw [names_has hr h3]; exact h4.2⟩
theorem any_take {l : List ByteArray} {p : ByteArray → Bool} {k : Nat} (hk : k < l.length) : (l.take (k + 1)).any p = ((l.take k).any p || p (nth l k)) := by
 rw [take_snoc l hk, List.any_append]
 simp
theorem c_spec_StuckOf (l : List Entry) : FunR Tryz.prog 70 none [encS l] (encS (stuckN l)) [] [(0, 1)] := by
 refine FunR.ofV vc_spec_StuckOf_ok ty_spec_StuckOf_ok rt_spec_StuckOf_ok rfl ?_ (fun hfit => ?_)
 ·exact ⟨ty_EntryS l, trivial⟩
 unfold vc_spec_StuckOf
 ((first | refine den_call ?_ (c_spec_IsRegistry l) (trivial) ?_ | refine den_callR ?_ (c_spec_IsRegistry l) (trivial) ?_ | refine den_call ?_ (.ofR (c_spec_IsRegistry l)) (trivial) ?_); (focus (simp only [VC.den, E.den, dEq, gsH_nil, and_true]; try exact rfl)); (simp only [cA]))
 refine den_ite (fun h => ?_) (fun h => ?_)
 ·simp only [E.den, dEq, iEq, sEq] at h
  have : regB l = false := by simpa using h
  exact den_ret (by simp [E.den, stuckN, this, encS])
 simp only [E.den, dEq, iEq, sEq] at h
 have hr : regB l = true := by simpa using h
 have h6 := (reg_parts hr).1
 have hlk := linksL_len l
 ((first | refine den_call ?_ (c_spec_LinksOf l) (ty_LinkS _) ?_ | refine den_callR ?_ (c_spec_LinksOf l) (ty_LinkS _) ?_ | refine den_call ?_ (.ofR (c_spec_LinksOf l)) (ty_LinkS _) ?_); (focus (simp only [VC.den, E.den, dEq, gsH_nil, and_true]; try exact rfl)); (simp only [cA]))
 ((first | refine den_call ?_ (c_spec_MissingOf l) (ty_strS _) ?_ | refine den_callR ?_ (c_spec_MissingOf l) (ty_strS _) ?_ | refine den_call ?_ (.ofR (c_spec_MissingOf l)) (ty_strS _) ?_); (focus (simp only [VC.den, E.den, dEq, gsH_nil, and_true]; try exact rfl)); (simp only [cA]))
 refine den_for l.length (fun i => [encS (namesOf l (bdF l i)), .int .i64 i]) (fun _ => True) ?_ trivial ?_
 ·simp only [E.den, dEq, iEq, sEq]
  unfold missN
  rw [if_pos hr, names_congr fun a _ => show bdF l 0 a = missS l a by simp [bdF]]
  rfl
 intro i hi _ _
 simp only [cA]
 refine den_ite (fun h2 => ?_) (fun h2 => ?_)
 ·simp only [E.den, dEq, iEq, sEq] at h2
  have h2 : i < l.length := by simp at h2; exact h2
  have hnl := names_len l (bdF l i)
  (refine den_cond (fun hg => ?_) ?_; (focus (simp only [gsH, gE, E.den, dEq, iEq, sEq] at hg ⊢; (try simp only [D.bool.injEq] at hg); (try simp only [D.bool.injEq]); grind)))
  ((first | refine den_call ?_ (c_spec_l6Walk_false (linksL l) (nth l i).name _ (reach_walk l _).1 (reach_walk l _).2 (by omega)) (ty_strS _) ?_ | refine den_callR ?_ (c_spec_l6Walk_false (linksL l) (nth l i).name _ (reach_walk l _).1 (reach_walk l _).2 (by omega)) (ty_strS _) ?_ | refine den_call ?_ (.ofR (c_spec_l6Walk_false (linksL l) (nth l i).name _ (reach_walk l _).1 (reach_walk l _).2 (by omega))) (ty_strS _) ?_); (focus (simp only [VC.den, E.den, dEq, gsH_nil, and_true, row_Entry, cells_Entry]; try exact rfl)); (simp only [cA]))
  ((first | refine den_call ?_ (c_spec_l1HasText (reachN l (nth l i).name) (nth l i).name) (trivial) ?_ | refine den_callR ?_ (c_spec_l1HasText (reachN l (nth l i).name) (nth l i).name) (trivial) ?_ | refine den_call ?_ (.ofR (c_spec_l1HasText (reachN l (nth l i).name) (nth l i).name)) (trivial) ?_); (focus (simp only [VC.den, E.den, dEq, gsH_nil, and_true, row_Entry, cells_Entry]; try exact rfl)); (simp only [cA]))
  rw [reachN_at hr h2, names_has hr h2]
  refine den_ite (fun h3 => ?_) (fun h3 => ?_)
  ·simp only [E.den, dEq, iEq, sEq] at h3
   ((first | refine den_call ?_ (c_spec_l1Put (namesOf l (bdF l i)) (nth l i).name (by omega)) (ty_strS _) ?_ | refine den_callR ?_ (c_spec_l1Put (namesOf l (bdF l i)) (nth l i).name (by omega)) (ty_strS _) ?_ | refine den_call ?_ (.ofR (c_spec_l1Put (namesOf l (bdF l i)) (nth l i).name (by omega))) (ty_strS _) ?_); (focus (simp only [VC.den, E.den, dEq, gsH_nil, and_true, row_Entry, cells_Entry]; try exact rfl)); (simp only [cA]))
   refine den_next h2 ?_ trivial
   simp only [E.den, dEq, iEq, sEq]
   rw [ar_add (by omega) (by omega)]
   show [encS (putG ltB (namesOf l (bdF l i)) (nth l i).name), _] = _
   rw [names_put hr h2, names_congr fun a _ => show (bdF l i a || decide (a = i)) = bdF l (i + 1) a by
    unfold bdF
    by_cases e : a = i
    ·subst e; simp [h3]
    ·have : a < i + 1 ↔ a < i := by omega
     simp [e, this]]
   rfl
  ·simp only [E.den, dEq, iEq, sEq] at h3
   refine den_next h2 ?_ trivial
   simp only [E.den, dEq, iEq, sEq]
   rw [ar_add (by omega) (by omega), names_congr fun a _ => show bdF l i a = bdF l (i + 1) a by
    unfold bdF
    by_cases e : a = i
    ·subst e; simp [h3]
    ·have : a < i + 1 ↔ a < i := by omega
     simp [this]]
   rfl
 ·simp only [E.den, dEq, iEq, sEq] at h2
  obtain rfl : i = l.length := by simp at h2; omega
  have hbd : namesOf l (bdF l l.length) = namesOf l (badS l) := names_congr fun a ha => by simp [bdF, badS, ha]
  rw [hbd]
  refine den_for l.length (fun i => [encS (namesTo l (stuckS l) i), .int .i64 i]) (fun _ => True) rfl trivial ?_
  intro i hi _ _
  simp only [cA]
  have hnl := namesTo_len l (stuckS l) i
  refine den_ite (fun h3 => ?_) (fun h3 => ?_)
  ·simp only [E.den, dEq, iEq, sEq] at h3
   have h3 : i < l.length := by simp at h3; exact h3
   (refine den_cond (fun hg => ?_) ?_; (focus (simp only [gsH, gE, E.den, dEq, iEq, sEq] at hg ⊢; (try simp only [D.bool.injEq] at hg); (try simp only [D.bool.injEq]); grind)))
   ((first | refine den_call ?_ (c_spec_l1HasText (namesOf l (badS l)) (nth l i).name) (trivial) ?_ | refine den_callR ?_ (c_spec_l1HasText (namesOf l (badS l)) (nth l i).name) (trivial) ?_ | refine den_call ?_ (.ofR (c_spec_l1HasText (namesOf l (badS l)) (nth l i).name)) (trivial) ?_); (focus (simp only [VC.den, E.den, dEq, gsH_nil, and_true, row_Entry, cells_Entry]; try exact rfl)); (simp only [cA]))
   ((first | refine den_call ?_ (c_spec_l6Walk_false (linksL l) (nth l i).name _ (reach_walk l _).1 (reach_walk l _).2 (by omega)) (ty_strS _) ?_ | refine den_callR ?_ (c_spec_l6Walk_false (linksL l) (nth l i).name _ (reach_walk l _).1 (reach_walk l _).2 (by omega)) (ty_strS _) ?_ | refine den_call ?_ (.ofR (c_spec_l6Walk_false (linksL l) (nth l i).name _ (reach_walk l _).1 (reach_walk l _).2 (by omega))) (ty_strS _) ?_); (focus (simp only [VC.den, E.den, dEq, gsH_nil, and_true, row_Entry, cells_Entry]; try exact rfl)); (simp only [cA]))
   rw [reachN_at hr h3, names_has hr h3]
   have hrl := names_len l (reachS l i)
   have hany := any_names hr (p := reachS l i) (q := badS l)
   generalize hR : namesOf l (reachS l i) = R at hany hrl
   refine den_for R.length (fun j => [.bool (badS l i || (R.take j).any (hasB (namesOf l (badS l)))), .int .i64 j]) (fun _ => True) ?_ trivial ?_
   ·simp only [E.den, dEq, iEq, sEq]; simp
   intro j hj _ _
   simp only [cA]
   refine den_ite (fun h4 => ?_) (fun h4 => ?_)
   ·simp only [E.den, dEq, iEq, sEq] at h4
    have h4 : j < R.length := by simp at h4; exact h4
    (refine den_cond (fun hg => ?_) ?_; (focus (simp only [gsH, gE, E.den, dEq, iEq, sEq] at hg ⊢; (try simp only [D.bool.injEq] at hg); (try simp only [D.bool.injEq]); grind)))
    ((first | refine den_call ?_ (c_spec_l1HasText (namesOf l (badS l)) (nth R j)) (trivial) ?_ | refine den_callR ?_ (c_spec_l1HasText (namesOf l (badS l)) (nth R j)) (trivial) ?_ | refine den_call ?_ (.ofR (c_spec_l1HasText (namesOf l (badS l)) (nth R j))) (trivial) ?_); (focus (simp only [VC.den, E.den, dEq, gsH_nil, and_true, row_str, cells_str]; try exact rfl)); (simp only [cA]))
    refine den_next h4 ?_ trivial
    simp only [E.den, dEq, iEq, sEq]
    rw [ar_add (by omega) (by omega), any_take h4, ← Bool.or_assoc]; rfl
   ·simp only [E.den, dEq, iEq, sEq] at h4
    obtain rfl : j = R.length := by simp at h4; omega
    rw [List.take_length, hany]
    have hst : (badS l i || anyT (fun j => reachS l i j && badS l j) l.length) = stuckS l i := rfl
    rw [hst]
    refine den_ite (fun h5 => ?_) (fun h5 => ?_)
    ·simp only [E.den, dEq, iEq, sEq] at h5
     refine den_cond (fun _ => ?_) ?_
     ·simp [E.den]; omega
     refine den_next1 h3 ?_ trivial
     simp only [E.den, dEq, iEq, sEq, row_Entry, cells_Entry]
     rw [ar_add (by omega) (by omega), namesTo_succ, if_pos h5, nm_snoc]; rfl
    ·simp only [E.den, dEq, iEq, sEq] at h5
     refine den_next1 h3 ?_ trivial
     simp only [E.den, dEq, iEq, sEq]
     rw [ar_add (by omega) (by omega), namesTo_succ, if_neg (by simp [h5])]; rfl
  ·simp only [E.den, dEq, iEq, sEq] at h3
   obtain rfl : i = l.length := by simp at h3; omega
   refine den_ret ?_
   simp only [E.den, dEq, iEq, sEq]
   unfold stuckN
   rw [if_pos hr]; rfl
def readyL (ls : List Link) (nm : ByteArray) (done : List ByteArray) : Bool := allTo (fun k => !decide ((nth ls k).frm = nm) || hasB done (nth ls k).to) ls.length
theorem c_spec_l6Ready (ls : List Link) (nm : ByteArray) (done : List ByteArray) : Fun Tryz.prog 123 none [encS ls, .str nm, encS done] (.bool (readyL ls nm done)) [] := by
 refine Fun.ofV vc_spec_l6Ready_ok ty_spec_l6Ready_ok rfl ?_ (fun hfit => ?_)
 ·exact ⟨ty_LinkS ls, trivial, ty_strS done, trivial⟩
 have hl : ls.length ≤ 9223372036854775807 := fits_encS hfit.1
 unfold vc_spec_l6Ready
 refine den_for ls.length (fun k => [.int .i64 k]) (fun k => allTo (fun k => !decide ((nth ls k).frm = nm) || hasB done (nth ls k).to) k = true) rfl rfl ?_
 intro k hk hI _
 simp only [cA]
 refine den_ite (fun h2 => ?_) (fun h2 => ?_)
 ·simp only [E.den, dEq, iEq, sEq] at h2
  have h2 : k < ls.length := by simp at h2; exact h2
  (refine den_cond (fun hg => ?_) ?_; (focus (simp only [gsH, gE, E.den, dEq, iEq, sEq] at hg ⊢; (try simp only [D.bool.injEq] at hg); (try simp only [D.bool.injEq]); grind)))
  ((first | refine den_call ?_ (c_spec_l1HasText done (nth ls k).to) (trivial) ?_ | refine den_callR ?_ (c_spec_l1HasText done (nth ls k).to) (trivial) ?_ | refine den_call ?_ (.ofR (c_spec_l1HasText done (nth ls k).to)) (trivial) ?_); (focus (simp only [VC.den, E.den, dEq, gsH_nil, and_true, row_Link, cells_Link]; try exact rfl)); (simp only [cA]))
  refine den_ite (fun h3 => ?_) (fun h3 => ?_)
  ·simp only [E.den, dEq, iEq, sEq, row_Link, cells_Link] at h3
   have hb : (!decide ((nth ls k).frm = nm) || hasB done (nth ls k).to) = false := by grind
   refine den_ret ?_
   simp only [E.den, dEq, iEq, sEq]
   unfold readyL
   rw [allTo_bad h2 hb]
  ·simp only [E.den, dEq, iEq, sEq, row_Link, cells_Link] at h3
   have hb : (!decide ((nth ls k).frm = nm) || hasB done (nth ls k).to) = true := by grind
   refine den_next h2 ?_ ?_
   ·simp only [E.den, dEq, iEq, sEq]
    rw [ar_add (by omega) (by omega)]; rfl
   ·show (allTo _ k && _) = true
    rw [hI]; exact hb
 ·simp only [E.den, dEq, iEq, sEq] at h2
  obtain rfl : k = ls.length := by simp at h2; omega
  refine den_ret ?_
  simp only [E.den, dEq, iEq, sEq]
  unfold readyL
  rw [hI]
end Go.Proofs.YtjmakbnblpjkhaaGreatDoor
