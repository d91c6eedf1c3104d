/- Contract: who needs whom, the wiring of a registry, as the program reckons it. -/
import Derived.Test.YtimickglpboilaaGreatN15
import Derived.Test.YtimickglpboilaaGreatN4
import Derived.Test.YtimickglpboilaaGreatN12
import Derived.Test.YtimickglpboilaaGreatN0
import Derived.Still
import Derived.OrdersHeld
import Derived.NoCompiler
import Derived.Deep.RegionHeld
import Derived.Deep.LoopGhost
import Derived.Test.YtimickglpboilaaGreatN14
import Derived.Maps.AppendAt
import Derived.Deep.Upon
import Derived.Test.YtimickglpboilaaGreatN13
set_option linter.unusedVariables false
set_option linter.unusedSimpArgs false
set_option maxRecDepth 100000
set_option linter.unusedSectionVars false
namespace Go.Proofs.YtimickglpboilaaGreat
open Go.RowKit Go
variable [GC]
/-! Rows of one cell each, as data -/
def rowsOf (f : Nat → D) (n : Nat) : List (List D) := (List.range n).map fun a => [f a]
@[simp] theorem rowsOf_len (f : Nat → D) (n : Nat) : (rowsOf f n).length = n := by simp [rowsOf]
theorem rowsOf_get {f : Nat → D} {n i : Nat} (h : i < n) (z : List D) : ((rowsOf f n)[i]?).getD z = [f i] := by simp [rowsOf, h]
theorem rowsOf_congr {f g : Nat → D} {n : Nat} (h : ∀ a, a < n → f a = g a) : rowsOf f n = rowsOf g n := by
 unfold rowsOf
 exact List.map_congr_left fun a ha => by rw [h a (by simpa using ha)]
theorem rowsOf_rep (x : D) (n : Nat) : List.replicate n [x] = rowsOf (fun _ => x) n := by
 apply List.ext_getElem?
 intro i
 by_cases h : i < n
 ·simp [rowsOf, List.getElem?_replicate, h]
 ·rw [List.getElem?_eq_none (by simp; omega), List.getElem?_eq_none (by simp; omega)]
theorem rowsOf_upd (f : Nat → D) (n i : Nat) (x : D) : updR (rowsOf f n) i 0 [x] = rowsOf (fun a => if a = i then x else f a) n := by
 unfold updR
 apply List.ext_getElem?
 intro j
 rw [List.getElem?_set]
 by_cases hj : j < n
 ·by_cases e : i = j
  ·subst e
   simp [rowsOf, hj, List.getD, setL]
  ·rw [if_neg e]
   simp [rowsOf, hj]
   intro h; exact absurd h.symm e
 ·by_cases e : i = j
  ·subst e
   rw [if_pos rfl, if_neg (by simp; omega), List.getElem?_eq_none (by simp; omega)]
  ·rw [if_neg e, List.getElem?_eq_none (by simp; omega), List.getElem?_eq_none (by simp; omega)]
def bRow (n : Nat) (f : Nat → Bool) : D := .sl (rowsOf (fun j => .bool (f j)) n)
def bMat (n : Nat) (S : Nat → Nat → Bool) : D := .sl (rowsOf (fun i => bRow n (S i)) n)
theorem bRow_upd (n : Nat) (f : Nat → Bool) (i : Nat) (b : Bool) : D.sl (updR (bRow n f).toR i 0 [.bool b]) = bRow n (fun a => if a = i then b else f a) := by
 unfold bRow
 rw [D.toR_sl, rowsOf_upd]
 congr 1
 refine rowsOf_congr fun a _ => ?_
 show _ = D.bool (if a = i then b else f a)
 split <;> rfl
theorem bRow_congr {n : Nat} {f g : Nat → Bool} (h : ∀ a, a < n → f a = g a) : bRow n f = bRow n g := by
 unfold bRow
 rw [rowsOf_congr fun a ha => by rw [h a ha]]
theorem bRow_len (n : Nat) (f : Nat → Bool) : lenD (bRow n f) = n := by simp [bRow, lenD]
theorem bMat_len (n : Nat) (S : Nat → Nat → Bool) : lenD (bMat n S) = n := by simp [bMat, lenD]
theorem bRow_get {n : Nat} {f : Nat → Bool} {i : Nat} (h : i < n) (z : List D) : (((bRow n f).toR)[i]?).getD z = [.bool (f i)] := by
 unfold bRow
 rw [D.toR_sl, rowsOf_get h]
theorem bMat_get {n : Nat} {S : Nat → Nat → Bool} {i : Nat} (h : i < n) (z : List D) : (((bMat n S).toR)[i]?).getD z = [bRow n (S i)] := by
 unfold bMat
 rw [D.toR_sl, rowsOf_get h]
theorem bMat_congr {n : Nat} {S T : Nat → Nat → Bool} (h : ∀ a b, a < n → b < n → S a b = T a b) : bMat n S = bMat n T := by
 unfold bMat
 rw [rowsOf_congr fun a ha => bRow_congr fun b hb => h a b ha hb]
theorem bMat_upd (n : Nat) (S : Nat → Nat → Bool) (i : Nat) (f : Nat → Bool) : D.sl (updR (bMat n S).toR i 0 [bRow n f]) = bMat n (fun a b => if a = i then f b else S a b) := by
 unfold bMat
 rw [D.toR_sl, rowsOf_upd]
 congr 1
 refine rowsOf_congr fun a _ => ?_
 by_cases e : a = i <;> simp [e]
def anyT (p : Nat → Bool) : Nat → Bool
 | 0 => false
 | n + 1 => anyT p n || p n
theorem anyT_iff {p : Nat → Bool} : ∀ {n : Nat}, anyT p n = true ↔ ∃ k, k < n ∧ p k = true
 | 0 => by simp [anyT]
 | n + 1 => by
  simp only [anyT, Bool.or_eq_true, anyT_iff (n := n)]
  constructor
  ·rintro (⟨k, hk, h⟩ | h)
   ·exact ⟨k, by omega, h⟩
   ·exact ⟨n, by omega, h⟩
  ·rintro ⟨k, hk, h⟩
   by_cases e : k = n
   ·subst e; exact .inr h
   ·exact .inl ⟨k, by omega, h⟩
/-! Who needs whom -/
def prv (l : List Entry) (a k : Nat) : Option Nat := provO l (nth l a).name (nth (nth l a).needs k)
def needTo (l : List Entry) (a j c : Nat) : Bool := anyT (fun k => decide (prv l a k = some c)) j
def missTo (l : List Entry) (a j : Nat) : Bool := anyT (fun k => (prv l a k).isNone) j
def needS (l : List Entry) (a c : Nat) : Bool := needTo l a (nth l a).needs.length c
def missS (l : List Entry) (a : Nat) : Bool := missTo l a (nth l a).needs.length
def reachS (l : List Entry) : Nat → Nat → Bool := fwK l.length (needS l) l.length
def wireD (l : List Entry) : D := .agg [bRow l.length (missS l), bMat l.length (needS l), bMat l.length (reachS l)]
def nF (l : List Entry) (n i a : Nat) : D := if a < i then bRow n (needS l a) else .sl []
def mF (l : List Entry) (i a : Nat) : Bool := decide (a < i) && missS l a
def nG (l : List Entry) (n i j a : Nat) : D := if a < i then bRow n (needS l a) else if a = i then bRow n (needTo l i j) else .sl []
def mG (l : List Entry) (i j a : Nat) : Bool := if a < i then missS l a else if a = i then missTo l i j else false
theorem prv_lt {l : List Entry} {a k c : Nat} (h : prv l a k = some c) : c < l.length := (firstTo_lt h).1
theorem den_next1 {P : Program} {tab : Nat → List CT} {env : List D} {Q : D → List D → Prop} {L : List (List D → Prop)} {r : List D → Prop} {es : List E} {xs : List D} {p q : Prop}
  (hp : p) (h : es.map (·.den env) = xs) (hq : q) : (VC.again 1 es).den P tab env Q (r :: (fun ys => p ∧ ys = xs ∧ q) :: L) := ⟨hp, h, hq⟩
theorem c_impl_wire (l : List Entry) (h20 : l.length ≤ 1048576) : FunR Tryz.prog 52 none [encS l] (wireD l) [] [(0, 1), (1, 1), (2, 1)] := by
 refine FunR.ofV vc_impl_wire_ok ty_impl_wire_ok rt_impl_wire_ok rfl ?_ (fun hfit => ?_)
 ·exact ⟨ty_EntryS l, trivial⟩
 unfold vc_impl_wire
 have hfl := hfit.1
 refine den_cond (fun _ => ?_) (den_cond (fun _ => ?_) (den_cond (fun _ => ?_) ?_))
 ·simp only [E.den, dEq, iEq, sEq]; simp; omega
 ·simp only [E.den, dEq, iEq, sEq]; simp; omega
 ·simp only [E.den, dEq, iEq, sEq]; simp; omega
 refine den_for l.length (fun i => [.int .i64 i, .sl (rowsOf (nF l l.length i) l.length), .sl (rowsOf (nF l l.length i) l.length), bRow l.length (mF l i)]) (fun _ => True) ?_ trivial ?_
 ·simp only [E.den, dEq, iEq, sEq, zeroD]
  have e : ∀ x : D, List.replicate l.length [x] = rowsOf (fun _ => x) l.length := fun x => rowsOf_rep x _
  simp only [Int.toNat_natCast, List.map_cons, List.map_nil, zeroD, e]
  have e1 : rowsOf (nF l l.length 0) l.length = rowsOf (fun _ => .sl []) l.length := rowsOf_congr fun a _ => by simp [nF]
  have e2 : bRow l.length (mF l 0) = bRow l.length (fun _ => false) := bRow_congr fun a _ => by simp [mF]
  rw [e1, e2]
  rfl
 intro i hi _ _
 simp only [cA]
 refine den_ite (fun h2 => ?_) (fun h2 => ?_)
 ·simp only [E.den, dEq, iEq, sEq] at h2
  have h2 : i < l.length := by simp at h2; exact h2
  have hnl : (nth l i).needs.length ≤ 9223372036854775807 := fits_encS (fits_nth hfl h2).2.2.2.2.1
  (refine den_cond (fun hg => ?_) ?_; (focus (simp only [gsH, gE, E.den, dEq, iEq, sEq] at hg ⊢; (try simp only [D.bool.injEq] at hg); (try simp only [D.bool.injEq]); grind)))
  refine den_cond (fun _ => ?_) ?_
  ·simp only [E.den, dEq, iEq, sEq]; simp; omega
  refine den_cond (fun _ => ?_) ?_
  ·simp only [E.den, dEq, iEq, sEq, lenD_sl, lenD_mem]; simp; omega
  refine den_for (nth l i).needs.length (fun j => [.int .i64 j, .sl (rowsOf (nF l l.length i) l.length), .sl (rowsOf (nG l l.length i j) l.length), bRow l.length (mG l i j)]) (fun _ => True) ?_ trivial ?_
  ·simp only [E.den, dEq, iEq, sEq, zeroD]
   simp only [Int.toNat_natCast, List.map_cons, List.map_nil, zeroD, rowsOf_rep, rowsOf_upd]
   have e1 : rowsOf (fun a => if a = i then D.sl (rowsOf (fun _ => .bool false) l.length) else nF l l.length i a) l.length = rowsOf (nG l l.length i 0) l.length := rowsOf_congr fun a _ => by
    unfold nF nG
    by_cases e : a = i
    ·subst e; simp [needTo, anyT, bRow]
    ·simp [e]
   have e2 : bRow l.length (mF l i) = bRow l.length (mG l i 0) := bRow_congr fun a _ => by
    unfold mF mG missTo anyT
    by_cases e : a < i <;> simp [e]
   rw [e1, e2]
   rfl
  intro j hj _ _
  simp only [cA]
  have hgi : nG l l.length i j i = bRow l.length (needTo l i j) := by simp [nG]
  refine den_ite (fun h3 => ?_) (fun h3 => ?_)
  ·simp only [E.den, dEq, iEq, sEq, row_Entry, cells_Entry] at h3
   have h3 : j < (nth l i).needs.length := by simp at h3; exact h3
   (refine den_cond (fun hg => ?_) ?_; (focus (simp only [gsH, gE, E.den, dEq, iEq, sEq, row_Entry, cells_Entry] at hg ⊢; (try simp only [D.bool.injEq] at hg); (try simp only [D.bool.injEq]); grind)))
   ((first | refine den_call ?_ (c_impl_provider l (nth l i).name (nth (nth l i).needs j)) (rfl) ?_ | refine den_callR ?_ (c_impl_provider l (nth l i).name (nth (nth l i).needs j)) (rfl) ?_ | refine den_call ?_ (.ofR (c_impl_provider l (nth l i).name (nth (nth l i).needs j))) (rfl) ?_); (focus (simp only [VC.den, E.den, dEq, gsH_nil, and_true, row_Entry, cells_Entry, row_Need, Int.toNat_natCast]; try exact rfl)); (simp only [cA]))
   refine den_ite (fun h4 => ?_) (fun h4 => ?_)
   ·simp only [E.den, dEq, iEq, sEq] at h4
    obtain ⟨c, hc⟩ : ∃ c, prv l i j = some c := by
     cases hp : prv l i j with
     | some c => exact ⟨c, rfl⟩
     | none =>
      have : provI l (nth l i).name (nth (nth l i).needs j) = -1 := by
       unfold provI
       rw [show provO l (nth l i).name (nth (nth l i).needs j) = none from hp]
      rw [this] at h4; simp at h4
    have hcl := prv_lt hc
    have hpi : provI l (nth l i).name (nth (nth l i).needs j) = c := by
     unfold provI
     rw [show provO l (nth l i).name (nth (nth l i).needs j) = some c from hc]
    rw [hpi]
    refine den_cond (fun _ => ?_) ?_
    ·simp only [E.den, dEq, iEq, sEq, lenD_sl, lenD_mem]; simp; omega
    refine den_cond (fun _ => ?_) ?_
    ·simp only [E.den, dEq, iEq, sEq, rowsOf_get h2, hgi, bRow_len]
     simp only [Int.toNat_natCast, lenD]
     simp; omega
    refine den_next h3 ?_ trivial
    simp only [E.den, dEq, iEq, sEq, rowsOf_get h2, hgi, bRow_upd, rowsOf_upd]
    rw [ar_add (by omega) (by omega)]
    have e1 : rowsOf (fun a => if a = i then bRow l.length (fun b => if b = c then true else needTo l i j b) else nG l l.length i j a) l.length = rowsOf (nG l l.length i (j + 1)) l.length := rowsOf_congr fun a _ => by
     unfold nG
     by_cases e : a = i
     ·subst e
      simp only [if_true, Nat.lt_irrefl, if_false]
      refine bRow_congr fun b _ => ?_
      simp only [needTo, anyT, hc]
      by_cases e2 : b = c
      ·subst e2; simp
      ·have : ¬ (some c = some b) := fun h => e2 (by simpa using h.symm)
       simp [e2, this]
     ·simp [e]
    have e2 : bRow l.length (mG l i j) = bRow l.length (mG l i (j + 1)) := bRow_congr fun a _ => by
     unfold mG
     by_cases e : a = i
     ·subst e; simp [missTo, anyT, hc]
     ·simp [e]
    rw [e1, e2]
    rfl
   ·simp only [E.den, dEq, iEq, sEq] at h4
    have hc : prv l i j = none := by
     cases hp : prv l i j with
     | none => rfl
     | some c =>
      have : provI l (nth l i).name (nth (nth l i).needs j) = c := by
       unfold provI
       rw [show provO l (nth l i).name (nth (nth l i).needs j) = some c from hp]
      rw [this] at h4; simp at h4
    refine den_cond (fun _ => ?_) ?_
    ·simp only [E.den, dEq, iEq, sEq, lenD_sl, lenD_mem]; simp; omega
    refine den_next h3 ?_ trivial
    simp only [E.den, dEq, iEq, sEq, bRow_upd]
    rw [ar_add (by omega) (by omega)]
    have e1 : rowsOf (nG l l.length i j) l.length = rowsOf (nG l l.length i (j + 1)) l.length := rowsOf_congr fun a _ => by
     unfold nG
     by_cases e : a = i
     ·subst e
      simp only [if_true, Nat.lt_irrefl, if_false]
      refine bRow_congr fun b _ => ?_
      simp [needTo, anyT, hc]
     ·simp [e]
    have e2 : bRow l.length (fun a => if a = i then true else mG l i j a) = bRow l.length (mG l i (j + 1)) := bRow_congr fun a _ => by
     unfold mG
     by_cases e : a = i
     ·subst e; simp [missTo, anyT, hc]
     ·simp [e]
    rw [e1, e2]
    rfl
  ·simp only [E.den, dEq, iEq, sEq, row_Entry, cells_Entry] at h3
   obtain rfl : j = (nth l i).needs.length := by simp at h3; omega
   refine den_cond (fun _ => ?_) ?_
   ·simp only [E.den, dEq, iEq, sEq, lenD_sl, lenD_mem]; simp; omega
   refine den_cond (fun _ => ?_) ?_
   ·simp only [E.den, dEq, iEq, sEq, rowsOf_get h2, hgi, bRow_len]; simp; omega
   refine den_cond (fun _ => ?_) ?_
   ·simp only [E.den, dEq, iEq, sEq, lenD_sl, lenD_mem]; simp; omega
   refine den_next1 h2 ?_ trivial
   simp only [E.den, dEq, iEq, sEq, rowsOf_get h2, hgi, rowsOf_upd]
   rw [ar_add (by omega) (by omega)]
   have e1 : rowsOf (fun a => if a = i then bRow l.length (needTo l i (nth l i).needs.length) else nF l l.length i a) l.length = rowsOf (nF l l.length (i + 1)) l.length := rowsOf_congr fun a _ => by
    unfold nF
    by_cases e : a = i
    ·subst e; simp [needS]; rfl
    ·have : a < i + 1 ↔ a < i := by omega
     simp [e, this]
   have e2 : rowsOf (nG l l.length i (nth l i).needs.length) l.length = rowsOf (nF l l.length (i + 1)) l.length := rowsOf_congr fun a _ => by
    unfold nF nG
    by_cases e : a = i
    ·subst e; simp [needS]; rfl
    ·have : a < i + 1 ↔ a < i := by omega
     simp [e, this]
   have e3 : bRow l.length (mG l i (nth l i).needs.length) = bRow l.length (mF l (i + 1)) := bRow_congr fun a _ => by
    unfold mF mG
    by_cases e : a = i
    ·subst e; simp [missS]
    ·have : a < i + 1 ↔ a < i := by omega
     by_cases h : a < i <;> simp [e, this, h]
   rw [e1, e2, e3]
   rfl
 ·simp only [E.den, dEq, iEq, sEq] at h2
  obtain rfl : i = l.length := by simp at h2; omega
  have e1 : D.sl (rowsOf (nF l l.length l.length) l.length) = bMat l.length (needS l) := by
   unfold bMat
   rw [rowsOf_congr (g := fun i => bRow l.length (needS l i)) fun a ha => by simp [nF, ha]]
  have e2 : bRow l.length (mF l l.length) = bRow l.length (missS l) := bRow_congr fun a ha => by simp [mF, ha]
  rw [e1, e2]
  refine den_for l.length (fun k => [.int .i64 k, bMat l.length (fwK l.length (needS l) k), bMat l.length (needS l), bRow l.length (missS l)]) (fun _ => True) rfl trivial ?_
  intro k hk _ _
  simp only [cA]
  refine den_ite (fun h3 => ?_) (fun h3 => ?_)
  ·simp only [E.den, dEq, iEq, sEq] at h3
   have h3 : k < l.length := by simp at h3; exact h3
   refine den_for l.length (fun i => [.int .i64 i, bMat l.length (fwI l.length k (fwK l.length (needS l) k) i), bMat l.length (needS l), bRow l.length (missS l)]) (fun _ => True) rfl trivial ?_
   intro i hi2 _ _
   simp only [cA]
   refine den_ite (fun h4 => ?_) (fun h4 => ?_)
   ·simp only [E.den, dEq, iEq, sEq] at h4
    have h4 : i < l.length := by simp at h4; exact h4
    refine den_for l.length (fun j => [.int .i64 j, bMat l.length (fwJ k i (fwI l.length k (fwK l.length (needS l) k) i) j), bMat l.length (needS l), bRow l.length (missS l)]) (fun _ => True) rfl trivial ?_
    intro j hj2 _ _
    simp only [cA]
    refine den_ite (fun h5 => ?_) (fun h5 => ?_)
    ·simp only [E.den, dEq, iEq, sEq] at h5
     have h5 : j < l.length := by simp at h5; exact h5
     generalize hT : fwJ k i (fwI l.length k (fwK l.length (needS l) k) i) j = T
     have hs : fwJ k i (fwI l.length k (fwK l.length (needS l) k) i) (j + 1) = updM T i j (T i j || (T i k && T k j)) := by rw [← hT]; rfl
     refine den_cond (fun _ => ?_) (den_cond (fun _ => ?_) (den_cond (fun _ => ?_) (den_cond (fun _ => ?_) (den_cond (fun _ => ?_) (den_cond (fun _ => ?_) (den_cond (fun _ => ?_) (den_cond (fun _ => ?_) ?_)))))))
     ·simp only [E.den, dEq, iEq, sEq, lenD_sl, lenD_mem]; simp; omega
     ·simp only [E.den, dEq, iEq, sEq, lenD_sl, lenD_mem]; simp; omega
     ·simp only [E.den, dEq, iEq, sEq, bMat_get h4, bRow_len]; simp only [Int.toNat_natCast, lenD]; simp; omega
     ·simp only [E.den, dEq, iEq, sEq, lenD_sl, lenD_mem]; simp; omega
     ·simp only [E.den, dEq, iEq, sEq, bMat_get h4, bRow_len]; simp only [Int.toNat_natCast, lenD]; simp; omega
     ·simp only [E.den, dEq, iEq, sEq, lenD_sl, lenD_mem]; simp; omega
     ·simp only [E.den, dEq, iEq, sEq, bMat_get h3, bRow_len]; simp only [Int.toNat_natCast, lenD]; simp; omega
     ·simp only [E.den, dEq, iEq, sEq, bMat_get h4, bRow_len]; simp only [Int.toNat_natCast, lenD]; simp; omega
     refine den_next h5 ?_ trivial
     simp only [E.den, dEq, iEq, sEq, bMat_get h4, bMat_get h3, bRow_get h5, bRow_get h3, bRow_upd, bMat_upd]
     rw [ar_add (by omega) (by omega), hs]
     have e3 : bMat l.length (fun a b => if a = i then (if b = j then T i j || (T i k && T k j) else T i b) else T a b) = bMat l.length (updM T i j (T i j || (T i k && T k j))) := bMat_congr fun a b _ _ => by
      unfold updM
      by_cases e : a = i
      ·subst e; by_cases e4 : b = j <;> simp [e4]
      ·simp [e]
     rw [e3]
     rfl
    ·simp only [E.den, dEq, iEq, sEq] at h5
     obtain rfl : j = l.length := by simp at h5; omega
     refine den_next1 h4 ?_ trivial
     simp only [E.den, dEq, iEq, sEq]
     rw [ar_add (by omega) (by omega)]
     rfl
   ·simp only [E.den, dEq, iEq, sEq] at h4
    obtain rfl : i = l.length := by simp at h4; omega
    refine den_next1 h3 ?_ trivial
    simp only [E.den, dEq, iEq, sEq]
    rw [ar_add (by omega) (by omega)]
    rfl
  ·simp only [E.den, dEq, iEq, sEq] at h3
   obtain rfl : k = l.length := by simp at h3; omega
   exact den_ret rfl
end Go.Proofs.YtimickglpboilaaGreat
/- Registries: copies, finding, adding: what the program and the reference compute. -/
namespace Go.Proofs.YtimickglpboilaaGreat
open Go.RowKit Go
variable [GC]
def Entry.fit (e : Entry) : Prop := e.recipe.length ≤ 1048576 ∧ e.needs.length ≤ 1048576
theorem c_impl_copyTexts (l : List ByteArray) (h : l.length ≤ 1048576) : FunR Tryz.prog 88 none [encS l] (encS l) [] [(0, 1)] := by
 refine FunR.ofV vc_impl_copyTexts_ok ty_impl_copyTexts_ok rt_impl_copyTexts_ok rfl ?_ (fun hfit => ?_)
 ·exact ⟨ty_strS l, trivial⟩
 unfold vc_impl_copyTexts
 refine den_cond (fun _ => ?_) (den_ret ?_)
 ·simp [E.den]; omega
 ·simp [E.den, encS]
theorem c_spec_l1Texts (l : List ByteArray) (h : l.length ≤ 1048576) : FunR Tryz.prog 75 none [encS l] (encS l) [] [(0, 1)] := by
 refine FunR.ofV vc_spec_l1Texts_ok ty_spec_l1Texts_ok rt_spec_l1Texts_ok rfl ?_ (fun hfit => ?_)
 ·exact ⟨ty_strS l, trivial⟩
 unfold vc_spec_l1Texts
 refine den_cond (fun _ => ?_) (den_ret ?_)
 ·simp [E.den]; omega
 ·simp [E.den, encS]
theorem c_impl_copyEntry (e : Entry) (h : e.fit) : FunR Tryz.prog 56 none [enc e] (enc e) [] [(1, 1), (4, 4)] := by
 refine FunR.ofV vc_impl_copyEntry_ok ty_impl_copyEntry_ok rt_impl_copyEntry_ok rfl ?_ (fun hfit => ?_)
 ·exact ⟨ty_Entry e, trivial⟩
 unfold vc_impl_copyEntry
 ((first | refine den_call ?_ (c_impl_copyTexts e.recipe h.1) (ty_strS _) ?_ | refine den_callR ?_ (c_impl_copyTexts e.recipe h.1) (ty_strS _) ?_ | refine den_call ?_ (.ofR (c_impl_copyTexts e.recipe h.1)) (ty_strS _) ?_); (focus (simp only [VC.den, E.den, dEq, gsH_nil, and_true, cells_Entry]; try exact rfl)); (simp only [cA]))
 have h2 := h.2
 refine den_cond (fun _ => ?_) (den_ret ?_)
 ·simp [E.den, cells_Entry]; omega
 ·simp [E.den, cells_Entry, enc, encS]
theorem c_spec_l6Copy (e : Entry) (h : e.fit) : FunR Tryz.prog 44 none [enc e] (enc e) [] [(1, 1), (4, 4)] := by
 refine FunR.ofV vc_spec_l6Copy_ok ty_spec_l6Copy_ok rt_spec_l6Copy_ok rfl ?_ (fun hfit => ?_)
 ·exact ⟨ty_Entry e, trivial⟩
 unfold vc_spec_l6Copy
 ((first | refine den_call ?_ (c_spec_l1Texts e.recipe h.1) (ty_strS _) ?_ | refine den_callR ?_ (c_spec_l1Texts e.recipe h.1) (ty_strS _) ?_ | refine den_call ?_ (.ofR (c_spec_l1Texts e.recipe h.1)) (ty_strS _) ?_); (focus (simp only [VC.den, E.den, dEq, gsH_nil, and_true, cells_Entry]; try exact rfl)); (simp only [cA]))
 have h2 := h.2
 refine den_cond (fun _ => ?_) (den_ret ?_)
 ·simp [E.den, cells_Entry]; omega
 ·simp [E.den, cells_Entry, enc, encS]
theorem take_snoc {α : Type} [Inhabited α] (l : List α) {k : Nat} (h : k < l.length) : l.take (k + 1) = l.take k ++ [nth l k] := by
 rw [List.take_succ_eq_append_getElem h]
 simp [nth, List.getD_eq_getElem?_getD, List.getElem?_eq_getElem h]
theorem encS_snoc {α : Type} [Enc α] (l : List α) (x : α) : D.sl (l.map Enc.cells ++ [Enc.cells x]) = encS (l ++ [x]) := by simp [encS]
theorem c_spec_l6Copies (l : List Entry) (hl : l.length ≤ 1048576) (hf : ∀ e ∈ l, e.fit) : FunR Tryz.prog 16 none [encS l] (encS l) [] [(0, 5)] := by
 refine FunR.ofV vc_spec_l6Copies_ok ty_spec_l6Copies_ok rt_spec_l6Copies_ok rfl ?_ (fun hfit => ?_)
 ·exact ⟨ty_EntryS l, trivial⟩
 unfold vc_spec_l6Copies
 refine den_for l.length (fun k => [encS (l.take k), .int .i64 k]) (fun _ => True) rfl trivial ?_
 intro k hk _ _
 simp only [cA]
 refine den_ite (fun h2 => ?_) (fun h2 => ?_)
 ·simp only [E.den, dEq, iEq, sEq] at h2
  have h2 : k < l.length := by simp at h2; exact h2
  (refine den_cond (fun hg => ?_) ?_; (focus (simp only [gsH, gE, E.den, dEq, iEq, sEq] at hg ⊢; (try simp only [D.bool.injEq] at hg); (try simp only [D.bool.injEq]); grind)))
  ((first | refine den_call ?_ (c_spec_l6Copy (nth l k) (hf _ (nth_mem h2))) (ty_Entry _) ?_ | refine den_callR ?_ (c_spec_l6Copy (nth l k) (hf _ (nth_mem h2))) (ty_Entry _) ?_ | refine den_call ?_ (.ofR (c_spec_l6Copy (nth l k) (hf _ (nth_mem h2)))) (ty_Entry _) ?_); (focus (simp only [VC.den, E.den, dEq, gsH_nil, and_true, row_Entry, Int.toNat_natCast]; try exact rfl)); (simp only [cA]))
  refine den_cond (fun _ => ?_) ?_
  ·simp [E.den]; omega
  refine den_next h2 ?_ trivial
  simp only [E.den, dEq, iEq, sEq, List.nil_append]
  rw [ar_add (by omega) (by omega), encS_snoc, ← take_snoc l h2]; rfl
 ·simp only [E.den, dEq, iEq, sEq] at h2
  obtain rfl : k = l.length := by simp at h2; omega
  exact den_ret (by simp [E.den])
def findO (l : List Entry) (s : ByteArray) : Option Nat := firstTo (fun k => decide ((nth l k).name = s)) l.length
theorem bl_asymm : ∀ {a b : List UInt8}, Op.bytesLess a b = true → Op.bytesLess b a = false
 | [], [], h => by simp [Op.bytesLess] at h
 | [], _ :: _, _ => by simp [Op.bytesLess]
 | _ :: _, [], h => by simp [Op.bytesLess] at h
 | x :: a, y :: b, h => by
  simp only [Op.bytesLess] at h ⊢
  by_cases e : x = y
  ·subst e; simp at h ⊢; exact bl_asymm h
  ·have e' : ¬ y = x := fun h => e h.symm
   simp [e, e'] at h ⊢
   exact UInt8.le_of_lt h
theorem bl_total : ∀ {a b : List UInt8}, a ≠ b → Op.bytesLess a b = false → Op.bytesLess b a = true
 | [], [], h, _ => by simp at h
 | [], _ :: _, _, h => by simp [Op.bytesLess] at h
 | _ :: _, [], _, _ => by simp [Op.bytesLess]
 | x :: a, y :: b, hn, h => by
  simp only [Op.bytesLess] at h ⊢
  by_cases e : x = y
  ·subst e; simp at h hn ⊢; exact bl_total hn h
  ·have e' : ¬ y = x := fun h => e h.symm
   simp [e, e'] at h ⊢
   exact UInt8.lt_of_le_of_ne h e'
theorem ltB_asymm {a b : ByteArray} (h : ltB a b = true) : ltB b a = false := bl_asymm h
theorem ltB_total {a b : ByteArray} (hn : a ≠ b) (h : ltB a b = false) : ltB b a = true :=
 bl_total (fun e => hn (by have := toList_eqB a b; rw [e] at this; simpa using this.symm)) h
theorem firstTo_no {p : Nat → Bool} : ∀ {n : Nat}, firstTo p n = none → ∀ i, i < n → p i = false
 | 0, _, i, h => by omega
 | n + 1, h, i, hi => by
  simp only [firstTo] at h
  split at h
  ·cases h
  ·rename_i hn
   split at h
   ·cases h
   ·rename_i hp
    by_cases e : i = n
    ·subst e; simpa using hp
    ·exact firstTo_no hn i (by omega)
end Go.Proofs.YtimickglpboilaaGreat
/- Whether a list of texts has one; where it stands. -/
namespace Go.Proofs.YtimickglpboilaaGreat
open Go.RowKit Go
variable [GC]
def hasB (l : List ByteArray) (s : ByteArray) : Bool := l.any fun t => decide (t = s)
theorem c_spec_l1HasText (l : List ByteArray) (s : ByteArray) : Fun Tryz.prog 41 none [encS l, .str s] (.bool (hasB l s)) [] := by
 refine Fun.ofV vc_spec_l1HasText_ok ty_spec_l1HasText_ok rfl ?_ (fun hfit => ?_)
 ·exact ⟨ty_strS l, trivial, trivial⟩
 have hl : l.length ≤ 9223372036854775807 := fits_encS hfit.1
 unfold vc_spec_l1HasText
 refine den_for l.length (fun k => [.int .i64 k]) (fun k => ∀ i, i < k → nth l i ≠ s) rfl (by omega) ?_
 intro k hk hI _
 simp only [cA]
 refine den_ite (fun h2 => ?_) (fun h2 => ?_)
 ·simp only [E.den, dEq, iEq, sEq] at h2
  have h2 : k < l.length := by simp at h2; exact h2
  (refine den_cond (fun hg => ?_) ?_; (focus (simp only [gsH, gE, E.den, dEq, iEq, sEq] at hg ⊢; (try simp only [D.bool.injEq] at hg); (try simp only [D.bool.injEq]); grind)))
  refine den_ite (fun h3 => ?_) (fun h3 => ?_)
  ·simp only [E.den, dEq, iEq, sEq, row_str, cells_str] at h3
   have hb : hasB l s = true := by
    unfold hasB; rw [List.any_eq_true]; refine ⟨s, ?_, by simp⟩
    have : nth l k = s := by grind
    rw [← this, nth, List.getD_eq_getElem?_getD, List.getElem?_eq_getElem h2]; simp
   exact den_ret (by simp [E.den, hb])
  ·simp only [E.den, dEq, iEq, sEq, row_str, cells_str] at h3
   refine den_next h2 ?_ fun i hi => ?_
   ·simp only [E.den, dEq, iEq, sEq]
    rw [ar_add (by omega) (by omega)]; rfl
   ·rcases Nat.lt_or_ge i k with h | h
    ·exact hI i h
    ·obtain rfl : i = k := by omega
     grind
 ·simp only [E.den, dEq, iEq, sEq] at h2
  obtain rfl : k = l.length := by simp at h2; omega
  have hb : hasB l s = false := by
   unfold hasB; rw [List.any_eq_false]; intro t h
   obtain ⟨i, hi, rfl⟩ := List.getElem_of_mem h
   have := hI i hi
   simpa [nth, List.getD_eq_getElem?_getD, hi] using this
  exact den_ret (by simp [E.den, hb])
end Go.Proofs.YtimickglpboilaaGreat
/- Reaching, being stuck, the order of the start: what holds of them. No program in sight but the entries' data. -/
namespace Go.Proofs.YtimickglpboilaaGreat
open Go.RowKit Go
variable [GC]
theorem needS_lt {l : List Entry} {a c : Nat} (h : needS l a c = true) : c < l.length := by
 unfold needS needTo at h
 obtain ⟨k, _, hk⟩ := anyT_iff.1 h
 exact prv_lt (by simpa using hk)
theorem reach_way {l : List Entry} {a b : Nat} (ha : a < l.length) (hb : b < l.length) : reachS l a b = true ↔ Way (needS l) l.length a b := fwK_spec _ _ _ (Nat.le_refl _) a b ha hb
theorem reach_trans {l : List Entry} {a b c : Nat} (ha : a < l.length) (hb : b < l.length) (hc : c < l.length) (h1 : reachS l a b = true) (h2 : reachS l b c = true) : reachS l a c = true :=
 (reach_way ha hc).2 (.step hb ((reach_way ha hb).1 h1) ((reach_way hb hc).1 h2))
theorem reach_need {l : List Entry} {a c : Nat} (ha : a < l.length) (h : needS l a c = true) : reachS l a c = true := (reach_way ha (needS_lt h)).2 (.edge h)
def badS (l : List Entry) (j : Nat) : Bool := missS l j || reachS l j j
def stuckS (l : List Entry) (i : Nat) : Bool := badS l i || anyT (fun j => reachS l i j && badS l j) l.length
/-! The order of the start -/
def readyB (l : List Entry) (o : List Nat) (i : Nat) : Bool := !o.contains i && !missS l i && allTo (fun k => !needS l i k || o.contains k) l.length
def cnt (p : Nat → Bool) : Nat → Nat
 | 0 => 0
 | n + 1 => cnt p n + if p n then 1 else 0
/-! Names -/
theorem reg_parts {l : List Entry} (h : regB l = true) : l.length ≤ 6 ∧ ∀ k, k < l.length → entryAt l k = true := by
 unfold regB at h
 rw [Bool.and_eq_true, decide_eq_true_eq, allTo_iff] at h
 exact h
theorem bl_trans : ∀ {a b c : List UInt8}, Op.bytesLess a b = true → Op.bytesLess b c = true → Op.bytesLess a c = true
 | _, [], _, h, _ => by simp [Op.bytesLess] at h
 | _, _ :: _, [], _, h => by simp [Op.bytesLess] at h
 | [], _ :: _, _ :: _, _, _ => by simp [Op.bytesLess]
 | x :: a, y :: b, z :: c, h1, h2 => by
  have ih := @bl_trans a b c
  simp only [Op.bytesLess, Bool.or_eq_true, Bool.and_eq_true, decide_eq_true_eq, beq_iff_eq] at h1 h2 ⊢
  grind
theorem ltB_trans {a b c : ByteArray} (h1 : ltB a b = true) (h2 : ltB b c = true) : ltB a c = true := bl_trans h1 h2
theorem ltB_irrefl (a : ByteArray) : ltB a a = false := by
 cases h : ltB a a with
 | false => rfl
 | true => rw [ltB_asymm h] at h; cases h
theorem reg_lt {l : List Entry} (h : regB l = true) {i : Nat} : ∀ {j : Nat}, i < j → j < l.length → ltB (nth l i).name (nth l j).name = true
 | 0, hij, _ => by omega
 | j + 1, hij, hj => by
  have h1 := (reg_parts h).2 (j + 1) hj
  unfold entryAt at h1
  simp only [Bool.and_eq_true, Bool.or_eq_true] at h1
  have h2 : ltB (nth l j).name (nth l (j + 1)).name = true := by
   rcases h1.2 with h | h
   ·simp at h
   ·simpa using h
  rcases Nat.lt_or_ge i j with h3 | h3
  ·exact ltB_trans (reg_lt h h3 (by omega)) h2
  ·obtain rfl : i = j := by omega
   exact h2
theorem reg_inj {l : List Entry} (h : regB l = true) {i j : Nat} (hi : i < l.length) (hj : j < l.length) (e : (nth l i).name = (nth l j).name) : i = j := by
 rcases Nat.lt_trichotomy i j with h1 | h1 | h1
 ·have := reg_lt h h1 hj
  rw [e, ltB_irrefl] at this; cases this
 ·exact h1
 ·have := reg_lt h h1 hi
  rw [e, ltB_irrefl] at this; cases this
def namesTo (l : List Entry) (p : Nat → Bool) (k : Nat) : List ByteArray := ((List.range k).filter p).map fun i => (nth l i).name
def namesOf (l : List Entry) (p : Nat → Bool) : List ByteArray := namesTo l p l.length
theorem namesTo_succ (l : List Entry) (p : Nat → Bool) (k : Nat) : namesTo l p (k + 1) = if p k = true then namesTo l p k ++ [(nth l k).name] else namesTo l p k := by
 unfold namesTo
 rw [List.range_succ, List.filter_append, List.map_append]
 cases h : p k <;> simp [h]
theorem namesTo_len (l : List Entry) (p : Nat → Bool) (k : Nat) : (namesTo l p k).length ≤ k := by
 unfold namesTo
 rw [List.length_map]
 have := List.length_filter_le p (List.range k)
 simpa using this
theorem names_has {l : List Entry} (h : regB l = true) {p : Nat → Bool} {k : Nat} (hk : k < l.length) : hasB (namesOf l p) (nth l k).name = p k := by
 rw [Bool.eq_iff_iff]
 unfold hasB namesOf namesTo
 simp only [List.any_eq_true, List.mem_map, List.mem_filter, List.mem_range, decide_eq_true_eq]
 constructor
 ·rintro ⟨t, ⟨i, ⟨h1, h2⟩, rfl⟩, e⟩
  rw [← reg_inj h h1 hk e]; exact h2
 ·intro hp
  exact ⟨_, ⟨k, ⟨hk, hp⟩, rfl⟩, rfl⟩
end Go.Proofs.YtimickglpboilaaGreat
/- Names of entries that something holds of: ascending lists; links; ways by links. No program in sight but the entries' data. -/
namespace Go.Proofs.YtimickglpboilaaGreat
open Go.RowKit Go
variable [GC]
theorem ordB : Ord ltB := ⟨ltB_irrefl, ltB_trans, fun h hn => ltB_total hn h⟩
theorem names_mem {l : List Entry} {p : Nat → Bool} {x : ByteArray} : x ∈ namesOf l p ↔ ∃ i, i < l.length ∧ p i = true ∧ (nth l i).name = x := by
 unfold namesOf namesTo
 simp only [List.mem_map, List.mem_filter, List.mem_range, and_assoc]
theorem names_asc {l : List Entry} (h : regB l = true) (p : Nat → Bool) : Asc ltB (namesOf l p) := by
 unfold Asc namesOf namesTo
 rw [List.pairwise_map]
 refine List.Pairwise.imp_of_mem (R := fun a b => a < b) ?_ (List.Pairwise.filter _ List.pairwise_lt_range)
 intro a b ha hb hab
 simp only [List.mem_filter, List.mem_range] at ha hb
 exact reg_lt h hab hb.1
theorem names_congr {l : List Entry} {p q : Nat → Bool} (h : ∀ i, i < l.length → p i = q i) : namesOf l p = namesOf l q := by
 unfold namesOf namesTo
 congr 1
 exact List.filter_congr fun i hi => h i (by simpa using hi)
theorem names_none (l : List Entry) : namesOf l (fun _ => false) = [] := by
 unfold namesOf namesTo
 simp
theorem names_put {l : List Entry} (h : regB l = true) {p : Nat → Bool} {i : Nat} (hi : i < l.length) : putG ltB (namesOf l p) (nth l i).name = namesOf l (fun a => p a || decide (a = i)) := by
 refine asc_ext ordB (putG_asc ordB (names_asc h p) _) (names_asc h _) fun x => ?_
 rw [putG_mem, names_mem, names_mem]
 simp only [Bool.or_eq_true, decide_eq_true_eq]
 constructor
 ·rintro (⟨j, h1, h2, h3⟩ | rfl)
  ·exact ⟨j, h1, .inl h2, h3⟩
  ·exact ⟨i, hi, .inr rfl, rfl⟩
 ·rintro ⟨j, h1, h2 | rfl, h3⟩
  ·exact .inl ⟨j, h1, h2, h3⟩
  ·exact .inr h3.symm
/-! Links -/
def linkAt (l : List Entry) (a k : Nat) : Option Link := (prv l a k).map fun c => ⟨(nth l a).name, (nth l c).name, (nth (nth l a).needs k).face⟩
def linksOne (l : List Entry) (a j : Nat) : List Link := (List.range j).filterMap (linkAt l a)
def linksTo (l : List Entry) (i : Nat) : List Link := (List.range i).flatMap fun a => linksOne l a (nth l a).needs.length
def linksL (l : List Entry) : List Link := if regB l then linksTo l l.length else []
theorem linksOne_succ (l : List Entry) (a j : Nat) : linksOne l a (j + 1) = linksOne l a j ++ (linkAt l a j).toList := by
 unfold linksOne
 rw [List.range_succ, List.filterMap_append]
 cases h : linkAt l a j <;> simp [h]
theorem linksTo_succ (l : List Entry) (i : Nat) : linksTo l (i + 1) = linksTo l i ++ linksOne l i (nth l i).needs.length := by
 unfold linksTo
 rw [List.range_succ, List.flatMap_append]
 simp
theorem linksOne_len (l : List Entry) (a j : Nat) : (linksOne l a j).length ≤ j := by
 unfold linksOne
 have := List.length_filterMap_le (linkAt l a) (List.range j)
 simpa using this
theorem mem_linksOne {l : List Entry} {a j : Nat} {x : Link} : x ∈ linksOne l a j ↔ ∃ k, k < j ∧ linkAt l a k = some x := by
 unfold linksOne
 simp only [List.mem_filterMap, List.mem_range]
theorem mem_linksTo {l : List Entry} {i : Nat} {x : Link} : x ∈ linksTo l i ↔ ∃ a k, a < i ∧ k < (nth l a).needs.length ∧ linkAt l a k = some x := by
 unfold linksTo
 simp only [List.mem_flatMap, List.mem_range, mem_linksOne]
 constructor
 ·rintro ⟨a, h1, k, h2, h3⟩; exact ⟨a, k, h1, h2, h3⟩
 ·rintro ⟨a, k, h1, h2, h3⟩; exact ⟨a, h1, k, h2, h3⟩
theorem reg_needs {l : List Entry} (h : regB l = true) {a : Nat} (ha : a < l.length) : (nth l a).needs.length ≤ 3 := by
 have := (reg_parts h).2 a ha
 unfold entryAt entryB at this
 simp only [Bool.and_eq_true, decide_eq_true_eq] at this
 exact this.1.1.2
theorem reg_name {l : List Entry} (h : regB l = true) {a : Nat} (ha : a < l.length) : (nth l a).name ≠ noText := by
 have := (reg_parts h).2 a ha
 unfold entryAt entryB at this
 simp only [Bool.and_eq_true, decide_eq_true_eq] at this
 have h2 := this.1.1.1.1.2
 intro e
 rw [e] at h2
 exact absurd h2 (by decide)
theorem linksTo_len {l : List Entry} (h : regB l = true) : ∀ i, i ≤ l.length → (linksTo l i).length ≤ 3 * i
 | 0, _ => by simp [linksTo]
 | i + 1, hi => by
  rw [linksTo_succ, List.length_append]
  have h1 := linksTo_len h i (by omega)
  have h2 := linksOne_len l i (nth l i).needs.length
  have h3 := reg_needs h (a := i) (by omega)
  omega
theorem linksL_len (l : List Entry) : (linksL l).length ≤ 18 := by
 unfold linksL
 split
 ·rename_i h
  have := linksTo_len h l.length (Nat.le_refl _)
  have := (reg_parts h).1
  omega
 ·simp
theorem need_iff {l : List Entry} {a c : Nat} : needS l a c = true ↔ ∃ k, k < (nth l a).needs.length ∧ prv l a k = some c := by
 unfold needS needTo
 rw [anyT_iff]
 simp only [decide_eq_true_eq]
def lFrom (x : Link) (back : Bool) : ByteArray := if back then x.to else x.frm
def lTo (x : Link) (back : Bool) : ByteArray := if back then x.frm else x.to
def Edge (ls : List Link) (back : Bool) (a b : ByteArray) : Prop := ∃ x ∈ ls, lFrom x back = a ∧ lTo x back = b
theorem link_edge {l : List Entry} (h : regB l = true) {a b : ByteArray} : Edge (linksL l) false a b ↔ ∃ i c, i < l.length ∧ c < l.length ∧ needS l i c = true ∧ (nth l i).name = a ∧ (nth l c).name = b := by
 unfold Edge linksL
 rw [if_pos h]
 simp only [mem_linksTo, lFrom, lTo, Bool.false_eq_true, if_false]
 constructor
 ·rintro ⟨x, ⟨i, k, h1, h2, h3⟩, rfl, rfl⟩
  unfold linkAt at h3
  simp only [Option.map_eq_some_iff] at h3
  obtain ⟨c, h4, rfl⟩ := h3
  exact ⟨i, c, h1, prv_lt h4, need_iff.2 ⟨k, h2, h4⟩, rfl, rfl⟩
 ·rintro ⟨i, c, h1, h2, h3, rfl, rfl⟩
  obtain ⟨k, h4, h5⟩ := need_iff.1 h3
  exact ⟨_, ⟨i, k, h1, h4, by unfold linkAt; rw [h5]; rfl⟩, rfl, rfl⟩
inductive WayT (E : ByteArray → ByteArray → Prop) : ByteArray → ByteArray → Prop
 | edge {a b : ByteArray} (h : E a b) : WayT E a b
 | snoc {a b c : ByteArray} (h : WayT E a b) (e : E b c) : WayT E a c
theorem WayT.trans {E : ByteArray → ByteArray → Prop} {a b c : ByteArray} (h : WayT E a b) (h' : WayT E b c) : WayT E a c := by
 induction h' with
 | edge e => exact .snoc h e
 | snoc _ e ih => exact .snoc ih e
theorem way_links {l : List Entry} (h : regB l = true) {a b : ByteArray} : WayT (Edge (linksL l) false) a b ↔ ∃ i c, i < l.length ∧ c < l.length ∧ reachS l i c = true ∧ (nth l i).name = a ∧ (nth l c).name = b := by
 constructor
 ·intro hw
  induction hw with
  | edge e =>
   obtain ⟨i, c, h1, h2, h3, h4, h5⟩ := (link_edge h).1 e
   exact ⟨i, c, h1, h2, reach_need h1 h3, h4, h5⟩
  | snoc _ e ih =>
   obtain ⟨i, c, h1, h2, h3, h4, h5⟩ := ih
   obtain ⟨j, d, h6, h7, h8, h9, h10⟩ := (link_edge h).1 e
   have : j = c := reg_inj h h6 h2 (by rw [h9, h5])
   subst this
   exact ⟨i, d, h1, h7, reach_trans h1 h2 h7 h3 (reach_need h2 h8), h4, h10⟩
 ·rintro ⟨i, c, h1, h2, h3, rfl, rfl⟩
  have hw := (reach_way h1 h2).1 h3
  clear h3
  induction hw with
  | @edge a b hn => exact .edge ((link_edge h).2 ⟨a, b, h1, h2, hn, rfl, rfl⟩)
  | @step a m b hm hw1 hw2 ih1 ih2 => exact .trans (ih1 h1 hm) (ih2 hm h2)
theorem find_some {l : List Entry} (h : regB l = true) {k : Nat} (hk : k < l.length) : findO l (nth l k).name = some k := by
 unfold findO
 refine firstTo_some (by simp) (fun i hi => ?_) hk
 rw [decide_eq_false_iff_not]
 intro e
 have := reg_inj h (by omega) hk e
 omega
theorem find_none {l : List Entry} {s : ByteArray} (h : findO l s = none) {k : Nat} (hk : k < l.length) : (nth l k).name ≠ s := by
 unfold findO at h
 have := firstTo_no h k hk
 simpa using this
theorem find_is {l : List Entry} {s : ByteArray} {k : Nat} (h : findO l s = some k) : k < l.length ∧ (nth l k).name = s := by
 obtain ⟨h1, h2, _⟩ := firstTo_lt h
 exact ⟨h1, by simpa using h2⟩
/-! What the functions answer -/
def missN (l : List Entry) : List ByteArray := if regB l then namesOf l (missS l) else []
def reachN (l : List Entry) (s : ByteArray) : List ByteArray := if regB l then match findO l s with | some k => namesOf l (reachS l k) | none => [] else []
def stuckN (l : List Entry) : List ByteArray := if regB l then namesOf l (stuckS l) else []
theorem asc_nil : Asc ltB [] := List.Pairwise.nil
theorem links_bad {l : List Entry} (h : ¬ regB l = true) : linksL l = [] := by unfold linksL; rw [if_neg h]
theorem way_bad {back : Bool} {a b : ByteArray} : ¬ WayT (Edge [] back) a b := by
 intro h
 induction h with
 | edge e => obtain ⟨x, hx, _⟩ := e; simp at hx
 | snoc _ e _ => obtain ⟨x, hx, _⟩ := e; simp at hx
theorem reach_walk (l : List Entry) (s : ByteArray) : Asc ltB (reachN l s) ∧ ∀ x, x ∈ reachN l s ↔ WayT (Edge (linksL l) false) s x := by
 unfold reachN
 split
 ·rename_i h
  split
  ·rename_i k hk
   obtain ⟨h1, h2⟩ := find_is hk
   refine ⟨names_asc h _, fun x => ?_⟩
   rw [names_mem, way_links h]
   constructor
   ·rintro ⟨i, h3, h4, h5⟩; exact ⟨k, i, h1, h3, h4, h2, h5⟩
   ·rintro ⟨j, i, h3, h4, h5, h6, h7⟩
    have : j = k := reg_inj h h3 h1 (by rw [h6, h2])
    subst this
    exact ⟨i, h4, h5, h7⟩
  ·rename_i hk
   refine ⟨asc_nil, fun x => ?_⟩
   rw [way_links h]
   simp only [List.not_mem_nil, false_iff]
   rintro ⟨j, i, h3, h4, h5, h6, h7⟩
   exact find_none hk h3 h6
 ·rename_i h
  rw [links_bad h]
  exact ⟨asc_nil, fun x => by simp [way_bad]⟩
end Go.Proofs.YtimickglpboilaaGreat
/- A registry of which the last need of the first stuck entry is taken away, until none is stuck. No program in sight but the entries' data. -/
namespace Go.Proofs.YtimickglpboilaaGreat
open Go.RowKit Go
variable [GC]
def tot (l : List Entry) : Nat := (l.map fun e => e.needs.length).sum
end Go.Proofs.YtimickglpboilaaGreat
/- Contract: an entry is taken out: the reference's side. -/
namespace Go.Proofs.YtimickglpboilaaGreat
open Go.RowKit Go
variable [GC]
end Go.Proofs.YtimickglpboilaaGreat
/- Walks by hand over an environment: what the slots hold, as a list; one law an operation. No program in sight. -/
namespace Go.Proofs.YtimickglpboilaaGreat
open Go.RowKit Go
variable [GC]
abbrev PQ (b : Nat) : Value := .pointer (some ⟨b, 0, none⟩)
def lk : List (Nat × Value) → Nat → Option Value
 | [], _ => none
 | p :: r, t => bif Nat.beq p.1 t then some p.2 else lk r t
structure Env (n : Nat) (a : Act) (E : List (Nat × Value)) : Prop where
 size : a.tmps.size = n
 df : a.defers = []
 at' : ∀ t v, lk E t = some v → a.tmps.getD t undef = v
def ev (E : List (Nat × Value)) : Operand → Option Value
 | .tmp t => lk E t
 | .const v => some v
 | .global g => some (.pointer (some ⟨g, 0, none⟩))
 | .func f => some (.func (.func f) #[] #[])
theorem Env.ev {n : Nat} {a : Act} {E : List (Nat × Value)} (h : Env n a E) {x : Operand} {v : Value} (e : ev E x = some v) : a.eval x = v := by
 cases x with
 | tmp t => exact h.at' t v e
 | const u => simp [Go.Proofs.YtimickglpboilaaGreat.ev] at e; exact e
 | global g => simp [Go.Proofs.YtimickglpboilaaGreat.ev] at e; exact e
 | func f => simp [Go.Proofs.YtimickglpboilaaGreat.ev] at e; exact e
theorem Env.put {n : Nat} {a : Act} {E : List (Nat × Value)} (h : Env n a E) {d : Nat} (hd : d < n) (v : Value) : Env n (a.put (some d) v) ((d, v) :: E) := by
 refine ⟨by simp [Act.put, h.size], h.df, fun t u e => ?_⟩
 have hs := h.size
 simp only [lk] at e
 simp only [Act.put, Array.getD_eq_getD_getElem?, Array.getElem?_setIfInBounds]
 cases hb : Nat.beq d t with
 | true =>
  have : d = t := Nat.eq_of_beq_eq_true hb
  subst this
  rw [hb] at e; simp at e; subst e
  rw [if_pos rfl, if_pos (by omega)]; rfl
 | false =>
  rw [hb] at e; simp at e
  have hne : ¬ d = t := fun x => by subst x; simp at hb
  rw [if_neg hne]
  have := h.at' t u e
  rw [Array.getD_eq_getD_getElem?] at this
  exact this
def allLk (E : List (Nat × Value)) : List (Nat × Value) → Prop
 | [] => True
 | p :: r => lk E p.1 = some p.2 ∧ allLk E r
theorem allLk.get {E : List (Nat × Value)} : ∀ {E' : List (Nat × Value)}, allLk E E' → ∀ {t : Nat} {v : Value}, lk E' t = some v → lk E t = some v
 | [], _, t, v, h => by simp [lk] at h
 | p :: r, ⟨h1, h2⟩, t, v, h => by
  simp only [lk] at h
  cases hb : Nat.beq p.1 t with
  | true =>
   have : p.1 = t := Nat.eq_of_beq_eq_true hb
   subst this
   rw [hb] at h; simp at h; subst h; exact h1
  | false => rw [hb] at h; simp at h; exact h2.get h
theorem Env.sub {n : Nat} {a : Act} {E E' : List (Nat × Value)} (h : Env n a E) (hs : allLk E E') : Env n a E' := ⟨h.size, h.df, fun t v e => h.at' t v (hs.get e)⟩
theorem Env.of {n : Nat} {a : Act} {E : List (Nat × Value)} (h : a.tmps.size = n) (hd : a.defers = []) (hs : ∀ p ∈ E, a.tmps.getD p.1 undef = p.2) : Env n a E := by
 refine ⟨h, hd, fun t v e => ?_⟩
 induction E with
 | nil => simp [lk] at e
 | cons p r ih =>
  simp only [lk] at e
  cases hb : Nat.beq p.1 t with
  | true =>
   have : p.1 = t := Nat.eq_of_beq_eq_true hb
   subst this
   rw [hb] at e; simp at e; subst e
   exact hs p (by simp)
  | false => rw [hb] at e; simp at e; exact ih (fun q hq => hs q (by simp [hq])) e
section
variable {n : Nat} {P : Program} {ops : Array Oper} {Q : Exit → Act → World → Prop} {E : List (Nat × Value)} {w w' : World}
def NX (n : Nat) (K : Act → World → Prop) (E : List (Nat × Value)) (w : World) : Prop := ∀ a, Env n a E → K a w
def WL (n : Nat) (P : Program) (ops : Array Oper) (Q : Exit → Act → World → Prop) (l : List Oper) (E : List (Nat × Value)) (w : World) : Prop := ∀ a, Env n a E → wpList P ops Q l a w
def CW (n : Nat) (P : Program) (c : Code) (Q : Exit → Act → World → Prop) (E : List (Nat × Value)) (w : World) : Prop := ∀ a, Env n a E → c.wp P Q a w
theorem CW.seq {x y : Code} (h : CW n P x (Exit.then (y.wp P Q) Q) E w) : CW n P (.seq x y) Q E w := fun a hE => wp_seq (h a hE)
theorem CW.region {id : Nat} {l : List Oper} (h : WL n P l.toArray Q l E w) : CW n P (.region id l.toArray false) Q E w := fun a hE => wp_region_lit (h a hE)
theorem CW.skip (h : NX n (Q .normal) E w) : CW n P .skip Q E w := fun a hE => wp_skip (h a hE)
theorem CW.ret (h : NX n (Q .ret) E w) : CW n P .ret Q E w := fun a hE => wp_ret (h a hE)
theorem CW.exit {id : Nat} (h : NX n (Q (.exit id)) E w) : CW n P (.exit id) Q E w := fun a hE => wp_exit (h a hE)
theorem CW.block {id : Nat} {c : Code} (h : CW n P c (Exit.inBlock id Q) E w) : CW n P (.block id c) Q E w := fun a hE => wp_block (h a hE)
theorem CW.yes {c : Operand} {x y : Code} (hc : ev E c = some (.bool true)) (h : CW n P x Q E w) : CW n P (.cond c x y) Q E w := fun a hE => wp_cond_true (hE.ev hc) (h a hE)
theorem CW.no {c : Operand} {x y : Code} (hc : ev E c = some (.bool false)) (h : CW n P y Q E w) : CW n P (.cond c x y) Q E w := fun a hE => wp_cond_false (hE.ev hc) (h a hE)
theorem CW.sub {c : Code} {E' : List (Nat × Value)} (hs : allLk E E') (h : CW n P c Q E' w) : CW n P c Q E w := fun a hE => h a (hE.sub hs)
theorem WL.nil (h : NX n (Q .normal) E w) : WL n P ops Q [] E w := fun a hE => wpList_nil (h a hE)
theorem NX.next {y : Code} {Q' : Exit → Act → World → Prop} (h : CW n P y Q E w) : NX n (Exit.then (y.wp P Q) Q' .normal) E w := h
theorem NX.ret {K : Act → World → Prop} (h : NX n (Q .ret) E w) : NX n (Exit.then K Q .ret) E w := h
theorem NX.norB {id : Nat} (h : NX n (Q .normal) E w) : NX n (Exit.inBlock id Q .normal) E w := h
theorem NX.exi {K : Act → World → Prop} {id : Nat} (h : NX n (Q (.exit id)) E w) : NX n (Exit.then K Q (.exit id)) E w := h
theorem NX.exiB {id : Nat} (h : NX n (Q .normal) E w) : NX n (Exit.inBlock id Q (.exit id)) E w := fun a hE => by
 show if id = id then Q .normal a w else Q (.exit id) a w
 rw [if_pos rfl]; exact h a hE
theorem NX.bodyT {fn : Func} {R : Ending → World → Prop} {p : Tmp} {v : Value} (h : fn.results = #[.tmp p]) (hp : lk E p = some v) (hR : R (.returned v) w) : NX n (bodyPost P fn R .ret) E w :=
 fun a hE => ⟨hE.df, _, results_tmp h a.tmps P w, by rw [hE.at' p _ hp]; exact hR⟩
/- Operations. -/
def RunV (n : Nat) (P : Program) (E : List (Nat × Value)) (o : Oper) (w : World) (v : Value) (w' : World) : Prop := ∀ a, Env n a E → (execOp a.eval o).run P w = .ok (.value v) w'
def RunS (n : Nat) (P : Program) (E : List (Nat × Value)) (o : Oper) (w : World) (w' : World) : Prop := ∀ a, Env n a E → (execOp a.eval o).run P w = .ok .skip w'
theorem yielded_of {a : Act} (hE : Env n a E) {j d : Nat} {b : Bool} (hj : (ops[j]?).bind (·.dst) = some d) (hb : lk E d = some (.bool b)) : yielded ops a.tmps j = some b := by
 have h1 := hE.at' d _ hb
 unfold yielded
 rw [hj]
 rw [Array.getD_eq_getD_getElem?] at h1
 cases h2 : a.tmps[d]? with
 | none => rw [h2] at h1; simp [undef] at h1
 | some v => rw [h2] at h1; simp at h1; subst h1; simp [h2]
theorem wanted_yes {o : Oper} {a : Act} (hE : Env n a E) {j d : Nat} {b : Bool} (hg : o.guard = some (j, b)) (hj : (ops[j]?).bind (·.dst) = some d) (hb : lk E d = some (.bool b)) : Region.wanted o (yielded ops a.tmps) = true := by
 simp [Region.wanted, hg, yielded_of hE hj hb]
theorem wanted_no {o : Oper} {a : Act} (hE : Env n a E) {j d : Nat} {b : Bool} (hg : o.guard = some (j, !b)) (hj : (ops[j]?).bind (·.dst) = some d) (hb : lk E d = some (.bool b)) : Region.wanted o (yielded ops a.tmps) = false := by
 cases b <;> simp [Region.wanted, hg, yielded_of hE hj hb]
variable {o : Oper} {rest : List Oper} {v : Value} {d : Nat}
theorem WL.vv (hg : o.guard = none) (hd : o.dst = some d) (hr : RunV n P E o w v w') (hdn : d < n) (h : WL n P ops Q rest ((d, v) :: E) w') : WL n P ops Q (o :: rest) E w := fun a hE =>
 wpList_plain hg fun K hK => by unfold Oper.wp; rw [hr a hE, Oper.upon_value, hd]; exact hK _ _ (h _ (hE.put hdn v))
theorem WL.s (hg : o.guard = none) (hd : o.dst = none) (hr : RunS n P E o w w') (h : WL n P ops Q rest E w') : WL n P ops Q (o :: rest) E w := fun a hE =>
 wpList_plain hg fun K hK => by unfold Oper.wp; rw [hr a hE, Oper.upon_skip, hd]; exact hK _ _ (h _ hE)
theorem WL.vg {j e : Nat} {b : Bool} (hg : o.guard = some (j, b)) (hj : (ops[j]?).bind (·.dst) = some e) (hb : lk E e = some (.bool b)) (hd : o.dst = some d) (hr : RunV n P E o w v w') (hdn : d < n) (h : WL n P ops Q rest ((d, v) :: E) w') : WL n P ops Q (o :: rest) E w := fun a hE =>
 wpList_step fun K hK => by rw [if_pos (wanted_yes hE hg hj hb)]; unfold Oper.wp; rw [hr a hE, Oper.upon_value, hd]; exact hK _ _ (h _ (hE.put hdn v))
theorem WL.no {j e : Nat} {b : Bool} (hg : o.guard = some (j, !b)) (hj : (ops[j]?).bind (·.dst) = some e) (hb : lk E e = some (.bool b)) (hd : o.dst = some d) (hdn : d < n) (h : WL n P ops Q rest ((d, undef) :: E) w) : WL n P ops Q (o :: rest) E w := fun a hE =>
 wpList_step fun K hK => by rw [if_neg (by rw [wanted_no hE hg hj hb]; simp), hd]; exact hK _ _ (h _ (hE.put hdn undef))
def RunC (n : Nat) (P : Program) (E : List (Nat × Value)) (o : Oper) (w : World) (f : FuncId) (args : Array Value) : Prop := ∀ a, Env n a E → (execOp a.eval o).run P w = .ok (.enter f args) w
theorem WL.c {f : FuncId} {args : Array Value} {R : Ending → World → Prop} (hg : o.guard = none) (hd : o.dst = some d) (hr : RunC n P E o w f args) (hdn : d < n) (hC : Calls P f args w R)
  (h : ∀ e w', R e w' → ∃ v, e = .returned v ∧ WL n P ops Q rest ((d, v) :: E) w') : WL n P ops Q (o :: rest) E w := fun a hE =>
 wpList_plain hg fun K hK => by
  unfold Oper.wp
  rw [hr a hE]
  refine hC.mono fun e w' he => ?_
  obtain ⟨v, rfl, hv⟩ := h e w' he
  rw [hd]
  exact hK _ _ (hv _ (hE.put hdn v))
theorem WL.cg {f : FuncId} {args : Array Value} {R : Ending → World → Prop} {j e : Nat} {b : Bool} (hg : o.guard = some (j, b)) (hj : (ops[j]?).bind (·.dst) = some e) (hb : lk E e = some (.bool b)) (hd : o.dst = some d) (hr : RunC n P E o w f args) (hdn : d < n) (hC : Calls P f args w R)
  (h : ∀ e w', R e w' → ∃ v, e = .returned v ∧ WL n P ops Q rest ((d, v) :: E) w') : WL n P ops Q (o :: rest) E w := fun a hE =>
 wpList_step fun K hK => by
  rw [if_pos (wanted_yes hE hg hj hb)]
  unfold Oper.wp
  rw [hr a hE]
  refine hC.mono fun e w' he => ?_
  obtain ⟨v, rfl, hv⟩ := h e w' he
  rw [hd]
  exact hK _ _ (hv _ (hE.put hdn v))
/- What single operations do. -/
theorem r_move {x : Operand} (ho : o.op = .move x) (hx : ev E x = some v) : RunV n P E o w v w := fun a hE => by simp [execOp, ho, hE.ev hx]
theorem r_assign {x : Operand} (ho : o.op = .assign x) (hx : ev E x = some v) : RunV n P E o w v w := fun a hE => by simp [execOp, ho, hE.ev hx]
def aggD : TypeDesc → Bool
 | .struct _ | .array _ _ => true
 | _ => false
theorem isAgg_no {T : TypeId} {ds : TypeDesc} (h : P.underlying T = some ds) (hd : aggD ds = false) : (isAgg T).run P w = .ok false w := by
 cases ds <;> simp [aggD] at hd <;> simp [isAgg, run_underlying h]
theorem r_load {T : TypeId} {ds : TypeDesc} {x : Operand} {ad : Addr} (ho : o.op = .load T x) (hx : ev E x = some (.pointer (some ad))) (hT : P.underlying T = some ds) (hd : aggD ds = false) (hc : w.cell? ad = some v) : RunV n P E o w v w := fun a hE => by
 simp [execOp, ho, hE.ev hx, Instr.loadAt, Instr.sureAddr, loadVar, isAgg_no hT hd, hc]
theorem r_loadS {T : TypeId} {ds : TypeDesc} {x : Operand} {b : Nat} {t : TypeId} {cs : Array Value} (ho : o.op = .load T x) (hx : ev E x = some (.pointer (some ⟨b, 0, none⟩))) (hT : P.underlying T = some ds) (hd : (match ds with | .struct _ | .array _ _ => true | _ => false) = true)
  (hb : RBlk w b t cs) (hi : (P.info? T).map (·.size) = some cs.size) : RunV n P E o w (.agg cs) w := fun a hE => by
 simp [execOp, ho, hE.ev hx, Instr.loadAt, Instr.sureAddr, run_loadVar_row w b t T cs (0, 0) ds hb hT hd hi]
def fieldOff (P : Program) (T : TypeId) (f : Nat) : Option Nat := match P.underlying T with
 | some (.struct fs) => match fs[f]? with
  | some fl => match P.info? fl.type with
   | some i => bif Nat.beq i.size 0 then none else some fl.offset
   | none => none
  | none => none
 | _ => none
theorem r_field {T : TypeId} {x : Operand} {f k b c : Nat} (ho : o.op = .fieldAddr T x f) (hx : ev E x = some (.pointer (some ⟨b, c, none⟩))) (hf : fieldOff P T f = some k) : RunV n P E o w (.pointer (some ⟨b, c + k, none⟩)) w := fun a hE => by
 unfold fieldOff at hf
 split at hf
 ·rename_i fs hu
  split at hf
  ·rename_i fl hfl
   split at hf
   ·rename_i i hi
    cases hz : Nat.beq i.size 0 with
    | true => rw [hz] at hf; simp at hf
    | false =>
     rw [hz] at hf; simp at hf; subst hf
     have hne : ¬ i.size = 0 := fun e => by rw [e] at hz; simp at hz
     have hs : (sizeOf fl.type).run P w = .ok i.size w := run_sizeOf hi
     simp [execOp, ho, hE.ev hx, Instr.fieldAt, run_underlying hu, hfl, Instr.sureAddr, fieldPlace, hs, hne, addr_add]
   ·simp at hf
  ·simp at hf
 ·simp at hf
def elemSize (P : Program) (T : TypeId) : Option Nat := match P.underlying T with
 | some (.slice e) => (P.info? e).map (·.size)
 | _ => none
theorem r_index {T : TypeId} {x i : Operand} {m b c len cap : Nat} {k : IntKind} {j : Int} (ho : o.op = .indexAddr T x i) (hx : ev E x = some (.slice (some ⟨b, c, none⟩) len cap)) (hi : ev E i = some (.int k j)) (h0 : 0 ≤ j) (h1 : j < len) (hT : elemSize P T = some m) :
  RunV n P E o w (.pointer (some ⟨b, c + j.toNat * m, none⟩)) w := fun a hE => by
 unfold elemSize at hT
 split at hT
 ·rename_i e hu
  simp only [Option.map_eq_some_iff] at hT
  obtain ⟨inf, hinf, rfl⟩ := hT
  simp [execOp, ho, hE.ev hx, hE.ev hi, Instr.indexAt, asIntOf, run_underlying hu, run_sizeOf hinf, h0, h1, addr_add]
 ·simp at hT
theorem r_ar {op : BinOp} {T U : TypeId} {x y : Operand} {k : IntKind} {p q : Int} (ho : o.op = .binOp op T x y U) (hop : isAr op = true) (hx : ev E x = some (.int k p)) (hy : ev E y = some (.int k q)) : RunV n P E o w (.int k (arI op k p q)) w := fun a hE => by
 cases op <;> simp [isAr] at hop <;> simp [execOp, ho, hE.ev hx, hE.ev hy, eqGuard, binOp, Op.intArith, Op.intBits, arI]
theorem r_cmp {op : BinOp} {T U : TypeId} {x y : Operand} {k : IntKind} {p q : Int} (ho : o.op = .binOp op T x y U) (hop : isCmp op = true) (hx : ev E x = some (.int k p)) (hy : ev E y = some (.int k q)) : RunV n P E o w (.bool (cmpI op p q)) w := fun a hE => by
 cases op <;> simp [isCmp] at hop <;> simp [execOp, ho, hE.ev hx, hE.ev hy, eqGuard, binOp, Op.intCmp, cmpI]
theorem r_not {T : TypeId} {x : Operand} {b : Bool} (ho : o.op = .unOp .not T x) (hx : ev E x = some (.bool b)) : RunV n P E o w (.bool (!b)) w := fun a hE => by
 simp [execOp, ho, hE.ev hx, Op.unary]
theorem r_pickT {c x y : Operand} (ho : o.op = .pick c x y) (hc : ev E c = some (.bool true)) (hx : ev E x = some v) : RunV n P E o w v w := fun a hE => by
 simp [execOp, ho, hE.ev hc, hE.ev hx, asBool]
theorem r_pickF {c x y : Operand} (ho : o.op = .pick c x y) (hc : ev E c = some (.bool false)) (hy : ev E y = some v) : RunV n P E o w v w := fun a hE => by
 simp [execOp, ho, hE.ev hc, hE.ev hy, asBool]
theorem r_box {T : TypeId} {x : Operand} (ho : o.op = .box T x) (hx : ev E x = some v) : RunV n P E o w (.pointer (some ⟨w.heap.size, 0, none⟩)) (w.alloc (.cells v.cells T)) := fun a hE => by
 simp [execOp, ho, hE.ev hx, Instr.box, newVar, newRow]
theorem r_alloc {T : TypeId} {z : Value} (ho : o.op = .alloc T) (hz : (P.info? T).bind (·.zero) = some z) : RunV n P E o w (.pointer (some ⟨w.heap.size, 0, none⟩)) (w.alloc (.cells z.cells T)) := fun a hE => by
 simp only [Option.bind_eq_some_iff] at hz
 obtain ⟨i, hi, hz⟩ := hz
 simp [execOp, ho, Instr.alloc, zeroValue, run_typeInfo hi, hz, newVar, newRow]
theorem r_call {cl : Go.Call} {f : FuncId} {args : Array Value} (hf : callable P f = true) (ho : o.op = .call cl) (hcl : cl.callee = .value (.func f)) (ha : cl.args.toList.map (ev E) = args.toList.map some) : RunC n P E o w f args := fun a hE => by
 rw [run_call hf ho hcl]
 have : cl.args.map a.eval = args := by
  rw [← Array.toList_inj, Array.toList_map]
  have key : ∀ (l : List Operand) (m : List Value), l.map (ev E) = m.map some → l.map a.eval = m := by
   intro l
   induction l with
   | nil => intro m h; cases m <;> simp_all
   | cons x r ih =>
    intro m h
    cases m with
    | nil => simp at h
    | cons y q =>
     simp only [List.map_cons, List.cons.injEq] at h ⊢
     exact ⟨hE.ev h.1, ih q h.2⟩
  exact key _ _ ha
 rw [this]
theorem r_len {cl : Go.Call} {x : Operand} {a0 : Option Addr} {len cap : Nat} (ho : o.op = .call cl) (hcl : cl.callee = .builtin .len) {T e : TypeId} (ha : cl.args = #[x]) (hat : cl.argTypes = #[T]) (hT : P.underlying T = some (.slice e)) (hx : ev E x = some (.slice a0 len cap)) : RunV n P E o w (.int .i64 len) w := fun a hE => by
 simp [execOp, ho, resolve, hcl, ha, hat, invoke, builtin, Builtin.len_, hE.ev hx, run_underlying hT, goInt]
theorem r_store {T : TypeId} {x y : Operand} {ad : Addr} {u : Value} (ho : o.op = .store T x y) (hx : ev E x = some (.pointer (some ad))) (hy : ev E y = some v) (hsz : (P.info? T).map (·.size) = some 1) (hone : v.oneCell' = true) (hc : w.cell? ad = some u) (hf : w.frozen? ad = false) : RunS n P E o w (w.setCell ad v) := fun a hE => by
 simp only [Option.map_eq_some_iff] at hsz
 obtain ⟨i, hi, hs⟩ := hsz
 have hcs : v.cells = #[v] := by cases v <;> simp [Value.oneCell'] at hone <;> rfl
 have h1 : (storeVar T ad v).run P w = .ok () (w.setCell ad v) := by
  simp [storeVar, run_sizeOf hi, hs, hcs, storeCells, Addr.add, store_run hc hf hone]
 simp [execOp, ho, hE.ev hx, hE.ev hy, Instr.storeAt, Instr.sureAddr, h1]
theorem r_storeS {T : TypeId} {x y : Operand} {b : Nat} {t : TypeId} {C cs : Array Value} (ho : o.op = .store T x y) (hx : ev E x = some (.pointer (some ⟨b, 0, none⟩))) (hy : ev E y = some (.agg cs)) (hsz : (P.info? T).map (·.size) = some cs.size) (hone : ∀ u ∈ cs.toList, u.oneCell' = true) (hC : C.size = cs.size) (hb : RBlk w b t C) :
  ∃ w', RunS n P E o w w' ∧ RBlk w' b t cs ∧ OneBlock w w' b := by
 simp only [Option.map_eq_some_iff] at hsz
 obtain ⟨i, hi, hs⟩ := hsz
 obtain ⟨w', h1, h2, h3⟩ := run_storeCells (P := P) b t cs.toList w C 0 0 hb hone (by simp; omega)
 refine ⟨w', fun a hE => ?_, ?_, h3⟩
 ·have h4 : (storeVar T ⟨b, 0, none⟩ (.agg cs)).run P w = .ok () w' := by
   simp only [storeVar, Value.cells, Sem.run_bind, run_sizeOf hi, Result.andThen_ok, hs]
   simp [h1]
  simp [execOp, ho, hE.ev hx, hE.ev hy, Instr.storeAt, Instr.sureAddr, h4]
 ·have e : setAllA C (0 + 0) cs.toList = cs := by
   rw [← Array.toList_inj, setAllA_toList]
   have key : ∀ (l C : List Value) (k : Nat), C.length = k + l.length → setAll C k l = C.take k ++ l := by
    intro l
    induction l with
    | nil => intro C k h; simp [setAll]; exact (List.take_of_length_le (by simp at h; omega)).symm
    | cons x r ih =>
     intro C k h
     simp only [setAll, List.length_cons] at h ⊢
     rw [ih _ _ (by simp; omega)]
     have hk : k < C.length := by omega
     rw [List.take_add_one]
     simp [List.getElem?_set, hk, List.take_set_of_le]
   rw [key _ _ _ (by simp [hC])]
   simp
  rw [e] at h2
  exact h2
theorem r_cmpB {op : BinOp} {T U : TypeId} {x y : Operand} {k : IntKind} {p q : Int} {b : Bool} (ho : o.op = .binOp op T x y U) (hop : isCmp op = true) (hx : ev E x = some (.int k p)) (hy : ev E y = some (.int k q)) (hb : cmpI op p q = b) : RunV n P E o w (.bool b) w := hb ▸ r_cmp ho hop hx hy
theorem r_arB {op : BinOp} {T U : TypeId} {x y : Operand} {k : IntKind} {p q r : Int} (ho : o.op = .binOp op T x y U) (hop : isAr op = true) (hx : ev E x = some (.int k p)) (hy : ev E y = some (.int k q)) (hb : arI op k p q = r) : RunV n P E o w (.int k r) w := hb ▸ r_ar ho hop hx hy
theorem WL.st {T : TypeId} {x y : Operand} {b : Nat} {t : TypeId} {C cs : Array Value} (hg : o.guard = none) (hd : o.dst = none) (ho : o.op = .store T x y) (hx : ev E x = some (.pointer (some ⟨b, 0, none⟩))) (hy : ev E y = some (.agg cs)) (hb : RBlk w b t C) (hC : C.size = cs.size) (hone : ∀ u ∈ cs.toList, u.oneCell' = true) (hsz : (P.info? T).map (·.size) = some cs.size)
  (h : ∀ w', RBlk w' b t cs → OneBlock w w' b → WL n P ops Q rest E w') : WL n P ops Q (o :: rest) E w := by
 obtain ⟨w', h1, h2, h3⟩ := r_storeS (n := n) (P := P) (E := E) ho hx hy hsz hone hC hb
 exact WL.s hg hd h1 (h w' h2 h3)
theorem below_alloc_one {o : Obj} {w1 : World} (h : OneBlock (w.alloc o) w1 w.heap.size) : Below w.heap.size w w1 := by
 refine ⟨h.os, h.tape, h.output, by rw [h.size, World.size_alloc]; omega, fun i hi => ?_⟩
 rw [h.block i (by omega)]
 exact Below.heap_alloc w o i hi
def placesOf (P : Program) : List Field → Option (List (Nat × Nat))
 | [] => some []
 | f :: r => match P.info? f.type, placesOf P r with
  | some i, some q => some ((f.offset, i.size) :: q)
  | _, _ => none
theorem placesOf_run : ∀ {fl : List Field} {pl : List (Nat × Nat)}, placesOf P fl = some pl → (fl.mapM (m := Sem) fun f => do pure (f.offset, ← sizeOf f.type)).run P w = .ok pl w
 | [], pl, h => by simp [placesOf] at h; subst h; simp
 | f :: r, pl, h => by
  unfold placesOf at h
  split at h
  ·rename_i i q h1 h2
   simp only [Option.some.injEq] at h; subst h
   rw [List.mapM_cons]
   simp only [Sem.run_bind, Sem.run_pure, run_sizeOf h1, Result.andThen_ok, placesOf_run h2]
  ·simp at h
def buildB (P : Program) (T : TypeId) (parts : List (Nat × Value)) : Option (Array Value) := match (P.info? T).bind (·.zero), P.underlying T with
 | some z, some (.struct fields) => match placesOf P fields.toList with
  | some pl => Instr.fill (fun x => pl[x]?) z.cells parts
  | none => none
 | _, _ => none
theorem r_build {T : TypeId} {parts : Array (Nat × Operand)} {vs : List (Nat × Value)} {cs : Array Value} (ho : o.op = .build T parts) (ha : parts.toList.map (fun p => (p.1, ev E p.2)) = vs.map (fun p => (p.1, some p.2))) (hb : buildB P T vs = some cs) : RunV n P E o w (.agg cs) w := fun a hE => by
 have hp : (parts.map fun (x : Nat × Operand) => (x.1, a.eval x.2)).toList = vs := by
  rw [Array.toList_map]
  have key : ∀ (l : List (Nat × Operand)) (m : List (Nat × Value)), l.map (fun p => (p.1, ev E p.2)) = m.map (fun p => (p.1, some p.2)) → l.map (fun p => (p.1, a.eval p.2)) = m := by
   intro l
   induction l with
   | nil => intro m h; cases m <;> simp_all
   | cons x r ih =>
    intro m h
    cases m with
    | nil => simp at h
    | cons y q =>
     simp only [List.map_cons, List.cons.injEq, Prod.mk.injEq] at h ⊢
     refine ⟨?_, ih q h.2⟩
     rw [hE.ev h.1.2, h.1.1]
  exact key _ _ ha
 unfold buildB at hb
 split at hb
 ·rename_i z fields hz hu
  split at hb
  ·rename_i pl hpl
   simp only [Option.bind_eq_some_iff] at hz
   obtain ⟨i, hi, hz⟩ := hz
   have hm : (fields.mapM (m := Sem) fun f => do pure (f.offset, ← sizeOf f.type)).run P w = .ok pl.toArray w := by
    rw [Array.mapM_eq_mapM_toList, Sem.run_map, placesOf_run hpl]; rfl
   simp only [execOp, ho, Instr.build, Sem.run_bind, zeroValue, run_typeInfo hi, hz, Result.andThen_ok, Sem.run_pure, run_underlying hu, hm]
   rw [hp]
   simp [hb]
  ·simp at hb
 ·simp at hb
theorem calls_CW {f : FuncId} {fn : Func} {c : Code} {args : Array Value} {R : Ending → World → Prop} {E : List (Nat × Value)} {n : Nat} (hf : P.funcs[f]? = some fn) (hb : fn.body = some c) (hnn : fn.ntmps = n) (hn : args.size ≤ n) (hE : ∀ p ∈ E, args[p.1]? = some p.2)
  (h : CW n P c (bodyPost P fn R) E w) : Calls P f args w R := by
 subst hnn
 refine calls_of_wp hf hb (h _ (Env.of ?_ rfl fun p hp => ?_))
 ·simp; omega
 ·have := hE p hp
  have hlt := (Array.getElem?_eq_some_iff.1 this).1
  simp only [Array.getD_eq_getD_getElem?]
  rw [Array.getElem?_append_left hlt, this]; rfl
/- Regions of a shape. -/
section
variable {l0 f0 m1 m2 t0 t1 t2 t3 t4 t5 t6 t7 t8 t9 t10 : Nat} {T S U A B : TypeId} {dA dB : TypeDesc} {o0 o1 o2 o3 o4 o5 o6 o7 o8 o9 o10 : Oper} {x2 : Nat} {ad ad2 : Addr} {b c b' c' k k' : Nat} {s u s1 u1 : ByteArray}
end
end
end Go.Proofs.YtimickglpboilaaGreat
namespace Go.Proofs.YtimickglpboilaaGreat
open Go
section
variable {P : Program} {ops : Array Oper} {Q : Exit → Act → World → Prop} {md : Region.Mode} {S : World → Prop} {s : Nat}
end
end Go.Proofs.YtimickglpboilaaGreat
/- Walks over an environment: regions whose order is left open, with stores and calls. No program in sight. -/
namespace Go.Proofs.YtimickglpboilaaGreat
open Go.RowKit Go
variable [GC]
section
variable {n : Nat} {P : Program} {ops : Array Oper} {Q : Exit → Act → World → Prop} {S : World → Prop} {s k : Nat} {L : Array Bool} {E : List (Nat × Value)} {w w' : World} {i d : Nat} {o : Oper} {v : Value}
end
end Go.Proofs.YtimickglpboilaaGreat
/- Walks over an environment: loops whose rounds are counted down; a chain of steps each of which is there. No program in sight. -/
namespace Go.Proofs.YtimickglpboilaaGreat
open Go.RowKit Go
variable [GC]
section
variable {n : Nat} {P : Program} {Q : Exit → Act → World → Prop} {E : List (Nat × Value)} {w : World}
def Again (n : Nat) (I : Nat → List (Nat × Value) → World → Prop) (m : Nat) (a : Act) (w : World) : Prop := ∃ m' E', m' < m ∧ I m' E' w ∧ Env n a E'
theorem CW.loop {c : Code} (I : Nat → List (Nat × Value) → World → Prop) (n0 : Nat) (h0 : I n0 E w) (round : ∀ m E w, I m E w → CW n P c (Exit.then (Again n I m) Q) E w) : CW n P (.loop c) Q E w := fun a hE =>
 wp_loop_ghost (fun m a w => ∃ E', I m E' w ∧ Env n a E') n0 ⟨E, h0, hE⟩ fun m a w ⟨E', h, hE'⟩ => by
  refine wp_mono (round m E' w h a hE') ?_
  intro e a' w' hq
  cases e with
  | normal =>
   obtain ⟨m', E2, h1, h2, h3⟩ := hq
   exact ⟨m', h1, E2, h2, h3⟩
  | exit id => exact hq
  | goto l => exact hq
  | ret => exact hq
  | panic ch => exact hq
  | outgrown => exact hq
theorem NX.again {I : Nat → List (Nat × Value) → World → Prop} {m : Nat} (m' : Nat) (E' : List (Nat × Value)) (h1 : m' < m) (hs : allLk E E') (h2 : I m' E' w) : NX n (Exit.then (Again n I m) Q .normal) E w := fun a hE => ⟨m', E', h1, h2, hE.sub hs⟩
end
/- Several operations may come up. -/
section
variable {n : Nat} {P : Program} {ops : Array Oper} {Q : Exit → Act → World → Prop} {S : World → Prop} {s k : Nat} {L L' : Array Bool} {E E' : List (Nat × Value)} {w w' : World} {i j d : Nat} {o : Oper} {v : Value}
theorem r_extract {x : Operand} {i : Nat} {vs : Array Value} (ho : o.op = .extract x i) (hx : ev E x = some (.tuple vs)) (hv : vs[i]? = some v) : RunV n P E o w v w := fun a hE => by
 simp [execOp, ho, hE.ev hx, Instr.extract, hv]
end
end Go.Proofs.YtimickglpboilaaGreat
/- Walk: an entry is taken out (impl.RemoveEntry): each row in the answer lies in a new block of its own. -/
namespace Go.Proofs.YtimickglpboilaaGreat
open Go.RowKit Go
section
variable {n : Nat} {P : Program} {E : List (Nat × Value)} {w w' : World} {o : Oper} {v u : Value}
theorem r_append {s x : Operand} {t : TypeId} (hop : o.op = Op.call { callee := Callee.builtin Builtin.append, args := #[s, x], argTypes := #[t, t] }) (hs : ev E s = some v) (hx : ev E x = some u) {y : Value} (hr : (Builtin.append_ #[t, t] o.type #[v, u]).run P w = .ok y w') : RunV n P E o w y w' := fun a hE => by
 unfold execOp
 simp only [hop, resolve, invoke, builtin, Sem.run_bind, Sem.run_pure, Result.andThen_ok, List.map_toArray, List.map_cons, List.map_nil, hE.ev hs, hE.ev hx, hr]
end
theorem below_on {C : Nat} {w w' w'' : World} (h : Below C w w') (h' : Below C w' w'') : Below C w w'' :=
 ⟨h'.os.trans h.os, h'.tape.trans h.tape, h'.output.trans h.output, Nat.le_trans h.size h'.size, fun k hk => (h'.block k hk).trans (h.block k hk)⟩
theorem owns_low {w : World} {B B' n sz : Nat} {e : TypeId} {v : Value} {xs : List Value} (h : w.ownsRow B e sz v n xs) (hB : B' ≤ B) : w.ownsRow B' e sz v n xs := by
 obtain ⟨h0, h | ⟨g', cap, cur, h1, h2, h3⟩⟩ := h
 ·exact ⟨h0, .inl h⟩
 ·exact ⟨h0, .inr ⟨g', cap, cur, h1, Nat.le_trans hB h2, h3⟩⟩
theorem Rows.low {B B' : Nat} {w : World} {ob : Option Nat} {n : Nat} {l : List Entry} {xs : List Value} {u1 u4 : Nat → Value} {ro no : Nat → Option Nat} (h : Rows B w ob n l xs u1 u4 ro no) (hB : B' ≤ B) : Rows B' w ob n l xs u1 u4 ro no :=
 { h with r1 := fun a ha => (h.r1 a ha).low hB, r4 := fun a ha => (h.r4 a ha).low hB }
def Own (B : Nat) (T : TypeId) (w : World) (l : List Entry) (v : Value) : Prop := ∃ xs u1 u4 ro no, w.ownsRow B T 5 v l.length xs ∧ Rows B w v.ownBlock l.length l xs u1 u4 ro no
theorem Own.one {B : Nat} {T : TypeId} {w : World} {l : List Entry} {v : Value} (h : Own B T w l v) : ∃ a n c, v = .slice a n c ∧ n = l.length ∧ n ≤ c := by
 obtain ⟨xs, u1, u4, ro, no, ⟨_, ⟨rfl, h⟩ | ⟨g, cap, cur, rfl, _, _, h, _⟩⟩, h2⟩ := h
 ·exact ⟨_, _, _, rfl, h.symm, Nat.le_refl _⟩
 ·exact ⟨_, _, _, rfl, rfl, h⟩
end Go.Proofs.YtimickglpboilaaGreat
/- The marks of entries are all there; two rows of entries behind one another. -/
namespace Go.Proofs.YtimickglpboilaaGreat
open Go.RowKit Go
theorem c_heldEntryS (l : List Entry) (k : Nat) (hk : k + cntTo l l.length ≤ 1152921504606846970) (hll : l.length ≤ 1152921504606846976) : Fun Tryz.prog 32 none [encS (mixL k l l.length), .int .i64 k] (.int .i64 ((k + cntTo l l.length : Nat) : Int)) [] := by
 refine Fun.ofV vc_laws_heldEntryS_ok ty_laws_heldEntryS_ok rfl ?_ (fun hfit => ?_)
 ·exact ⟨ty_EntryS _, rfl, trivial⟩
 unfold vc_laws_heldEntryS
 have hml := mixL_len k l l.length
 refine den_for l.length (fun i => [.int .i64 ((k + cntTo l i : Nat) : Int), .int .i64 i]) (fun _ => True) rfl trivial ?_
 intro i hi _ _
 simp only [cA]
 refine den_ite (fun h2 => ?_) (fun h2 => ?_)
 ·simp only [E.den, dEq, iEq, sEq, hml] at h2
  have h2 : i < l.length := by simpa using h2
  have hat : nth (mixL k l l.length) i = markE k l i := by rw [mixL_at h2, if_pos h2]
  have hcm := cntTo_mono l (show i + 1 ≤ l.length by omega)
  simp only [cntTo, cntE] at hcm
  obtain ⟨K, hK⟩ : ∃ K, k + cntTo l i = K := ⟨_, rfl⟩
  rw [hK]
  have hc0 : (markE k l i).name = mkT K := by unfold markE; rw [hK]
  have hc1 : (markE k l i).recipe = mkStr (K + 1) (nth l i).recipe.length := by unfold markE; rw [hK]
  have hc2 : (markE k l i).ver.maj = ((K + 1 + (nth l i).recipe.length : Nat) : Int) := by unfold markE; rw [hK]
  have hc3 : (markE k l i).ver.min = ((K + 1 + (nth l i).recipe.length : Nat) : Int) + 1 := by unfold markE; rw [hK]
  have hc4 : (markE k l i).needs = mkNeed (K + 1 + (nth l i).recipe.length + 2) (nth l i).needs.length := by unfold markE; rw [hK]
  have e1 : arI .add .i64 (K : Int) 1 = ((K + 1 : Nat) : Int) := ar_add (by omega) (by omega)
  have e2 : arI .add .i64 ((K + 1 + (nth l i).recipe.length : Nat) : Int) 1 = ((K + 1 + (nth l i).recipe.length : Nat) : Int) + 1 := ar_add (by omega) (by omega)
  have e3 : arI .add .i64 (((K + 1 + (nth l i).recipe.length : Nat) : Int) + 1) 1 = ((K + 1 + (nth l i).recipe.length + 2 : Nat) : Int) := by rw [ar_add (by omega) (by omega)]; omega
  have H1 := c_heldStringS (nth l i).recipe (K + 1) (by omega)
  rw [mkStr_rows] at H1
  have H4 := c_heldNeedS (nth l i).needs (K + 1 + (nth l i).recipe.length + 2) (by omega)
  rw [mkNeed_rows] at H4
  refine den_cond (fun _ => ?_) ?_
  ·simp only [E.den, dEq, iEq, sEq, hml]; simp; omega
  ((first | refine den_call ?_ (c_markText K (by omega)) (trivial) ?_ | refine den_callR ?_ (c_markText K (by omega)) (trivial) ?_ | refine den_call ?_ (.ofR (c_markText K (by omega))) (trivial) ?_); (focus (simp only [VC.den, E.den, dEq, gsH_nil, and_true]; try exact rfl)); (simp only [cA]))
  refine den_ite (fun h3 => ?_) (fun _ => ?_)
  ·simp only [E.den, dEq, iEq, sEq, row_Entry, hat, cells_Entry, hc0] at h3
   simp at h3
  refine den_cond (fun _ => ?_) ?_
  ·simp only [E.den, dEq, iEq, sEq, hml]; simp; omega
  ((first | refine den_call ?_ (H1) (rfl) ?_ | refine den_callR ?_ (H1) (rfl) ?_ | refine den_call ?_ (.ofR (H1)) (rfl) ?_); (focus (simp only [VC.den, E.den, dEq, gsH_nil, and_true, row_Entry, hat, cells_Entry, hc1, e1, encS, Int.toNat_natCast]; try exact rfl)); (simp only [cA]))
  refine den_ite (fun h3 => ?_) (fun _ => ?_)
  ·simp only [E.den, dEq, iEq, sEq] at h3
   simp at h3; omega
  refine den_cond (fun _ => ?_) ?_
  ·simp only [E.den, dEq, iEq, sEq, hml]; simp; omega
  refine den_ite (fun h3 => ?_) (fun _ => ?_)
  ·simp only [E.den, dEq, iEq, sEq, row_Entry, hat, cells_Entry, hc2] at h3
   simp at h3
  refine den_cond (fun _ => ?_) ?_
  ·simp only [E.den, dEq, iEq, sEq, hml]; simp; omega
  refine den_ite (fun h3 => ?_) (fun _ => ?_)
  ·simp only [E.den, dEq, iEq, sEq, row_Entry, hat, cells_Entry, hc3, e2] at h3
   simp at h3
  refine den_cond (fun _ => ?_) ?_
  ·simp only [E.den, dEq, iEq, sEq, hml]; simp; omega
  ((first | refine den_call ?_ (H4) (rfl) ?_ | refine den_callR ?_ (H4) (rfl) ?_ | refine den_call ?_ (.ofR (H4)) (rfl) ?_); (focus (simp only [VC.den, E.den, dEq, gsH_nil, and_true, row_Entry, hat, cells_Entry, hc4, e2, e3, encS, Int.toNat_natCast]; try exact rfl)); (simp only [cA]))
  refine den_ite (fun h3 => ?_) (fun _ => ?_)
  ·simp only [E.den, dEq, iEq, sEq] at h3
   simp at h3; omega
  refine den_next h2 ?_ trivial
  simp only [E.den, dEq, iEq, sEq]
  rw [ar_add (by omega) (by omega)]
  rw [show K + 1 + (nth l i).recipe.length + 2 + 4 * (nth l i).needs.length = k + cntTo l (i + 1) by simp only [cntTo, cntE]; omega]
  rfl
 ·simp only [E.den, dEq, iEq, sEq, hml] at h2
  obtain rfl : i = l.length := by simp at h2; omega
  exact den_ret rfl
end Go.Proofs.YtimickglpboilaaGreat
/- Copies of entries that are owned: how they read, how they are marked. -/
namespace Go.Proofs.YtimickglpboilaaGreat
open Go.RowKit Go
theorem Own.sep {B : Nat} {T : TypeId} {w : World} {l : List Entry} {v : Value} (h : Own B T w l v) : (v = .slice none 0 0 ∧ l = []) ∨ ∃ g cap rb nb u1 u4, v = .slice (some ⟨g, 0, none⟩) l.length cap ∧ B ≤ g ∧ g < w.heap.size ∧ l.length ≤ cap ∧ cap ≤ maxLen ∧ SepE w g 0 rb nb l u1 u4 ∧ ∀ a, a < l.length → B ≤ rb a ∧ B ≤ nb a := by
 obtain ⟨xs, u1, u4, ro, no, ⟨q0, ⟨rfl, hn⟩ | ⟨g, cap, cur, rfl, q2, q3, q4, q5, q6, q7⟩⟩, h2⟩ := h
 ·exact .inl ⟨rfl, List.eq_nil_of_length_eq_zero hn⟩
 ·have hp := Rows.pre (T := T) (g := g) (cap := cap) (cur := cur) (l := l) (xs := xs) h2 q2 q3 q7
  have hg := (Array.getElem?_eq_some_iff.1 q3).1
  refine .inr ⟨g, cap, _, _, u1, u4, rfl, q2, hg, q4, q5, hp.sep, fun a ha => ⟨?_, ?_⟩⟩
  ·cases e : ro a with
   | none => simp only [Option.getD_none]; omega
   | some x => simp only [Option.getD_some]; exact ((h2.r1 a ha).le e).1
  ·cases e : no a with
   | none => simp only [Option.getD_none]; omega
   | some x => simp only [Option.getD_some]; exact ((h2.r4 a ha).le e).1
theorem R_nilE {w : World} {M : Addr → Prop} : R w M (encS ([] : List Entry)) (.slice none 0 0) := ⟨none, 0, 0, rfl, rfl, Nat.le_refl _, Nat.zero_le _, fun _ => rfl, fun b o s h => by cases h⟩
theorem Own.read {B : Nat} {T : TypeId} {w : World} {l : List Entry} {v : Value} (h : Own B T w l v) : R w (fun _ => False) (encS l) v := by
 rcases h.sep with ⟨rfl, rfl⟩ | ⟨g, cap, rb, nb, u1, u4, rfl, _, _, h4, h5, h6, _⟩
 ·exact R_nilE
 ·exact h6.read h4 h5
theorem cnt_fit {l : List Entry} (h : ∀ e ∈ l, e.fit) : ∀ {i : Nat}, i ≤ l.length → cntTo l i ≤ i * 8388608
 | 0, _ => by simp [cntTo]
 | i + 1, hi => by
  have h1 := cnt_fit h (i := i) (by omega)
  have h2 := h _ (nth_mem (show i < l.length by omega))
  have h3 := h2.1
  have h4 := h2.2
  simp only [cntTo, cntE]
  rw [Nat.add_mul]
  omega
theorem fit_of {l : List Entry} (h : Sm.sm l) : ∀ e ∈ l, e.fit := fun e he => by
 obtain ⟨i, hi, rfl⟩ := List.getElem_of_mem he
 have h2 := (sm_list.1 h).2 i hi
 have e : nth l i = l[i] := by simp [nth, hi]
 rw [e] at h2
 exact ⟨(sm_list.1 (h2.2.1)).1, (sm_list.1 (h2.2.2)).1⟩
end Go.Proofs.YtimickglpboilaaGreat
