/- Contract: who needs whom, the wiring of a registry, as the program reckons it. -/
import Derived.Test.YtgaeigomhhbkfaaGreatBEntry
import Derived.Test.YtgaeigomhhbkfaaGreatWireMath
namespace Go.Proofs.YtgaeigomhhbkfaaGreat
open Go.RowKit Go
set_option linter.unusedVariables false
set_option linter.unusedSimpArgs false
set_option maxRecDepth 100000
set_option linter.unusedSectionVars false
variable [GC]
/-! Rows of one cell each, as data -/
def rowsOf (f : Nat → D) (n : Nat) : List (List D) := (List.range n).map fun a => [f a]
@[simp] theorem rowsOf_len (f : Nat → D) (n : Nat) : (rowsOf f n).length = n := by simp [rowsOf]
theorem rowsOf_get {f : Nat → D} {n i : Nat} (h : i < n) (z : List D) : ((rowsOf f n)[i]?).getD z = [f i] := by simp [rowsOf, h]
theorem rowsOf_congr {f g : Nat → D} {n : Nat} (h : ∀ a, a < n → f a = g a) : rowsOf f n = rowsOf g n := by
  unfold rowsOf
  exact List.map_congr_left fun a ha => by rw [h a (by simpa using ha)]
theorem rowsOf_rep (x : D) (n : Nat) : List.replicate n [x] = rowsOf (fun _ => x) n := by
  apply List.ext_getElem?
  intro i
  by_cases h : i < n
  · simp [rowsOf, List.getElem?_replicate, h]
  · rw [List.getElem?_eq_none (by simp; omega), List.getElem?_eq_none (by simp; omega)]
theorem rowsOf_upd (f : Nat → D) (n i : Nat) (x : D) : updR (rowsOf f n) i 0 [x] = rowsOf (fun a => if a = i then x else f a) n := by
  unfold updR
  apply List.ext_getElem?
  intro j
  rw [List.getElem?_set]
  by_cases hj : j < n
  · by_cases e : i = j
    · subst e
      simp [rowsOf, hj, List.getD, setL]
    · rw [if_neg e]
      simp [rowsOf, hj]
      intro h; exact absurd h.symm e
  · by_cases e : i = j
    · subst e
      rw [if_pos rfl, if_neg (by simp; omega), List.getElem?_eq_none (by simp; omega)]
    · rw [if_neg e, List.getElem?_eq_none (by simp; omega), List.getElem?_eq_none (by simp; omega)]
/-- A row of Booleans; a square of them. -/
def bRow (n : Nat) (f : Nat → Bool) : D := .sl (rowsOf (fun j => .bool (f j)) n)
def bMat (n : Nat) (S : Nat → Nat → Bool) : D := .sl (rowsOf (fun i => bRow n (S i)) n)
theorem bRow_upd (n : Nat) (f : Nat → Bool) (i : Nat) (b : Bool) : D.sl (updR (bRow n f).toR i 0 [.bool b]) = bRow n (fun a => if a = i then b else f a) := by
  unfold bRow
  rw [D.toR_sl, rowsOf_upd]
  congr 1
  refine rowsOf_congr fun a _ => ?_
  show _ = D.bool (if a = i then b else f a)
  split <;> rfl
theorem bRow_congr {n : Nat} {f g : Nat → Bool} (h : ∀ a, a < n → f a = g a) : bRow n f = bRow n g := by
  unfold bRow
  rw [rowsOf_congr fun a ha => by rw [h a ha]]
theorem bRow_len (n : Nat) (f : Nat → Bool) : lenD (bRow n f) = n := by simp [bRow, lenD]
theorem bMat_len (n : Nat) (S : Nat → Nat → Bool) : lenD (bMat n S) = n := by simp [bMat, lenD]
theorem bRow_get {n : Nat} {f : Nat → Bool} {i : Nat} (h : i < n) (z : List D) : (((bRow n f).toR)[i]?).getD z = [.bool (f i)] := by
  unfold bRow
  rw [D.toR_sl, rowsOf_get h]
theorem bMat_get {n : Nat} {S : Nat → Nat → Bool} {i : Nat} (h : i < n) (z : List D) : (((bMat n S).toR)[i]?).getD z = [bRow n (S i)] := by
  unfold bMat
  rw [D.toR_sl, rowsOf_get h]
theorem bMat_congr {n : Nat} {S T : Nat → Nat → Bool} (h : ∀ a b, a < n → b < n → S a b = T a b) : bMat n S = bMat n T := by
  unfold bMat
  rw [rowsOf_congr fun a ha => bRow_congr fun b hb => h a b ha hb]
theorem bMat_upd (n : Nat) (S : Nat → Nat → Bool) (i : Nat) (f : Nat → Bool) : D.sl (updR (bMat n S).toR i 0 [bRow n f]) = bMat n (fun a b => if a = i then f b else S a b) := by
  unfold bMat
  rw [D.toR_sl, rowsOf_upd]
  congr 1
  refine rowsOf_congr fun a _ => ?_
  by_cases e : a = i <;> simp [e]
def anyT (p : Nat → Bool) : Nat → Bool
  | 0 => false
  | n + 1 => anyT p n || p n
theorem anyT_iff {p : Nat → Bool} : ∀ {n : Nat}, anyT p n = true ↔ ∃ k, k < n ∧ p k = true
  | 0 => by simp [anyT]
  | n + 1 => by
    simp only [anyT, Bool.or_eq_true, anyT_iff (n := n)]
    constructor
    · rintro (⟨k, hk, h⟩ | h)
      · exact ⟨k, by omega, h⟩
      · exact ⟨n, by omega, h⟩
    · rintro ⟨k, hk, h⟩
      by_cases e : k = n
      · subst e; exact .inr h
      · exact .inl ⟨k, by omega, h⟩
/-! Who needs whom -/
def prv (l : List Entry) (a k : Nat) : Option Nat := provO l (nth l a).name (nth (nth l a).needs k)
def needTo (l : List Entry) (a j c : Nat) : Bool := anyT (fun k => decide (prv l a k = some c)) j
def missTo (l : List Entry) (a j : Nat) : Bool := anyT (fun k => (prv l a k).isNone) j
def needS (l : List Entry) (a c : Nat) : Bool := needTo l a (nth l a).needs.length c
def missS (l : List Entry) (a : Nat) : Bool := missTo l a (nth l a).needs.length
def reachS (l : List Entry) : Nat → Nat → Bool := fwK l.length (needS l) l.length
/-- What the program's wiring holds. -/
def wireD (l : List Entry) : D := .agg [bRow l.length (missS l), bMat l.length (needS l), bMat l.length (reachS l)]
def nF (l : List Entry) (n i a : Nat) : D := if a < i then bRow n (needS l a) else .sl []
def mF (l : List Entry) (i a : Nat) : Bool := decide (a < i) && missS l a
def nG (l : List Entry) (n i j a : Nat) : D := if a < i then bRow n (needS l a) else if a = i then bRow n (needTo l i j) else .sl []
def mG (l : List Entry) (i j a : Nat) : Bool := if a < i then missS l a else if a = i then missTo l i j else false
theorem prv_lt {l : List Entry} {a k c : Nat} (h : prv l a k = some c) : c < l.length := (firstTo_lt h).1
theorem den_next1 {P : Program} {tab : Nat → List CT} {env : List D} {Q : D → List D → Prop} {L : List (List D → Prop)} {r : List D → Prop} {es : List E} {xs : List D} {p q : Prop}
    (hp : p) (h : es.map (·.den env) = xs) (hq : q) : (VC.again 1 es).den P tab env Q (r :: (fun ys => p ∧ ys = xs ∧ q) :: L) := ⟨hp, h, hq⟩
theorem c_impl_wire (l : List Entry) (h20 : l.length ≤ 1048576) : FunR Tryz.prog 28 none [encS l] (wireD l) [] [(0, 1), (1, 1), (2, 1)] := by
  refine FunR.ofV vc_impl_wire_ok ty_impl_wire_ok rt_impl_wire_ok rfl ?_ (fun hfit => ?_)
  · exact ⟨ty_EntryS l, trivial⟩
  unfold vc_impl_wire
  have hfl := hfit.1
  refine den_cond (fun _ => ?_) (den_cond (fun _ => ?_) (den_cond (fun _ => ?_) ?_))
  · simp only [E.den, dEq, iEq, sEq]; simp; omega
  · simp only [E.den, dEq, iEq, sEq]; simp; omega
  · simp only [E.den, dEq, iEq, sEq]; simp; omega
  refine den_for l.length (fun i => [.int .i64 i, .sl (rowsOf (nF l l.length i) l.length), .sl (rowsOf (nF l l.length i) l.length), bRow l.length (mF l i)]) (fun _ => True) ?_ trivial ?_
  · simp only [E.den, dEq, iEq, sEq, zeroD]
    have e : ∀ x : D, List.replicate l.length [x] = rowsOf (fun _ => x) l.length := fun x => rowsOf_rep x _
    simp only [Int.toNat_natCast, List.map_cons, List.map_nil, zeroD, e]
    have e1 : rowsOf (nF l l.length 0) l.length = rowsOf (fun _ => .sl []) l.length := rowsOf_congr fun a _ => by simp [nF]
    have e2 : bRow l.length (mF l 0) = bRow l.length (fun _ => false) := bRow_congr fun a _ => by simp [mF]
    rw [e1, e2]
    rfl
  intro i hi _ _
  simp only [List.cons_append, List.nil_append]
  refine den_ite (fun h2 => ?_) (fun h2 => ?_)
  · simp only [E.den, dEq, iEq, sEq] at h2
    have h2 : i < l.length := by simp at h2; exact h2
    have hnl : (nth l i).needs.length ≤ 9223372036854775807 := fits_encS (fits_nth hfl h2).2.2.2.2.1
    (refine den_cond (fun hg => ?_) ?_; (focus (simp only [gsH, List.mem_cons, List.not_mem_nil, or_false, forall_eq_or_imp, forall_eq, E.den, dEq, iEq, sEq] at hg ⊢; (try simp only [D.bool.injEq] at hg); (try simp only [D.bool.injEq]); grind)))
    refine den_cond (fun _ => ?_) ?_
    · simp only [E.den, dEq, iEq, sEq]; simp; omega
    refine den_cond (fun _ => ?_) ?_
    · simp only [E.den, dEq, iEq, sEq, lenD_sl, lenD_mem]; simp; omega
    refine den_for (nth l i).needs.length (fun j => [.int .i64 j, .sl (rowsOf (nF l l.length i) l.length), .sl (rowsOf (nG l l.length i j) l.length), bRow l.length (mG l i j)]) (fun _ => True) ?_ trivial ?_
    · simp only [E.den, dEq, iEq, sEq, zeroD]
      simp only [Int.toNat_natCast, List.map_cons, List.map_nil, zeroD, rowsOf_rep, rowsOf_upd]
      have e1 : rowsOf (fun a => if a = i then D.sl (rowsOf (fun _ => .bool false) l.length) else nF l l.length i a) l.length = rowsOf (nG l l.length i 0) l.length := rowsOf_congr fun a _ => by
        unfold nF nG
        by_cases e : a = i
        · subst e; simp [needTo, anyT, bRow]
        · simp [e]
      have e2 : bRow l.length (mF l i) = bRow l.length (mG l i 0) := bRow_congr fun a _ => by
        unfold mF mG missTo anyT
        by_cases e : a < i <;> simp [e]
      rw [e1, e2]
      rfl
    intro j hj _ _
    simp only [List.cons_append, List.nil_append]
    have hgi : nG l l.length i j i = bRow l.length (needTo l i j) := by simp [nG]
    refine den_ite (fun h3 => ?_) (fun h3 => ?_)
    · simp only [E.den, dEq, iEq, sEq, row_Entry, cells_Entry] at h3
      have h3 : j < (nth l i).needs.length := by simp at h3; exact h3
      (refine den_cond (fun hg => ?_) ?_; (focus (simp only [gsH, List.mem_cons, List.not_mem_nil, or_false, forall_eq_or_imp, forall_eq, E.den, dEq, iEq, sEq, row_Entry, cells_Entry] at hg ⊢; (try simp only [D.bool.injEq] at hg); (try simp only [D.bool.injEq]); grind)))
      ((first | refine den_call ?_ (c_impl_provider l (nth l i).name (nth (nth l i).needs j)) (rfl) ?_ | refine den_callR ?_ (c_impl_provider l (nth l i).name (nth (nth l i).needs j)) (rfl) ?_ | refine den_call ?_ (.ofR (c_impl_provider l (nth l i).name (nth (nth l i).needs j))) (rfl) ?_); (focus (simp only [VC.den, E.den, dEq, gsH_nil, and_true, row_Entry, cells_Entry, row_Need, Int.toNat_natCast]; try exact rfl)); (simp only [List.cons_append, List.nil_append]))
      refine den_ite (fun h4 => ?_) (fun h4 => ?_)
      · simp only [E.den, dEq, iEq, sEq] at h4
        obtain ⟨c, hc⟩ : ∃ c, prv l i j = some c := by
          cases hp : prv l i j with
          | some c => exact ⟨c, rfl⟩
          | none =>
            have : provI l (nth l i).name (nth (nth l i).needs j) = -1 := by
              unfold provI
              rw [show provO l (nth l i).name (nth (nth l i).needs j) = none from hp]
            rw [this] at h4; simp at h4
        have hcl := prv_lt hc
        have hpi : provI l (nth l i).name (nth (nth l i).needs j) = c := by
          unfold provI
          rw [show provO l (nth l i).name (nth (nth l i).needs j) = some c from hc]
        rw [hpi]
        refine den_cond (fun _ => ?_) ?_
        · simp only [E.den, dEq, iEq, sEq, lenD_sl, lenD_mem]; simp; omega
        refine den_cond (fun _ => ?_) ?_
        · simp only [E.den, dEq, iEq, sEq, rowsOf_get h2, hgi, bRow_len]
          simp only [Int.toNat_natCast, lenD]
          simp; omega
        refine den_next h3 ?_ trivial
        simp only [E.den, dEq, iEq, sEq, rowsOf_get h2, hgi, bRow_upd, rowsOf_upd]
        rw [ar_add (by omega) (by omega)]
        have e1 : rowsOf (fun a => if a = i then bRow l.length (fun b => if b = c then true else needTo l i j b) else nG l l.length i j a) l.length = rowsOf (nG l l.length i (j + 1)) l.length := rowsOf_congr fun a _ => by
          unfold nG
          by_cases e : a = i
          · subst e
            simp only [if_true, Nat.lt_irrefl, if_false]
            refine bRow_congr fun b _ => ?_
            simp only [needTo, anyT, hc]
            by_cases e2 : b = c
            · subst e2; simp
            · have : ¬ (some c = some b) := fun h => e2 (by simpa using h.symm)
              simp [e2, this]
          · simp [e]
        have e2 : bRow l.length (mG l i j) = bRow l.length (mG l i (j + 1)) := bRow_congr fun a _ => by
          unfold mG
          by_cases e : a = i
          · subst e; simp [missTo, anyT, hc]
          · simp [e]
        rw [e1, e2]
        rfl
      · simp only [E.den, dEq, iEq, sEq] at h4
        have hc : prv l i j = none := by
          cases hp : prv l i j with
          | none => rfl
          | some c =>
            have : provI l (nth l i).name (nth (nth l i).needs j) = c := by
              unfold provI
              rw [show provO l (nth l i).name (nth (nth l i).needs j) = some c from hp]
            rw [this] at h4; simp at h4
        refine den_cond (fun _ => ?_) ?_
        · simp only [E.den, dEq, iEq, sEq, lenD_sl, lenD_mem]; simp; omega
        refine den_next h3 ?_ trivial
        simp only [E.den, dEq, iEq, sEq, bRow_upd]
        rw [ar_add (by omega) (by omega)]
        have e1 : rowsOf (nG l l.length i j) l.length = rowsOf (nG l l.length i (j + 1)) l.length := rowsOf_congr fun a _ => by
          unfold nG
          by_cases e : a = i
          · subst e
            simp only [if_true, Nat.lt_irrefl, if_false]
            refine bRow_congr fun b _ => ?_
            simp [needTo, anyT, hc]
          · simp [e]
        have e2 : bRow l.length (fun a => if a = i then true else mG l i j a) = bRow l.length (mG l i (j + 1)) := bRow_congr fun a _ => by
          unfold mG
          by_cases e : a = i
          · subst e; simp [missTo, anyT, hc]
          · simp [e]
        rw [e1, e2]
        rfl
    · simp only [E.den, dEq, iEq, sEq, row_Entry, cells_Entry] at h3
      obtain rfl : j = (nth l i).needs.length := by simp at h3; omega
      refine den_cond (fun _ => ?_) ?_
      · simp only [E.den, dEq, iEq, sEq, lenD_sl, lenD_mem]; simp; omega
      refine den_cond (fun _ => ?_) ?_
      · simp only [E.den, dEq, iEq, sEq, rowsOf_get h2, hgi, bRow_len]; simp; omega
      refine den_cond (fun _ => ?_) ?_
      · simp only [E.den, dEq, iEq, sEq, lenD_sl, lenD_mem]; simp; omega
      refine den_next1 h2 ?_ trivial
      simp only [E.den, dEq, iEq, sEq, rowsOf_get h2, hgi, rowsOf_upd]
      rw [ar_add (by omega) (by omega)]
      have e1 : rowsOf (fun a => if a = i then bRow l.length (needTo l i (nth l i).needs.length) else nF l l.length i a) l.length = rowsOf (nF l l.length (i + 1)) l.length := rowsOf_congr fun a _ => by
        unfold nF
        by_cases e : a = i
        · subst e; simp [needS]; rfl
        · have : a < i + 1 ↔ a < i := by omega
          simp [e, this]
      have e2 : rowsOf (nG l l.length i (nth l i).needs.length) l.length = rowsOf (nF l l.length (i + 1)) l.length := rowsOf_congr fun a _ => by
        unfold nF nG
        by_cases e : a = i
        · subst e; simp [needS]; rfl
        · have : a < i + 1 ↔ a < i := by omega
          simp [e, this]
      have e3 : bRow l.length (mG l i (nth l i).needs.length) = bRow l.length (mF l (i + 1)) := bRow_congr fun a _ => by
        unfold mF mG
        by_cases e : a = i
        · subst e; simp [missS]
        · have : a < i + 1 ↔ a < i := by omega
          by_cases h : a < i <;> simp [e, this, h]
      rw [e1, e2, e3]
      rfl
  · simp only [E.den, dEq, iEq, sEq] at h2
    obtain rfl : i = l.length := by simp at h2; omega
    have e1 : D.sl (rowsOf (nF l l.length l.length) l.length) = bMat l.length (needS l) := by
      unfold bMat
      rw [rowsOf_congr (g := fun i => bRow l.length (needS l i)) fun a ha => by simp [nF, ha]]
    have e2 : bRow l.length (mF l l.length) = bRow l.length (missS l) := bRow_congr fun a ha => by simp [mF, ha]
    rw [e1, e2]
    refine den_for l.length (fun k => [.int .i64 k, bMat l.length (fwK l.length (needS l) k), bMat l.length (needS l), bRow l.length (missS l)]) (fun _ => True) rfl trivial ?_
    intro k hk _ _
    simp only [List.cons_append, List.nil_append]
    refine den_ite (fun h3 => ?_) (fun h3 => ?_)
    · simp only [E.den, dEq, iEq, sEq] at h3
      have h3 : k < l.length := by simp at h3; exact h3
      refine den_for l.length (fun i => [.int .i64 i, bMat l.length (fwI l.length k (fwK l.length (needS l) k) i), bMat l.length (needS l), bRow l.length (missS l)]) (fun _ => True) rfl trivial ?_
      intro i hi2 _ _
      simp only [List.cons_append, List.nil_append]
      refine den_ite (fun h4 => ?_) (fun h4 => ?_)
      · simp only [E.den, dEq, iEq, sEq] at h4
        have h4 : i < l.length := by simp at h4; exact h4
        refine den_for l.length (fun j => [.int .i64 j, bMat l.length (fwJ k i (fwI l.length k (fwK l.length (needS l) k) i) j), bMat l.length (needS l), bRow l.length (missS l)]) (fun _ => True) rfl trivial ?_
        intro j hj2 _ _
        simp only [List.cons_append, List.nil_append]
        refine den_ite (fun h5 => ?_) (fun h5 => ?_)
        · simp only [E.den, dEq, iEq, sEq] at h5
          have h5 : j < l.length := by simp at h5; exact h5
          generalize hT : fwJ k i (fwI l.length k (fwK l.length (needS l) k) i) j = T
          have hs : fwJ k i (fwI l.length k (fwK l.length (needS l) k) i) (j + 1) = updM T i j (T i j || (T i k && T k j)) := by rw [← hT]; rfl
          refine den_cond (fun _ => ?_) (den_cond (fun _ => ?_) (den_cond (fun _ => ?_) (den_cond (fun _ => ?_) (den_cond (fun _ => ?_) (den_cond (fun _ => ?_) (den_cond (fun _ => ?_) (den_cond (fun _ => ?_) ?_)))))))
          · simp only [E.den, dEq, iEq, sEq, lenD_sl, lenD_mem]; simp; omega
          · simp only [E.den, dEq, iEq, sEq, lenD_sl, lenD_mem]; simp; omega
          · simp only [E.den, dEq, iEq, sEq, bMat_get h4, bRow_len]; simp only [Int.toNat_natCast, lenD]; simp; omega
          · simp only [E.den, dEq, iEq, sEq, lenD_sl, lenD_mem]; simp; omega
          · simp only [E.den, dEq, iEq, sEq, bMat_get h4, bRow_len]; simp only [Int.toNat_natCast, lenD]; simp; omega
          · simp only [E.den, dEq, iEq, sEq, lenD_sl, lenD_mem]; simp; omega
          · simp only [E.den, dEq, iEq, sEq, bMat_get h3, bRow_len]; simp only [Int.toNat_natCast, lenD]; simp; omega
          · simp only [E.den, dEq, iEq, sEq, bMat_get h4, bRow_len]; simp only [Int.toNat_natCast, lenD]; simp; omega
          refine den_next h5 ?_ trivial
          simp only [E.den, dEq, iEq, sEq, bMat_get h4, bMat_get h3, bRow_get h5, bRow_get h3, bRow_upd, bMat_upd]
          rw [ar_add (by omega) (by omega), hs]
          have e3 : bMat l.length (fun a b => if a = i then (if b = j then T i j || (T i k && T k j) else T i b) else T a b) = bMat l.length (updM T i j (T i j || (T i k && T k j))) := bMat_congr fun a b _ _ => by
            unfold updM
            by_cases e : a = i
            · subst e; by_cases e4 : b = j <;> simp [e4]
            · simp [e]
          rw [e3]
          rfl
        · simp only [E.den, dEq, iEq, sEq] at h5
          obtain rfl : j = l.length := by simp at h5; omega
          refine den_next1 h4 ?_ trivial
          simp only [E.den, dEq, iEq, sEq]
          rw [ar_add (by omega) (by omega)]
          rfl
      · simp only [E.den, dEq, iEq, sEq] at h4
        obtain rfl : i = l.length := by simp at h4; omega
        refine den_next1 h3 ?_ trivial
        simp only [E.den, dEq, iEq, sEq]
        rw [ar_add (by omega) (by omega)]
        rfl
    · simp only [E.den, dEq, iEq, sEq] at h3
      obtain rfl : k = l.length := by simp at h3; omega
      exact den_ret rfl
end Go.Proofs.YtgaeigomhhbkfaaGreat
