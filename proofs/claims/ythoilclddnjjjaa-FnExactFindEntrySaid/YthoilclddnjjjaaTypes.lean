/- The program's data as plain types, and how they lie in memory. No program in sight. -/
import Derived.Test.YthoilclddnjjjaaRep
import Derived.Test.YthoilclddnjjjaaVerMath
namespace Go.Proofs.Ythoilclddnjjjaa
open Go.RowKit

structure Ver where
  maj : Int
  min : Int
  deriving DecidableEq, Inhabited
instance : Rep Ver := ⟨2, fun _ _ cs x => cs = [.int .i64 x.maj, .int .i64 x.min] ∧ I64 x.maj ∧ I64 x.min, fun ⟨h, _⟩ => by simp [h], fun h _ => h, fun h _ => h⟩
/-- Equality as a word of its own. -/
def eqB {α : Type} [DecidableEq α] (x y : α) : Bool := decide (x = y)
theorem eqB_true {α : Type} [DecidableEq α] {x y : α} (h : eqB x y = true) : x = y := of_decide_eq_true h
theorem eqB_false {α : Type} [DecidableEq α] {x y : α} (h : eqB x y = false) : x ≠ y := of_decide_eq_false h
theorem eqB_refl {α : Type} [DecidableEq α] (x : α) : eqB x x = true := by simp [eqB]
/-- Two lists of one length are equal once all their places are. -/
theorem list_eq_of_nth {α : Type} [Inhabited α] {l l' : List α} (hl : l.length = l'.length) (h : ∀ i, i < l.length → nth l i = nth l' i) : l = l' := by
  refine List.ext_getElem hl fun i h1 h2 => ?_
  have := h i h1
  simp [nth, List.getD, h1, h2] at this
  exact this
theorem eqB_list {α : Type} [DecidableEq α] [Inhabited α] {l l' : List α} {len : Nat} (h1 : len = l.length) (h2 : len = l'.length) (h : ∀ i, i < len → nth l i = nth l' i) : eqB l l' = true := by
  simp only [eqB, decide_eq_true_eq]; exact list_eq_of_nth (by omega) (fun i hi => h i (by omega))
theorem eqB_list_no {α : Type} [DecidableEq α] [Inhabited α] {l l' : List α} {k : Nat} (h : nth l k ≠ nth l' k) : eqB l l' = false := by
  simp only [eqB, decide_eq_false_iff_not]; intro e; exact h (by rw [e])
theorem eqB_list_len {α : Type} [DecidableEq α] {l l' : List α} (h : l.length ≠ l'.length) : eqB l l' = false := by
  simp only [eqB, decide_eq_false_iff_not]; intro e; exact h (by rw [e])
def Ver.ok (v : Ver) : Bool := isVersionB v.maj v.min
def Ver.cmp (v u : Ver) : Int := cmpV v.maj v.min u.maj u.min
structure Offer where
  vers : List Ver
  face : Int
  deriving DecidableEq, Inhabited
/-- The k-th version may stand where it stands. -/
def verOk (l : List Ver) (k : Nat) : Bool := (nth l k).ok && (k == 0 || decide ((nth l (k - 1)).cmp (nth l k) < 0))
def versTo (l : List Ver) : Nat → Bool
  | 0 => true
  | k + 1 => versTo l k && verOk l k
theorem versTo_no {l : List Ver} {k : Nat} (h : versTo l k = false) : ∀ m, k ≤ m → versTo l m = false
  | 0, hm => by obtain rfl : k = 0 := by omega
                exact h
  | m + 1, hm => by
    by_cases e : k = m + 1
    · subst e; exact h
    · simp [versTo, versTo_no h m (by omega)]
theorem versTo_bad {l : List Ver} {k m : Nat} (h : verOk l k = false) (hm : k < m) : versTo l m = false := versTo_no (k := k + 1) (by simp [versTo, h]) m hm
theorem verOk_first {l : List Ver} {k : Nat} (hk : k = 0) (h : (nth l k).ok = true) : verOk l k = true := by subst hk; simp [verOk, h]
theorem verOk_next {l : List Ver} {k : Nat} (h : (nth l k).ok = true) (hc : (nth l (k - 1)).cmp (nth l k) < 0) : verOk l k = true := by simp [verOk, h, hc]
theorem verOk_no {l : List Ver} {k : Nat} (hk : 0 < k) (hc : 0 ≤ (nth l (k - 1)).cmp (nth l k)) : verOk l k = false := by
  have h1 : (k == 0) = false := by simp; omega
  simp [verOk, h1, Int.not_lt.2 hc]
theorem versTo_more {l : List Ver} {k : Nat} (h : versTo l k = true) (h' : verOk l k = true) : versTo l (k + 1) = true := by simp [versTo, h, h']
def offerB (l : List Ver) (f : Int) : Bool := decide (l.length ≤ 4) && isFaceB f && versTo l l.length
theorem Sl.ver {w : World} {S : Nat → Prop} {a : Option Addr} {len cap : Nat} {l : List Ver} (h : Sl w S a len cap l) {k : Nat} (hk : k < len) :
    ∃ b o, a = some ⟨b, o, none⟩ ∧ S b ∧ b < w.heap.size ∧ w.cell? ⟨b, o + k * 2, none⟩ = some (.int .i64 (nth l k).maj) ∧ w.cell? ⟨b, o + k * 2 + 1, none⟩ = some (.int .i64 (nth l k).min) := by
  obtain ⟨b, o, x, cs, ha, hS, hlt, hx, hc, hr⟩ := h.at_ hk
  obtain ⟨rfl, _⟩ := hr
  rw [nth_of hx]
  exact ⟨b, o, ha, hS, hlt, hc 0 _ rfl, hc 1 _ rfl⟩
theorem Sl.ver_ok {w : World} {S : Nat → Prop} {a : Option Addr} {len cap : Nat} {l : List Ver} (h : Sl w S a len cap l) {k : Nat} (hk : k < len) : I64 (nth l k).maj ∧ I64 (nth l k).min := by
  obtain ⟨b, o, x, cs, ha, hS, hlt, hx, hc, hr⟩ := h.at_ hk
  obtain ⟨_, h1⟩ := hr
  rw [nth_of hx]; exact h1
end Go.Proofs.Ythoilclddnjjjaa
