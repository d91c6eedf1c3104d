/- Plain functions on names. No program in sight. -/
import Derived.PlainAid
namespace Go.Proofs.Ytjlepakpcclmpaa
def lowZ (n : Int) : Bool := decide (97 ≤ n) && decide (n ≤ 122)
def digZ (n : Int) : Bool := decide (48 ≤ n) && decide (n ≤ 57)
def letterZ (n : Int) (first : Bool) : Bool := lowZ n || (!first && digZ n)
/-- The first k bytes may stand in a name. -/
def nameTo (l : List UInt8) : Nat → Bool
  | 0 => true
  | k + 1 => nameTo l k && letterZ ((l.getD k 0).toNat : Int) (k == 0)
def nameB (l : List UInt8) : Bool := decide (0 < l.length) && decide (l.length ≤ 8) && nameTo l l.length
theorem nameTo_no {l : List UInt8} {k : Nat} (h : nameTo l k = false) : ∀ m, k ≤ m → nameTo l m = false
  | 0, hm => by obtain rfl : k = 0 := by omega
                exact h
  | m + 1, hm => by
    by_cases e : k = m + 1
    · subst e; exact h
    · simp [nameTo, nameTo_no h m (by omega)]
theorem nameB_no {l : List UInt8} {k : Nat} (h : nameTo l k = false) (hk : k ≤ l.length) : nameB l = false := by
  simp [nameB, nameTo_no h _ hk]
theorem getD_byte (s : ByteArray) (k : Nat) (h : k < s.size) : s.data.toList.getD k 0 = s[k] := by
  have h' : k < s.data.size := h
  simp [List.getD, Array.getElem?_eq_getElem h']; rfl
theorem nameTo_yes {s : ByteArray} {k : Nat} (hk : k < s.size) (h : nameTo s.data.toList k = true) (h' : letterZ (s[k].toNat : Int) (k == 0) = true) : nameTo s.data.toList (k + 1) = true := by
  simp only [nameTo, h, Bool.true_and, getD_byte s k hk, h']
theorem nameTo_bad {s : ByteArray} {k : Nat} (hk : k < s.size) (h' : letterZ (s[k].toNat : Int) (k == 0) = false) : nameTo s.data.toList (k + 1) = false := by
  simp only [nameTo, getD_byte s k hk, h', Bool.and_false]
end Go.Proofs.Ytjlepakpcclmpaa
