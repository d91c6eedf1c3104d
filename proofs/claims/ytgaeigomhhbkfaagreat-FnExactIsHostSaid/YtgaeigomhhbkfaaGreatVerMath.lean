/- Plain functions on versions. No program in sight. -/
import Derived.PlainAid
namespace Go.Proofs.YtgaeigomhhbkfaaGreat
def isVersionB (a b : Int) : Bool := decide (0 ≤ a) && decide (a ≤ 99) && decide (0 ≤ b) && decide (b ≤ 99)
def isFaceB (f : Int) : Bool := decide (0 ≤ f) && decide (f ≤ 63)
theorem isFaceB_nat {f : Int} (h : isFaceB f = true) : ∃ n : Nat, f = n ∧ n < 64 := by
  unfold isFaceB at h; simp at h; exact ⟨f.toNat, by omega, by omega⟩
def cmpV (a b c d : Int) : Int := if a < c ∨ (a = c ∧ b < d) then -1 else if a = c ∧ b = d then 0 else 1
def sinceM : Nat → Int | 0 => 1 | 1 => 1 | 2 => 1 | 3 => 1 | 4 => 2 | 5 => 2 | _ => 0
def sinceN : Nat → Int | 0 => 0 | 1 => 0 | 2 => 1 | 3 => 2 | 4 => 0 | 5 => 1 | _ => 0
def allows (a b : Int) (k : Nat) : Bool := decide (cmpV (sinceM k) (sinceN k) a b ≤ 0)
/-- The face of the abilities below k that a version allows. -/
def afN (a b : Int) : Nat → Nat
  | 0 => 0
  | k + 1 => afN a b k + if allows a b k then 2 ^ k else 0
theorem afN_lt (a b : Int) : ∀ k, afN a b k < 2 ^ k
  | 0 => by simp [afN]
  | k + 1 => by
    have := afN_lt a b k
    unfold afN
    split <;> omega
theorem afN_yes {a b : Int} {k : Nat} (h : allows a b k = true) : afN a b (k + 1) = afN a b k + 2 ^ k := by simp [afN, h]
theorem afN_no {a b : Int} {k : Nat} (h : allows a b k = false) : afN a b (k + 1) = afN a b k := by simp [afN, h]
theorem afN_or {a b : Int} {k : Nat} : (afN a b k) ||| 2 ^ k = afN a b k + 2 ^ k := by
  have := Nat.two_pow_add_eq_or_of_lt (afN_lt a b k) 1
  rw [Nat.mul_one] at this
  rw [Nat.or_comm, ← this, Nat.add_comm]
def afZ (a b : Int) : Int := if isVersionB a b then (afN a b 6 : Int) else 0
/-- The least version for the abilities of n below k. -/
def lvN (n : Nat) : Nat → Int × Int
  | 0 => (0, 0)
  | k + 1 => if n.testBit k && decide (0 < cmpV (sinceM k) (sinceN k) (lvN n k).1 (lvN n k).2) then (sinceM k, sinceN k) else lvN n k
theorem lvN_yes {n k : Nat} (h : n.testBit k = true) (h' : 0 < cmpV (sinceM k) (sinceN k) (lvN n k).1 (lvN n k).2) : lvN n (k + 1) = (sinceM k, sinceN k) := by simp [lvN, h, h']
theorem lvN_no {n k : Nat} (h : n.testBit k = false) : lvN n (k + 1) = lvN n k := by simp [lvN, h]
theorem lvN_no' {n k : Nat} (h' : cmpV (sinceM k) (sinceN k) (lvN n k).1 (lvN n k).2 ≤ 0) : lvN n (k + 1) = lvN n k := by
  simp [lvN, Int.not_lt.2 h']
theorem testBit_div {n k : Nat} : ((n / 2 ^ k) % 2 == 1) = n.testBit k := by
  rw [Nat.testBit_eq_decide_div_mod_eq]; rfl
theorem testBit_tmod {n k : Nat} : (((n : Int) / 2 ^ k).tmod 2 == 1) = n.testBit k := by
  have h : ((n : Int) / 2 ^ k) = ((n / 2 ^ k : Nat) : Int) := by simp
  rw [h, show ((2 : Int)) = ((2 : Nat) : Int) from rfl, ← Int.ofNat_tmod, ← testBit_div]
  rw [Bool.eq_iff_iff]; simp; omega
theorem and_one {n : Nat} : n &&& 1 = n % 2 := by simp
end Go.Proofs.YtgaeigomhhbkfaaGreat
