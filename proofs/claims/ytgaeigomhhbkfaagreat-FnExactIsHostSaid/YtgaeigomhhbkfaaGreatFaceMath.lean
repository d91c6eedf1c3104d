/- Plain functions on faces. No program in sight. -/
import Derived.Test.YtgaeigomhhbkfaaGreatVerMath
namespace Go.Proofs.YtgaeigomhhbkfaaGreat
/-- The face of the abilities below k that c chooses. -/
def madeN (c : Bool → Bool → Bool) (n m : Nat) : Nat → Nat
  | 0 => 0
  | k + 1 => madeN c n m k + if c (n.testBit k) (m.testBit k) then 2 ^ k else 0
theorem madeN_lt (c : Bool → Bool → Bool) (n m : Nat) : ∀ k, madeN c n m k < 2 ^ k
  | 0 => by simp [madeN]
  | k + 1 => by
    have := madeN_lt c n m k
    unfold madeN
    split <;> omega
theorem madeN_yes {c : Bool → Bool → Bool} {n m k : Nat} (h : c (n.testBit k) (m.testBit k) = true) : madeN c n m (k + 1) = madeN c n m k + 2 ^ k := by simp [madeN, h]
theorem madeN_no {c : Bool → Bool → Bool} {n m k : Nat} (h : c (n.testBit k) (m.testBit k) = false) : madeN c n m (k + 1) = madeN c n m k := by simp [madeN, h]
def cBoth (x y : Bool) : Bool := x && y
def cEither (x y : Bool) : Bool := x || y
def cFirst (x y : Bool) : Bool := x && !y
theorem made_both_all : ∀ n m : Fin 64, madeN cBoth n m 6 = n.val &&& m.val := by decide +kernel
theorem made_either_all : ∀ n m : Fin 64, madeN cEither n m 6 = n.val ||| m.val := by decide +kernel
theorem made_first_all : ∀ n m : Fin 64, madeN cFirst n m 6 = n.val ^^^ (n.val &&& m.val) := by decide +kernel
theorem made_both {n m : Nat} (hn : n < 64) (hm : m < 64) : madeN cBoth n m 6 = n &&& m := made_both_all ⟨n, hn⟩ ⟨m, hm⟩
theorem made_either {n m : Nat} (hn : n < 64) (hm : m < 64) : madeN cEither n m 6 = n ||| m := made_either_all ⟨n, hn⟩ ⟨m, hm⟩
theorem made_first {n m : Nat} (hn : n < 64) (hm : m < 64) : madeN cFirst n m 6 = n ^^^ (n &&& m) := made_first_all ⟨n, hn⟩ ⟨m, hm⟩
theorem and_lt64 {n m : Nat} (hn : n < 64) : n &&& m < 64 := Nat.lt_of_le_of_lt Nat.and_le_left hn
end Go.Proofs.YtgaeigomhhbkfaaGreat
