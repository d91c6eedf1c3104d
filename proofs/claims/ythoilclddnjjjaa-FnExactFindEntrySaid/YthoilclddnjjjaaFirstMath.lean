/- The first place at which something holds. No program in sight. -/
import Derived.Test.YthoilclddnjjjaaRep
namespace Go.Proofs.Ythoilclddnjjjaa

def firstAt (p : Nat → Bool) : Nat → Int
  | 0 => -1
  | n + 1 => if firstAt p n < 0 then (if p n then (n : Int) else -1) else firstAt p n
theorem firstAt_none {p : Nat → Bool} : ∀ {n : Nat}, (∀ i, i < n → p i = false) → firstAt p n = -1
  | 0, _ => rfl
  | n + 1, h => by
    have h1 : firstAt p n = -1 := firstAt_none fun i hi => h i (by omega)
    simp [firstAt, h1, h n (by omega)]
theorem firstAt_some {p : Nat → Bool} {k : Nat} (hk : p k = true) : ∀ {n : Nat}, (∀ i, i < k → p i = false) → k < n → firstAt p n = k
  | 0, _, hn => absurd hn (by omega)
  | n + 1, h, hn => by
    by_cases e : k = n
    · subst e
      simp [firstAt, firstAt_none h, hk]
    · have h1 : firstAt p n = k := firstAt_some hk h (by omega)
      have h2 : ¬ ((k : Int) < 0) := by omega
      simp only [firstAt, h1, if_neg h2]
end Go.Proofs.Ythoilclddnjjjaa
