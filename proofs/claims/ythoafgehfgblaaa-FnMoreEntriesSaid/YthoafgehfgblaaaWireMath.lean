/- The closure of a relation on places, step by step in place, as the program reckons it. Plain mathematics. -/
namespace Go.Proofs.Ythoafgehfgblaaa
def updM (S : Nat → Nat → Bool) (i j : Nat) (b : Bool) : Nat → Nat → Bool := fun a c => if a = i ∧ c = j then b else S a c
def fwJ (k i : Nat) (S : Nat → Nat → Bool) : Nat → Nat → Nat → Bool
  | 0 => S
  | j + 1 => updM (fwJ k i S j) i j (fwJ k i S j i j || (fwJ k i S j i k && fwJ k i S j k j))
def fwI (n k : Nat) (S : Nat → Nat → Bool) : Nat → Nat → Nat → Bool
  | 0 => S
  | i + 1 => fwJ k i (fwI n k S i) n
def fwK (n : Nat) (S : Nat → Nat → Bool) : Nat → Nat → Nat → Bool
  | 0 => S
  | k + 1 => fwI n k (fwK n S k) n
/-- One round over k changes each place to 'as before, or over k'. -/
def viaK (S : Nat → Nat → Bool) (k a b : Nat) : Bool := S a b || (S a k && S k b)
theorem fwJ_spec (k i : Nat) (S : Nat → Nat → Bool) : ∀ (j a b : Nat), fwJ k i S j a b = if a = i ∧ b < j then viaK S k a b else S a b
  | 0, a, b => by simp [fwJ]
  | j + 1, a, b => by
    have h1 : fwJ k i S j i k = S i k := by
      rw [fwJ_spec k i S j]
      split
      · unfold viaK; cases S i k <;> simp
      · rfl
    have h2 : ∀ c, fwJ k i S j k c = S k c := by
      intro c
      rw [fwJ_spec k i S j]
      split
      · rename_i h; unfold viaK; cases S k c <;> simp
      · rfl
    simp only [fwJ, updM]
    by_cases h : a = i ∧ b = j
    · obtain ⟨rfl, rfl⟩ := h
      rw [if_pos ⟨rfl, rfl⟩, if_pos ⟨rfl, Nat.lt_succ_self _⟩, h1, h2, fwJ_spec k a S b, if_neg (by omega)]
      rfl
    · rw [if_neg h, fwJ_spec k i S j]
      by_cases h3 : a = i ∧ b < j
      · rw [if_pos h3, if_pos ⟨h3.1, by omega⟩]
      · rw [if_neg h3, if_neg (by omega)]
theorem viaK_k (S : Nat → Nat → Bool) (k b : Nat) : viaK S k k b = S k b := by unfold viaK; cases S k b <;> simp
theorem viaK_to (S : Nat → Nat → Bool) (k a : Nat) : viaK S k a k = S a k := by unfold viaK; cases S a k <;> simp
theorem fwI_spec (n k : Nat) (S : Nat → Nat → Bool) : ∀ (i a b : Nat), fwI n k S i a b = if a < i ∧ b < n then viaK S k a b else S a b
  | 0, a, b => by simp [fwI]
  | i + 1, a, b => by
    have h2 : ∀ c, fwI n k S i k c = S k c := by
      intro c
      rw [fwI_spec n k S i]
      split
      · exact viaK_k S k c
      · rfl
    simp only [fwI]
    rw [fwJ_spec]
    by_cases h : a = i ∧ b < n
    · obtain ⟨rfl, hb⟩ := h
      rw [if_pos ⟨rfl, hb⟩, if_pos ⟨Nat.lt_succ_self _, hb⟩]
      unfold viaK
      rw [h2, fwI_spec n k S a, if_neg (by omega), fwI_spec n k S a, if_neg (by omega)]
    · rw [if_neg h, fwI_spec n k S i]
      by_cases h3 : a < i ∧ b < n
      · rw [if_pos h3, if_pos ⟨by omega, h3.2⟩]
      · rw [if_neg h3, if_neg (by omega)]
/-- A way from a to b whose places between lie below k. -/
inductive Way (S : Nat → Nat → Bool) (k : Nat) : Nat → Nat → Prop
  | edge {a b : Nat} (h : S a b = true) : Way S k a b
  | step {a m b : Nat} (hm : m < k) (h1 : Way S k a m) (h2 : Way S k m b) : Way S k a b
theorem Way.mono {S : Nat → Nat → Bool} {k k' : Nat} (hk : k ≤ k') {a b : Nat} (h : Way S k a b) : Way S k' a b := by
  induction h with
  | edge h => exact .edge h
  | step hm _ _ ih1 ih2 => exact .step (by omega) ih1 ih2
theorem way_succ {S : Nat → Nat → Bool} {k a b : Nat} : Way S (k + 1) a b ↔ Way S k a b ∨ (Way S k a k ∧ Way S k k b) := by
  constructor
  · intro h
    induction h with
    | edge h => exact .inl (.edge h)
    | @step a m b hm _ _ ih1 ih2 =>
      by_cases e : m = k
      · subst e
        have l : Way S m a m := ih1.elim id fun h => h.1
        have r : Way S m m b := ih2.elim id fun h => h.2
        exact .inr ⟨l, r⟩
      · have hm' : m < k := by omega
        rcases ih1 with h1 | ⟨h1, h1'⟩ <;> rcases ih2 with h2 | ⟨h2, h2'⟩
        · exact .inl (.step hm' h1 h2)
        · exact .inr ⟨.step hm' h1 h2, h2'⟩
        · exact .inr ⟨h1, .step hm' h1' h2⟩
        · exact .inr ⟨h1, h2'⟩
  · rintro (h | ⟨h1, h2⟩)
    · exact h.mono (by omega)
    · exact .step (Nat.lt_succ_self k) (h1.mono (by omega)) (h2.mono (by omega))
theorem way_zero {S : Nat → Nat → Bool} {a b : Nat} : Way S 0 a b ↔ S a b = true := by
  constructor
  · intro h
    cases h with
    | edge h => exact h
    | step hm => omega
  · exact .edge
/-- What the three loops reckon: the ways. -/
theorem fwK_spec (n : Nat) (S : Nat → Nat → Bool) : ∀ (k : Nat), k ≤ n → ∀ a b, a < n → b < n → (fwK n S k a b = true ↔ Way S k a b)
  | 0, _, a, b, _, _ => by rw [way_zero]; rfl
  | k + 1, hk, a, b, ha, hb => by
    simp only [fwK]
    rw [fwI_spec, if_pos ⟨ha, hb⟩, way_succ]
    unfold viaK
    have i1 := fwK_spec n S k (by omega) a b ha hb
    have i2 := fwK_spec n S k (by omega) a k ha (by omega)
    have i3 := fwK_spec n S k (by omega) k b (by omega) hb
    simp only [Bool.or_eq_true, Bool.and_eq_true, i1, i2, i3]
end Go.Proofs.Ythoafgehfgblaaa
