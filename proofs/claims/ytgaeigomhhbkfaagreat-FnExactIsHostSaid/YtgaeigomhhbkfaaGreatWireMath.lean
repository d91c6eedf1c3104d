/- The closure of a relation on places, step by step in place, as the program reckons it. Plain mathematics. -/
import Derived.Test.YtgaeigomhhbkfaaGreatAGlob
namespace Go.Proofs.YtgaeigomhhbkfaaGreat
def updM (S : Nat → Nat → Bool) (i j : Nat) (b : Bool) : Nat → Nat → Bool := fun a c => if a = i ∧ c = j then b else S a c
def fwJ (k i : Nat) (S : Nat → Nat → Bool) : Nat → Nat → Nat → Bool
  | 0 => S
  | j + 1 => updM (fwJ k i S j) i j (fwJ k i S j i j || (fwJ k i S j i k && fwJ k i S j k j))
def fwI (n k : Nat) (S : Nat → Nat → Bool) : Nat → Nat → Nat → Bool
  | 0 => S
  | i + 1 => fwJ k i (fwI n k S i) n
def fwK (n : Nat) (S : Nat → Nat → Bool) : Nat → Nat → Nat → Bool
  | 0 => S
  | k + 1 => fwI n k (fwK n S k) n
/-- One round over k changes each place to 'as before, or over k'. -/
def viaK (S : Nat → Nat → Bool) (k a b : Nat) : Bool := S a b || (S a k && S k b)
theorem fwJ_spec (k i : Nat) (S : Nat → Nat → Bool) : ∀ (j a b : Nat), fwJ k i S j a b = if a = i ∧ b < j then viaK S k a b else S a b
  | 0, a, b => by simp [fwJ]
  | j + 1, a, b => by
    have h1 : fwJ k i S j i k = S i k := by
      rw [fwJ_spec k i S j]
      split
      · unfold viaK; cases S i k <;> simp
      · rfl
    have h2 : ∀ c, fwJ k i S j k c = S k c := by
      intro c
      rw [fwJ_spec k i S j]
      split
      · rename_i h; unfold viaK; cases S k c <;> simp
      · rfl
    simp only [fwJ, updM]
    by_cases h : a = i ∧ b = j
    · obtain ⟨rfl, rfl⟩ := h
      rw [if_pos ⟨rfl, rfl⟩, if_pos ⟨rfl, Nat.lt_succ_self _⟩, h1, h2, fwJ_spec k a S b, if_neg (by omega)]
      rfl
    · rw [if_neg h, fwJ_spec k i S j]
      by_cases h3 : a = i ∧ b < j
      · rw [if_pos h3, if_pos ⟨h3.1, by omega⟩]
      · rw [if_neg h3, if_neg (by omega)]
theorem viaK_k (S : Nat → Nat → Bool) (k b : Nat) : viaK S k k b = S k b := by unfold viaK; cases S k b <;> simp
theorem viaK_to (S : Nat → Nat → Bool) (k a : Nat) : viaK S k a k = S a k := by unfold viaK; cases S a k <;> simp
theorem fwI_spec (n k : Nat) (S : Nat → Nat → Bool) : ∀ (i a b : Nat), fwI n k S i a b = if a < i ∧ b < n then viaK S k a b else S a b
  | 0, a, b => by simp [fwI]
  | i + 1, a, b => by
    have h2 : ∀ c, fwI n k S i k c = S k c := by
      intro c
      rw [fwI_spec n k S i]
      split
      · exact viaK_k S k c
      · rfl
    simp only [fwI]
    rw [fwJ_spec]
    by_cases h : a = i ∧ b < n
    · obtain ⟨rfl, hb⟩ := h
      rw [if_pos ⟨rfl, hb⟩, if_pos ⟨Nat.lt_succ_self _, hb⟩]
      unfold viaK
      rw [h2, fwI_spec n k S a, if_neg (by omega), fwI_spec n k S a, if_neg (by omega)]
    · rw [if_neg h, fwI_spec n k S i]
      by_cases h3 : a < i ∧ b < n
      · rw [if_pos h3, if_pos ⟨by omega, h3.2⟩]
      · rw [if_neg h3, if_neg (by omega)]
/-- A way from a to b whose places between lie below k. -/
inductive Way (S : Nat → Nat → Bool) (k : Nat) : Nat → Nat → Prop
  | edge {a b : Nat} (h : S a b = true) : Way S k a b
  | step {a m b : Nat} (hm : m < k) (h1 : Way S k a m) (h2 : Way S k m b) : Way S k a b
theorem Way.mono {S : Nat → Nat → Bool} {k k' : Nat} (hk : k ≤ k') {a b : Nat} (h : Way S k a b) : Way S k' a b := by
  induction h with
  | edge h => exact .edge h
  | step hm _ _ ih1 ih2 => exact .step (by omega) ih1 ih2
theorem way_succ {S : Nat → Nat → Bool} {k a b : Nat} : Way S (k + 1) a b ↔ Way S k a b ∨ (Way S k a k ∧ Way S k k b) := by
  constructor
  · intro h
    induction h with
    | edge h => exact .inl (.edge h)
    | @step a m b hm _ _ ih1 ih2 =>
      by_cases e : m = k
      · subst e
        have l : Way S m a m := ih1.elim id fun h => h.1
        have r : Way S m m b := ih2.elim id fun h => h.2
        exact .inr ⟨l, r⟩
      · have hm' : m < k := by omega
        rcases ih1 with h1 | ⟨h1, h1'⟩ <;> rcases ih2 with h2 | ⟨h2, h2'⟩
        · exact .inl (.step hm' h1 h2)
        · exact .inr ⟨.step hm' h1 h2, h2'⟩
        · exact .inr ⟨h1, .step hm' h1' h2⟩
        · exact .inr ⟨h1, h2'⟩
  · rintro (h | ⟨h1, h2⟩)
    · exact h.mono (by omega)
    · exact .step (Nat.lt_succ_self k) (h1.mono (by omega)) (h2.mono (by omega))
theorem way_zero {S : Nat → Nat → Bool} {a b : Nat} : Way S 0 a b ↔ S a b = true := by
  constructor
  · intro h
    cases h with
    | edge h => exact h
    | step hm => omega
  · exact .edge
/-- What the three loops reckon: the ways. -/
theorem fwK_spec (n : Nat) (S : Nat → Nat → Bool) : ∀ (k : Nat), k ≤ n → ∀ a b, a < n → b < n → (fwK n S k a b = true ↔ Way S k a b)
  | 0, _, a, b, _, _ => by rw [way_zero]; rfl
  | k + 1, hk, a, b, ha, hb => by
    simp only [fwK]
    rw [fwI_spec, if_pos ⟨ha, hb⟩, way_succ]
    unfold viaK
    have i1 := fwK_spec n S k (by omega) a b ha hb
    have i2 := fwK_spec n S k (by omega) a k ha (by omega)
    have i3 := fwK_spec n S k (by omega) k b (by omega) hb
    simp only [Bool.or_eq_true, Bool.and_eq_true, i1, i2, i3]
end Go.Proofs.YtgaeigomhhbkfaaGreat
/- Ascending lists: they are what they hold; a text put into one. No program in sight. -/
namespace Go.Proofs.YtgaeigomhhbkfaaGreat
set_option linter.unusedSectionVars false
set_option linter.unusedVariables false
set_option linter.unusedSimpArgs false
section
variable {α : Type} [DecidableEq α]
structure Ord (lt : α → α → Bool) : Prop where
  irr : ∀ a, lt a a = false
  tr : ∀ {a b c}, lt a b = true → lt b c = true → lt a c = true
  tot : ∀ {a b}, lt a b = false → a ≠ b → lt b a = true
def Asc (lt : α → α → Bool) (l : List α) : Prop := l.Pairwise fun a b => lt a b = true
variable {lt : α → α → Bool}
theorem asc_ext (ho : Ord lt) : ∀ {a b : List α}, Asc lt a → Asc lt b → (∀ x, x ∈ a ↔ x ∈ b) → a = b
  | [], [], _, _, _ => rfl
  | [], y :: b, _, _, h => by have := (h y).2 (by simp); simp at this
  | x :: a, [], _, _, h => by have := (h x).1 (by simp); simp at this
  | x :: a, y :: b, ha, hb, h => by
    unfold Asc at ha hb
    rw [List.pairwise_cons] at ha hb
    have hxy : x = y := by
      refine Classical.byContradiction fun hne => ?_
      have h1 : x ∈ b := by
        have := (h x).1 (by simp)
        rcases List.mem_cons.1 this with h | h
        · exact absurd h hne
        · exact h
      have h2 : y ∈ a := by
        have := (h y).2 (by simp)
        rcases List.mem_cons.1 this with h | h
        · exact absurd h.symm hne
        · exact h
      have h3 := ho.tr (ha.1 y h2) (hb.1 x h1)
      rw [ho.irr] at h3; cases h3
    subst hxy
    rw [asc_ext ho ha.2 hb.2 fun z => ?_]
    have hz := h z
    simp only [List.mem_cons] at hz
    constructor
    · intro hm
      rcases hz.1 (.inr hm) with rfl | h
      · have := ha.1 z hm; rw [ho.irr] at this; cases this
      · exact h
    · intro hm
      rcases hz.2 (.inr hm) with rfl | h
      · have := hb.1 z hm; rw [ho.irr] at this; cases this
      · exact h
theorem asc_snoc {l : List α} {x : α} (h : Asc lt l) (hx : ∀ y ∈ l, lt y x = true) : Asc lt (l ++ [x]) := by
  unfold Asc at *
  rw [List.pairwise_append]
  exact ⟨h, by simp, fun a ha b hb => by simp at hb; subst hb; exact hx a ha⟩
theorem asc_nodup (ho : Ord lt) {l : List α} (h : Asc lt l) : l.Nodup := by
  unfold Asc at h
  exact h.imp fun {a b} hab e => by subst e; rw [ho.irr] at hab; cases hab
variable [Inhabited α]
/-- The list with a text put in, after k rounds; whether it is in. -/
def putK (lt : α → α → Bool) (l : List α) (s : α) : Nat → List α × Bool
  | 0 => ([], false)
  | k + 1 =>
    if (putK lt l s k).2 then ((putK lt l s k).1 ++ [l.getD k default], true)
    else if lt (l.getD k default) s then ((putK lt l s k).1 ++ [l.getD k default], false)
    else if l.getD k default = s then ((putK lt l s k).1 ++ [l.getD k default], true)
    else ((putK lt l s k).1 ++ [s] ++ [l.getD k default], true)
def putG (lt : α → α → Bool) (l : List α) (s : α) : List α := if (putK lt l s l.length).2 then (putK lt l s l.length).1 else (putK lt l s l.length).1 ++ [s]
theorem putK_len (l : List α) (s : α) : ∀ k, (putK lt l s k).1.length ≤ k + (if (putK lt l s k).2 then 1 else 0)
  | 0 => by simp [putK]
  | k + 1 => by
    have := putK_len l s k
    simp only [putK]
    repeat' split
    all_goals simp_all
    all_goals (try split at this)
    all_goals omega
theorem putG_len (l : List α) (s : α) : (putG lt l s).length ≤ l.length + 1 := by
  have := putK_len (lt := lt) l s l.length
  unfold putG
  split <;> simp_all
theorem putK_mem (l : List α) (s y : α) : ∀ k, (y ∈ (putK lt l s k).1 ∨ y = s) ↔ (∃ i, i < k ∧ l.getD i default = y) ∨ y = s
  | 0 => by simp [putK]
  | k + 1 => by
    have ih := putK_mem l s y k
    have e : (∃ i, i < k + 1 ∧ l.getD i default = y) ↔ (∃ i, i < k ∧ l.getD i default = y) ∨ l.getD k default = y := by
      constructor
      · rintro ⟨i, hi, h⟩
        by_cases e : i = k
        · subst e; exact .inr h
        · exact .inl ⟨i, by omega, h⟩
      · rintro (⟨i, hi, h⟩ | h)
        · exact ⟨i, by omega, h⟩
        · exact ⟨k, by omega, h⟩
    rw [e]
    clear e
    simp only [putK]
    generalize (∃ i, i < k ∧ l.getD i default = y) = P at *
    generalize l.getD k default = z at *
    repeat' split
    all_goals simp only [List.mem_append, List.mem_singleton]
    all_goals grind
theorem putK_done (l : List α) (s : α) : ∀ k, (putK lt l s k).2 = true → s ∈ (putK lt l s k).1
  | 0, h => by simp [putK] at h
  | k + 1, h => by
    have ih := putK_done l s k
    simp only [putK] at h ⊢
    repeat' split at h
    all_goals simp_all
theorem putG_mem (l : List α) (s y : α) : y ∈ putG lt l s ↔ y ∈ l ∨ y = s := by
  have h1 := putK_mem (lt := lt) l s y l.length
  have e : (∃ i, i < l.length ∧ l.getD i default = y) ↔ y ∈ l := by
    constructor
    · rintro ⟨i, hi, rfl⟩
      rw [List.getD_eq_getElem?_getD, List.getElem?_eq_getElem hi]; simp
    · intro h
      obtain ⟨i, hi, rfl⟩ := List.getElem_of_mem h
      exact ⟨i, hi, by rw [List.getD_eq_getElem?_getD, List.getElem?_eq_getElem hi]; simp⟩
  rw [e] at h1
  have h2 := putK_done (lt := lt) l s l.length
  unfold putG
  split
  · rename_i hd
    have := h2 hd
    grind
  · rw [List.mem_append, List.mem_singleton]; exact h1
theorem putK_asc (ho : Ord lt) {l : List α} (h : Asc lt l) (s : α) : ∀ k, k ≤ l.length → Asc lt (putK lt l s k).1 ∧ (∀ y ∈ (putK lt l s k).1, ∀ i, k ≤ i → i < l.length → lt y (l.getD i default) = true) ∧ ((putK lt l s k).2 = false → ∀ y ∈ (putK lt l s k).1, lt y s = true)
  | 0, _ => ⟨by simp [putK, Asc], by simp [putK], by simp [putK]⟩
  | k + 1, hk => by
    obtain ⟨h1, h2, h3⟩ := putK_asc ho h s k (by omega)
    have hlt : ∀ i, k < i → i < l.length → lt (l.getD k default) (l.getD i default) = true := by
      intro i hi hil
      have := List.pairwise_iff_getElem.1 h k i (by omega) hil hi
      simpa [List.getD_eq_getElem?_getD, hil, show k < l.length by omega] using this
    have hk2 : ∀ y ∈ (putK lt l s k).1, lt y (l.getD k default) = true := fun y hy => h2 y hy k (Nat.le_refl _) (by omega)
    generalize hz : l.getD k default = z at *
    simp only [putK, hz]
    split
    · refine ⟨asc_snoc h1 hk2, ?_, by simp⟩
      intro y hy i hi hil
      rw [List.mem_append, List.mem_singleton] at hy
      rcases hy with hy | rfl
      · exact h2 y hy i (by omega) hil
      · exact hlt i (by omega) hil
    · rename_i hd
      have hd : (putK lt l s k).2 = false := by simpa using hd
      split
      · rename_i hzs
        refine ⟨asc_snoc h1 hk2, ?_, ?_⟩
        · intro y hy i hi hil
          rw [List.mem_append, List.mem_singleton] at hy
          rcases hy with hy | rfl
          · exact h2 y hy i (by omega) hil
          · exact hlt i (by omega) hil
        · intro _ y hy
          rw [List.mem_append, List.mem_singleton] at hy
          rcases hy with hy | rfl
          · exact h3 hd y hy
          · exact hzs
      · rename_i hzs
        split
        · refine ⟨asc_snoc h1 hk2, ?_, by simp⟩
          intro y hy i hi hil
          rw [List.mem_append, List.mem_singleton] at hy
          rcases hy with hy | rfl
          · exact h2 y hy i (by omega) hil
          · exact hlt i (by omega) hil
        · rename_i hne
          have hsz : lt s z = true := ho.tot (by simpa using hzs) hne
          refine ⟨asc_snoc (asc_snoc h1 (h3 hd)) ?_, ?_, by simp⟩
          · intro y hy
            rw [List.mem_append, List.mem_singleton] at hy
            rcases hy with hy | rfl
            · exact hk2 y hy
            · exact hsz
          · intro y hy i hi hil
            simp only [List.mem_append, List.mem_singleton] at hy
            rcases hy with (hy | rfl) | rfl
            · exact h2 y hy i (by omega) hil
            · exact ho.tr hsz (hlt i (by omega) hil)
            · exact hlt i (by omega) hil
theorem putG_asc (ho : Ord lt) {l : List α} (h : Asc lt l) (s : α) : Asc lt (putG lt l s) := by
  obtain ⟨h1, h2, h3⟩ := putK_asc ho h s l.length (Nat.le_refl _)
  unfold putG
  split
  · exact h1
  · rename_i hd
    exact asc_snoc h1 (h3 (by simpa using hd))
end
end Go.Proofs.YtgaeigomhhbkfaaGreat
