/- Ascending lists: they are what they hold; a text put into one. No program in sight. -/
import Derived.Test.YthoafgehfgblaaaAGlob
namespace Go.Proofs.Ythoafgehfgblaaa
set_option linter.unusedSectionVars false
set_option linter.unusedVariables false
set_option linter.unusedSimpArgs false
section
variable {α : Type} [DecidableEq α]
structure Ord (lt : α → α → Bool) : Prop where
  irr : ∀ a, lt a a = false
  tr : ∀ {a b c}, lt a b = true → lt b c = true → lt a c = true
  tot : ∀ {a b}, lt a b = false → a ≠ b → lt b a = true
def Asc (lt : α → α → Bool) (l : List α) : Prop := l.Pairwise fun a b => lt a b = true
variable {lt : α → α → Bool}
theorem asc_ext (ho : Ord lt) : ∀ {a b : List α}, Asc lt a → Asc lt b → (∀ x, x ∈ a ↔ x ∈ b) → a = b
  | [], [], _, _, _ => rfl
  | [], y :: b, _, _, h => by have := (h y).2 (by simp); simp at this
  | x :: a, [], _, _, h => by have := (h x).1 (by simp); simp at this
  | x :: a, y :: b, ha, hb, h => by
    unfold Asc at ha hb
    rw [List.pairwise_cons] at ha hb
    have hxy : x = y := by
      refine Classical.byContradiction fun hne => ?_
      have h1 : x ∈ b := by
        have := (h x).1 (by simp)
        rcases List.mem_cons.1 this with h | h
        · exact absurd h hne
        · exact h
      have h2 : y ∈ a := by
        have := (h y).2 (by simp)
        rcases List.mem_cons.1 this with h | h
        · exact absurd h.symm hne
        · exact h
      have h3 := ho.tr (ha.1 y h2) (hb.1 x h1)
      rw [ho.irr] at h3; cases h3
    subst hxy
    rw [asc_ext ho ha.2 hb.2 fun z => ?_]
    have hz := h z
    simp only [List.mem_cons] at hz
    constructor
    · intro hm
      rcases hz.1 (.inr hm) with rfl | h
      · have := ha.1 z hm; rw [ho.irr] at this; cases this
      · exact h
    · intro hm
      rcases hz.2 (.inr hm) with rfl | h
      · have := hb.1 z hm; rw [ho.irr] at this; cases this
      · exact h
theorem asc_snoc {l : List α} {x : α} (h : Asc lt l) (hx : ∀ y ∈ l, lt y x = true) : Asc lt (l ++ [x]) := by
  unfold Asc at *
  rw [List.pairwise_append]
  exact ⟨h, by simp, fun a ha b hb => by simp at hb; subst hb; exact hx a ha⟩
theorem asc_nodup (ho : Ord lt) {l : List α} (h : Asc lt l) : l.Nodup := by
  unfold Asc at h
  exact h.imp fun {a b} hab e => by subst e; rw [ho.irr] at hab; cases hab
variable [Inhabited α]
/-- The list with a text put in, after k rounds; whether it is in. -/
def putK (lt : α → α → Bool) (l : List α) (s : α) : Nat → List α × Bool
  | 0 => ([], false)
  | k + 1 =>
    if (putK lt l s k).2 then ((putK lt l s k).1 ++ [l.getD k default], true)
    else if lt (l.getD k default) s then ((putK lt l s k).1 ++ [l.getD k default], false)
    else if l.getD k default = s then ((putK lt l s k).1 ++ [l.getD k default], true)
    else ((putK lt l s k).1 ++ [s] ++ [l.getD k default], true)
def putG (lt : α → α → Bool) (l : List α) (s : α) : List α := if (putK lt l s l.length).2 then (putK lt l s l.length).1 else (putK lt l s l.length).1 ++ [s]
theorem putK_len (l : List α) (s : α) : ∀ k, (putK lt l s k).1.length ≤ k + (if (putK lt l s k).2 then 1 else 0)
  | 0 => by simp [putK]
  | k + 1 => by
    have := putK_len l s k
    simp only [putK]
    repeat' split
    all_goals simp_all
    all_goals (try split at this)
    all_goals omega
theorem putG_len (l : List α) (s : α) : (putG lt l s).length ≤ l.length + 1 := by
  have := putK_len (lt := lt) l s l.length
  unfold putG
  split <;> simp_all
theorem putK_mem (l : List α) (s y : α) : ∀ k, (y ∈ (putK lt l s k).1 ∨ y = s) ↔ (∃ i, i < k ∧ l.getD i default = y) ∨ y = s
  | 0 => by simp [putK]
  | k + 1 => by
    have ih := putK_mem l s y k
    have e : (∃ i, i < k + 1 ∧ l.getD i default = y) ↔ (∃ i, i < k ∧ l.getD i default = y) ∨ l.getD k default = y := by
      constructor
      · rintro ⟨i, hi, h⟩
        by_cases e : i = k
        · subst e; exact .inr h
        · exact .inl ⟨i, by omega, h⟩
      · rintro (⟨i, hi, h⟩ | h)
        · exact ⟨i, by omega, h⟩
        · exact ⟨k, by omega, h⟩
    rw [e]
    clear e
    simp only [putK]
    generalize (∃ i, i < k ∧ l.getD i default = y) = P at *
    generalize l.getD k default = z at *
    repeat' split
    all_goals simp only [List.mem_append, List.mem_singleton]
    all_goals grind
theorem putK_done (l : List α) (s : α) : ∀ k, (putK lt l s k).2 = true → s ∈ (putK lt l s k).1
  | 0, h => by simp [putK] at h
  | k + 1, h => by
    have ih := putK_done l s k
    simp only [putK] at h ⊢
    repeat' split at h
    all_goals simp_all
theorem putG_mem (l : List α) (s y : α) : y ∈ putG lt l s ↔ y ∈ l ∨ y = s := by
  have h1 := putK_mem (lt := lt) l s y l.length
  have e : (∃ i, i < l.length ∧ l.getD i default = y) ↔ y ∈ l := by
    constructor
    · rintro ⟨i, hi, rfl⟩
      rw [List.getD_eq_getElem?_getD, List.getElem?_eq_getElem hi]; simp
    · intro h
      obtain ⟨i, hi, rfl⟩ := List.getElem_of_mem h
      exact ⟨i, hi, by rw [List.getD_eq_getElem?_getD, List.getElem?_eq_getElem hi]; simp⟩
  rw [e] at h1
  have h2 := putK_done (lt := lt) l s l.length
  unfold putG
  split
  · rename_i hd
    have := h2 hd
    grind
  · rw [List.mem_append, List.mem_singleton]; exact h1
theorem putK_asc (ho : Ord lt) {l : List α} (h : Asc lt l) (s : α) : ∀ k, k ≤ l.length → Asc lt (putK lt l s k).1 ∧ (∀ y ∈ (putK lt l s k).1, ∀ i, k ≤ i → i < l.length → lt y (l.getD i default) = true) ∧ ((putK lt l s k).2 = false → ∀ y ∈ (putK lt l s k).1, lt y s = true)
  | 0, _ => ⟨by simp [putK, Asc], by simp [putK], by simp [putK]⟩
  | k + 1, hk => by
    obtain ⟨h1, h2, h3⟩ := putK_asc ho h s k (by omega)
    have hlt : ∀ i, k < i → i < l.length → lt (l.getD k default) (l.getD i default) = true := by
      intro i hi hil
      have := List.pairwise_iff_getElem.1 h k i (by omega) hil hi
      simpa [List.getD_eq_getElem?_getD, hil, show k < l.length by omega] using this
    have hk2 : ∀ y ∈ (putK lt l s k).1, lt y (l.getD k default) = true := fun y hy => h2 y hy k (Nat.le_refl _) (by omega)
    generalize hz : l.getD k default = z at *
    simp only [putK, hz]
    split
    · refine ⟨asc_snoc h1 hk2, ?_, by simp⟩
      intro y hy i hi hil
      rw [List.mem_append, List.mem_singleton] at hy
      rcases hy with hy | rfl
      · exact h2 y hy i (by omega) hil
      · exact hlt i (by omega) hil
    · rename_i hd
      have hd : (putK lt l s k).2 = false := by simpa using hd
      split
      · rename_i hzs
        refine ⟨asc_snoc h1 hk2, ?_, ?_⟩
        · intro y hy i hi hil
          rw [List.mem_append, List.mem_singleton] at hy
          rcases hy with hy | rfl
          · exact h2 y hy i (by omega) hil
          · exact hlt i (by omega) hil
        · intro _ y hy
          rw [List.mem_append, List.mem_singleton] at hy
          rcases hy with hy | rfl
          · exact h3 hd y hy
          · exact hzs
      · rename_i hzs
        split
        · refine ⟨asc_snoc h1 hk2, ?_, by simp⟩
          intro y hy i hi hil
          rw [List.mem_append, List.mem_singleton] at hy
          rcases hy with hy | rfl
          · exact h2 y hy i (by omega) hil
          · exact hlt i (by omega) hil
        · rename_i hne
          have hsz : lt s z = true := ho.tot (by simpa using hzs) hne
          refine ⟨asc_snoc (asc_snoc h1 (h3 hd)) ?_, ?_, by simp⟩
          · intro y hy
            rw [List.mem_append, List.mem_singleton] at hy
            rcases hy with hy | rfl
            · exact hk2 y hy
            · exact hsz
          · intro y hy i hi hil
            simp only [List.mem_append, List.mem_singleton] at hy
            rcases hy with (hy | rfl) | rfl
            · exact h2 y hy i (by omega) hil
            · exact ho.tr hsz (hlt i (by omega) hil)
            · exact hlt i (by omega) hil
theorem putG_asc (ho : Ord lt) {l : List α} (h : Asc lt l) (s : α) : Asc lt (putG lt l s) := by
  obtain ⟨h1, h2, h3⟩ := putK_asc ho h s l.length (Nat.le_refl _)
  unfold putG
  split
  · exact h1
  · rename_i hd
    exact asc_snoc h1 (h3 (by simpa using hd))
end
end Go.Proofs.Ythoafgehfgblaaa
