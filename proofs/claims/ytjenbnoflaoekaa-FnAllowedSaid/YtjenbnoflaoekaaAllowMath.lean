/- Plain laws on versions and the faces that they allow. No program in sight. -/
import Derived.Test.YtjenbnoflaoekaaAExp
import Derived.Test.YtjenbnoflaoekaaFaceMath
namespace Go.Proofs.Ytjenbnoflaoekaa
def rep : Nat → Int × Int | 0 => (0, 0) | 1 => (1, 0) | 2 => (1, 1) | 3 => (1, 2) | 4 => (2, 0) | _ => (2, 1)
theorem cls {a b : Int} (h : isVersionB a b = true) : ∃ i : Fin 6, ∀ k : Fin 6, allows a b k.val = allows (rep i.val).1 (rep i.val).2 k.val := by
  simp [isVersionB] at h
  obtain ⟨⟨⟨h1, h2⟩, h3⟩, h4⟩ := h
  have key : ∀ (i : Fin 6), (∀ k : Fin 6, (cmpV (sinceM k.val) (sinceN k.val) a b ≤ 0) ↔ (cmpV (sinceM k.val) (sinceN k.val) (rep i.val).1 (rep i.val).2 ≤ 0)) → ∃ i : Fin 6, ∀ k : Fin 6, allows a b k.val = allows (rep i.val).1 (rep i.val).2 k.val := fun i hi => ⟨i, fun k => by unfold allows; exact decide_eq_decide.2 (hi k)⟩
  have all : ∀ (i : Fin 6), (∀ x y : Int, (x, y) ∈ [((1 : Int), (0 : Int)), (1, 1), (1, 2), (2, 0), (2, 1)] → ((cmpV x y a b ≤ 0) ↔ (cmpV x y (rep i.val).1 (rep i.val).2 ≤ 0))) → ∀ k : Fin 6, (cmpV (sinceM k.val) (sinceN k.val) a b ≤ 0) ↔ (cmpV (sinceM k.val) (sinceN k.val) (rep i.val).1 (rep i.val).2 ≤ 0) := fun i hi k => by
    apply hi
    revert k
    decide
  have le : ∀ x y c d : Int, cmpV x y c d ≤ 0 ↔ (x < c ∨ (x = c ∧ y ≤ d)) := fun x y c d => by
    unfold cmpV; (repeat' split) <;> omega
  have pick : ∃ i : Fin 6, (i.val = 0 ∧ a = 0) ∨ (i.val = 1 ∧ a = 1 ∧ b = 0) ∨ (i.val = 2 ∧ a = 1 ∧ b = 1) ∨ (i.val = 3 ∧ a = 1 ∧ 2 ≤ b) ∨ (i.val = 4 ∧ a = 2 ∧ b = 0) ∨ (i.val = 5 ∧ (a = 2 ∧ 1 ≤ b ∨ 3 ≤ a)) := by
    by_cases q0 : a = 0
    · exact ⟨0, .inl ⟨rfl, q0⟩⟩
    · by_cases q1 : a = 1
      · by_cases q2 : b = 0
        · exact ⟨1, .inr (.inl ⟨rfl, q1, q2⟩)⟩
        · by_cases q3 : b = 1
          · exact ⟨2, .inr (.inr (.inl ⟨rfl, q1, q3⟩))⟩
          · exact ⟨3, .inr (.inr (.inr (.inl ⟨rfl, q1, by omega⟩)))⟩
      · by_cases q2 : a = 2 ∧ b = 0
        · exact ⟨4, .inr (.inr (.inr (.inr (.inl ⟨rfl, q2⟩))))⟩
        · exact ⟨5, .inr (.inr (.inr (.inr (.inr ⟨rfl, by omega⟩))))⟩
  obtain ⟨i, hi⟩ := pick
  refine key i (all i fun x y hxy => ?_)
  rw [le, le]
  simp only [List.mem_cons, Prod.mk.injEq, List.not_mem_nil, or_false] at hxy
  rcases hi with ⟨e, q⟩ | ⟨e, q⟩ | ⟨e, q⟩ | ⟨e, q⟩ | ⟨e, q⟩ | ⟨e, q⟩ <;> rw [e] <;> simp only [rep] <;> omega
theorem af_rep {a b c d : Int} (h : ∀ k : Fin 6, allows a b k.val = allows c d k.val) : afN a b 6 = afN c d 6 := by
  have h0 := h 0; have h1 := h 1; have h2 := h 2; have h3 := h 3; have h4 := h 4; have h5 := h 5
  simp only [afN] at *
  simp only [Fin.isValue, Fin.val_zero, Fin.val_one, Fin.val_two] at h0 h1 h2
  have e3 : ((3 : Fin 6) : Nat) = 3 := rfl
  have e4 : ((4 : Fin 6) : Nat) = 4 := rfl
  have e5 : ((5 : Fin 6) : Nat) = 5 := rfl
  rw [e3] at h3; rw [e4] at h4; rw [e5] at h5
  rw [h0, h1, h2, h3, h4, h5]
theorem lv_in : ∀ m : Fin 64, lvN m.val 6 = (0, 0) ∨ ∃ k : Fin 6, lvN m.val 6 = (sinceM k.val, sinceN k.val) := by decide +kernel
theorem lack_rep : ∀ (i : Fin 6) (m : Fin 64), cmpI .eql (arI .andNot .i64 ((m.val : Nat) : Int) ((afN (rep i.val).1 (rep i.val).2 6 : Nat) : Int)) 0 = decide (cmpV (lvN m.val 6).1 (lvN m.val 6).2 (rep i.val).1 (rep i.val).2 ≤ 0) := by decide +kernel
theorem sub_rep : ∀ i j : Fin 6, (∀ k : Fin 6, allows (rep i.val).1 (rep i.val).2 k.val = true → allows (rep j.val).1 (rep j.val).2 k.val = true) → cmpI .eql (arI .andNot .i64 ((afN (rep i.val).1 (rep i.val).2 6 : Nat) : Int) ((afN (rep j.val).1 (rep j.val).2 6 : Nat) : Int)) 0 = true := by decide +kernel
theorem or_lack : ∀ n m : Fin 64, arI .or .i64 ((n.val : Nat) : Int) (arI .andNot .i64 ((m.val : Nat) : Int) ((n.val : Nat) : Int)) = arI .or .i64 ((n.val : Nat) : Int) ((m.val : Nat) : Int) ∧ isFaceB (arI .andNot .i64 ((m.val : Nat) : Int) ((n.val : Nat) : Int)) = true := by decide +kernel
theorem af_lt (a b : Int) : afN a b 6 < 64 := afN_lt a b 6
theorem af_face (a b : Int) : isFaceB ((afN a b 6 : Nat) : Int) = true := by have := af_lt a b; simp [isFaceB]; omega
theorem lack_law {a b : Int} (h : isVersionB a b = true) {m : Nat} (hm : m < 64) : cmpI .eql (arI .andNot .i64 (m : Int) ((afN a b 6 : Nat) : Int)) 0 = decide (cmpV (lvN m 6).1 (lvN m 6).2 a b ≤ 0) := by
  obtain ⟨i, hi⟩ := cls h
  rw [af_rep hi, lack_rep i ⟨m, hm⟩]
  rcases lv_in ⟨m, hm⟩ with e | ⟨k, e⟩
  · simp only at e
    rw [e]
    have z : ∀ c d : Int, isVersionB c d = true → cmpV 0 0 c d ≤ 0 := fun c d hc => by
      simp [isVersionB] at hc; unfold cmpV; (repeat' split) <;> omega
    have hr : ∀ i : Fin 6, isVersionB (rep i.val).1 (rep i.val).2 = true := by decide
    simp [z _ _ h, z _ _ (hr i)]
  · simp only at e
    rw [e]
    exact (hi k).symm
theorem sub_law {a b c d : Int} (h : isVersionB a b = true) (h' : isVersionB c d = true) (hle : cmpV a b c d ≤ 0) : cmpI .eql (arI .andNot .i64 ((afN a b 6 : Nat) : Int) ((afN c d 6 : Nat) : Int)) 0 = true := by
  obtain ⟨i, hi⟩ := cls h
  obtain ⟨j, hj⟩ := cls h'
  rw [af_rep hi, af_rep hj]
  refine sub_rep i j fun k hk => ?_
  rw [← hi] at hk
  rw [← hj]
  unfold allows at *
  simp only [decide_eq_true_eq] at *
  revert hk hle
  unfold cmpV
  (repeat' split) <;> omega
end Go.Proofs.Ytjenbnoflaoekaa
