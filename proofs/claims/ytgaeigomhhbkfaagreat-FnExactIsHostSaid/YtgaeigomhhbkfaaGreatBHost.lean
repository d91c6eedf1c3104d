/- Equality of hosts: what the program and the reference compute. -/
import Derived.Test.YtgaeigomhhbkfaaGreatBTypes
namespace Go.Proofs.YtgaeigomhhbkfaaGreat
open Go.RowKit Go
set_option linter.unusedVariables false
set_option linter.unusedSimpArgs false
set_option maxRecDepth 100000
set_option linter.unusedSectionVars false
variable [GC]
theorem ne_at {α : Type} [Inhabited α] {l l' : List α} {k : Nat} (h : nth l k ≠ nth l' k) : l ≠ l' := fun e => h (by rw [e])
theorem ne_len {α : Type} {l l' : List α} (h : l.length ≠ l'.length) : l ≠ l' := fun e => h (by rw [e])
theorem c_impl_sameTexts (l l' : List ByteArray) : Fun Tryz.prog 31 none [encS l, encS l'] (.bool (decide (l = l'))) [] := by
  refine Fun.ofV vc_impl_sameTexts_ok ty_impl_sameTexts_ok rfl ?_ (fun hfit => ?_)
  · exact ⟨ty_strS l, ty_strS l', trivial⟩
  have hl : l.length ≤ 9223372036854775807 := fits_encS hfit.1
  unfold vc_impl_sameTexts
  refine den_ite (fun h => ?_) (fun h => ?_)
  · simp only [E.den, dEq, iEq, sEq] at h
    have h : l.length ≠ l'.length := by grind
    exact den_ret (by simp [E.den, ne_len h])
  simp only [E.den, dEq, iEq, sEq] at h
  have h : l.length = l'.length := by grind
  refine den_for l.length (fun k => [.int .i64 k]) (fun k => ∀ i, i < k → nth l i = nth l' i) rfl (by omega) ?_
  intro k hk hI _
  simp only [List.cons_append, List.nil_append]
  refine den_ite (fun h2 => ?_) (fun h2 => ?_)
  · simp only [E.den, dEq, iEq, sEq] at h2
    have h2 : k < l.length := by simp at h2; exact h2
    (refine den_cond (fun hg => ?_) ?_; (focus (simp only [gsH, List.mem_cons, List.not_mem_nil, or_false, forall_eq_or_imp, forall_eq, E.den, dEq, iEq, sEq] at hg ⊢; (try simp only [D.bool.injEq] at hg); (try simp only [D.bool.injEq]); grind)))
    (refine den_cond (fun hg => ?_) ?_; (focus (simp only [gsH, List.mem_cons, List.not_mem_nil, or_false, forall_eq_or_imp, forall_eq, E.den, dEq, iEq, sEq] at hg ⊢; (try simp only [D.bool.injEq] at hg); (try simp only [D.bool.injEq]); grind)))
    refine den_ite (fun h3 => ?_) (fun h3 => ?_)
    · simp only [E.den, dEq, iEq, sEq, row_str, cells_str] at h3
      have h3 : nth l k ≠ nth l' k := by simpa using h3
      exact den_ret (by simp [E.den, ne_at h3])
    · simp only [E.den, dEq, iEq, sEq, row_str, cells_str] at h3
      have h3 : nth l k = nth l' k := by simpa using h3
      refine den_next h2 ?_ fun i hi => ?_
      · simp only [E.den, dEq, iEq, sEq]
        rw [ar_add (by omega) (by omega)]; rfl
      · rcases Nat.lt_or_ge i k with h' | h'
        · exact hI i h'
        · obtain rfl : i = k := by omega
          exact h3
  · simp only [E.den, dEq, iEq, sEq] at h2
    obtain rfl : k = l.length := by simp at h2; omega
    exact den_ret (by simp [E.den, ext_nth h hI])

theorem c_spec_l1SameTexts (l l' : List ByteArray) : Fun Tryz.prog 17 none [encS l, encS l'] (.bool (decide (l = l'))) [] := by
  refine Fun.ofV vc_spec_l1SameTexts_ok ty_spec_l1SameTexts_ok rfl ?_ (fun hfit => ?_)
  · exact ⟨ty_strS l, ty_strS l', trivial⟩
  have hl : l.length ≤ 9223372036854775807 := fits_encS hfit.1
  unfold vc_spec_l1SameTexts
  refine den_ite (fun h => ?_) (fun h => ?_)
  · simp only [E.den, dEq, iEq, sEq] at h
    have h : l.length ≠ l'.length := by grind
    exact den_ret (by simp [E.den, ne_len h])
  simp only [E.den, dEq, iEq, sEq] at h
  have h : l.length = l'.length := by grind
  refine den_for l.length (fun k => [.int .i64 k]) (fun k => ∀ i, i < k → nth l i = nth l' i) rfl (by omega) ?_
  intro k hk hI _
  simp only [List.cons_append, List.nil_append]
  refine den_ite (fun h2 => ?_) (fun h2 => ?_)
  · simp only [E.den, dEq, iEq, sEq] at h2
    have h2 : k < l.length := by simp at h2; exact h2
    (refine den_cond (fun hg => ?_) ?_; (focus (simp only [gsH, List.mem_cons, List.not_mem_nil, or_false, forall_eq_or_imp, forall_eq, E.den, dEq, iEq, sEq] at hg ⊢; (try simp only [D.bool.injEq] at hg); (try simp only [D.bool.injEq]); grind)))
    (refine den_cond (fun hg => ?_) ?_; (focus (simp only [gsH, List.mem_cons, List.not_mem_nil, or_false, forall_eq_or_imp, forall_eq, E.den, dEq, iEq, sEq] at hg ⊢; (try simp only [D.bool.injEq] at hg); (try simp only [D.bool.injEq]); grind)))
    refine den_ite (fun h3 => ?_) (fun h3 => ?_)
    · simp only [E.den, dEq, iEq, sEq, row_str, cells_str] at h3
      have h3 : nth l k ≠ nth l' k := by simpa using h3
      exact den_ret (by simp [E.den, ne_at h3])
    · simp only [E.den, dEq, iEq, sEq, row_str, cells_str] at h3
      have h3 : nth l k = nth l' k := by simpa using h3
      refine den_next h2 ?_ fun i hi => ?_
      · simp only [E.den, dEq, iEq, sEq]
        rw [ar_add (by omega) (by omega)]; rfl
      · rcases Nat.lt_or_ge i k with h' | h'
        · exact hI i h'
        · obtain rfl : i = k := by omega
          exact h3
  · simp only [E.den, dEq, iEq, sEq] at h2
    obtain rfl : k = l.length := by simp at h2; omega
    exact den_ret (by simp [E.den, ext_nth h hI])

end Go.Proofs.YtgaeigomhhbkfaaGreat
