/- Whether a list of texts has one; where it stands. -/
import Derived.Test.YtgaeigomhhbkfaaGreatBEntry
namespace Go.Proofs.YtgaeigomhhbkfaaGreat
open Go.RowKit Go
set_option linter.unusedVariables false
set_option linter.unusedSimpArgs false
set_option maxRecDepth 100000
set_option linter.unusedSectionVars false
variable [GC]
def hasB (l : List ByteArray) (s : ByteArray) : Bool := l.any fun t => decide (t = s)
theorem c_impl_hasText (l : List ByteArray) (s : ByteArray) : Fun Tryz.prog 34 none [encS l, .str s] (.bool (hasB l s)) [] := by
  refine Fun.ofV vc_impl_hasText_ok ty_impl_hasText_ok rfl ?_ (fun hfit => ?_)
  · exact ⟨ty_strS l, trivial, trivial⟩
  have hl : l.length ≤ 9223372036854775807 := fits_encS hfit.1
  unfold vc_impl_hasText
  refine den_for l.length (fun k => [.int .i64 k]) (fun k => ∀ i, i < k → nth l i ≠ s) rfl (by omega) ?_
  intro k hk hI _
  simp only [List.cons_append, List.nil_append]
  refine den_ite (fun h2 => ?_) (fun h2 => ?_)
  · simp only [E.den, dEq, iEq, sEq] at h2
    have h2 : k < l.length := by simp at h2; exact h2
    (refine den_cond (fun hg => ?_) ?_; (focus (simp only [gsH, List.mem_cons, List.not_mem_nil, or_false, forall_eq_or_imp, forall_eq, E.den, dEq, iEq, sEq] at hg ⊢; (try simp only [D.bool.injEq] at hg); (try simp only [D.bool.injEq]); grind)))
    refine den_ite (fun h3 => ?_) (fun h3 => ?_)
    · simp only [E.den, dEq, iEq, sEq, row_str, cells_str] at h3
      have hb : hasB l s = true := by
        unfold hasB; rw [List.any_eq_true]; refine ⟨s, ?_, by simp⟩
        have : nth l k = s := by grind
        rw [← this, nth, List.getD_eq_getElem?_getD, List.getElem?_eq_getElem h2]; simp
      exact den_ret (by simp [E.den, hb])
    · simp only [E.den, dEq, iEq, sEq, row_str, cells_str] at h3
      refine den_next h2 ?_ fun i hi => ?_
      · simp only [E.den, dEq, iEq, sEq]
        rw [ar_add (by omega) (by omega)]; rfl
      · rcases Nat.lt_or_ge i k with h | h
        · exact hI i h
        · obtain rfl : i = k := by omega
          grind
  · simp only [E.den, dEq, iEq, sEq] at h2
    obtain rfl : k = l.length := by simp at h2; omega
    have hb : hasB l s = false := by
      unfold hasB; rw [List.any_eq_false]; intro t h
      obtain ⟨i, hi, rfl⟩ := List.getElem_of_mem h
      have := hI i hi
      simpa [nth, List.getD_eq_getElem?_getD, hi] using this
    exact den_ret (by simp [E.den, hb])

theorem c_spec_l1HasText (l : List ByteArray) (s : ByteArray) : Fun Tryz.prog 20 none [encS l, .str s] (.bool (hasB l s)) [] := by
  refine Fun.ofV vc_spec_l1HasText_ok ty_spec_l1HasText_ok rfl ?_ (fun hfit => ?_)
  · exact ⟨ty_strS l, trivial, trivial⟩
  have hl : l.length ≤ 9223372036854775807 := fits_encS hfit.1
  unfold vc_spec_l1HasText
  refine den_for l.length (fun k => [.int .i64 k]) (fun k => ∀ i, i < k → nth l i ≠ s) rfl (by omega) ?_
  intro k hk hI _
  simp only [List.cons_append, List.nil_append]
  refine den_ite (fun h2 => ?_) (fun h2 => ?_)
  · simp only [E.den, dEq, iEq, sEq] at h2
    have h2 : k < l.length := by simp at h2; exact h2
    (refine den_cond (fun hg => ?_) ?_; (focus (simp only [gsH, List.mem_cons, List.not_mem_nil, or_false, forall_eq_or_imp, forall_eq, E.den, dEq, iEq, sEq] at hg ⊢; (try simp only [D.bool.injEq] at hg); (try simp only [D.bool.injEq]); grind)))
    refine den_ite (fun h3 => ?_) (fun h3 => ?_)
    · simp only [E.den, dEq, iEq, sEq, row_str, cells_str] at h3
      have hb : hasB l s = true := by
        unfold hasB; rw [List.any_eq_true]; refine ⟨s, ?_, by simp⟩
        have : nth l k = s := by grind
        rw [← this, nth, List.getD_eq_getElem?_getD, List.getElem?_eq_getElem h2]; simp
      exact den_ret (by simp [E.den, hb])
    · simp only [E.den, dEq, iEq, sEq, row_str, cells_str] at h3
      refine den_next h2 ?_ fun i hi => ?_
      · simp only [E.den, dEq, iEq, sEq]
        rw [ar_add (by omega) (by omega)]; rfl
      · rcases Nat.lt_or_ge i k with h | h
        · exact hI i h
        · obtain rfl : i = k := by omega
          grind
  · simp only [E.den, dEq, iEq, sEq] at h2
    obtain rfl : k = l.length := by simp at h2; omega
    have hb : hasB l s = false := by
      unfold hasB; rw [List.any_eq_false]; intro t h
      obtain ⟨i, hi, rfl⟩ := List.getElem_of_mem h
      have := hI i hi
      simpa [nth, List.getD_eq_getElem?_getD, hi] using this
    exact den_ret (by simp [E.den, hb])

end Go.Proofs.YtgaeigomhhbkfaaGreat
