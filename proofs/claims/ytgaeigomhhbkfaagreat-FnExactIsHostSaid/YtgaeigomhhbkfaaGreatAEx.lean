/- From 'it ends so' to 'it ends with this': a condition that is met has an outcome. No program in sight. -/
import Derived.Test.YtgaeigomhhbkfaaGreatAFun
namespace Go.Proofs.YtgaeigomhhbkfaaGreat
open Go.RowKit
set_option linter.unusedVariables false
set_option linter.unusedSimpArgs false
set_option linter.unusedSectionVars false
variable [GC]

section
open Classical
variable {P : Program} {tab : Nat → List CT} {T : D → List D → Prop}
abbrev Out := List D → D × List D
theorem VC.exact {r0 : D × List D} (hT : T r0.1 r0.2) : ∀ (V : VC) (env : List D) (L : List ((List D → Prop) × Out)), (∀ x ∈ L, ∀ ys, T (x.2 ys).1 (x.2 ys).2) → V.den P tab env T (L.map (·.1)) →
    ∃ r : D × List D, T r.1 r.2 ∧ V.den P tab env (fun d bs => d = r.1 ∧ bs = r.2) (L.map fun x => fun ys => x.1 ys ∧ x.2 ys = r)
  | .fail _, _, _, _, h => h.elim
  | .ret e bs, env, L, _, h => by
    simp only [VC.den] at h
    exact ⟨(e.den env, bs.map (fun x => x.den env)), h, ⟨rfl, rfl⟩⟩
  | .rq (.cond gs c) k, env, L, hL, ⟨h1, h2⟩ => by
    obtain ⟨r, q1, q2⟩ := VC.exact hT k env L hL h2
    exact ⟨r, q1, h1, q2⟩
  | .rq (.call gs f bx args vt nb) k, env, L, hL, ⟨d, cs, h1, h2, h3, h4⟩ => by
    obtain ⟨r, q1, q2⟩ := VC.exact hT k _ L hL h4
    exact ⟨r, q1, d, cs, h1, h2, h3, q2⟩
  | .rq (.callR f bx args vt nb rt) k, env, L, hL, ⟨d, cs, h1, h2, h3, h4⟩ => by
    obtain ⟨r, q1, q2⟩ := VC.exact hT k _ L hL h4
    exact ⟨r, q1, d, cs, h1, h2, h3, q2⟩
  | .rq (.callV gs e args vt) k, env, L, hL, ⟨d, h1, h3, h4⟩ => by
    obtain ⟨r, q1, q2⟩ := VC.exact hT k _ L hL h4
    exact ⟨r, q1, d, h1, h3, q2⟩
  | .rq (.glob g vt ix) k, env, L, hL, ⟨d, h1, h2, h3, h4⟩ => by
    obtain ⟨r, q1, q2⟩ := VC.exact hT k _ L hL h4
    exact ⟨r, q1, d, h1, h2, h3, q2⟩
  | .rq (.new f args nb) k, env, L, hL, ⟨cs, h2, h3, h4⟩ => by
    obtain ⟨r, q1, q2⟩ := VC.exact hT k _ L hL h4
    exact ⟨r, q1, cs, h2, h3, q2⟩
  | .ite c a b, env, L, hL, ⟨h1, h2⟩ => by
    cases hc : (c.den env).toB with
    | true =>
      obtain ⟨r, q1, q2⟩ := VC.exact hT a env L hL (h1 hc)
      exact ⟨r, q1, ⟨fun _ => q2, fun h => absurd (hc.symm.trans h) (by simp)⟩⟩
    | false =>
      obtain ⟨r, q1, q2⟩ := VC.exact hT b env L hL (h2 hc)
      exact ⟨r, q1, ⟨fun h => absurd (hc.symm.trans h) (by simp), fun _ => q2⟩⟩
  | .again d es, env, L, hL, h => by
    simp only [VC.den, List.getElem?_map] at h
    cases hd : L[d]? with
    | none => rw [hd] at h; exact h.elim
    | some x =>
      rw [hd] at h
      refine ⟨x.2 (es.map (·.den env)), hL x (List.mem_of_getElem? hd) _, ?_⟩
      simp only [VC.den, List.getElem?_map, hd]
      exact ⟨h, rfl⟩
  | .loop tys inits body, env, L, hL, ⟨I, μ, hI, hb⟩ => by
    let D1 (xs : List D) (o : Out) (r : D × List D) : Prop := T r.1 r.2 ∧ body.den P tab (env ++ xs) (fun d bs => d = r.1 ∧ bs = r.2) ((fun ys => (I ys ∧ μ ys < μ xs) ∧ o ys = r) :: L.map fun x => fun ys => x.1 ys ∧ x.2 ys = r)
    let G : (xs : List D) → ((ys : List D) → μ ys < μ xs → D × List D) → D × List D := fun xs rec =>
      if h : ∃ r, D1 xs (fun ys => if hy : μ ys < μ xs then rec ys hy else r0) r then h.choose else r0
    let o : Out := (measure μ).wf.fix G
    have ho : ∀ xs, o xs = if h : ∃ r, D1 xs (fun ys => if μ ys < μ xs then o ys else r0) r then h.choose else r0 := fun xs => by
      show (measure μ).wf.fix G xs = _
      rw [WellFounded.fix_eq]
      rfl
    have hoT : ∀ xs, T (o xs).1 (o xs).2 := fun xs => by
      rw [ho]
      split
      · rename_i h; exact h.choose_spec.1
      · exact hT
    have hbody : ∀ xs, HasTys tab tys xs → FitsL xs → I xs → body.den P tab (env ++ xs) (fun d bs => d = (o xs).1 ∧ bs = (o xs).2) ((fun ys => (I ys ∧ o ys = o xs) ∧ μ ys < μ xs) :: L.map fun x => fun ys => x.1 ys ∧ x.2 ys = o xs) := by
      intro xs h1 h2 h3
      have hex : ∃ r, D1 xs (fun ys => if μ ys < μ xs then o ys else r0) r := by
        refine VC.exact hT body (env ++ xs) ((fun ys => I ys ∧ μ ys < μ xs, fun ys => if μ ys < μ xs then o ys else r0) :: L) ?_ (hb xs h1 h2 h3)
        intro x hx ys
        rcases List.mem_cons.1 hx with rfl | hx
        · simp only; split
          · exact hoT ys
          · exact hT
        · exact hL x hx ys
      have hox : o xs = hex.choose := by rw [ho, dif_pos hex]
      have hs := hex.choose_spec.2
      rw [← hox] at hs
      have he : (fun ys => (I ys ∧ μ ys < μ xs) ∧ (if μ ys < μ xs then o ys else r0) = o xs) = (fun ys => (I ys ∧ o ys = o xs) ∧ μ ys < μ xs) := by
        funext ys
        apply propext
        by_cases hy : μ ys < μ xs <;> simp [hy]
      rw [he] at hs
      exact hs
    refine ⟨o (inits.map (·.den env)), hoT _, fun xs => I xs ∧ o xs = o (inits.map (·.den env)), μ, ⟨hI, rfl⟩, ?_⟩
    rintro xs h1 h2 ⟨h3, h4⟩
    have := hbody xs h1 h2 h3
    rw [h4] at this
    exact this
/-- A function of which the condition says what its answers are like has one answer. -/
theorem FunR.ex {f : FuncId} {tb : TB} {rb : RB} {bx : Option (List CT)} {V : VC} {Γ : List VT} (hV : vcOf P tb rb f bx = V) (hok : V.ok = true) (hΓ : tyOf P tb f bx = Γ) (htb : tbOk P tb tb = true) (hm : P.follows .mixedOrders = true)
    {bc : Option (List D)} {ds : List D} {r0 : D × List D} (hT : T r0.1 r0.2) (hbc : bc.map List.length = bx.map List.length) (hty : HasTys tb.tab Γ (ds ++ bc.getD [])) (hbx' : bx = none → ∀ d bs, T d bs → bs = [])
    (hden : FitsL ds → FitsL (bc.getD []) → V.den P tb.tab (ds ++ bc.getD []) T []) : ∃ r : D × List D, T r.1 r.2 ∧ FunR P f bc ds r.1 r.2 (rb.get f) := by
  by_cases hf : FitsL ds ∧ FitsL (bc.getD [])
  · obtain ⟨r, q1, q2⟩ := VC.exact hT V _ [] (by simp) (hden hf.1 hf.2)
    exact ⟨r, q1, FunR.of hV hok hΓ htb hm hbc hty (fun h => hbx' h _ _ q1) fun _ _ => q2⟩
  · exact ⟨r0, hT, FunR.of hV hok hΓ htb hm hbc hty (fun h => hbx' h _ _ hT) fun h1 h2 => absurd ⟨h1, h2⟩ hf⟩
theorem Fun.ex {f : FuncId} {tb : TB} {rb : RB} {bx : Option (List CT)} {V : VC} {Γ : List VT} (hV : vcOf P tb rb f bx = V) (hok : V.ok = true) (hΓ : tyOf P tb f bx = Γ) (htb : tbOk P tb tb = true) (hm : P.follows .mixedOrders = true)
    {bc : Option (List D)} {ds : List D} {r0 : D × List D} (hT : T r0.1 r0.2) (hbc : bc.map List.length = bx.map List.length) (hty : HasTys tb.tab Γ (ds ++ bc.getD [])) (hbx' : bx = none → ∀ d bs, T d bs → bs = [])
    (hden : FitsL ds → FitsL (bc.getD []) → V.den P tb.tab (ds ++ bc.getD []) T []) : ∃ r : D × List D, T r.1 r.2 ∧ Fun P f bc ds r.1 r.2 := by
  obtain ⟨r, h1, h2⟩ := FunR.ex hV hok hΓ htb hm hT hbc hty hbx' hden
  exact ⟨r, h1, .ofR h2⟩
end
end Go.Proofs.YtgaeigomhhbkfaaGreat
