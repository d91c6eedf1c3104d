/- All operations together; regions in the order of the text and in any order. No program in sight. -/
import Derived.Test.YtgaeigomhhbkfaaGreatAOps5
import Derived.Orders
namespace Go.Proofs.YtgaeigomhhbkfaaGreat
open Go.RowKit
set_option linter.unusedVariables false
set_option linter.unusedSimpArgs false
set_option linter.unusedSectionVars false
variable [GC]

section
variable {P : Program} {c : SC} {F : Nat → Prop} {σ : Nat → ST} {bm : Nat → Nat} {tm : Nat → Value} {a : Act} {w : World} {cx : Cx} {Γ : List VT} {gs : Gd} {ops : Array Oper}
theorem wanted_iff (hs : Sim c F σ bm tm a w) (hΓ : EnvTy cx.tb.tab Γ c.env) {o : Oper} (h : gsOf cx.tb.tab Γ ops σ o = some gs) : Region.wanted o (yielded ops a.tmps) = true ↔ gsH c.env gs := by
  unfold gsOf at h
  unfold Region.wanted
  split at h
  · rename_i hg
    simp only [Option.some.injEq] at h; subst h
    simp [hg, gsH_nil]
  · rename_i j b hg
    rw [hg]
    simp only
    split at h
    · rename_i d hd
      split at h
      · rename_i g' k e hσ
        cases hb : isC .bool (e.inf cx.tb.tab Γ) <;> rw [hb] at h <;> simp at h
        subst h
        have hr := hs.tmps d
        rw [hσ] at hr
        rw [gsH_snoc]
        unfold yielded
        rw [hd]
        simp only [Option.bind_some]
        by_cases hg' : gsH c.env g'
        · obtain ⟨x, hx, hv⟩ := eval_bool hΓ (isC_some hb) (hr.1 hg')
          have hv' : a.tmps[d]? = some (.bool x) := by
            simp only [Array.getD_eq_getD_getElem?] at hv
            cases hq : a.tmps[d]? with
            | none => rw [hq] at hv; simp [undef] at hv
            | some z => rw [hq] at hv; simp at hv; rw [hv]
          rw [hv', hx]
          simp [hg']
        · have hv := hr.2 hg'
          simp only [Array.getD_eq_getD_getElem?] at hv
          have hv' : a.tmps[d]? = none ∨ a.tmps[d]? = some (.tuple #[]) := by
            cases hq : a.tmps[d]? with
            | none => exact .inl rfl
            | some z => rw [hq] at hv; simp [undef] at hv; exact .inr (by rw [hv])
          rcases hv' with hv' | hv' <;> rw [hv'] <;> simp [hg']
      · simp at h
    · simp at h
theorem op_sound (hcx : tbOk P cx.tb cx.tb = true) (hnt : c.nt = cx.nt) (hs : Sim c F σ bm tm a w) (hΓ : EnvTy cx.tb.tab Γ c.env) {g : Nat} (hgN : ∀ x, NewT g x → ¬ F x) {o : Oper} {eff : Eff} (h : opEff cx ops Γ g o σ = some eff) :
    ∃ gs, gsOf cx.tb.tab Γ ops σ o = some gs ∧ OpOk P c F σ bm tm a w g gs Γ.length o eff := by
  have hg : ¬ F g := hgN g (NewT.self g)
  unfold opEff at h
  split at h
  · simp at h
  · rename_i gs hgs
    refine ⟨gs, hgs, ?_⟩
    cases hdst : dstOk cx.nt o.dst with
    | false => rw [hdst] at h; simp at h
    | true =>
      rw [hdst] at h
      simp only [cond_true] at h
      have hd : ∀ d, o.dst = some d → d < c.nt := fun d he => by rw [he] at hdst; simp only [dstOk] at hdst; rw [hnt]; exact Nat.le_of_ble_eq_true hdst
      split at h
      · rename_i x ho; exact OpOk.of_pure hs hd (sMove hs (.inl ho) h)
      · rename_i x ho; exact OpOk.of_pure hs hd (sMove hs (.inr ho) h)
      · rename_i T x ho
        split at h
        · rename_i ti hti; exact OpOk.of_pure hs hd (sLd hcx hs hs.gi hΓ ho hti h)
        · simp at h
      · rename_i T y x ho
        split at h
        · rename_i ti hti; exact sSt hcx hs hΓ hg ho hti h
        · simp at h
      · rename_i T x f ho
        split at h
        · rename_i ti hti; exact OpOk.of_pure hs hd (sFld hcx hs ho hti h)
        · simp at h
      · rename_i T x i ho
        split at h
        · rename_i ti hti; exact OpOk.of_pure hs hd (sIdx hcx hs hΓ ho hti h)
        · simp at h
      · rename_i T x i ho
        split at h
        · rename_i ti hti; exact OpOk.of_pure hs hd (sSel hcx hs hΓ ho hti h)
        · simp at h
      · rename_i T x ho; exact sBox hcx hs hΓ hg ho hd h
      · rename_i T ho
        split at h
        · rename_i ti hti; exact sAlloc hcx hs hg ho hd hti h
        · simp at h
      · rename_i T parts ho
        split at h
        · rename_i ti hti; exact OpOk.of_pure hs hd (sBuild hcx hs hΓ ho hti h)
        · simp at h
      · rename_i T l cc ho
        split at h
        · rename_i ti hti; exact sMake hcx hs hΓ hgN ho hd hti h
        · simp at h
      · rename_i T len parts ho
        split at h
        · rename_i ti hti
          cases hb : (Nat.blt 0 len && gs.isEmpty) with
          | true => rw [hb] at h; exact sBuildOwn hcx hs hΓ hg ho hd hti h
          | false => rw [hb] at h; exact OpOk.of_pure hs hd (sBuildSlice hcx hs hΓ ho hti h)
        · simp at h
      · rename_i T x lo hi ho
        split at h
        · rename_i ti hti; exact sSl hcx hs hΓ hg ho hd hti h
        · simp at h
      · rename_i S T x ho
        split at h
        · rename_i si ti hsi hti; exact OpOk.of_pure hs hd (sConv hcx hs hΓ ho hsi hti h)
        · simp at h
      · rename_i x i ho; exact OpOk.of_pure hs hd (sExtract hs hΓ ho h)
      · rename_i T x ho; exact OpOk.of_pure hs hd (sNot hs hΓ ho h)
      · rename_i T x ho; exact OpOk.of_pure hs hd (sNeg hs hΓ ho h)
      · rename_i x y z ho; exact OpOk.of_pure hs hd (sPick hs hΓ ho h)
      · rename_i f first caps ho; exact sMakeFn hs hΓ ho hd h
      · rename_i x ho; exact OpOk.of_pure hs hd (sNil hs ho h)
      · rename_i op T x y T' ho; exact OpOk.of_pure hs hd (sBin hcx hs hΓ ho h)
      · rename_i cl ho
        split at h
        · rename_i f hcl
          split at h
          · rename_i ti hti
            split at h
            · exact sNew hs hΓ hg ho hcl hd rfl h
            · exact sCall hs hΓ hgN ho hcl hd rfl h
          · simp at h
        · rename_i t hcl
          split at h
          · rename_i ti hti; exact sCallV hs hΓ ho hcl hd rfl h
          · simp at h
        · rename_i hcl
          split at h
          · rename_i x T har hat
            split at h
            · rename_i ti hti; exact OpOk.of_pure hs hd (sLen hcx hs hΓ ho hcl har hat hti h)
            · simp at h
          · simp at h
        · rename_i hcl
          split at h
          · rename_i x y T U har hat
            split at h
            · rename_i ti ui hti hui; exact sApp hcx hs hΓ hgN ho hcl har hat hd hti hui h
            · simp at h
          · simp at h
        · simp at h
      · simp at h
/-- One operation of a region. -/
theorem wpOp_sound (hcx : tbOk P cx.tb cx.tb = true) (hnt : c.nt = cx.nt) (hs : Sim c F σ bm tm a w) (hΓ : EnvTy cx.tb.tab Γ c.env) {g i : Nat} (hg : ∀ x, NewT g x → ¬ F x) {o : Oper} (hi : ops[i]? = some o) {eff : Eff} (h : opEff cx ops Γ g o σ = some eff)
    (hr : ∀ r ∈ eff.rq, RqH P c.env Γ.length r) {Q : Exit → Act → World → Prop} {K : Act → World → Prop} (hK : ∀ bm' tm' a' w', Sim c (fun x => F x ∨ NewT g x) (updL σ eff.wr) bm' tm' a' w' → K a' w') : wpOp P ops Q i K a w := by
  obtain ⟨gs, hgs, hok⟩ := op_sound hcx hnt hs hΓ hg h
  unfold wpOp
  rw [hi]
  simp only
  by_cases hw : gsH c.env gs
  · rw [if_pos ((wanted_iff hs hΓ hgs).2 hw)]
    exact .inl (hok.1 hw hr K Q hK)
  · rw [if_neg (fun e => hw ((wanted_iff hs hΓ hgs).1 e))]
    exact hK _ _ _ _ (hok.2 hw)

/-- The requirements of a run of operations, each at the number of values before it. -/
def RqsH (P : Program) (env : List D) : Nat → List Eff → Prop
  | _, [] => True
  | n, e :: r => (∀ q ∈ e.rq, RqH P env n q) ∧ RqsH P env (n + (rqTys e.rq).length) r
theorem EnvTy.firsts {tab : Nat → List CT} {Γ Δ : List VT} {env : List D} (h : EnvTy tab (Γ ++ Δ) env) : EnvTy tab Γ env := fun i t ht => h i t (by rw [List.getElem?_append_left (List.getElem?_eq_some_iff.1 ht).1]; exact ht)
theorem regRun_Γ {ops : Array Oper} : ∀ {l : List Oper} {ss : SS} {es : List Eff} {s : SS}, regRun cx ops l ss = some (es, s) → ∃ Δ, s.Γ = ss.Γ ++ Δ ∧ s.nt = ss.nt + stride * l.length ∧ s.lv = ss.lv
  | [], ss, es, s, h => by simp [regRun] at h; obtain ⟨_, rfl⟩ := h; exact ⟨[], by simp⟩
  | o :: r, ss, es, s, h => by
    simp only [regRun] at h
    split at h
    · simp at h
    · rename_i e he
      split at h
      · simp at h
      · rename_i es' s' hrec
        simp only [Option.some.injEq, Prod.mk.injEq] at h
        obtain ⟨rfl, rfl⟩ := h
        obtain ⟨Δ, h1, h2, h3⟩ := regRun_Γ hrec
        exact ⟨rqTys e.rq ++ Δ, by rw [h1]; simp [SS.step], by rw [h2]; simp only [SS.step, List.length_cons, Nat.mul_add]; omega, by rw [h3]; rfl⟩
theorem step_get (ss : SS) (e : Eff) : (ss.step e).σ.get = updL ss.σ.get e.wr := Sg.get_rev _ _
/-- The tags below n. -/
def below (n : Nat) : Nat → Prop := fun x => x < n
/-- A region in the order of its text. -/
theorem seq_sound (hcx : tbOk P cx.tb cx.tb = true) (hnt : c.nt = cx.nt) {Q : Exit → Act → World → Prop} : ∀ (l : List Oper) (k : Nat) (ss : SS) (es : List Eff) (s : SS), (∀ j, l[j]? = ops[k + j]?) → regRun cx ops l ss = some (es, s) → EnvTy cx.tb.tab s.Γ c.env → RqsH P c.env ss.Γ.length es →
    (∀ bm' tm' a' w', Sim c (below s.nt) s.σ.get bm' tm' a' w' → Q .normal a' w') → ∀ bm tm a w, Sim c (below ss.nt) ss.σ.get bm tm a w → wpOps P ops Q (List.range' k l.length) a w
  | [], k, ss, es, s, hl, h, hΓ, hr, hQ, bm, tm, a, w, hs => by
    simp [regRun] at h; obtain ⟨_, rfl⟩ := h
    exact hQ _ _ _ _ hs
  | o :: r, k, ss, es, s, hl, h, hΓ, hr, hQ, bm, tm, a, w, hs => by
    simp only [regRun] at h
    split at h
    · simp at h
    · rename_i e he
      split at h
      · simp at h
      · rename_i es' s' hrec
        simp only [Option.some.injEq, Prod.mk.injEq] at h
        obtain ⟨rfl, rfl⟩ := h
        obtain ⟨Δ, h1, h2, _⟩ := regRun_Γ hrec
        have hΓ' : EnvTy cx.tb.tab ss.Γ c.env := by
          rw [h1] at hΓ
          simp only [SS.step, List.append_assoc] at hΓ
          exact hΓ.firsts
        simp only [List.length_cons, List.range'_succ]
        rw [wpOps_cons]
        refine wpOp_sound hcx hnt hs hΓ' (g := ss.nt) (fun x hx => by have := hx.1; simp only [below]; omega) (by have := hl 0; simpa using this.symm) he hr.1 fun bm' tm' a' w' hS => ?_
        refine seq_sound hcx hnt r (k + 1) (ss.step e) es' s' (fun j => by have := hl (j + 1); simpa [Nat.add_assoc, Nat.add_comm 1 j] using this) hrec hΓ (by
          have := hr.2
          simpa [SS.step] using this) hQ bm' tm' a' w' ?_
        rw [step_get]
        exact hS.mono fun x hx => by simp only [below, SS.step, NewT] at *; omega
theorem region_seq (hcx : tbOk P cx.tb cx.tb = true) (hnt : c.nt = cx.nt) {Q : Exit → Act → World → Prop} {id : Nat} {ss s : SS} {es : List Eff} (h : regRun cx ops ops.toList ss = some (es, s)) (hΓ : EnvTy cx.tb.tab s.Γ c.env) (hr : RqsH P c.env ss.Γ.length es)
    (hQ : ∀ bm' tm' a' w', Sim c (below s.nt) s.σ.get bm' tm' a' w' → Q .normal a' w') (hs : Sim c (below ss.nt) ss.σ.get bm tm a w) : (Code.region id ops false).wp P Q a w := by
  refine wp_region ?_
  have := seq_sound (ops := ops) hcx hnt ops.toList 0 ss es s (fun j => by simp) h hΓ hr hQ bm tm a w hs
  rw [Array.length_toList, ← List.range_eq_range'] at this
  exact this
end
end Go.Proofs.YtgaeigomhhbkfaaGreat
