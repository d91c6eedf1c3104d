/- A function's contract out of the condition that is left. No program in sight. -/
import Derived.Test.YtjenbnoflaoekaaARules
namespace Go.Proofs.Ytjenbnoflaoekaa
open Go.RowKit
set_option linter.unusedVariables false
set_option linter.unusedSimpArgs false

theorem paramsSg_get : ∀ (Γ : List VT) (k j l : Nat), (paramsSg k j Γ).get l = if l % 3 = 0 ∧ k ≤ l / 3 ∧ l / 3 < k + Γ.length then .v [] .d (.var (j + (l / 3 - k))) else .un
  | [], k, j, l => by rw [if_neg (fun ⟨_, h1, h2⟩ => by simp only [List.length_nil] at h2; omega)]; rfl
  | v :: r, k, j, l => by
    simp only [paramsSg, Sg.get]
    cases e : Nat.beq (3 * k) l with
    | true =>
      have : 3 * k = l := Nat.eq_of_beq_eq_true e
      subst this
      rw [if_pos ⟨by omega, by omega, by simp only [List.length_cons]; omega⟩]
      simp only [cond_true]
      rw [show 3 * k / 3 - k = 0 by omega]; rfl
    | false =>
      have hne : 3 * k ≠ l := fun h => by rw [h] at e; simp at e
      simp only [cond_false]
      rw [paramsSg_get r (k + 1) (j + 1) l]
      by_cases h : l % 3 = 0 ∧ k + 1 ≤ l / 3 ∧ l / 3 < k + 1 + r.length
      · rw [if_pos h, if_pos (by simp only [List.length_cons]; omega), show j + 1 + (l / 3 - (k + 1)) = j + (l / 3 - k) by omega]
      · rw [if_neg h, if_neg (by simp only [List.length_cons]; omega)]
theorem tups_den {env : List D} : ∀ (es : List E) (acc : E) (l : List D), acc.den env = .tup l → (tups es acc).den env = .tup (l ++ es.map (·.den env))
  | [], acc, l, h => by simpa [tups] using h
  | e :: r, acc, l, h => by
    simp only [tups]
    rw [tups_den r (.tp1 acc e) (l ++ [e.den env]) (by simp [E.den, h])]
    simp
section
variable {P : Program} {tb : TB} {c0 : SC} {env : List D} {s : SS} {a : Act} {w : World}
theorem retE_ok (hcx : tbOk P tb tb = true) {bm : Nat → Nat} {tm : Nat → Value} {F : Nat → Prop} (hΓ : EnvTy tb.tab s.Γ env) (hs : Sim { c0 with env := env } F s.σ.get bm tm a w) {r : ResultVar} {e : E} (h : retE tb s r = some e) :
    ∃ v, (match r with | .tmp t => (pure (a.tmps.getD t undef) : Sem Value) | .cell x T => do loadVar T (← asAddr (a.tmps.getD x undef))).run P w = .ok v w ∧ R w (MM c0.M0 bm tm s.σ.get) (e.den env) v := by
  cases r with
  | tmp t =>
    simp only [retE] at h
    split at h
    · rename_i k e' hσ
      simp only [Option.some.injEq] at h; subst h
      have := hs.tmps t
      rw [hσ] at this
      exact ⟨_, rfl, (this.1 (gsH_nil _)).rd⟩
    · simp at h
  | cell x T =>
    simp only [retE] at h
    split at h
    · rename_i id ti hσ hti
      have hp := hs.tmps x
      rw [hσ] at hp
      have hv := hp.1 (gsH_nil _)
      split at h
      · rename_i cs ts hbox hvt
        cases hl : Nat.beq ts.length cs.length with
        | false => rw [hl] at h; simp at h
        | true =>
          rw [hl] at h
          simp only [cond_true, Option.some.injEq] at h; subst h
          have hll := Nat.eq_of_beq_eq_true hl
          obtain ⟨vs, hvs, hcell, T0, hblk⟩ := box_cells (hs.box id cs hbox)
          obtain ⟨i, fields, z, hi, hsz, _, _, _, hu, _⟩ := ty_agg hcx hti hvt
          have hrun := run_loadVar_s (P := P) (w := w) hu hi (b := bm id) (o := 0) (vs := vs) (by rw [hvs.length, hsz, hll]) (fun j u hj => by rw [Nat.zero_add]; exact hcell j u hj)
          refine ⟨.agg vs.toArray, by simp [hv, asAddr, hrun], ?_⟩
          rw [den_pack hΓ]
          exact hvs.rs.to_agg
      · rename_i k e' t hbox hvt
        simp only [Option.some.injEq] at h; subst h
        obtain ⟨vs, hvs, hcell, T0, hblk⟩ := box_cells (hs.box id _ hbox)
        obtain ⟨v, q, rfl, hk, _⟩ := hvs
        obtain ⟨i, d, hi, _, _, _, hd, hdc⟩ := ty_c hcx hti hvt
        exact ⟨v, by simp [hv, asAddr, run_loadVar_c hd hdc (hcell 0 v rfl)], hk.rd⟩
      · simp at h
    · simp at h
theorem retEs_ok (hcx : tbOk P tb tb = true) {bm : Nat → Nat} {tm : Nat → Value} {F : Nat → Prop} (hΓ : EnvTy tb.tab s.Γ env) (hs : Sim { c0 with env := env } F s.σ.get bm tm a w) : ∀ {rs : List ResultVar} {es : List E}, retEs tb s rs = some es →
    ∃ vs, (rs.mapM (m := Sem) fun | .tmp t => pure (a.tmps.getD t undef) | .cell x T => do loadVar T (← asAddr (a.tmps.getD x undef))).run P w = .ok vs w ∧ Rs w (MM c0.M0 bm tm s.σ.get) (es.map (·.den env)) vs
  | [], es, h => by simp [retEs] at h; subst h; exact ⟨[], by simp, rfl⟩
  | r :: rs, es, h => by
    simp only [retEs] at h
    split at h
    · rename_i e es' h1 h2
      simp only [Option.some.injEq] at h; subst h
      obtain ⟨v, hv, hr⟩ := retE_ok hcx hΓ hs h1
      obtain ⟨vs, hvs, hrs⟩ := retEs_ok hcx hΓ hs h2
      refine ⟨v :: vs, ?_, v, vs, rfl, hr, hrs⟩
      rw [List.mapM_cons, Sem.run_bind]
      rw [hv]
      simp only [Result.andThen_ok, Sem.run_bind, hvs, Sem.run_pure]
    · simp at h
end
theorem Fun.of_vc {P : Program} {f : FuncId} {fn : Func} {cd : Code} {tb : TB} {bx : Option (List CT)} {ss : SS} {V : VC} (hf : P.funcs[f]? = some fn) (hb : fn.body = some cd) (hn : (fn.name == "runtime.NumGoroutine") = false) (htb : tbOk P tb tb = true) (hm : P.follows .mixedOrders = true)
    (hss : initSS tb fn.params.toList bx = some ss) (hV : sx ⟨⟨tb, fn.ntmps⟩, fn.results.toList, bx.isSome⟩ cd ss [] (retVC ⟨⟨tb, fn.ntmps⟩, fn.results.toList, bx.isSome⟩) = V) (hsz : Nat.ble fn.params.size fn.ntmps = true)
    {bc : Option (List D)} {ds : List D} {r : D} {bx' : List D} (hbc : bc.isSome = bx.isSome) (hty : HasTys tb.tab ss.Γ (ds ++ bc.getD [])) (hdl : ds.length = match bx with | none => fn.params.size | some _ => fn.params.size - 1) (hbx' : bx = none → bx' = [])
    (hden : FitsL ds → FitsL (bc.getD []) → V.den P tb.tab (ds ++ bc.getD []) (fun d bs => d = r ∧ bs = bx') []) : Fun P f bc ds r bx' := by
  subst hV
  refine ⟨by simp [callable, hf, hn, hb], fun w M g vs hM hrs hbox => ?_⟩
  have hsz' := Nat.le_of_ble_eq_true hsz
  refine calls_of_wp hf hb ?_
  generalize hargs : (match bc with | none => vs | some _ => Value.pointer (some ⟨g, 0, none⟩) :: vs) = args
  let c0 : SC := { w0 := w, B := w.heap.size, X := bc.map fun _ => g, M0 := M, nt := fn.ntmps, env := ds ++ bc.getD [] }
  have hbody : ∀ e a' w', Post P ⟨⟨tb, fn.ntmps⟩, fn.results.toList, bx.isSome⟩ c0 (fun d bs => d = r ∧ bs = bx') (ds ++ bc.getD []) [] [] (retVC ⟨⟨tb, fn.ntmps⟩, fn.results.toList, bx.isSome⟩) e a' w' →
      bodyPost P fn (fun e w' => ∃ v, e = .returned v ∧ R w' M r v ∧ Fr w.heap.size (bc.map fun _ => g) w w' ∧ (bc.isSome = true → ∃ us T, w'.heap[g]? = some (.cells us.toArray T (0, 0)) ∧ Rs w' M bx' us)) e a' w' := by
    have hret : ∀ (env : List D) (s : SS) (L : List (List D → Prop)) (a' : Act) (w' : World), Good c0 tb.tab env s a' w' → (retVC ⟨⟨tb, fn.ntmps⟩, fn.results.toList, bx.isSome⟩ s).den P tb.tab env (fun d bs => d = r ∧ bs = bx') L →
        a'.defers = [] ∧ ∃ v, (results fn a'.tmps).run P w' = .ok v w' ∧ ∃ v', Ending.returned v = .returned v' ∧ R w' M r v' ∧ Fr w.heap.size (bc.map fun _ => g) w w' ∧ (bc.isSome = true → ∃ us T, w'.heap[g]? = some (.cells us.toArray T (0, 0)) ∧ Rs w' M bx' us) := by
      intro env s L a' w' hG h
      obtain ⟨hE, hl, bm, tm, hS⟩ := hG
      refine ⟨hS.defers, ?_⟩
      have hkM : Keeps w' (MM c0.M0 bm tm s.σ.get) w' M := fun p v hp hn => ⟨hp, fun h => hn (.inl h)⟩
      simp only [retVC] at h
      split at h
      · rename_i es hes
        obtain ⟨us, hus, hrs'⟩ := retEs_ok htb hE hS hes
        have hrun : ∃ v, (results fn a'.tmps).run P w' = .ok v w' ∧ R w' (MM c0.M0 bm tm s.σ.get) ((oneE es).den env) v := by
          have hmm : (results fn a'.tmps).run P w' = .ok (if h : us.toArray.size = 1 then us.toArray[0] else .tuple us.toArray) w' := by
            simp only [results, Sem.run_bind]
            rw [Array.mapM_eq_mapM_toList, Sem.run_map]
            erw [hus]
            rfl
          refine ⟨_, hmm, ?_⟩
          have hlen := hrs'.length
          simp only [List.length_map] at hlen
          unfold oneE
          split
          · rename_i e
            obtain ⟨v, q, rfl, h1, h2⟩ := hrs'
            have : q = [] := h2
            subst this
            simpa using h1
          · rename_i es' hne
            have h1 : ¬ us.toArray.size = 1 := by
              intro h1
              have : es.length = 1 := by simpa [hlen] using h1
              match es, this with
              | [e], _ => exact hne e rfl
            rw [dif_neg h1, tups_den es .tp0 [] rfl, List.nil_append]
            exact ⟨us.toArray, rfl, by simpa using hrs'⟩
        obtain ⟨v, hv, hR⟩ := hrun
        refine ⟨v, hv, v, rfl, ?_⟩
        generalize oneE es = e at h hR
        cases hbx : bx.isSome with
        | false =>
          rw [hbx] at h hbc
          simp only [cond_false, VC.den, List.map_nil] at h
          refine ⟨by rw [← h.1]; exact R.keep hkM _ _ hR, hS.fr, fun h => by rw [hbc] at h; cases h⟩
        | true =>
          rw [hbx] at h hbc
          simp only [cond_true] at h
          split at h
          · rename_i cs hcs
            simp only [VC.den] at h
            obtain ⟨us', T, q1, q2, q3⟩ := hS.box 0 cs hcs
            have hx : c0.X = some g := by
              show bc.map _ = _
              cases bc with
              | none => simp at hbc
              | some _ => rfl
            have hg := (hS.x0 g hx).1
            refine ⟨by rw [← h.1]; exact R.keep hkM _ _ hR, hS.fr, fun _ => ⟨us', T, by rw [← hg]; exact q1, ?_⟩⟩
            rw [← h.2]
            exact Rs.keep hkM _ _ q2.rs
          · exact h.elim
      · exact h.elim
    intro e a' w' hp
    cases e with
    | normal =>
      obtain ⟨more, pre, s, h1, h2, h3⟩ := hp
      exact hret _ s _ a' w' h1 h3
    | exit id => obtain ⟨k', h1, _⟩ := hp; simp [lookupE] at h1
    | ret =>
      obtain ⟨env, s, L, h1, h2⟩ := hp
      exact hret env s L a' w' h1 h2
    | goto l => exact hp.elim
    | panic ch => exact hp.elim
    | outgrown => exact hp.elim
  have hlenΓ := hasTys_length hty
  have hfits : FitsL ds ∧ FitsL (bc.getD []) := by
    refine ⟨Rs.fits _ _ hrs, ?_⟩
    cases bc with
    | none => trivial
    | some cs => obtain ⟨us, T, _, h2, _⟩ := hbox cs rfl; exact Rs.fits _ _ h2
  refine wp_mono (sx_sound (fx := ⟨⟨tb, fn.ntmps⟩, fn.results.toList, bx.isSome⟩) (c0 := c0) htb rfl hm (fun d bs => d = r ∧ bs = bx') cd ss [] _ (ds ++ bc.getD []) [] _ w ?_ ?_ (hden hfits.1 hfits.2)) hbody
  · have hEnv : EnvTy tb.tab ss.Γ (ds ++ bc.getD []) := by
      have := EnvTy.append (tab := tb.tab) (Γ := []) (env := []) (fun i t h => by simp at h) rfl hty
      simpa using this
    have hvl := hrs.length
    have htm : ∀ t, ({ tmps := args.toArray ++ Array.replicate (fn.ntmps - args.toArray.size) undef, defers := [] } : Act).tmps.getD t undef = args.getD t undef := fun t => by
      simp only [Array.getD_eq_getD_getElem?, List.getD]
      by_cases h : t < args.length
      · rw [Array.getElem?_append_left (by simpa using h)]; simp
      · rw [Array.getElem?_append_right (by simp; omega), List.getElem?_eq_none (by omega)]
        simp only [Array.getElem?_replicate]
        split <;> rfl
    refine ⟨hEnv, hlenΓ, ?_⟩
    unfold initSS at hss
    split at hss
    · -- no box
      rename_i ps
      split at hss
      · rename_i Γ hΓ
        simp only [Option.some.injEq] at hss; subst hss
        have hbn : bc = none := by cases bc with | none => rfl | some _ => simp at hbc
        subst hbn
        simp only at hargs; subst hargs
        simp only [Option.getD_none, List.append_nil] at hlenΓ hEnv ⊢
        have hsz0 : vs.length ≤ fn.ntmps := by
          have : Γ.length = fn.params.size := by
            have hk : ∀ (l : List Nat) (Γ : List VT), allVT tb l = some Γ → Γ.length = l.length := by
              intro l
              induction l with
              | nil => intro Γ h; simp [allVT] at h; subst h; rfl
              | cons T l ih =>
                intro Γ h
                simp only [allVT] at h
                split at h
                · rename_i i l' _ h2
                  simp only [Option.some.injEq] at h; subst h
                  simp [ih _ h2]
                · simp at h
            simpa using hk _ _ hΓ
          omega
        have hσb : ∀ id cs, (paramsSg 0 0 Γ).get (3 * id + 1) ≠ .box cs := fun id cs h => by rw [paramsSg_get] at h; split at h <;> cases h
        have hσl : ∀ g n, (paramsSg 0 0 Γ).get (3 * g + 2) ≠ .live n := fun g n h => by rw [paramsSg_get] at h; split at h <;> cases h
        refine ⟨fun x => x, fun _ => undef, Fr.refl _ _ _, Nat.le_refl _, hM, fun t => ?_, fun id cs h => absurd h (hσb id cs), fun g n h => absurd h (hσl g n), fun id id' cs cs' h => absurd h (hσb id cs), fun id cs g n b o s len cap h => absurd h (hσb id cs), fun g n g' n' b o s len cap b' o' s' len' cap' h => absurd h (hσl g n), fun l g h => ?_, fun id cs h => absurd h (hσb id cs), fun g n h => absurd h (hσl g n), ?_, rfl, fun g hg => by simp [c0] at hg⟩
        · rw [htm, paramsSg_get]
          split
          · rename_i hc
            refine ⟨fun _ => ?_, fun h => absurd (gsH_nil _) h⟩
            have ht : t < ds.length := by omega
            obtain ⟨v, hv, hr⟩ := hrs.get (List.getElem?_eq_getElem ht)
            simp only [relK, E.den, List.getD, show 0 + (3 * t / 3 - 0) = t by omega, List.getElem?_eq_getElem ht, hv, Option.getD_some]
            refine R.keep (fun p u hp hn => ⟨hp, ?_⟩) _ _ hr
            rintro (h | ⟨id, cs, h1, _⟩ | ⟨g, n, h1, _⟩)
            · exact hn h
            · exact hσb id cs h1
            · exact hσl g n h1
          · trivial
        · rw [paramsSg_get] at h
          split at h
          · exact h.elim
          · exact h.elim
        · show _ = fn.ntmps
          simp only [Array.size_append, Array.size_replicate]; simp; omega
      · simp at hss
    · -- a box behind the first argument
      rename_i cts p0 ps hps hxx
      split at hss
      · rename_i Γ hΓ
        simp only [Option.some.injEq] at hss; subst hss
        obtain ⟨bcs, rfl⟩ : ∃ x, bc = some x := by cases bc with | none => simp at hbc | some x => exact ⟨x, rfl⟩
        simp only at hargs; subst hargs
        simp only [Option.getD_some] at hlenΓ hEnv hty ⊢
        obtain ⟨us, T, hblk, hur, hgM⟩ := hbox bcs rfl
        have hk : ∀ (l : List Nat) (Γ : List VT), allVT tb l = some Γ → Γ.length = l.length := by
          intro l
          induction l with
          | nil => intro Γ h; simp [allVT] at h; subst h; rfl
          | cons T l ih =>
            intro Γ h
            simp only [allVT] at h
            split at h
            · rename_i i l' _ h2
              simp only [Option.some.injEq] at h; subst h
              simp [ih _ h2]
            · simp at h
        have hpl : fn.params.size = ps.length + 1 := by rw [← Array.length_toList, hps]; rfl
        have hΓl := hk _ _ hΓ
        have hdl' : ds.length = Γ.length := by
          have : ds.length = fn.params.size - 1 := hdl
          omega
        have hbl : bcs.length = cts.length := by simp only [List.length_append, List.length_map] at hlenΓ; omega
        have hget : ∀ l, Sg.get ((0, .ptr [] 0 0) :: (1, .box (vars Γ.length cts)) :: paramsSg 1 0 Γ) l = if l = 0 then .ptr [] 0 0 else if l = 1 then .box (vars Γ.length cts) else (paramsSg 1 0 Γ).get l := fun l => by
          rw [Sg.get_cons, Sg.get_cons]; simp only [upd]
        have hσb : ∀ id cs, Sg.get ((0, .ptr [] 0 0) :: (1, .box (vars Γ.length cts)) :: paramsSg 1 0 Γ) (3 * id + 1) = .box cs → id = 0 ∧ cs = vars Γ.length cts := fun id cs h => by
          rw [hget, if_neg (by omega)] at h
          by_cases e : 3 * id + 1 = 1
          · rw [if_pos e] at h; simp only [ST.box.injEq] at h; exact ⟨by omega, h.symm⟩
          · rw [if_neg e, paramsSg_get] at h; split at h <;> cases h
        have hσl : ∀ g n, Sg.get ((0, .ptr [] 0 0) :: (1, .box (vars Γ.length cts)) :: paramsSg 1 0 Γ) (3 * g + 2) ≠ .live n := fun g n h => by
          rw [hget, if_neg (by omega), if_neg (by omega), paramsSg_get] at h; split at h <;> cases h
        have hMM : ∀ p, MM M (fun _ => g) (fun _ => undef) (Sg.get ((0, .ptr [] 0 0) :: (1, .box (vars Γ.length cts)) :: paramsSg 1 0 Γ)) p → M p := by
          rintro p (h | ⟨id, cs, h1, h2⟩ | ⟨g', n, h1, _⟩)
          · exact h
          · exact hgM p h2
          · exact absurd h1 (hσl g' n)
        have hkeep : Keeps w M w (MM M (fun _ => g) (fun _ => undef) (Sg.get ((0, .ptr [] 0 0) :: (1, .box (vars Γ.length cts)) :: paramsSg 1 0 Γ))) := fun p u hp hn => ⟨hp, fun h => hn (hMM p h)⟩
        refine ⟨fun _ => g, fun _ => undef, Fr.refl _ _ _, Nat.le_refl _, hM, fun t => ?_, fun id cs h => ?_, fun g n h => absurd h (hσl g n), fun id id' cs cs' h h' hne => ?_, fun id cs g n b o s len cap _ h => absurd h (hσl g n), fun g n g' n' b o s len cap b' o' s' len' cap' h => absurd h (hσl g n), fun l x h => ?_, fun id cs h => ?_, fun g n h => absurd h (hσl g n), ?_, rfl, fun g' hg => ⟨?_, by simp [below]⟩⟩
        · rw [htm, hget]
          by_cases h0 : 3 * t = 0
          · rw [if_pos h0]
            have : t = 0 := by omega
            subst this
            exact ⟨fun _ => rfl, fun h => absurd (gsH_nil _) h⟩
          · rw [if_neg h0, if_neg (by omega), paramsSg_get]
            split
            · rename_i hc
              refine ⟨fun _ => ?_, fun h => absurd (gsH_nil _) h⟩
              have ht : t - 1 < ds.length := by omega
              obtain ⟨v, hv, hr⟩ := hrs.get (List.getElem?_eq_getElem ht)
              have e1 : 0 + (3 * t / 3 - 1) = t - 1 := by omega
              have e2 : (Value.pointer (some ⟨g, 0, none⟩) :: vs).getD t undef = v := by
                obtain ⟨t', rfl⟩ : ∃ t', t = t' + 1 := ⟨t - 1, by omega⟩
                simp only [List.getD, List.getElem?_cons_succ]
                rw [show t' + 1 - 1 = t' by omega] at hv
                rw [hv]; rfl
              rw [e2]
              simp only [relK, E.den, e1, List.getD, List.getElem?_append_left ht, List.getElem?_eq_getElem ht, Option.getD_some]
              exact R.keep hkeep _ _ hr
            · trivial
        · obtain ⟨rfl, rfl⟩ := hσb id cs h
          refine ⟨us, T, hblk, ?_, .inr rfl⟩
          refine relCs_vars (c := { c0 with env := ds ++ bcs }) cts Γ.length us ?_
          have : ((List.range cts.length).map fun j => (ds ++ bcs).getD (Γ.length + j) .un) = bcs := by
            refine List.ext_getElem? fun i => ?_
            simp only [List.getElem?_map]
            by_cases hi : i < cts.length
            · rw [List.getElem?_range hi]
              simp only [Option.map_some, List.getD]
              rw [List.getElem?_append_right (by omega), show Γ.length + i - ds.length = i by omega]
              simp [List.getElem?_eq_getElem (show i < bcs.length by omega)]
            · rw [List.getElem?_eq_none (by simp; omega), List.getElem?_eq_none (by omega)]; rfl
          show Rs w _ ((List.range cts.length).map fun j => (ds ++ bcs).getD (Γ.length + j) .un) us
          rw [this]
          exact Rs.keep hkeep _ _ hur
        · obtain ⟨rfl, _⟩ := hσb id cs h
          obtain ⟨rfl, _⟩ := hσb id' cs' h'
          exact absurd rfl hne
        · rw [hget] at h
          split at h
          · simp only [men] at h; subst h; simp [below]
          · split at h
            · exact absurd h (vars_d _ _ _)
            · rw [paramsSg_get] at h; split at h <;> exact h.elim
        · obtain ⟨rfl, _⟩ := hσb id cs h; simp [below]
        · show _ = fn.ntmps
          simp only [Array.size_append, Array.size_replicate]; simp; omega
        · have : (some bcs).map (fun _ => g) = some g' := hg
          simpa using this
      · simp at hss
    · simp at hss
  · unfold initSS at hss
    split at hss
    · split at hss
      · simp only [Option.some.injEq] at hss; subst hss; rfl
      · simp at hss
    · split at hss
      · simp only [Option.some.injEq] at hss; subst hss; rfl
      · simp at hss
    · simp at hss
def nBx : Option (List CT) → Nat
  | none => 0
  | some _ => 1
/-- The condition that is left of a function; the types that its values have at its start. -/
def vcOf (P : Program) (tb : TB) (f : FuncId) (bx : Option (List CT)) : VC :=
  match P.funcs[f]? with
  | none => .fail 90
  | some fn => match fn.body, initSS tb fn.params.toList bx with
    | some c, some ss => bif !(fn.name == "runtime.NumGoroutine") && Nat.ble fn.params.size fn.ntmps && Nat.beq ss.Γ.length (fn.params.size - nBx bx + (bx.getD []).length) then
        sx ⟨⟨tb, fn.ntmps⟩, fn.results.toList, bx.isSome⟩ c ss [] (retVC ⟨⟨tb, fn.ntmps⟩, fn.results.toList, bx.isSome⟩) else .fail 92
    | _, _ => .fail 91
def tyOf (P : Program) (tb : TB) (f : FuncId) (bx : Option (List CT)) : List VT :=
  match P.funcs[f]? with
  | none => []
  | some fn => match initSS tb fn.params.toList bx with
    | some ss => ss.Γ
    | none => []
/-- The condition did not fail at its head. -/
def VC.ok : VC → Bool
  | .fail _ => false
  | _ => true
theorem Fun.of {P : Program} {f : FuncId} {tb : TB} {bx : Option (List CT)} {V : VC} {Γ : List VT} (hV : vcOf P tb f bx = V) (hok : V.ok = true) (hΓ : tyOf P tb f bx = Γ) (htb : tbOk P tb tb = true) (hm : P.follows .mixedOrders = true)
    {bc : Option (List D)} {ds : List D} {r : D} {bx' : List D} (hbc : bc.map List.length = bx.map List.length) (hty : HasTys tb.tab Γ (ds ++ bc.getD [])) (hbx' : bx = none → bx' = [])
    (hden : FitsL ds → FitsL (bc.getD []) → V.den P tb.tab (ds ++ bc.getD []) (fun d bs => d = r ∧ bs = bx') []) : Fun P f bc ds r bx' := by
  have hiso : bc.isSome = bx.isSome := by
    cases bc <;> cases bx <;> first | rfl | (exact absurd hbc (by intro h; cases h))
  unfold vcOf at hV
  unfold tyOf at hΓ
  split at hV
  · subst hV; exact absurd hok (by intro h; cases h)
  · rename_i fn hf
    rw [hf] at hΓ
    simp only at hΓ
    split at hV
    · rename_i c ss hb hss
      rw [hss] at hΓ
      simp only at hΓ
      subst hΓ
      generalize hC : (!(fn.name == "runtime.NumGoroutine") && Nat.ble fn.params.size fn.ntmps && Nat.beq ss.Γ.length (fn.params.size - nBx bx + (bx.getD []).length)) = C at hV
      cases C with
      | false => simp only [cond_false] at hV; subst hV; exact absurd hok (by intro h; cases h)
      | true =>
        simp only [cond_true] at hV
        simp only [Bool.and_eq_true, Bool.not_eq_true'] at hC
        obtain ⟨⟨h1, h2⟩, h3⟩ := hC
        replace h3 := Nat.eq_of_beq_eq_true h3
        refine Fun.of_vc hf hb h1 htb hm hss hV h2 hiso hty ?_ hbx' hden
        have hl := hasTys_length hty
        cases bx with
        | none =>
          cases bc with
          | none => simp [nBx] at hl h3; simp only; omega
          | some _ => simp at hiso
        | some ct =>
          cases bc with
          | none => simp at hiso
          | some cs => simp [nBx] at hl h3 hbc; simp only; omega
    · subst hV; exact absurd hok (by intro h; cases h)
end Go.Proofs.Ytjenbnoflaoekaa
