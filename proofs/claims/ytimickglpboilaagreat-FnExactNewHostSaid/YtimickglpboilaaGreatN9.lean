/- A function's contract out of the condition that is left. No program in sight. -/
import Derived.Test.YtimickglpboilaaGreatN8
import Derived.Test.YtimickglpboilaaGreatN7
set_option linter.unusedVariables false
set_option linter.unusedSimpArgs false
set_option linter.unusedSectionVars false
namespace Go.Proofs.YtimickglpboilaaGreat
open Go.RowKit
variable [GC]
theorem paramsSg_get : ∀ (Γ : List VT) (k j l : Nat), (paramsSg k j Γ).get l = if l % 3 = 0 ∧ k ≤ l / 3 ∧ l / 3 < k + Γ.length then .v [] .d (.var (j + (l / 3 - k))) else .un
 | [], k, j, l => by rw [if_neg (fun ⟨_, h1, h2⟩ => by simp only [List.length_nil] at h2; omega)]; rfl
 | v :: r, k, j, l => by
  simp only [paramsSg, Sg.get]
  cases e : Nat.beq (3 * k) l with
  | true =>
   have : 3 * k = l := Nat.eq_of_beq_eq_true e
   subst this
   rw [if_pos ⟨by omega, by omega, by simp only [List.length_cons]; omega⟩]
   simp only [cond_true]
   rw [show 3 * k / 3 - k = 0 by omega]; rfl
  | false =>
   have hne : 3 * k ≠ l := fun h => by rw [h] at e; simp at e
   simp only [cond_false]
   rw [paramsSg_get r (k + 1) (j + 1) l]
   by_cases h : l % 3 = 0 ∧ k + 1 ≤ l / 3 ∧ l / 3 < k + 1 + r.length
   ·rw [if_pos h, if_pos (by simp only [List.length_cons]; omega), show j + 1 + (l / 3 - (k + 1)) = j + (l / 3 - k) by omega]
   ·rw [if_neg h, if_neg (by simp only [List.length_cons]; omega)]
theorem tups_den {env : List D} : ∀ (es : List E) (acc : E) (l : List D), acc.den env = .tup l → (tups es acc).den env = .tup (l ++ es.map (·.den env))
 | [], acc, l, h => by simpa [tups] using h
 | e :: r, acc, l, h => by
  simp only [tups]
  rw [tups_den r (.tp1 acc e) (l ++ [e.den env]) (by simp [E.den, h])]
  simp
section
variable {P : Program} {tb : TB} {c0 : SC} {env : List D} {s : SS} {a : Act} {w : World}
theorem frzS_box {σ : Nat → ST} {l : Nat} {cs : List (K × E)} : frzS σ l = .box cs ↔ σ l = .box cs := by
 unfold frzS
 cases σ l <;> simp
theorem frzS_live {σ : Nat → ST} {l : Nat} {m : LV} (h : frzS σ l = .live m) : ∃ m', σ l = .live m' ∧ m = ⟨m'.n, none⟩ := by
 unfold frzS at h
 cases hσ : σ l with
 | live m' => rw [hσ] at h; simp at h; exact ⟨m', rfl, h.symm⟩
 | _ => rw [hσ] at h; cases h
theorem frzS_MM {c : SC} {σ : Nat → ST} {bm : Nat → Nat} {tm : Nat → Value} {p : Addr} (h : MM c.M0 bm tm (frzS σ) p) : MM c.M0 bm tm σ p := by
 rcases h with h | ⟨id, cs, h1, h2⟩ | ⟨g, m, h1, h2⟩
 ·exact .inl h
 ·exact .inr (.inl ⟨id, cs, frzS_box.1 h1, h2⟩)
 ·obtain ⟨m', h3, rfl⟩ := frzS_live h1
  exact .inr (.inr ⟨g, m', h3, ownA_of (ownA_none h2)⟩)
theorem Sim.freeze {c : SC} {F : Nat → Prop} {σ : Nat → ST} {bm : Nat → Nat} {tm : Nat → Value} {a : Act} {w : World} (hs : Sim c F σ bm tm a w) : Sim c F (frzS σ) bm tm a w := by
 have hk : Keeps w (MM c.M0 bm tm σ) w (MM c.M0 bm tm (frzS σ)) := fun p v hp hn => ⟨hp, fun h => hn (frzS_MM h)⟩
 refine ⟨hs.fr, hs.hB, hs.m0, fun t => ?_, fun id cs h => ?_, fun g m h => ?_, fun id id' cs cs' h h' => hs.dbb id id' cs cs' (frzS_box.1 h) (frzS_box.1 h'), fun id cs g m b h hg hb => ?_, fun g m g' m' b b' hg hg' hne hb hb' => ?_, fun l g h => ?_, fun id cs h => hs.f2 id cs (frzS_box.1 h), fun g m h => ?_, hs.size, hs.defers, hs.x0⟩
 ·have := hs.tmps t
  unfold frzS
  cases hσ : σ (3 * t) <;> rw [hσ] at this <;> exact this.keep hk (fun _ _ => ⟨rfl, rfl⟩)
 ·exact (hs.box id cs (frzS_box.1 h)).keep hk rfl rfl fun _ _ => rfl
 ·obtain ⟨m', h3, rfl⟩ := frzS_live h
  exact ⟨(hs.live g m' h3).sp, (fun e dp he => by cases he), (fun e gv ms he => by cases he)⟩
 ·obtain ⟨m', h3, rfl⟩ := frzS_live hg
  exact hs.dbl id cs g m' b (frzS_box.1 h) h3 (.inl (Blk_none hb))
 ·obtain ⟨m1, h3, rfl⟩ := frzS_live hg
  obtain ⟨m2, h4, rfl⟩ := frzS_live hg'
  exact hs.dll g m1 g' m2 b b' h3 h4 hne (.inl (Blk_none hb)) (.inl (Blk_none hb'))
 ·unfold frzS at h
  cases hσ : σ l with
  | live m => rw [hσ] at h; obtain ⟨_, _, h⟩ := h; cases h
  | _ => rw [hσ] at h; exact hs.f1 l g (by rw [hσ]; exact h)
 ·obtain ⟨m', h3, rfl⟩ := frzS_live h
  exact hs.f3 g m' h3
theorem frz_out {c : SC} {F : Nat → Prop} {σ : Nat → ST} {bm : Nat → Nat} {tm : Nat → Value} {a : Act} {w : World} (hs : Sim c F σ bm tm a w) {g : Nat} {m : LV} (hσ : σ (3 * g + 2) = .live m) {p : Addr} (hb : Blk tm g m p.block) (hsp : ¬ spareIn (tm g) m.n p) : ¬ MM c.M0 bm tm (frzS σ) p := by
 rintro (hm | ⟨id, cs, q1, q2⟩ | ⟨g', m', q1, q2⟩)
 ·have h1 := hs.m0.1 _ hm
  have h2 := ((hs.live g _ hσ).ltB hb).2
  omega
 ·exact hs.dbl id cs g _ _ (frzS_box.1 q1) hσ hb q2.symm
 ·obtain ⟨m2, q3, rfl⟩ := frzS_live q1
  by_cases e : g' = g
  ·subst e
   rw [hσ] at q3; simp only [ST.live.injEq] at q3; subst q3
   exact hsp (ownA_none q2)
  ·obtain ⟨o2, s2, l2, c2, z1, z2⟩ := spare_lt (ownA_none q2)
   exact hs.dll g' m2 g _ _ _ q3 hσ e (.inl ⟨o2, s2, l2, c2, z1, z2⟩) hb rfl
theorem body_rel {c : SC} {F : Nat → Prop} {σ : Nat → ST} {bm : Nat → Nat} {tm : Nat → Value} {a : Act} {w : World} (hs : Sim c F σ bm tm a w) {g : Nat} {b : E} (h : bodyOf σ g = some b) : R w (MM c.M0 bm tm (frzS σ)) (b.den c.env) (tm g) := by
 unfold bodyOf at h
 split at h
 ·rename_i n b' dp hσ
  simp only [Option.some.injEq] at h; subst h
  have hl := hs.live g _ hσ
  obtain ⟨ad, len, cap, rows, h1, h2, h3, h4, h5, h6, h7, h8⟩ := hl.bd b' dp rfl
  rw [h1, h2]
  refine ⟨ad, len, cap, rfl, h3, h4, h5, h6, fun b' o s ha => ⟨(h8 b' o s ha).1, Rws.of (n := n) h7 fun i r hi => Rw.of fun j d hj => ?_⟩⟩
  obtain ⟨u, hu, hq⟩ := (h8 b' o s ha).2 i r hi j d hj
  have hlt := (List.getElem?_eq_some_iff.1 hi).1
  have hrn : r.length = n := h7 r (List.mem_of_getElem? hi)
  have hjn : j < n := by rw [← hrn]; exact (List.getElem?_eq_some_iff.1 hj).1
  have htg : tm g = .slice (some ⟨b', o, s⟩) len cap := by rw [h1, ha]
  refine ⟨u, hu, frz_out hs hσ (.inl ⟨o, s, len, cap, htg, by omega⟩) fun hsp => ?_, ?_⟩
  ·obtain ⟨b2, o2, s2, l2, c2, z1, z2, z3, z4⟩ := hsp
   rw [htg] at z1
   simp only [Value.slice.injEq, Option.some.injEq, Addr.mk.injEq] at z1
   obtain ⟨⟨rfl, rfl, rfl⟩, rfl, rfl⟩ := z1
   have : (i + 1) * n ≤ len * n := Nat.mul_le_mul_right _ (by omega)
   rw [Nat.add_mul, Nat.one_mul] at this
   have z3' : o + len * n ≤ o + i * n + j := z3
   omega
  ·rcases dp with _ | ⟨gv, ms⟩
   ·exact hq _ _
   ·by_cases h0 : ms.getD j 0 = 0
    ·exact hq.1 h0 _ _
    ·obtain ⟨⟨cells, c1, c2⟩, c3, ad', len', cap', rows', r1, r2, r3, r4, r5, r6, r7, r8⟩ := hq.2 h0
     rw [r1, r2]
     have hmem : u ∈ cells.toList := by rw [← Array.getElem?_toList] at c2; exact List.mem_of_getElem? c2
     refine ⟨ad', len', cap', rfl, r3, r4, r5, r6, fun b2 o2 s2 ha2 => ⟨(r8 b2 o2 s2 ha2).1, Rws.of (n := ms.getD j 0) r7 fun i2 rr hi2 => Rw.of fun j2 d2 hj2 => ?_⟩⟩
     obtain ⟨u2, hu2, hl2⟩ := (r8 b2 o2 s2 ha2).2 i2 rr hi2 j2 d2 hj2
     have hlt2 := (List.getElem?_eq_some_iff.1 hi2).1
     have hOu : OutB u b2 := ⟨o2, s2, len', cap', by rw [r1, ha2], by omega⟩
     refine ⟨u2, hu2, frz_out hs hσ (.inr ⟨_, gv, ms, cells, u, rfl, c1, hmem, hOu⟩) fun hsp => ?_, hl2 _ _⟩
     obtain ⟨cells', x1, _, _, x4⟩ := hl.dp _ gv ms rfl
     rw [c1] at x1; cases x1
     obtain ⟨o3, s3, l3, c3', z1, z2⟩ := spare_lt hsp
     exact x4 u hmem b2 hOu ⟨o3, s3, l3, c3', z1, z2⟩
 ·cases h
theorem frz_rel {tab : Nat → List CT} {Γ : List VT} {c : SC} {F : Nat → Prop} {σ : Nat → ST} {bm : Nat → Nat} {tm : Nat → Value} {a : Act} {w : World} (hΓ : EnvTy tab Γ c.env) (hs : Sim c F σ bm tm a w) {k : K} {e : E} {v : Value} (h : relK w (MM c.M0 bm tm σ) tm c.env k e v) : relK w (MM c.M0 bm tm (frzS σ)) tm c.env k (frz tab Γ σ k e) v := by
 have hk : Keeps w (MM c.M0 bm tm σ) w (MM c.M0 bm tm (frzS σ)) := fun p v hp hn => ⟨hp, fun h => hn (frzS_MM h)⟩
 have hkeep : relK w (MM c.M0 bm tm (frzS σ)) tm c.env k e v := h.keep hk fun _ _ => rfl
 unfold frz
 split
 ·rename_i g
  cases hb : bodyOf σ g with
  | none => exact hkeep
  | some b =>
   refine ⟨?_, h.2⟩
   rw [h.2]
   exact body_rel hs hb
 ·rename_i ks
  cases hcnd : (ks.any fun kk => (kkBody σ kk).isSome) && (match e.inf tab Γ with | some (.one (.agg us)) => Nat.beq us.length ks.length | _ => false) with
  | false => exact hkeep
  | true =>
   simp only [Bool.and_eq_true] at hcnd
   obtain ⟨_, hc⟩ := hcnd
   split at hc
   ·rename_i us hinf
    have hlen := Nat.eq_of_beq_eq_true hc
    obtain ⟨l, hl, hlt⟩ := hasV1_agg (E.inf_ok hΓ e _ hinf)
    have hll : l.length = ks.length := by rw [hlt.length, hlen]
    obtain ⟨hr, hkk⟩ := hkeep
    rw [hl] at hr
    obtain ⟨cs, hcs, hrs⟩ := hr
    refine ⟨?_, hkk⟩
    simp only [cond_true]
    rw [den_mk, hcs]
    refine ⟨cs, rfl, ?_⟩
    have : ∀ (o : Nat) (l' : List D) (vs' : List Value), Rs w (MM c.M0 bm tm (frzS σ)) l' vs' → (∀ i d, l'[i]? = some d → l[o + i]? = some d) → (∀ i u, vs'[i]? = some u → cs.toList[o + i]? = some u) →
      Rs w (MM c.M0 bm tm (frzS σ)) (((List.range' o l'.length).map fun j => (kkBody σ (ks.getD j .d)).getD (.cell e j)).map (·.den c.env)) vs' := by
     intro o l'
     induction l' generalizing o with
     | nil => intro vs' h1 _ _; exact h1
     | cons d r ih =>
      rintro vs' ⟨u, q, rfl, h1, h2⟩ hd hv
      simp only [List.length_cons, List.range'_succ, List.map_cons]
      refine ⟨u, q, rfl, ?_, ih (o + 1) q h2 (fun i d' hi => by have := hd (i + 1) d' (by simpa using hi); rwa [show o + (i + 1) = o + 1 + i by omega] at this) (fun i u' hi => by have := hv (i + 1) u' (by simpa using hi); rwa [show o + (i + 1) = o + 1 + i by omega] at this)⟩
      have hd0 : l[o]? = some d := by simpa using hd 0 d rfl
      have hv0 : cs.toList[o]? = some u := by simpa using hv 0 u rfl
      have hok : o < ks.length := by rw [← hll]; exact (List.getElem?_eq_some_iff.1 hd0).1
      cases hb : kkBody σ (ks.getD o .d) with
      | none =>
       simp only [Option.getD_none, E.den, hl, D.toA_agg, List.getD, hd0, Option.getD_some]
       exact h1
      | some b =>
       simp only [Option.getD_some]
       have hko : ks[o]? = some ks[o] := List.getElem?_eq_getElem hok
       have hkd : ks.getD o .d = ks[o] := by simp [List.getD, hko]
       rw [hkd] at hb
       have hkv := hkk o _ u hko (by rw [hcs]; simpa [flatV, flat1] using hv0)
       generalize ks[o] = kk at hb hkv
       cases kk with
       | own g =>
        have hu : u = tm g := hkv
        rw [hu]
        exact body_rel hs hb
       | _ => simp [kkBody] at hb
    have key := this 0 l cs.toList hrs (fun i d h => by simpa using h) (fun i u h => by simpa using h)
    rw [hll, ← List.range_eq_range'] at key
    exact key
   ·cases hc
 ·exact hkeep
theorem frz_cs {tab : Nat → List CT} {Γ : List VT} {c : SC} {F : Nat → Prop} {σ : Nat → ST} {bm : Nat → Nat} {tm : Nat → Value} {a : Act} {w : World} (hΓ : EnvTy tab Γ c.env) (hs : Sim c F σ bm tm a w) : ∀ {cs : List (K × E)} {vs : List Value}, relCs w (MM c.M0 bm tm σ) tm c.env cs vs → relCs w (MM c.M0 bm tm (frzS σ)) tm c.env (cs.map fun x => (x.1, frz tab Γ σ x.1 x.2)) vs
 | [], _, h => h
 | x :: r, vs, ⟨v, q, e, h1, h2⟩ => ⟨v, q, e, frz_rel hΓ hs h1, frz_cs hΓ hs h2⟩
theorem retE_ok (hcx : tbOk P tb tb = true) {bm : Nat → Nat} {tm : Nat → Value} {F : Nat → Prop} (hΓ : EnvTy tb.tab s.Γ env) (hs : Sim { c0 with env := env } F s.σ.get bm tm a w) {r : ResultVar} {x : K × E} (h : retE tb s r = some x) :
  ∃ v, (match r with | .tmp t => (pure (a.tmps.getD t undef) : Sem Value) | .cell x T => do loadVar T (← asAddr (a.tmps.getD x undef))).run P w = .ok v w ∧ relK w (MM c0.M0 bm tm (frzS s.σ.get)) tm env x.1 x.2 v := by
 have hkz : Keeps w (MM c0.M0 bm tm s.σ.get) w (MM c0.M0 bm tm (frzS s.σ.get)) := fun p v hp hn => ⟨hp, fun h => hn (frzS_MM (c := c0) h)⟩
 cases r with
 | tmp t =>
  simp only [retE] at h
  split at h
  ·rename_i k e' hσ
   simp only [Option.some.injEq] at h; subst h
   have := hs.tmps t
   rw [hσ] at this
   exact ⟨_, rfl, frz_rel hΓ hs (this.1 (gsH_nil _))⟩
  ·simp at h
 | cell x T =>
  simp only [retE] at h
  split at h
  ·rename_i id ti hσ hti
   have hp := hs.tmps x
   rw [hσ] at hp
   have hv := hp.1 (gsH_nil _)
   split at h
   ·rename_i cs ts hbox hvt
    cases hl : Nat.beq ts.length cs.length with
    | false => rw [hl] at h; simp at h
    | true =>
     rw [hl] at h
     simp only [cond_true, Option.some.injEq] at h; subst h
     have hll := Nat.eq_of_beq_eq_true hl
     obtain ⟨vs, hvs, hcell, T0, hblk⟩ := box_cells (hs.box id cs hbox)
     obtain ⟨i, fields, z, hi, hsz, _, _, _, hu, _⟩ := ty_agg hcx hti hvt
     have hrun := run_loadVar_s (P := P) (w := w) hu hi (b := bm id) (o := 0) (vs := vs) (by rw [hvs.length, hsz, hll]) (fun j u hj => by rw [Nat.zero_add]; exact hcell j u hj)
     refine ⟨.agg vs.toArray, by simp [hv, asAddr, hrun], ?_⟩
     refine relK.pack ?_ fun j k u hk hu => ?_
     ·rw [den_pack hΓ]
      have := (frz_cs hΓ hs hvs).rs.to_agg
      simpa only [List.map_map, Function.comp_def] using this
     ·simp only [List.getElem?_map, Option.map_eq_some_iff] at hk
      obtain ⟨z, hz, rfl⟩ := hk
      obtain ⟨u', hu', hr'⟩ := hvs.get hz
      rw [hu] at hu'; cases hu'
      exact hr'.kk
   ·rename_i k e' t hbox hvt
    simp only [Option.some.injEq] at h; subst h
    obtain ⟨vs, hvs, hcell, T0, hblk⟩ := box_cells (hs.box id _ hbox)
    obtain ⟨v, q, rfl, hk, _⟩ := hvs
    obtain ⟨i, d, hi, _, _, _, hd, hdc⟩ := ty_c hcx hti hvt
    exact ⟨v, by simp [hv, asAddr, run_loadVar_c hd hdc (hcell 0 v rfl)], hk.keep hkz fun _ _ => rfl⟩
   ·simp at h
  ·simp at h
theorem retEs_ok (hcx : tbOk P tb tb = true) {bm : Nat → Nat} {tm : Nat → Value} {F : Nat → Prop} (hΓ : EnvTy tb.tab s.Γ env) (hs : Sim { c0 with env := env } F s.σ.get bm tm a w) : ∀ {rs : List ResultVar} {es : List (K × E)}, retEs tb s rs = some es →
  ∃ vs, (rs.mapM (m := Sem) fun | .tmp t => pure (a.tmps.getD t undef) | .cell x T => do loadVar T (← asAddr (a.tmps.getD x undef))).run P w = .ok vs w ∧ relCs w (MM c0.M0 bm tm (frzS s.σ.get)) tm env es vs
 | [], es, h => by simp [retEs] at h; subst h; exact ⟨[], by simp, rfl⟩
 | r :: rs, es, h => by
  simp only [retEs] at h
  split at h
  ·rename_i e es' h1 h2
   simp only [Option.some.injEq] at h; subst h
   obtain ⟨v, hv, hr⟩ := retE_ok hcx hΓ hs h1
   obtain ⟨vs, hvs, hrs⟩ := retEs_ok hcx hΓ hs h2
   refine ⟨v :: vs, ?_, v, vs, rfl, hr, hrs⟩
   rw [List.mapM_cons, Sem.run_bind]
   rw [hv]
   simp only [Result.andThen_ok, Sem.run_bind, hvs, Sem.run_pure]
  ·simp at h
theorem inf_flat {tab : Nat → List CT} {Γ : List VT} {M : Addr → Prop} {e : E} {v1 : V1} {u : Value} (hΓ : EnvTy tab Γ env) (he : e.inf tab Γ = some (.one v1)) (hr : R w M (e.den env) u) : (∀ t, v1 = .c t → flat1 u = [u]) ∧ (∀ ts, v1 = .agg ts → ∃ vs : List Value, u = .agg vs.toArray ∧ vs.length = ts.length) ∧ flatV u = flat1 u := by
 have ht := E.inf_ok hΓ e _ he
 cases v1 with
 | c t =>
  have h1 : (e.den env).one := ShapeOk.of (vt := .one (.c t)) ht
  have h2 := D.one_flat h1 hr
  have h3 : flatV u = flat1 u := by
   cases u <;> first | rfl | skip
   rename_i vs
   generalize e.den env = d at h1 hr
   cases d with
   | bool b => have : Value.tuple vs = .bool b := hr; cases this
   | int k n => have : Value.tuple vs = .int k n := hr.1; cases this
   | str s => have : Value.tuple vs = .string s := hr.1; cases this
   | sl rows => obtain ⟨ad, len, cap, h, _⟩ := hr; cases h
   | mem n => obtain ⟨ad, cap, h, _⟩ := hr; cases h
   | fn f caps => obtain ⟨ps, h, _⟩ := hr; cases h
   | _ => exact h1.elim
  exact ⟨fun _ _ => (by rw [← h3]; exact h2), fun ts h => (by cases h), h3⟩
 | agg ts =>
  obtain ⟨l, hl, hlt⟩ := hasV1_agg ht
  rw [hl] at hr
  obtain ⟨vs, rfl, hrs⟩ := hr
  exact ⟨fun t h => (by cases h), fun ts' h => (by cases h; exact ⟨vs.toList, by simp, by rw [hrs.length, hlt.length]⟩), rfl⟩
theorem cellsK_ok {tab : Nat → List CT} {Γ : List VT} {M : Addr → Prop} {tm : Nat → Value} (hΓ : EnvTy tab Γ env) : ∀ {es : List (K × E)} {us : List Value} {l : List KK}, cellsK tab Γ es = some l → relCs w M tm env es us → (∀ (p : Nat) (kk : KK), l[p]? = some kk → ∃ u, (us.flatMap flat1)[p]? = some u ∧ kkOk tm kk u) ∧ ∀ u ∈ us, flatV u = flat1 u
 | [], us, l, h, hr => by
  simp only [cellsK, Option.some.injEq] at h; subst h
  have : us = [] := hr
  subst this
  exact ⟨fun p kk h => by simp at h, fun u h => by simp at h⟩
 | (k, e) :: r, us, l, h, ⟨v, q, e', h1, h2⟩ => by
  subst e'
  have step : ∀ (l0 l1 : List KK), cellsK tab Γ r = some l1 → l = l0 ++ l1 → l0.length = (flat1 v).length → (∀ (p : Nat) (kk : KK), l0[p]? = some kk → ∃ u, (flat1 v)[p]? = some u ∧ kkOk tm kk u) → flatV v = flat1 v →
    (∀ (p : Nat) (kk : KK), l[p]? = some kk → ∃ u, ((v :: q).flatMap flat1)[p]? = some u ∧ kkOk tm kk u) ∧ ∀ u ∈ v :: q, flatV u = flat1 u := by
   intro l0 l1 hl1 hl hlen h0 hfv
   obtain ⟨i1, i2⟩ := cellsK_ok hΓ hl1 h2
   subst hl
   refine ⟨fun p kk hp => ?_, fun u hu => ?_⟩
   ·simp only [List.flatMap_cons]
    rcases Nat.lt_or_ge p l0.length with hlt | hge
    ·rw [List.getElem?_append_left hlt] at hp
     rw [List.getElem?_append_left (by omega)]
     exact h0 p kk hp
    ·rw [List.getElem?_append_right hge] at hp
     rw [List.getElem?_append_right (by omega), ← hlen]
     exact i1 _ kk hp
   ·rcases List.mem_cons.1 hu with rfl | hu
    ·exact hfv
    ·exact i2 u hu
  simp only [cellsK] at h
  split at h
  ·rename_i t l1 he hl1
   simp only [Option.some.injEq] at h
   obtain ⟨q1, _, q3⟩ := inf_flat hΓ he h1.rd
   have q1 := q1 t rfl
   refine step [k.kk] l1 hl1 h.symm (by rw [q1]; rfl) (fun p kk hp => ?_) q3
   rw [q1]
   have : p = 0 := by
    have := (List.getElem?_eq_some_iff.1 hp).1
    simp at this; omega
   subst this
   simp at hp; subst hp
   exact ⟨v, rfl, h1.kk⟩
  ·rename_i ts l1 he hl1
   simp only [Option.some.injEq] at h
   obtain ⟨_, q2, q3⟩ := inf_flat hΓ he h1.rd
   obtain ⟨vs, rfl, hvl⟩ := q2 ts rfl
   refine step _ l1 hl1 h.symm (by simp [flat1, hvl]) (fun p kk hp => ?_) q3
   simp only [List.getElem?_map, Option.map_eq_some_iff] at hp
   obtain ⟨j, hj, rfl⟩ := hp
   obtain ⟨hj1, hj2⟩ := List.getElem?_eq_some_iff.1 hj
   simp at hj1 hj2
   subst hj2
   have hu : (flatV (.agg vs.toArray))[p]? = some (vs[p]'(by omega)) := by simp [flatV, flat1, List.getElem?_eq_getElem (show p < vs.length by omega)]
   exact ⟨_, by simpa [flatV] using hu, h1.nth hu⟩
  ·simp at h
theorem memN_iff {x : Nat} : ∀ {l : List Nat}, memN x l = true ↔ x ∈ l
 | [] => by simp [memN]
 | y :: r => by simp [memN, memN_iff (l := r)]
theorem rtTags_ok {σ : Nat → ST} {l : List KK} : ∀ {rt : List (Nat × Nat)} {q : List Nat}, rtTags σ l rt = some q →
  (∀ x ∈ rt, ∃ kk, l[x.1]? = some kk ∧ (kk = .full ∨ ∃ g, kk = .own g ∧ g ∈ q ∧ σ (3 * g + 2) = .live ⟨x.2, none⟩)) ∧
  (∀ (i j : Nat) (x y : Nat × Nat) (g g' : Nat), i < j → rt[i]? = some x → rt[j]? = some y → l[x.1]? = some (.own g) → l[y.1]? = some (.own g') → g ≠ g')
 | [], q, h => ⟨fun x hx => by simp at hx, fun i j x y g g' _ h => by simp at h⟩
 | (p, m) :: r, q, h => by
  simp only [rtTags] at h
  split at h
  ·rename_i q' hp hq'
   simp only [Option.some.injEq] at h; subst h
   obtain ⟨i1, i2⟩ := rtTags_ok hq'
   refine ⟨fun x hx => ?_, fun i j x y g g' hij hx hy h1 h2 => ?_⟩
   ·rcases List.mem_cons.1 hx with rfl | hx
    ·exact ⟨_, hp, .inl rfl⟩
    ·exact i1 x hx
   ·obtain ⟨j, rfl⟩ : ∃ j', j = j' + 1 := ⟨j - 1, by omega⟩
    simp at hy
    cases i with
    | zero => simp at hx; subst hx; rw [hp] at h1; cases h1
    | succ i => simp at hx; exact i2 i j x y g g' (by omega) hx hy h1 h2
  ·rename_i g0 q' hp hq'
   split at h
   ·rename_i hc
    simp only [Option.some.injEq] at h; subst h
    obtain ⟨i1, i2⟩ := rtTags_ok hq'
    refine ⟨fun x hx => ?_, fun i j x y g g' hij hx hy h1 h2 => ?_⟩
    ·rcases List.mem_cons.1 hx with rfl | hx
     ·exact ⟨_, hp, .inr ⟨g0, rfl, by simp, hc.1⟩⟩
     ·obtain ⟨kk, k1, k2⟩ := i1 x hx
      exact ⟨kk, k1, k2.imp id fun ⟨g, z1, z2, z3⟩ => ⟨g, z1, by simp [z2], z3⟩⟩
    ·obtain ⟨j, rfl⟩ : ∃ j', j = j' + 1 := ⟨j - 1, by omega⟩
     simp at hy
     cases i with
     | zero =>
      simp at hx; subst hx
      rw [hp] at h1; simp at h1; subst h1
      obtain ⟨kk, k1, k2⟩ := i1 y (List.mem_of_getElem? hy)
      rw [h2] at k1; cases k1
      rcases k2 with k2 | ⟨g, z1, z2, _⟩
      ·cases k2
      ·cases z1
       intro e
       rw [e] at hc
       exact absurd (memN_iff.2 z2) (by rw [hc.2]; simp)
     | succ i => simp at hx; exact i2 i j x y g g' (by omega) hx hy h1 h2
   ·simp at h
  ·simp at h
theorem rt_ok {tab : Nat → List CT} {c : SC} {F : Nat → Prop} {σ : Nat → ST} {bm : Nat → Nat} {tm : Nat → Value} (hs : Sim c F σ bm tm a w) (hΓ : EnvTy tab s.Γ c.env) {es : List (K × E)} {us : List Value} {rt : List (Nat × Nat)} (hc : rtChk tab s.Γ σ es rt = true) (hr : relCs w (MM c.M0 bm tm σ) tm c.env es us) {v : Value}
  (hv : (us = [v]) ∨ v = .tuple us.toArray) : RtOk c.B w v rt ∧ ∀ p, RtM v rt p → MM c.M0 bm tm σ p := by
 cases rt with
 | nil => exact ⟨⟨fun x hx => by simp at hx, fun i j x y h => by simp at h⟩, fun p ⟨x, hx, _⟩ => by simp at hx⟩
 | cons x0 rt0 =>
  simp only [rtChk] at hc
  split at hc
  ·rename_i l hl
   obtain ⟨q, hq⟩ := Option.isSome_iff_exists.1 hc
   obtain ⟨h1, h2⟩ := rtTags_ok hq
   obtain ⟨c1, c2⟩ := cellsK_ok hΓ hl hr
   have hfl : flatV v = us.flatMap flat1 := by
    rcases hv with rfl | rfl
    ·rw [c2 v (by simp)]; simp
    ·simp [flatV]
   have hval : ∀ x ∈ x0 :: rt0, (∃ ad, rtV v x = .slice ad 0 0 ∧ l[x.1]? = some .full) ∨ ∃ g, rtV v x = tm g ∧ σ (3 * g + 2) = .live ⟨x.2, none⟩ ∧ l[x.1]? = some (.own g) := fun x hx => by
    obtain ⟨kk, k1, k2⟩ := h1 x hx
    obtain ⟨u, u1, u2⟩ := c1 x.1 kk k1
    have hu : rtV v x = u := by unfold rtV; rw [hfl]; simp [List.getD, u1]
    rcases k2 with rfl | ⟨g, rfl, _, k3⟩
    ·obtain ⟨ad, rfl⟩ := u2
     exact .inl ⟨ad, hu, k1⟩
    ·exact .inr ⟨g, by rw [hu]; exact u2, k3, k1⟩
   refine ⟨⟨fun x hx => ?_, fun i j x y hx hy hne => ?_⟩, fun p ⟨x, hx, hp⟩ => ?_⟩
   ·intro b o s len cap he hlt
    rcases hval x hx with ⟨ad, e, _⟩ | ⟨g, e, hg, _⟩
    ·rw [e] at he; simp only [Value.slice.injEq] at he; omega
    ·rw [e] at he
     exact (hs.live g ⟨x.2, none⟩ hg).sp b o s len cap he hlt
   ·intro b o s len cap b' o' s' len' cap' he hlt he' hlt'
    rcases hval x (List.mem_of_getElem? hx) with ⟨ad, e, _⟩ | ⟨g, e, hg, hlg⟩
    ·rw [e] at he; simp only [Value.slice.injEq] at he; omega
    ·rcases hval y (List.mem_of_getElem? hy) with ⟨ad, e', _⟩ | ⟨g', e', hg', hlg'⟩
     ·rw [e'] at he'; simp only [Value.slice.injEq] at he'; omega
     ·rw [e] at he; rw [e'] at he'
      refine hs.dll g ⟨x.2, none⟩ g' ⟨y.2, none⟩ b b' hg hg' ?_ (.inl ⟨o, s, len, cap, he, hlt⟩) (.inl ⟨o', s', len', cap', he', hlt'⟩)
      rcases Nat.lt_or_gt_of_ne hne with h | h
      ·exact h2 i j x y g g' h hx hy hlg hlg'
      ·exact fun e => h2 j i y x g' g h hy hx hlg' hlg e.symm
   ·rcases hval x hx with ⟨ad, e, _⟩ | ⟨g, e, hg, _⟩
    ·rw [e] at hp
     obtain ⟨o, s, len, cap, z1, z2⟩ := spare_lt hp
     simp only [Value.slice.injEq] at z1; omega
    ·rw [e] at hp
     exact .inr (.inr ⟨g, ⟨x.2, none⟩, hg, ownA_of hp⟩)
  ·simp at hc
end
theorem FunR.of_vc {P : Program} {rb : RB} {rt : List (Nat × Nat)} {f : FuncId} {fn : Func} {cd : Code} {tb : TB} {bx : Option (List CT)} {ss : SS} {V : VC} (hf : P.funcs[f]? = some fn) (hb : fn.body = some cd) (hn : (fn.name == "runtime.NumGoroutine") = false) (htb : tbOk P tb tb = true) (hm : P.follows .mixedOrders = true)
  (hss : initSS tb fn.params.toList bx = some ss) (hV : sx ⟨⟨tb, fn.ntmps, rb⟩, fn.results.toList, bx.isSome, rt⟩ cd ss [] (retVC ⟨⟨tb, fn.ntmps, rb⟩, fn.results.toList, bx.isSome, rt⟩) = V) (hsz : Nat.ble fn.params.size fn.ntmps = true)
  {bc : Option (List D)} {ds : List D} {r : D} {bx' : List D} (hbc : bc.isSome = bx.isSome) (hty : HasTys tb.tab ss.Γ (ds ++ bc.getD [])) (hdl : ds.length = match bx with | none => fn.params.size | some _ => fn.params.size - 1) (hbx' : bx = none → bx' = [])
  (hden : FitsL ds → FitsL (bc.getD []) → V.den P tb.tab (ds ++ bc.getD []) (fun d bs => d = r ∧ bs = bx') []) : FunR P f bc ds r bx' rt := by
 subst hV
 refine ⟨by simp [callable, hf, hn, hb], fun w M g vs hM hrs hbox => ?_⟩
 have hsz' := Nat.le_of_ble_eq_true hsz
 refine calls_of_wp hf hb ?_
 generalize hargs : (match bc with | none => vs | some _ => Value.pointer (some ⟨g, 0, none⟩) :: vs) = args
 let c0 : SC := { w0 := w, B := w.heap.size, X := bc.map fun _ => g, M0 := M, nt := fn.ntmps, env := ds ++ bc.getD [] }
 have hbody : ∀ e a' w', Post P ⟨⟨tb, fn.ntmps, rb⟩, fn.results.toList, bx.isSome, rt⟩ c0 (fun d bs => d = r ∧ bs = bx') (ds ++ bc.getD []) [] [] (retVC ⟨⟨tb, fn.ntmps, rb⟩, fn.results.toList, bx.isSome, rt⟩) e a' w' →
   bodyPost P fn (fun e w' => ∃ v, e = .returned v ∧ R w' (fun p => M p ∨ RtM v rt p) r v ∧ Fr w.heap.size (bc.map fun _ => g) w w' ∧ RtOk w.heap.size w' v rt ∧ (bc.isSome = true → ∃ us T, w'.heap[g]? = some (.cells us.toArray T (0, 0)) ∧ Rs w' (fun p => M p ∨ RtM v rt p) bx' us)) e a' w' := by
  have hret : ∀ (env : List D) (s : SS) (L : List (List D → Prop)) (a' : Act) (w' : World), Good c0 tb.tab env s a' w' → (retVC ⟨⟨tb, fn.ntmps, rb⟩, fn.results.toList, bx.isSome, rt⟩ s).den P tb.tab env (fun d bs => d = r ∧ bs = bx') L →
    a'.defers = [] ∧ ∃ v, (results fn a'.tmps).run P w' = .ok v w' ∧ ∃ v', Ending.returned v = .returned v' ∧ R w' (fun p => M p ∨ RtM v' rt p) r v' ∧ Fr w.heap.size (bc.map fun _ => g) w w' ∧ RtOk w.heap.size w' v' rt ∧ (bc.isSome = true → ∃ us T, w'.heap[g]? = some (.cells us.toArray T (0, 0)) ∧ Rs w' (fun p => M p ∨ RtM v' rt p) bx' us) := by
   intro env s L a' w' hG h
   obtain ⟨hE, hl, bm, tm, hS⟩ := hG
   refine ⟨hS.defers, ?_⟩
   simp only [retVC] at h
   split at h
   ·rename_i es hes
    have hSf := hS.freeze
    cases hck : rtChk tb.tab s.Γ (frzS s.σ.get) es rt with
    | false => rw [hck] at h; exact h.elim
    | true =>
    rw [hck] at h
    simp only [cond_true] at h
    obtain ⟨us, hus, hrk⟩ := retEs_ok htb hE hS hes
    have hrs' := hrk.rs
    have hrun : ∃ v, (results fn a'.tmps).run P w' = .ok v w' ∧ R w' (MM c0.M0 bm tm (frzS s.σ.get)) ((oneE (es.map (·.2))).den env) v ∧ ((us = [v]) ∨ v = .tuple us.toArray) := by
     have hmm : (results fn a'.tmps).run P w' = .ok (if h : us.toArray.size = 1 then us.toArray[0] else .tuple us.toArray) w' := by
      simp only [results, Sem.run_bind]
      rw [Array.mapM_eq_mapM_toList, Sem.run_map]
      erw [hus]
      rfl
     refine ⟨_, hmm, ?_⟩
     have hlen := hrs'.length
     simp only [List.length_map] at hlen
     generalize hes2 : es.map (·.2) = es2 at hrs' ⊢
     have hel : es2.length = es.length := by rw [← hes2]; simp
     unfold oneE
     split
     ·rename_i e
      obtain ⟨v, q, rfl, h1, h2⟩ := hrs'
      have : q = [] := h2
      subst this
      exact ⟨by simpa using h1, .inl (by simp)⟩
     ·rename_i es' hne
      have h1 : ¬ us.toArray.size = 1 := by
       intro h1
       have : es2.length = 1 := by rw [hel]; simpa [hlen] using h1
       match es2, this with
       | [e], _ => exact hne e rfl
      rw [dif_neg h1, tups_den es2 .tp0 [] rfl, List.nil_append]
      exact ⟨⟨us.toArray, rfl, by simpa using hrs'⟩, .inr rfl⟩
    obtain ⟨v, hv, hR, hvu⟩ := hrun
    obtain ⟨hrt1, hrt2⟩ := rt_ok (c := { c0 with env := env }) hSf hE hck hrk hvu
    have hkM : Keeps w' (MM c0.M0 bm tm (frzS s.σ.get)) w' (fun p => M p ∨ RtM v rt p) := fun p u hp hn => ⟨hp, fun h => h.elim (fun h => hn (.inl h)) (fun h => hn (hrt2 p h))⟩
    refine ⟨v, hv, v, rfl, ?_⟩
    generalize oneE (es.map (·.2)) = e at h hR
    cases hbx : bx.isSome with
    | false =>
     rw [hbx] at h hbc
     simp only [cond_false, VC.den, List.map_nil] at h
     refine ⟨by rw [← h.1]; exact R.keep hkM _ _ hR, hS.fr, hrt1, fun h => by rw [hbc] at h; cases h⟩
    | true =>
     rw [hbx] at h hbc
     simp only [cond_true] at h
     split at h
     ·rename_i cs hcs
      simp only [VC.den] at h
      obtain ⟨us', T, q1, q2, q3⟩ := hSf.box 0 cs (frzS_box.2 hcs)
      have hx : c0.X = some g := by
       show bc.map _ = _
       cases bc with
       | none => simp at hbc
       | some _ => rfl
      have hg := (hS.x0 g hx).1
      refine ⟨by rw [← h.1]; exact R.keep hkM _ _ hR, hS.fr, hrt1, fun _ => ⟨us', T, by rw [← hg]; exact q1, ?_⟩⟩
      rw [← h.2]
      exact Rs.keep hkM _ _ q2.rs
     ·exact h.elim
   ·exact h.elim
  intro e a' w' hp
  cases e with
  | normal =>
   obtain ⟨more, pre, s, h1, h2, h3⟩ := hp
   exact hret _ s _ a' w' h1 h3
  | exit id => obtain ⟨k', h1, _⟩ := hp; simp [lookupE] at h1
  | ret =>
   obtain ⟨env, s, L, h1, h2⟩ := hp
   exact hret env s L a' w' h1 h2
  | goto l => exact hp.elim
  | panic ch => exact hp.elim
  | outgrown => exact hp.elim
 have hlenΓ := hasTys_length hty
 have hfits : FitsL ds ∧ FitsL (bc.getD []) := by
  refine ⟨Rs.fits _ _ hrs, ?_⟩
  cases bc with
  | none => trivial
  | some cs => obtain ⟨us, T, _, h2, _⟩ := hbox cs rfl; exact Rs.fits _ _ h2
 refine wp_mono (sx_sound (fx := ⟨⟨tb, fn.ntmps, rb⟩, fn.results.toList, bx.isSome, rt⟩) (c0 := c0) htb rfl hm (fun d bs => d = r ∧ bs = bx') cd ss [] _ (ds ++ bc.getD []) [] _ w ?_ ?_ (hden hfits.1 hfits.2)) hbody
 ·have hEnv : EnvTy tb.tab ss.Γ (ds ++ bc.getD []) := by
   have := EnvTy.append (tab := tb.tab) (Γ := []) (env := []) (fun i t h => by simp at h) rfl hty
   simpa using this
  have hvl := hrs.length
  have htm : ∀ t, ({ tmps := args.toArray ++ Array.replicate (fn.ntmps - args.toArray.size) undef, defers := [] } : Act).tmps.getD t undef = args.getD t undef := fun t => by
   simp only [Array.getD_eq_getD_getElem?, List.getD]
   by_cases h : t < args.length
   ·rw [Array.getElem?_append_left (by simpa using h)]; simp
   ·rw [Array.getElem?_append_right (by simp; omega), List.getElem?_eq_none (by omega)]
    simp only [Array.getElem?_replicate]
    split <;> rfl
  refine ⟨hEnv, hlenΓ, ?_⟩
  unfold initSS at hss
  split at hss
  · -- no box
   rename_i ps
   split at hss
   ·rename_i Γ hΓ
    simp only [Option.some.injEq] at hss; subst hss
    have hbn : bc = none := by cases bc with | none => rfl | some _ => simp at hbc
    subst hbn
    simp only at hargs; subst hargs
    simp only [Option.getD_none, List.append_nil] at hlenΓ hEnv ⊢
    have hsz0 : vs.length ≤ fn.ntmps := by
     have : Γ.length = fn.params.size := by
      have hk : ∀ (l : List Nat) (Γ : List VT), allVT tb l = some Γ → Γ.length = l.length := by
       intro l
       induction l with
       | nil => intro Γ h; simp [allVT] at h; subst h; rfl
       | cons T l ih =>
        intro Γ h
        simp only [allVT] at h
        split at h
        ·rename_i i l' _ h2
         simp only [Option.some.injEq] at h; subst h
         simp [ih _ h2]
        ·simp at h
      simpa using hk _ _ hΓ
     omega
    have hσb : ∀ id cs, (paramsSg 0 0 Γ).get (3 * id + 1) ≠ .box cs := fun id cs h => by rw [paramsSg_get] at h; split at h <;> cases h
    have hσl : ∀ g n, (paramsSg 0 0 Γ).get (3 * g + 2) ≠ .live n := fun g n h => by rw [paramsSg_get] at h; split at h <;> cases h
    refine ⟨fun x => x, fun _ => undef, Fr.refl _ _ _, Nat.le_refl _, ⟨hM.1, hM.2.1, hM.2.2, fun g' hg' => by cases hg'⟩, fun t => ?_, fun id cs h => absurd h (hσb id cs), fun g n h => absurd h (hσl g n), fun id id' cs cs' h => absurd h (hσb id cs), fun id cs g n b h => absurd h (hσb id cs), fun g n g' n' b b' h => absurd h (hσl g n), fun l g h => ?_, fun id cs h => absurd h (hσb id cs), fun g n h => absurd h (hσl g n), ?_, rfl, fun g hg => by simp [c0] at hg⟩
    ·rw [htm, paramsSg_get]
     split
     ·rename_i hc
      refine ⟨fun _ => ?_, fun h => absurd (gsH_nil _) h⟩
      have ht : t < ds.length := by omega
      obtain ⟨v, hv, hr⟩ := hrs.get (List.getElem?_eq_getElem ht)
      simp only [relK, E.den, List.getD, show 0 + (3 * t / 3 - 0) = t by omega, List.getElem?_eq_getElem ht, hv, Option.getD_some]
      refine R.keep (fun p u hp hn => ⟨hp, ?_⟩) _ _ hr
      rintro (h | ⟨id, cs, h1, _⟩ | ⟨g, n, h1, _⟩)
      ·exact hn h
      ·exact hσb id cs h1
      ·exact hσl g n h1
     ·trivial
    ·rw [paramsSg_get] at h
     split at h
     ·exact h.elim
     ·exact h.elim
    ·show _ = fn.ntmps
     simp only [Array.size_append, Array.size_replicate]; simp; omega
   ·simp at hss
  · -- a box behind the first argument
   rename_i cts p0 ps hps hxx
   split at hss
   ·rename_i Γ hΓ
    simp only [Option.some.injEq] at hss; subst hss
    obtain ⟨bcs, rfl⟩ : ∃ x, bc = some x := by cases bc with | none => simp at hbc | some x => exact ⟨x, rfl⟩
    simp only at hargs; subst hargs
    simp only [Option.getD_some] at hlenΓ hEnv hty ⊢
    obtain ⟨us, T, hblk, hur, hng, hgM⟩ := hbox bcs rfl
    have hk : ∀ (l : List Nat) (Γ : List VT), allVT tb l = some Γ → Γ.length = l.length := by
     intro l
     induction l with
     | nil => intro Γ h; simp [allVT] at h; subst h; rfl
     | cons T l ih =>
      intro Γ h
      simp only [allVT] at h
      split at h
      ·rename_i i l' _ h2
       simp only [Option.some.injEq] at h; subst h
       simp [ih _ h2]
      ·simp at h
    have hpl : fn.params.size = ps.length + 1 := by rw [← Array.length_toList, hps]; rfl
    have hΓl := hk _ _ hΓ
    have hdl' : ds.length = Γ.length := by
     have : ds.length = fn.params.size - 1 := hdl
     omega
    have hbl : bcs.length = cts.length := by simp only [List.length_append, List.length_map] at hlenΓ; omega
    have hget : ∀ l, Sg.get ((0, .ptr [] 0 0) :: (1, .box (vars Γ.length cts)) :: paramsSg 1 0 Γ) l = if l = 0 then .ptr [] 0 0 else if l = 1 then .box (vars Γ.length cts) else (paramsSg 1 0 Γ).get l := fun l => by
     rw [Sg.get_cons, Sg.get_cons]; simp only [upd]
    have hσb : ∀ id cs, Sg.get ((0, .ptr [] 0 0) :: (1, .box (vars Γ.length cts)) :: paramsSg 1 0 Γ) (3 * id + 1) = .box cs → id = 0 ∧ cs = vars Γ.length cts := fun id cs h => by
     rw [hget, if_neg (by omega)] at h
     by_cases e : 3 * id + 1 = 1
     ·rw [if_pos e] at h; simp only [ST.box.injEq] at h; exact ⟨by omega, h.symm⟩
     ·rw [if_neg e, paramsSg_get] at h; split at h <;> cases h
    have hσl : ∀ g n, Sg.get ((0, .ptr [] 0 0) :: (1, .box (vars Γ.length cts)) :: paramsSg 1 0 Γ) (3 * g + 2) ≠ .live n := fun g n h => by
     rw [hget, if_neg (by omega), if_neg (by omega), paramsSg_get] at h; split at h <;> cases h
    have hMM : ∀ p, MM M (fun _ => g) (fun _ => undef) (Sg.get ((0, .ptr [] 0 0) :: (1, .box (vars Γ.length cts)) :: paramsSg 1 0 Γ)) p → M p := by
     rintro p (h | ⟨id, cs, h1, h2⟩ | ⟨g', n, h1, _⟩)
     ·exact h
     ·exact hgM p h2
     ·exact absurd h1 (hσl g' n)
    have hkeep : Keeps w M w (MM M (fun _ => g) (fun _ => undef) (Sg.get ((0, .ptr [] 0 0) :: (1, .box (vars Γ.length cts)) :: paramsSg 1 0 Γ))) := fun p u hp hn => ⟨hp, fun h => hn (hMM p h)⟩
    refine ⟨fun _ => g, fun _ => undef, Fr.refl _ _ _, Nat.le_refl _, ⟨hM.1, hM.2.1, hM.2.2, fun g' hg' => by cases hg'; exact hng⟩, fun t => ?_, fun id cs h => ?_, fun g n h => absurd h (hσl g n), fun id id' cs cs' h h' hne => ?_, fun id cs g n b _ h => absurd h (hσl g n), fun g n g' n' b b' h => absurd h (hσl g n), fun l x h => ?_, fun id cs h => ?_, fun g n h => absurd h (hσl g n), ?_, rfl, fun g' hg => ⟨?_, by simp [below]⟩⟩
    ·rw [htm, hget]
     by_cases h0 : 3 * t = 0
     ·rw [if_pos h0]
      have : t = 0 := by omega
      subst this
      exact ⟨fun _ => rfl, fun h => absurd (gsH_nil _) h⟩
     ·rw [if_neg h0, if_neg (by omega), paramsSg_get]
      split
      ·rename_i hc
       refine ⟨fun _ => ?_, fun h => absurd (gsH_nil _) h⟩
       have ht : t - 1 < ds.length := by omega
       obtain ⟨v, hv, hr⟩ := hrs.get (List.getElem?_eq_getElem ht)
       have e1 : 0 + (3 * t / 3 - 1) = t - 1 := by omega
       have e2 : (Value.pointer (some ⟨g, 0, none⟩) :: vs).getD t undef = v := by
        obtain ⟨t', rfl⟩ : ∃ t', t = t' + 1 := ⟨t - 1, by omega⟩
        simp only [List.getD, List.getElem?_cons_succ]
        rw [show t' + 1 - 1 = t' by omega] at hv
        rw [hv]; rfl
       rw [e2]
       simp only [relK, E.den, e1, List.getD, List.getElem?_append_left ht, List.getElem?_eq_getElem ht, Option.getD_some]
       exact R.keep hkeep _ _ hr
      ·trivial
    ·obtain ⟨rfl, rfl⟩ := hσb id cs h
     refine ⟨us, T, hblk, ?_, .inr ⟨rfl, rfl⟩⟩
     refine relCs_vars (c := { c0 with env := ds ++ bcs }) cts Γ.length us ?_
     have : ((List.range cts.length).map fun j => (ds ++ bcs).getD (Γ.length + j) .un) = bcs := by
      refine List.ext_getElem? fun i => ?_
      simp only [List.getElem?_map]
      by_cases hi : i < cts.length
      ·rw [List.getElem?_range hi]
       simp only [Option.map_some, List.getD]
       rw [List.getElem?_append_right (by omega), show Γ.length + i - ds.length = i by omega]
       simp [List.getElem?_eq_getElem (show i < bcs.length by omega)]
      ·rw [List.getElem?_eq_none (by simp; omega), List.getElem?_eq_none (by omega)]; rfl
     show Rs w _ ((List.range cts.length).map fun j => (ds ++ bcs).getD (Γ.length + j) .un) us
     rw [this]
     exact Rs.keep hkeep _ _ hur
    ·obtain ⟨rfl, _⟩ := hσb id cs h
     obtain ⟨rfl, _⟩ := hσb id' cs' h'
     exact absurd rfl hne
    ·rw [hget] at h
     split at h
     ·simp only [men] at h; subst h; simp [below]
     ·split at h
      ·exact absurd h (vars_d _ _ _)
      ·rw [paramsSg_get] at h; split at h <;> exact h.elim
    ·obtain ⟨rfl, _⟩ := hσb id cs h; simp [below]
    ·show _ = fn.ntmps
     simp only [Array.size_append, Array.size_replicate]; simp; omega
    ·have : (some bcs).map (fun _ => g) = some g' := hg
     simpa using this
   ·simp at hss
  ·simp at hss
 ·unfold initSS at hss
  split at hss
  ·split at hss
   ·simp only [Option.some.injEq] at hss; subst hss; rfl
   ·simp at hss
  ·split at hss
   ·simp only [Option.some.injEq] at hss; subst hss; rfl
   ·simp at hss
  ·simp at hss
def capsSg : Nat → Nat → List (List CT) → Sg
 | _, _, [] => []
 | k, j, _ :: r => (3 * k, .ro [] (.var j) 0) :: capsSg (k + 1) (j + 1) r
def initC (tb : TB) (params : List Nat) (caps : List (List CT)) : Option SS :=
 match allVT tb params with
 | some Γ => some { Γ := Γ ++ caps.map (fun ts => .one (.agg ts)), nt := 0, lv := 0, σ := paramsSg 0 0 Γ ++ capsSg Γ.length Γ.length caps }
 | none => none
open Classical in
theorem Sg.get_app : ∀ (a b : Sg) (l : Nat), Sg.get (a ++ b) l = if (∃ s, (l, s) ∈ a) then Sg.get a l else Sg.get b l
 | [], b, l => by simp [Sg.get]
 | (x, s) :: a, b, l => by
  simp only [List.cons_append, Sg.get]
  cases e : Nat.beq x l with
  | true =>
   have : x = l := Nat.eq_of_beq_eq_true e
   subst this
   rw [if_pos ⟨s, by simp⟩]; simp
  | false =>
   have hne : l ≠ x := fun h => by subst h; simp at e
   simp only [cond_false]
   rw [Sg.get_app a b l]
   have : (∃ s', (l, s') ∈ (x, s) :: a) ↔ ∃ s', (l, s') ∈ a := by
    constructor
    ·rintro ⟨s', h⟩
     rcases List.mem_cons.1 h with h | h
     ·simp only [Prod.mk.injEq] at h; exact absurd h.1 hne
     ·exact ⟨s', h⟩
    ·rintro ⟨s', h⟩; exact ⟨s', by simp [h]⟩
   by_cases h : ∃ s', (l, s') ∈ a
   ·rw [if_pos h, if_pos (this.2 h)]
   ·rw [if_neg h, if_neg fun h' => h (this.1 h')]
theorem paramsSg_mem : ∀ {Γ : List VT} {k j l : Nat}, (∃ s, (l, s) ∈ paramsSg k j Γ) ↔ ∃ i, i < Γ.length ∧ l = 3 * (k + i)
 | [], k, j, l => by simp [paramsSg]
 | t :: Γ, k, j, l => by
  simp only [paramsSg, List.mem_cons, Prod.mk.injEq, List.length_cons]
  constructor
  ·rintro ⟨s, h | h⟩
   ·exact ⟨0, by omega, by omega⟩
   ·obtain ⟨i, h1, h2⟩ := paramsSg_mem.1 ⟨s, h⟩
    exact ⟨i + 1, by omega, by omega⟩
  ·rintro ⟨i, h1, h2⟩
   cases i with
   | zero => exact ⟨_, .inl ⟨by omega, rfl⟩⟩
   | succ i =>
    obtain ⟨s, hs⟩ := (paramsSg_mem (Γ := Γ) (k := k + 1) (j := j + 1) (l := l)).2 ⟨i, by omega, by omega⟩
    exact ⟨s, .inr hs⟩
theorem capsSg_get : ∀ (cs : List (List CT)) (k j l : Nat), Sg.get (capsSg k j cs) l = if l % 3 = 0 ∧ k ≤ l / 3 ∧ l / 3 < k + cs.length then .ro [] (.var (j + (l / 3 - k))) 0 else .un
 | [], k, j, l => by simp only [capsSg, Sg.get, List.length_nil]; rw [if_neg (by omega)]
 | t :: cs, k, j, l => by
  simp only [capsSg, Sg.get, List.length_cons]
  cases e : Nat.beq (3 * k) l with
  | true =>
   have : 3 * k = l := Nat.eq_of_beq_eq_true e
   subst this
   rw [if_pos (by omega)]
   simp only [cond_true]
   rw [show 3 * k / 3 - k = 0 by omega]; rfl
  | false =>
   have hne : l ≠ 3 * k := fun h => by subst h; simp at e
   simp only [cond_false]
   rw [capsSg_get cs (k + 1) (j + 1) l]
   by_cases h : l % 3 = 0 ∧ k + 1 ≤ l / 3 ∧ l / 3 < k + 1 + cs.length
   ·rw [if_pos h, if_pos (by omega), show j + 1 + (l / 3 - (k + 1)) = j + (l / 3 - k) by omega]
   ·rw [if_neg h, if_neg (by omega)]
theorem initC_get {Γ : List VT} {caps : List (List CT)} (l : Nat) : Sg.get (paramsSg 0 0 Γ ++ capsSg Γ.length Γ.length caps) l =
  if l % 3 = 0 ∧ l / 3 < Γ.length then .v [] .d (.var (l / 3)) else if l % 3 = 0 ∧ l / 3 < Γ.length + caps.length then .ro [] (.var (l / 3)) 0 else .un := by
 rw [Sg.get_app]
 by_cases h : l % 3 = 0 ∧ l / 3 < Γ.length
 ·rw [if_pos h, if_pos (paramsSg_mem.2 ⟨l / 3, h.2, by omega⟩), paramsSg_get, if_pos (by omega)]
  rw [show 0 + (l / 3 - 0) = l / 3 by omega]
 ·rw [if_neg h, if_neg (fun hh => by obtain ⟨i, h1, h2⟩ := paramsSg_mem.1 hh; exact h ⟨by omega, by omega⟩), capsSg_get]
  by_cases h2 : l % 3 = 0 ∧ l / 3 < Γ.length + caps.length
  ·rw [if_pos h2, if_pos (by omega), show Γ.length + (l / 3 - Γ.length) = l / 3 by omega]
  ·rw [if_neg h2, if_neg (by omega)]
theorem allVT_length {tb : TB} : ∀ {l : List Nat} {Γ : List VT}, allVT tb l = some Γ → Γ.length = l.length
 | [], Γ, h => by simp [allVT] at h; subst h; rfl
 | T :: l, Γ, h => by
  simp only [allVT] at h
  split at h
  ·rename_i i l' _ h2
   simp only [Option.some.injEq] at h; subst h
   simp [allVT_length h2]
  ·simp at h
theorem Rps.agg {w : World} {M : Addr → Prop} {caps : List (List D)} {ps : List Value} (h : Rps w M caps ps) : FitsL (caps.map .agg) := by
 induction caps generalizing ps with
 | nil => trivial
 | cons r l ih =>
  obtain ⟨b, q, _, h1, h2⟩ := h
  exact ⟨Rw.fits _ _ _ h1, ih h2⟩
theorem FunC.of_vc {P : Program} {rb : RB} {f : FuncId} {fn : Func} {cd : Code} {tb : TB} {ct : List (List CT)} {ss : SS} {V : VC} (hf : P.funcs[f]? = some fn) (hb : fn.body = some cd) (hn : (fn.name == "runtime.NumGoroutine") = false) (htb : tbOk P tb tb = true) (hm : P.follows .mixedOrders = true)
  (hss : initC tb fn.params.toList ct = some ss) (hV : sx ⟨⟨tb, fn.ntmps, rb⟩, fn.results.toList, false, []⟩ cd ss [] (retVC ⟨⟨tb, fn.ntmps, rb⟩, fn.results.toList, false, []⟩) = V) (hsz : Nat.ble (fn.params.size + ct.length) fn.ntmps = true)
  {caps : List (List D)} {ds : List D} {r : D} (hcl : caps.length = ct.length) (hdl : ds.length = fn.params.size) (hty : HasTys tb.tab ss.Γ (ds ++ caps.map .agg))
  (hden : FitsL ds → FitsL (caps.map .agg) → V.den P tb.tab (ds ++ caps.map .agg) (fun d bs => d = r ∧ bs = []) []) : FunC P f ds caps r := by
 subst hV
 refine ⟨by simp [callable, hf, hn, hb], fun w M vs ps hM hrs hps => ?_⟩
 have hsz' := Nat.le_of_ble_eq_true hsz
 refine calls_of_wp hf hb ?_
 generalize hargs : vs ++ ps = args
 let c0 : SC := { w0 := w, B := w.heap.size, X := none, M0 := M, nt := fn.ntmps, env := ds ++ caps.map .agg }
 have hbody : ∀ e a' w', Post P ⟨⟨tb, fn.ntmps, rb⟩, fn.results.toList, false, []⟩ c0 (fun d bs => d = r ∧ bs = []) (ds ++ caps.map .agg) [] [] (retVC ⟨⟨tb, fn.ntmps, rb⟩, fn.results.toList, false, []⟩) e a' w' →
   bodyPost P fn (fun e w' => ∃ v, e = .returned v ∧ R w' M r v ∧ Below w.heap.size w w') e a' w' := by
  have hret : ∀ (env : List D) (s : SS) (L : List (List D → Prop)) (a' : Act) (w' : World), Good c0 tb.tab env s a' w' → (retVC ⟨⟨tb, fn.ntmps, rb⟩, fn.results.toList, false, []⟩ s).den P tb.tab env (fun d bs => d = r ∧ bs = []) L →
    a'.defers = [] ∧ ∃ v, (results fn a'.tmps).run P w' = .ok v w' ∧ ∃ v', Ending.returned v = .returned v' ∧ R w' M r v' ∧ Below w.heap.size w w' := by
   intro env s L a' w' hG h
   obtain ⟨hE, hl, bm, tm, hS⟩ := hG
   refine ⟨hS.defers, ?_⟩
   simp only [retVC] at h
   split at h
   ·rename_i es hes
    have hSf := hS.freeze
    cases hck : rtChk tb.tab s.Γ (frzS s.σ.get) es [] with
    | false => rw [hck] at h; exact h.elim
    | true =>
    rw [hck] at h
    simp only [cond_true, cond_false, VC.den, List.map_nil] at h
    obtain ⟨us, hus, hrk⟩ := retEs_ok htb hE hS hes
    have hrs' := hrk.rs
    have hrun : ∃ v, (results fn a'.tmps).run P w' = .ok v w' ∧ R w' (MM c0.M0 bm tm (frzS s.σ.get)) ((oneE (es.map (·.2))).den env) v := by
     have hmm : (results fn a'.tmps).run P w' = .ok (if h : us.toArray.size = 1 then us.toArray[0] else .tuple us.toArray) w' := by
      simp only [results, Sem.run_bind]
      rw [Array.mapM_eq_mapM_toList, Sem.run_map]
      erw [hus]
      rfl
     refine ⟨_, hmm, ?_⟩
     have hlen := hrs'.length
     simp only [List.length_map] at hlen
     generalize hes2 : es.map (·.2) = es2 at hrs' ⊢
     have hel : es2.length = es.length := by rw [← hes2]; simp
     unfold oneE
     split
     ·rename_i e
      obtain ⟨v, q, rfl, h1, h2⟩ := hrs'
      have : q = [] := h2
      subst this
      simpa using h1
     ·rename_i es' hne
      have h1 : ¬ us.toArray.size = 1 := by
       intro h1
       have : es2.length = 1 := by rw [hel]; simpa [hlen] using h1
       match es2, this with
       | [e], _ => exact hne e rfl
      rw [dif_neg h1, tups_den es2 .tp0 [] rfl, List.nil_append]
      exact ⟨us.toArray, rfl, by simpa using hrs'⟩
    obtain ⟨v, hv, hR⟩ := hrun
    have hkM : Keeps w' (MM c0.M0 bm tm (frzS s.σ.get)) w' M := fun p u hp hn => ⟨hp, fun h => hn (.inl h)⟩
    exact ⟨v, hv, v, rfl, by rw [← h.1]; exact R.keep hkM _ _ hR, hS.fr.to_below⟩
   ·exact h.elim
  intro e a' w' hp
  cases e with
  | normal =>
   obtain ⟨more, pre, s, h1, h2, h3⟩ := hp
   exact hret _ s _ a' w' h1 h3
  | exit id => obtain ⟨k', h1, _⟩ := hp; simp [lookupE] at h1
  | ret =>
   obtain ⟨env, s, L, h1, h2⟩ := hp
   exact hret env s L a' w' h1 h2
  | goto l => exact hp.elim
  | panic ch => exact hp.elim
  | outgrown => exact hp.elim
 have hlenΓ := hasTys_length hty
 refine wp_mono (sx_sound (fx := ⟨⟨tb, fn.ntmps, rb⟩, fn.results.toList, false, []⟩) (c0 := c0) htb rfl hm (fun d bs => d = r ∧ bs = []) cd ss [] _ (ds ++ caps.map .agg) [] _ w ?_ ?_ (hden (Rs.fits _ _ hrs) hps.agg)) hbody
 ·have hEnv : EnvTy tb.tab ss.Γ (ds ++ caps.map .agg) := by
   have := EnvTy.append (tab := tb.tab) (Γ := []) (env := []) (fun i t h => by simp at h) rfl hty
   simpa using this
  have hvl := hrs.length
  have hpl := hps.length
  have htm : ∀ t, ({ tmps := args.toArray ++ Array.replicate (fn.ntmps - args.toArray.size) undef, defers := [] } : Act).tmps.getD t undef = args.getD t undef := fun t => by
   simp only [Array.getD_eq_getD_getElem?, List.getD]
   by_cases h : t < args.length
   ·rw [Array.getElem?_append_left (by simpa using h)]; simp
   ·rw [Array.getElem?_append_right (by simp; omega), List.getElem?_eq_none (by omega)]
    simp only [Array.getElem?_replicate]
    split <;> rfl
  refine ⟨hEnv, hlenΓ, ?_⟩
  unfold initC at hss
  split at hss
  ·rename_i Γ hΓ
   simp only [Option.some.injEq] at hss; subst hss
   subst hargs
   have hΓl : Γ.length = fn.params.size := by simpa using allVT_length hΓ
   have hget : ∀ l, Sg.get (paramsSg 0 0 Γ ++ capsSg Γ.length Γ.length ct) l = _ := fun l => initC_get l
   have hσb : ∀ id cs, Sg.get (paramsSg 0 0 Γ ++ capsSg Γ.length Γ.length ct) (3 * id + 1) ≠ .box cs := fun id cs h => by rw [hget, if_neg (by omega), if_neg (by omega)] at h; cases h
   have hσl : ∀ g n, Sg.get (paramsSg 0 0 Γ ++ capsSg Γ.length Γ.length ct) (3 * g + 2) ≠ .live n := fun g n h => by rw [hget, if_neg (by omega), if_neg (by omega)] at h; cases h
   have hkeep : Keeps w M w (MM M (fun x => x) (fun _ => undef) (Sg.get (paramsSg 0 0 Γ ++ capsSg Γ.length Γ.length ct))) := fun p u hp hn => by
    refine ⟨hp, ?_⟩
    rintro (h | ⟨id, cs, h1, _⟩ | ⟨g, n, h1, _⟩)
    ·exact hn h
    ·exact hσb id cs h1
    ·exact hσl g n h1
   refine ⟨fun x => x, fun _ => undef, Fr.refl _ _ _, Nat.le_refl _, ⟨hM.1, hM.2.1, hM.2.2, fun g' hg' => by cases hg'⟩, fun t => ?_, fun id cs h => absurd h (hσb id cs), fun g n h => absurd h (hσl g n), fun id id' cs cs' h => absurd h (hσb id cs), fun id cs g n b h => absurd h (hσb id cs), fun g n g' n' b b' h => absurd h (hσl g n), fun l g h => ?_, fun id cs h => absurd h (hσb id cs), fun g n h => absurd h (hσl g n), ?_, rfl, fun g h => by cases h⟩
   ·rw [htm, hget]
    by_cases h1 : 3 * t % 3 = 0 ∧ 3 * t / 3 < Γ.length
    ·rw [if_pos h1]
     refine ⟨fun _ => ?_, fun h => absurd (gsH_nil _) h⟩
     have ht : t < ds.length := by omega
     obtain ⟨v, hv, hr⟩ := hrs.get (List.getElem?_eq_getElem ht)
     have e2 : (vs ++ ps).getD t undef = v := by simp only [List.getD, List.getElem?_append_left (show t < vs.length by omega), hv, Option.getD_some]
     rw [e2]
     simp only [relK, E.den, List.getD, show 3 * t / 3 = t by omega]
     show R w _ (((ds ++ caps.map D.agg)[t]?).getD .un) v
     rw [List.getElem?_append_left ht, List.getElem?_eq_getElem ht]
     exact R.keep hkeep _ _ hr
    ·rw [if_neg h1]
     by_cases h2 : 3 * t % 3 = 0 ∧ 3 * t / 3 < Γ.length + ct.length
     ·rw [if_pos h2]
      refine ⟨fun _ => ?_, fun h => absurd (gsH_nil _) h⟩
      have ht : t - ds.length < caps.length := by omega
      obtain ⟨b, hv, hr⟩ := hps.get (List.getElem?_eq_getElem ht)
      have e2 : (vs ++ ps).getD t undef = .pointer (some ⟨b, 0, none⟩) := by
       simp only [List.getD]
       rw [List.getElem?_append_right (by omega), show t - vs.length = t - ds.length by omega, hv]; rfl
      rw [e2]
      refine ⟨b, 0, rfl, ?_⟩
      simp only [E.den, List.getD, show 3 * t / 3 = t by omega, List.drop_zero]
      show Rw w _ ((((ds ++ caps.map D.agg)[t]?).getD .un).toA) b 0
      rw [List.getElem?_append_right (by omega), List.getElem?_map, List.getElem?_eq_getElem ht]
      exact Rw.keep hkeep _ _ _ hr
     ·rw [if_neg h2]; trivial
   ·rw [hget] at h
    split at h
    ·exact h.elim
    ·split at h
     ·exact h.elim
     ·exact h.elim
   ·show _ = fn.ntmps
    simp only [Array.size_append, Array.size_replicate]; simp; omega
  ·simp at hss
 ·unfold initC at hss
  split at hss
  ·simp only [Option.some.injEq] at hss; subst hss; rfl
  ·simp at hss
def vcOfC (P : Program) (tb : TB) (rb : RB) (f : FuncId) (ct : List (List CT)) : VC :=
 match P.funcs[f]? with
 | none => .fail 90
 | some fn => match fn.body, initC tb fn.params.toList ct with
  | some c, some ss => bif !(fn.name == "runtime.NumGoroutine") && Nat.ble (fn.params.size + ct.length) fn.ntmps then
    sx ⟨⟨tb, fn.ntmps, rb⟩, fn.results.toList, false, []⟩ c ss [] (retVC ⟨⟨tb, fn.ntmps, rb⟩, fn.results.toList, false, []⟩) else .fail 92
  | _, _ => .fail 91
def tyOfC (P : Program) (tb : TB) (f : FuncId) (ct : List (List CT)) : List VT :=
 match P.funcs[f]? with
 | none => []
 | some fn => match initC tb fn.params.toList ct with
  | some ss => ss.Γ
  | none => []
def nBx : Option (List CT) → Nat
 | none => 0
 | some _ => 1
def vcOf (P : Program) (tb : TB) (rb : RB) (f : FuncId) (bx : Option (List CT)) : VC :=
 match P.funcs[f]? with
 | none => .fail 90
 | some fn => match fn.body, initSS tb fn.params.toList bx with
  | some c, some ss => bif !(fn.name == "runtime.NumGoroutine") && Nat.ble fn.params.size fn.ntmps && Nat.beq ss.Γ.length (fn.params.size - nBx bx + (bx.getD []).length) then
    sx ⟨⟨tb, fn.ntmps, rb⟩, fn.results.toList, bx.isSome, rb.get f⟩ c ss [] (retVC ⟨⟨tb, fn.ntmps, rb⟩, fn.results.toList, bx.isSome, rb.get f⟩) else .fail 92
  | _, _ => .fail 91
def tyOf (P : Program) (tb : TB) (f : FuncId) (bx : Option (List CT)) : List VT :=
 match P.funcs[f]? with
 | none => []
 | some fn => match initSS tb fn.params.toList bx with
  | some ss => ss.Γ
  | none => []
def VC.ok : VC → Bool
 | .fail _ => false
 | _ => true
theorem FunR.of {P : Program} {f : FuncId} {tb : TB} {rb : RB} {bx : Option (List CT)} {V : VC} {Γ : List VT} (hV : vcOf P tb rb f bx = V) (hok : V.ok = true) (hΓ : tyOf P tb f bx = Γ) (htb : tbOk P tb tb = true) (hm : P.follows .mixedOrders = true)
  {bc : Option (List D)} {ds : List D} {r : D} {bx' : List D} (hbc : bc.map List.length = bx.map List.length) (hty : HasTys tb.tab Γ (ds ++ bc.getD [])) (hbx' : bx = none → bx' = [])
  (hden : FitsL ds → FitsL (bc.getD []) → V.den P tb.tab (ds ++ bc.getD []) (fun d bs => d = r ∧ bs = bx') []) : FunR P f bc ds r bx' (rb.get f) := by
 have hiso : bc.isSome = bx.isSome := by
  cases bc <;> cases bx <;> first | rfl | (exact absurd hbc (by intro h; cases h))
 unfold vcOf at hV
 unfold tyOf at hΓ
 split at hV
 ·subst hV; exact absurd hok (by intro h; cases h)
 ·rename_i fn hf
  rw [hf] at hΓ
  simp only at hΓ
  split at hV
  ·rename_i c ss hb hss
   rw [hss] at hΓ
   simp only at hΓ
   subst hΓ
   generalize hC : (!(fn.name == "runtime.NumGoroutine") && Nat.ble fn.params.size fn.ntmps && Nat.beq ss.Γ.length (fn.params.size - nBx bx + (bx.getD []).length)) = C at hV
   cases C with
   | false => simp only [cond_false] at hV; subst hV; exact absurd hok (by intro h; cases h)
   | true =>
    simp only [cond_true] at hV
    simp only [Bool.and_eq_true, Bool.not_eq_true'] at hC
    obtain ⟨⟨h1, h2⟩, h3⟩ := hC
    replace h3 := Nat.eq_of_beq_eq_true h3
    refine FunR.of_vc hf hb h1 htb hm hss hV h2 hiso hty ?_ hbx' hden
    have hl := hasTys_length hty
    cases bx with
    | none =>
     cases bc with
     | none => simp [nBx] at hl h3; simp only; omega
     | some _ => simp at hiso
    | some ct =>
     cases bc with
     | none => simp at hiso
     | some cs => simp [nBx] at hl h3 hbc; simp only; omega
  ·subst hV; exact absurd hok (by intro h; cases h)
theorem FunC.of {P : Program} {f : FuncId} {tb : TB} {rb : RB} {ct : List (List CT)} {V : VC} {Γ : List VT} (hV : vcOfC P tb rb f ct = V) (hok : V.ok = true) (hΓ : tyOfC P tb f ct = Γ) (htb : tbOk P tb tb = true) (hm : P.follows .mixedOrders = true)
  {caps : List (List D)} {ds : List D} {r : D} (hcl : caps.length = ct.length) (hty : HasTys tb.tab Γ (ds ++ caps.map .agg))
  (hden : FitsL ds → FitsL (caps.map .agg) → V.den P tb.tab (ds ++ caps.map .agg) (fun d bs => d = r ∧ bs = []) []) : FunC P f ds caps r := by
 unfold vcOfC at hV
 unfold tyOfC at hΓ
 split at hV
 ·subst hV; exact absurd hok (by intro h; cases h)
 ·rename_i fn hf
  rw [hf] at hΓ
  simp only at hΓ
  split at hV
  ·rename_i c ss hb hss
   rw [hss] at hΓ
   simp only at hΓ
   subst hΓ
   generalize hC : (!(fn.name == "runtime.NumGoroutine") && Nat.ble (fn.params.size + ct.length) fn.ntmps) = C at hV
   cases C with
   | false => simp only [cond_false] at hV; subst hV; exact absurd hok (by intro h; cases h)
   | true =>
    simp only [cond_true] at hV
    simp only [Bool.and_eq_true, Bool.not_eq_true'] at hC
    refine FunC.of_vc hf hb hC.1 htb hm hss hV hC.2 hcl ?_ hty hden
    have hl := hasTys_length hty
    unfold initC at hss
    split at hss
    ·rename_i Γ hΓ
     simp only [Option.some.injEq] at hss; subst hss
     have : Γ.length = fn.params.size := by simpa using allVT_length hΓ
     simp at hl
     omega
    ·simp at hss
  ·subst hV; exact absurd hok (by intro h; cases h)
theorem Fun.of {P : Program} {f : FuncId} {tb : TB} {rb : RB} {bx : Option (List CT)} {V : VC} {Γ : List VT} (hV : vcOf P tb rb f bx = V) (hok : V.ok = true) (hΓ : tyOf P tb f bx = Γ) (htb : tbOk P tb tb = true) (hm : P.follows .mixedOrders = true)
  {bc : Option (List D)} {ds : List D} {r : D} {bx' : List D} (hbc : bc.map List.length = bx.map List.length) (hty : HasTys tb.tab Γ (ds ++ bc.getD [])) (hbx' : bx = none → bx' = [])
  (hden : FitsL ds → FitsL (bc.getD []) → V.den P tb.tab (ds ++ bc.getD []) (fun d bs => d = r ∧ bs = bx') []) : Fun P f bc ds r bx' :=
 .ofR (FunR.of hV hok hΓ htb hm hbc hty hbx' hden)
end Go.Proofs.YtimickglpboilaaGreat
/- Which answers have rights: a function, the places of slices in its answer, the cells of an element. Written by fun.py. -/
namespace Go.Proofs.YtimickglpboilaaGreat
open Go
def rbt : RB := [(5, [(0, 5), (1, 6), (2, 1), (3, 1), (4, 7)]), (7, [(0, 5), (1, 6), (2, 1), (3, 1), (4, 7)]), (15, [(0, 1)]), (16, [(0, 5)]), (17, [(3, 2), (5, 2)]), (18, [(1, 1), (4, 4)]), (20, [(0, 1)]), (21, [(0, 5)]), (22, [(3, 2), (5, 2)]), (39, [(0, 3)]), (40, [(0, 1)]), (42, [(0, 1)]), (43, [(0, 1)]), (44, [(1, 1), (4, 4)]), (45, [(3, 2), (5, 2)]), (46, [(3, 2), (5, 2)]), (48, [(0, 1)]), (50, [(0, 4)]), (52, [(0, 1), (1, 1), (2, 1)]), (53, [(0, 1)]), (54, [(0, 1)]), (56, [(1, 1), (4, 4)]), (57, [(3, 2), (5, 2)]), (58, [(3, 2), (5, 2)]), (75, [(0, 1)]), (76, [(3, 2)]), (77, [(3, 2), (5, 2)]), (88, [(0, 1)]), (89, [(3, 2)]), (90, [(3, 2), (5, 2)]), (103, [(3, 2)]), (110, [(3, 2)])]
abbrev tyP : V1 := .agg [.str, .bool, .bool, .sl 125, .int .i64, .sl 52]
abbrev tyR : V1 := .agg [.int .i64, .int .i64, .str, .int .i64, .int .i64]
abbrev tyC : V1 := .agg [.str, .str, .int .i64, .str]
abbrev tyO : V1 := .agg [.str, .bool, .bool, .sl 125, .int .i64]
abbrev tyK : List CT := [.sl 5, .int .i64, .int .i64]
abbrev tyI : VT := .one (.c (.int .i64))
abbrev tyB : VT := .one (.c .bool)
abbrev tyS : VT := .one (.c .str)
end Go.Proofs.YtimickglpboilaaGreat
