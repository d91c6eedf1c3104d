/- A function's contract out of the condition that is left. No program in sight. -/
import Derived.Test.YtbgcaneflfdddaaGreatDoorC7
import Derived.Test.YtbgcaneflfdddaaGreatDoorC6
set_option linter.unusedVariables false
set_option linter.unusedSimpArgs false
set_option linter.unusedSectionVars false
namespace Go.Proofs.YtbgcaneflfdddaaGreatDoor
open Go.RowKit
variable [GC]
theorem paramsSg_get : ∀ (Γ : List VT) (k j l : Nat), (paramsSg k j Γ).get l = if l % 3 = 0 ∧ k ≤ l / 3 ∧ l / 3 < k + Γ.length then .v [] .d (.var (j + (l / 3 - k))) else .un
 | [], k, j, l => by rw [if_neg (fun ⟨_, h1, h2⟩ => by simp only [List.length_nil] at h2; omega)]; rfl
 | v :: r, k, j, l => by
  simp only [paramsSg, Sg.get]
  cases e : Nat.beq (3 * k) l with
  | true =>
   have : 3 * k = l := Nat.eq_of_beq_eq_true e
   subst this
   rw [if_pos ⟨by omega, by omega, by simp only [List.length_cons]; omega⟩]
   simp only [cond_true]
   rw [show 3 * k / 3 - k = 0 by omega]; rfl
  | false =>
   have hne : 3 * k ≠ l := fun h => by rw [h] at e; simp at e
   simp only [cond_false]
   rw [paramsSg_get r (k + 1) (j + 1) l]
   by_cases h : l % 3 = 0 ∧ k + 1 ≤ l / 3 ∧ l / 3 < k + 1 + r.length
   ·rw [if_pos h, if_pos (by simp only [List.length_cons]; omega), show j + 1 + (l / 3 - (k + 1)) = j + (l / 3 - k) by omega]
   ·rw [if_neg h, if_neg (by simp only [List.length_cons]; omega)]
theorem tups_den {env : List D} : ∀ (es : List E) (acc : E) (l : List D), acc.den env = .tup l → (tups es acc).den env = .tup (l ++ es.map (·.den env))
 | [], acc, l, h => by simpa [tups] using h
 | e :: r, acc, l, h => by
  simp only [tups]
  rw [tups_den r (.tp1 acc e) (l ++ [e.den env]) (by simp [E.den, h])]
  simp
section
variable {P : Program} {tb : TB} {c0 : SC} {env : List D} {s : SS} {a : Act} {w : World}
theorem frzS_box {σ : Nat → ST} {l : Nat} {cs : List (K × E)} : frzS σ l = .box cs ↔ σ l = .box cs := by
 unfold frzS
 cases σ l <;> simp
theorem frzS_live {σ : Nat → ST} {l : Nat} {m : LV} (h : frzS σ l = .live m) : ∃ m', σ l = .live m' ∧ m = ⟨m'.n, none⟩ := by
 unfold frzS at h
 cases hσ : σ l with
 | live m' => rw [hσ] at h; simp at h; exact ⟨m', rfl, h.symm⟩
 | _ => rw [hσ] at h; cases h
theorem frzS_MM {c : SC} {σ : Nat → ST} {bm : Nat → Nat} {tm : Nat → Value} {p : Addr} (h : MM c.M0 bm tm (frzS σ) p) : MM c.M0 bm tm σ p := by
 rcases h with h | ⟨id, cs, h1, h2⟩ | ⟨g, m, h1, h2⟩
 ·exact .inl h
 ·exact .inr (.inl ⟨id, cs, frzS_box.1 h1, h2⟩)
 ·obtain ⟨m', h3, rfl⟩ := frzS_live h1
  exact .inr (.inr ⟨g, m', h3, ownA_of (ownA_none h2)⟩)
theorem Sim.freeze {c : SC} {F : Nat → Prop} {σ : Nat → ST} {bm : Nat → Nat} {tm : Nat → Value} {a : Act} {w : World} (hs : Sim c F σ bm tm a w) : Sim c F (frzS σ) bm tm a w := by
 have hk : Keeps w (MM c.M0 bm tm σ) w (MM c.M0 bm tm (frzS σ)) := fun p v hp hn => ⟨hp, fun h => hn (frzS_MM h)⟩
 refine ⟨hs.fr, hs.hB, hs.m0, fun t => ?_, fun id cs h => ?_, fun g m h => ?_, fun id id' cs cs' h h' => hs.dbb id id' cs cs' (frzS_box.1 h) (frzS_box.1 h'), fun id cs g m b h hg hb => ?_, fun g m g' m' b b' hg hg' hne hb hb' => ?_, fun l g h => ?_, fun id cs h => hs.f2 id cs (frzS_box.1 h), fun g m h => ?_, hs.size, hs.defers, hs.x0⟩
 ·have := hs.tmps t
  unfold frzS
  cases hσ : σ (3 * t) <;> rw [hσ] at this <;> exact this.keep hk (fun _ _ => ⟨rfl, rfl⟩)
 ·exact (hs.box id cs (frzS_box.1 h)).keep hk rfl rfl fun _ _ => rfl
 ·obtain ⟨m', h3, rfl⟩ := frzS_live h
  exact ⟨(hs.live g m' h3).sp, (fun e dp he => by cases he), (fun e gv ms he => by cases he)⟩
 ·obtain ⟨m', h3, rfl⟩ := frzS_live hg
  exact hs.dbl id cs g m' b (frzS_box.1 h) h3 (.inl (Blk_none hb))
 ·obtain ⟨m1, h3, rfl⟩ := frzS_live hg
  obtain ⟨m2, h4, rfl⟩ := frzS_live hg'
  exact hs.dll g m1 g' m2 b b' h3 h4 hne (.inl (Blk_none hb)) (.inl (Blk_none hb'))
 ·unfold frzS at h
  cases hσ : σ l with
  | live m => rw [hσ] at h; obtain ⟨_, _, h⟩ := h; cases h
  | _ => rw [hσ] at h; exact hs.f1 l g (by rw [hσ]; exact h)
 ·obtain ⟨m', h3, rfl⟩ := frzS_live h
  exact hs.f3 g m' h3
theorem frz_out {c : SC} {F : Nat → Prop} {σ : Nat → ST} {bm : Nat → Nat} {tm : Nat → Value} {a : Act} {w : World} (hs : Sim c F σ bm tm a w) {g : Nat} {m : LV} (hσ : σ (3 * g + 2) = .live m) {p : Addr} (hb : Blk tm g m p.block) (hsp : ¬ spareIn (tm g) m.n p) : ¬ MM c.M0 bm tm (frzS σ) p := by
 rintro (hm | ⟨id, cs, q1, q2⟩ | ⟨g', m', q1, q2⟩)
 ·have h1 := hs.m0.1 _ hm
  have h2 := ((hs.live g _ hσ).ltB hb).2
  omega
 ·exact hs.dbl id cs g _ _ (frzS_box.1 q1) hσ hb q2.symm
 ·obtain ⟨m2, q3, rfl⟩ := frzS_live q1
  by_cases e : g' = g
  ·subst e
   rw [hσ] at q3; simp only [ST.live.injEq] at q3; subst q3
   exact hsp (ownA_none q2)
  ·obtain ⟨o2, s2, l2, c2, z1, z2⟩ := spare_lt (ownA_none q2)
   exact hs.dll g' m2 g _ _ _ q3 hσ e (.inl ⟨o2, s2, l2, c2, z1, z2⟩) hb rfl
theorem body_rel {c : SC} {F : Nat → Prop} {σ : Nat → ST} {bm : Nat → Nat} {tm : Nat → Value} {a : Act} {w : World} (hs : Sim c F σ bm tm a w) {g : Nat} {b : E} (h : bodyOf σ g = some b) : R w (MM c.M0 bm tm (frzS σ)) (b.den c.env) (tm g) := by
 unfold bodyOf at h
 split at h
 ·rename_i n b' dp hσ
  simp only [Option.some.injEq] at h; subst h
  have hl := hs.live g _ hσ
  obtain ⟨ad, len, cap, rows, h1, h2, h3, h4, h5, h6, h7, h8⟩ := hl.bd b' dp rfl
  rw [h1, h2]
  refine ⟨ad, len, cap, rfl, h3, h4, h5, h6, fun b' o s ha => ⟨(h8 b' o s ha).1, Rws.of (n := n) h7 fun i r hi => Rw.of fun j d hj => ?_⟩⟩
  obtain ⟨u, hu, hq⟩ := (h8 b' o s ha).2 i r hi j d hj
  have hlt := (List.getElem?_eq_some_iff.1 hi).1
  have hrn : r.length = n := h7 r (List.mem_of_getElem? hi)
  have hjn : j < n := by rw [← hrn]; exact (List.getElem?_eq_some_iff.1 hj).1
  have htg : tm g = .slice (some ⟨b', o, s⟩) len cap := by rw [h1, ha]
  refine ⟨u, hu, frz_out hs hσ (.inl ⟨o, s, len, cap, htg, by omega⟩) fun hsp => ?_, ?_⟩
  ·obtain ⟨b2, o2, s2, l2, c2, z1, z2, z3, z4⟩ := hsp
   rw [htg] at z1
   simp only [Value.slice.injEq, Option.some.injEq, Addr.mk.injEq] at z1
   obtain ⟨⟨rfl, rfl, rfl⟩, rfl, rfl⟩ := z1
   have : (i + 1) * n ≤ len * n := Nat.mul_le_mul_right _ (by omega)
   rw [Nat.add_mul, Nat.one_mul] at this
   have z3' : o + len * n ≤ o + i * n + j := z3
   omega
  ·rcases dp with _ | ⟨gv, ms⟩
   ·exact hq _ _
   ·by_cases h0 : ms.getD j 0 = 0
    ·exact hq.1 h0 _ _
    ·obtain ⟨⟨cells, c1, c2⟩, c3, ad', len', cap', rows', r1, r2, r3, r4, r5, r6, r7, r8⟩ := hq.2 h0
     rw [r1, r2]
     have hmem : u ∈ cells.toList := by rw [← Array.getElem?_toList] at c2; exact List.mem_of_getElem? c2
     refine ⟨ad', len', cap', rfl, r3, r4, r5, r6, fun b2 o2 s2 ha2 => ⟨(r8 b2 o2 s2 ha2).1, Rws.of (n := ms.getD j 0) r7 fun i2 rr hi2 => Rw.of fun j2 d2 hj2 => ?_⟩⟩
     obtain ⟨u2, hu2, hl2⟩ := (r8 b2 o2 s2 ha2).2 i2 rr hi2 j2 d2 hj2
     have hlt2 := (List.getElem?_eq_some_iff.1 hi2).1
     have hOu : OutB u b2 := ⟨o2, s2, len', cap', by rw [r1, ha2], by omega⟩
     refine ⟨u2, hu2, frz_out hs hσ (.inr ⟨_, gv, ms, cells, u, rfl, c1, hmem, hOu⟩) fun hsp => ?_, hl2 _ _⟩
     obtain ⟨cells', x1, _, _, x4⟩ := hl.dp _ gv ms rfl
     rw [c1] at x1; cases x1
     obtain ⟨o3, s3, l3, c3', z1, z2⟩ := spare_lt hsp
     exact x4 u hmem b2 hOu ⟨o3, s3, l3, c3', z1, z2⟩
 ·cases h
theorem frz_rel {tab : Nat → List CT} {Γ : List VT} {c : SC} {F : Nat → Prop} {σ : Nat → ST} {bm : Nat → Nat} {tm : Nat → Value} {a : Act} {w : World} (hΓ : EnvTy tab Γ c.env) (hs : Sim c F σ bm tm a w) {k : K} {e : E} {v : Value} (h : relK w (MM c.M0 bm tm σ) tm c.env k e v) : relK w (MM c.M0 bm tm (frzS σ)) tm c.env k (frz tab Γ σ k e) v := by
 have hk : Keeps w (MM c.M0 bm tm σ) w (MM c.M0 bm tm (frzS σ)) := fun p v hp hn => ⟨hp, fun h => hn (frzS_MM h)⟩
 have hkeep : relK w (MM c.M0 bm tm (frzS σ)) tm c.env k e v := h.keep hk fun _ _ => rfl
 unfold frz
 split
 ·rename_i g
  cases hb : bodyOf σ g with
  | none => exact hkeep
  | some b =>
   refine ⟨?_, h.2⟩
   rw [h.2]
   exact body_rel hs hb
 ·rename_i ks
  cases hcnd : (ks.any fun kk => (kkBody σ kk).isSome) && (match e.inf tab Γ with | some (.one (.agg us)) => Nat.beq us.length ks.length | _ => false) with
  | false => exact hkeep
  | true =>
   simp only [Bool.and_eq_true] at hcnd
   obtain ⟨_, hc⟩ := hcnd
   split at hc
   ·rename_i us hinf
    have hlen := Nat.eq_of_beq_eq_true hc
    obtain ⟨l, hl, hlt⟩ := hasV1_agg (E.inf_ok hΓ e _ hinf)
    have hll : l.length = ks.length := by rw [hlt.length, hlen]
    obtain ⟨hr, hkk⟩ := hkeep
    rw [hl] at hr
    obtain ⟨cs, hcs, hrs⟩ := hr
    refine ⟨?_, hkk⟩
    simp only [cond_true]
    rw [den_mk, hcs]
    refine ⟨cs, rfl, ?_⟩
    have : ∀ (o : Nat) (l' : List D) (vs' : List Value), Rs w (MM c.M0 bm tm (frzS σ)) l' vs' → (∀ i d, l'[i]? = some d → l[o + i]? = some d) → (∀ i u, vs'[i]? = some u → cs.toList[o + i]? = some u) →
      Rs w (MM c.M0 bm tm (frzS σ)) (((List.range' o l'.length).map fun j => (kkBody σ (ks.getD j .d)).getD (.cell e j)).map (·.den c.env)) vs' := by
     intro o l'
     induction l' generalizing o with
     | nil => intro vs' h1 _ _; exact h1
     | cons d r ih =>
      rintro vs' ⟨u, q, rfl, h1, h2⟩ hd hv
      simp only [List.length_cons, List.range'_succ, List.map_cons]
      refine ⟨u, q, rfl, ?_, ih (o + 1) q h2 (fun i d' hi => by have := hd (i + 1) d' (by simpa using hi); rwa [show o + (i + 1) = o + 1 + i by omega] at this) (fun i u' hi => by have := hv (i + 1) u' (by simpa using hi); rwa [show o + (i + 1) = o + 1 + i by omega] at this)⟩
      have hd0 : l[o]? = some d := by simpa using hd 0 d rfl
      have hv0 : cs.toList[o]? = some u := by simpa using hv 0 u rfl
      have hok : o < ks.length := by rw [← hll]; exact (List.getElem?_eq_some_iff.1 hd0).1
      cases hb : kkBody σ (ks.getD o .d) with
      | none =>
       simp only [Option.getD_none, E.den, hl, D.toA_agg, List.getD, hd0, Option.getD_some]
       exact h1
      | some b =>
       simp only [Option.getD_some]
       have hko : ks[o]? = some ks[o] := List.getElem?_eq_getElem hok
       have hkd : ks.getD o .d = ks[o] := by simp [List.getD, hko]
       rw [hkd] at hb
       have hkv := hkk o _ u hko (by rw [hcs]; simpa [flatV, flat1] using hv0)
       generalize ks[o] = kk at hb hkv
       cases kk with
       | own g =>
        have hu : u = tm g := hkv
        rw [hu]
        exact body_rel hs hb
       | _ => simp [kkBody] at hb
    have key := this 0 l cs.toList hrs (fun i d h => by simpa using h) (fun i u h => by simpa using h)
    rw [hll, ← List.range_eq_range'] at key
    exact key
   ·cases hc
 ·exact hkeep
theorem frz_cs {tab : Nat → List CT} {Γ : List VT} {c : SC} {F : Nat → Prop} {σ : Nat → ST} {bm : Nat → Nat} {tm : Nat → Value} {a : Act} {w : World} (hΓ : EnvTy tab Γ c.env) (hs : Sim c F σ bm tm a w) : ∀ {cs : List (K × E)} {vs : List Value}, relCs w (MM c.M0 bm tm σ) tm c.env cs vs → relCs w (MM c.M0 bm tm (frzS σ)) tm c.env (cs.map fun x => (x.1, frz tab Γ σ x.1 x.2)) vs
 | [], _, h => h
 | x :: r, vs, ⟨v, q, e, h1, h2⟩ => ⟨v, q, e, frz_rel hΓ hs h1, frz_cs hΓ hs h2⟩
theorem retE_ok (hcx : tbOk P tb tb = true) {bm : Nat → Nat} {tm : Nat → Value} {F : Nat → Prop} (hΓ : EnvTy tb.tab s.Γ env) (hs : Sim { c0 with env := env } F s.σ.get bm tm a w) {r : ResultVar} {x : K × E} (h : retE tb s r = some x) :
  ∃ v, (match r with | .tmp t => (pure (a.tmps.getD t undef) : Sem Value) | .cell x T => do loadVar T (← asAddr (a.tmps.getD x undef))).run P w = .ok v w ∧ relK w (MM c0.M0 bm tm (frzS s.σ.get)) tm env x.1 x.2 v := by
 have hkz : Keeps w (MM c0.M0 bm tm s.σ.get) w (MM c0.M0 bm tm (frzS s.σ.get)) := fun p v hp hn => ⟨hp, fun h => hn (frzS_MM (c := c0) h)⟩
 cases r with
 | tmp t =>
  simp only [retE] at h
  split at h
  ·rename_i k e' hσ
   simp only [Option.some.injEq] at h; subst h
   have := hs.tmps t
   rw [hσ] at this
   exact ⟨_, rfl, frz_rel hΓ hs (this.1 (gsH_nil _))⟩
  ·simp at h
 | cell x T =>
  simp only [retE] at h
  split at h
  ·rename_i id ti hσ hti
   have hp := hs.tmps x
   rw [hσ] at hp
   have hv := hp.1 (gsH_nil _)
   split at h
   ·rename_i cs ts hbox hvt
    cases hl : Nat.beq ts.length cs.length with
    | false => rw [hl] at h; simp at h
    | true =>
     rw [hl] at h
     simp only [cond_true, Option.some.injEq] at h; subst h
     have hll := Nat.eq_of_beq_eq_true hl
     obtain ⟨vs, hvs, hcell, T0, hblk⟩ := box_cells (hs.box id cs hbox)
     obtain ⟨i, fields, z, hi, hsz, _, _, _, hu, _⟩ := ty_agg hcx hti hvt
     have hrun := run_loadVar_s (P := P) (w := w) hu hi (b := bm id) (o := 0) (vs := vs) (by rw [hvs.length, hsz, hll]) (fun j u hj => by rw [Nat.zero_add]; exact hcell j u hj)
     refine ⟨.agg vs.toArray, by simp [hv, asAddr, hrun], ?_⟩
     refine relK.pack ?_ fun j k u hk hu => ?_
     ·rw [den_pack hΓ]
      have := (frz_cs hΓ hs hvs).rs.to_agg
      simpa only [List.map_map, Function.comp_def] using this
     ·simp only [List.getElem?_map, Option.map_eq_some_iff] at hk
      obtain ⟨z, hz, rfl⟩ := hk
      obtain ⟨u', hu', hr'⟩ := hvs.get hz
      rw [hu] at hu'; cases hu'
      exact hr'.kk
   ·rename_i k e' t hbox hvt
    simp only [Option.some.injEq] at h; subst h
    obtain ⟨vs, hvs, hcell, T0, hblk⟩ := box_cells (hs.box id _ hbox)
    obtain ⟨v, q, rfl, hk, _⟩ := hvs
    obtain ⟨i, d, hi, _, _, _, hd, hdc⟩ := ty_c hcx hti hvt
    exact ⟨v, by simp [hv, asAddr, run_loadVar_c hd hdc (hcell 0 v rfl)], hk.keep hkz fun _ _ => rfl⟩
   ·simp at h
  ·simp at h
theorem retEs_ok (hcx : tbOk P tb tb = true) {bm : Nat → Nat} {tm : Nat → Value} {F : Nat → Prop} (hΓ : EnvTy tb.tab s.Γ env) (hs : Sim { c0 with env := env } F s.σ.get bm tm a w) : ∀ {rs : List ResultVar} {es : List (K × E)}, retEs tb s rs = some es →
  ∃ vs, (rs.mapM (m := Sem) fun | .tmp t => pure (a.tmps.getD t undef) | .cell x T => do loadVar T (← asAddr (a.tmps.getD x undef))).run P w = .ok vs w ∧ relCs w (MM c0.M0 bm tm (frzS s.σ.get)) tm env es vs
 | [], es, h => by simp [retEs] at h; subst h; exact ⟨[], by simp, rfl⟩
 | r :: rs, es, h => by
  simp only [retEs] at h
  split at h
  ·rename_i e es' h1 h2
   simp only [Option.some.injEq] at h; subst h
   obtain ⟨v, hv, hr⟩ := retE_ok hcx hΓ hs h1
   obtain ⟨vs, hvs, hrs⟩ := retEs_ok hcx hΓ hs h2
   refine ⟨v :: vs, ?_, v, vs, rfl, hr, hrs⟩
   rw [List.mapM_cons, Sem.run_bind]
   rw [hv]
   simp only [Result.andThen_ok, Sem.run_bind, hvs, Sem.run_pure]
  ·simp at h
theorem inf_flat {tab : Nat → List CT} {Γ : List VT} {M : Addr → Prop} {e : E} {v1 : V1} {u : Value} (hΓ : EnvTy tab Γ env) (he : e.inf tab Γ = some (.one v1)) (hr : R w M (e.den env) u) : (∀ t, v1 = .c t → flat1 u = [u]) ∧ (∀ ts, v1 = .agg ts → ∃ vs : List Value, u = .agg vs.toArray ∧ vs.length = ts.length) ∧ flatV u = flat1 u := by
 have ht := E.inf_ok hΓ e _ he
 cases v1 with
 | c t =>
  have h1 : (e.den env).one := ShapeOk.of (vt := .one (.c t)) ht
  have h2 := D.one_flat h1 hr
  have h3 : flatV u = flat1 u := by
   cases u <;> first | rfl | skip
   rename_i vs
   generalize e.den env = d at h1 hr
   cases d with
   | bool b => have : Value.tuple vs = .bool b := hr; cases this
   | int k n => have : Value.tuple vs = .int k n := hr.1; cases this
   | str s => have : Value.tuple vs = .string s := hr.1; cases this
   | sl rows => obtain ⟨ad, len, cap, h, _⟩ := hr; cases h
   | mem n => obtain ⟨ad, cap, h, _⟩ := hr; cases h
   | fn f caps => obtain ⟨ps, h, _⟩ := hr; cases h
   | _ => exact h1.elim
  exact ⟨fun _ _ => (by rw [← h3]; exact h2), fun ts h => (by cases h), h3⟩
 | agg ts =>
  obtain ⟨l, hl, hlt⟩ := hasV1_agg ht
  rw [hl] at hr
  obtain ⟨vs, rfl, hrs⟩ := hr
  exact ⟨fun t h => (by cases h), fun ts' h => (by cases h; exact ⟨vs.toList, by simp, by rw [hrs.length, hlt.length]⟩), rfl⟩
theorem cellsK_ok {tab : Nat → List CT} {Γ : List VT} {M : Addr → Prop} {tm : Nat → Value} (hΓ : EnvTy tab Γ env) : ∀ {es : List (K × E)} {us : List Value} {l : List KK}, cellsK tab Γ es = some l → relCs w M tm env es us → (∀ (p : Nat) (kk : KK), l[p]? = some kk → ∃ u, (us.flatMap flat1)[p]? = some u ∧ kkOk tm kk u) ∧ ∀ u ∈ us, flatV u = flat1 u
 | [], us, l, h, hr => by
  simp only [cellsK, Option.some.injEq] at h; subst h
  have : us = [] := hr
  subst this
  exact ⟨fun p kk h => by simp at h, fun u h => by simp at h⟩
 | (k, e) :: r, us, l, h, ⟨v, q, e', h1, h2⟩ => by
  subst e'
  have step : ∀ (l0 l1 : List KK), cellsK tab Γ r = some l1 → l = l0 ++ l1 → l0.length = (flat1 v).length → (∀ (p : Nat) (kk : KK), l0[p]? = some kk → ∃ u, (flat1 v)[p]? = some u ∧ kkOk tm kk u) → flatV v = flat1 v →
    (∀ (p : Nat) (kk : KK), l[p]? = some kk → ∃ u, ((v :: q).flatMap flat1)[p]? = some u ∧ kkOk tm kk u) ∧ ∀ u ∈ v :: q, flatV u = flat1 u := by
   intro l0 l1 hl1 hl hlen h0 hfv
   obtain ⟨i1, i2⟩ := cellsK_ok hΓ hl1 h2
   subst hl
   refine ⟨fun p kk hp => ?_, fun u hu => ?_⟩
   ·simp only [List.flatMap_cons]
    rcases Nat.lt_or_ge p l0.length with hlt | hge
    ·rw [List.getElem?_append_left hlt] at hp
     rw [List.getElem?_append_left (by omega)]
     exact h0 p kk hp
    ·rw [List.getElem?_append_right hge] at hp
     rw [List.getElem?_append_right (by omega), ← hlen]
     exact i1 _ kk hp
   ·rcases List.mem_cons.1 hu with rfl | hu
    ·exact hfv
    ·exact i2 u hu
  simp only [cellsK] at h
  split at h
  ·rename_i t l1 he hl1
   simp only [Option.some.injEq] at h
   obtain ⟨q1, _, q3⟩ := inf_flat hΓ he h1.rd
   have q1 := q1 t rfl
   refine step [k.kk] l1 hl1 h.symm (by rw [q1]; rfl) (fun p kk hp => ?_) q3
   rw [q1]
   have : p = 0 := by
    have := (List.getElem?_eq_some_iff.1 hp).1
    simp at this; omega
   subst this
   simp at hp; subst hp
   exact ⟨v, rfl, h1.kk⟩
  ·rename_i ts l1 he hl1
   simp only [Option.some.injEq] at h
   obtain ⟨_, q2, q3⟩ := inf_flat hΓ he h1.rd
   obtain ⟨vs, rfl, hvl⟩ := q2 ts rfl
   refine step _ l1 hl1 h.symm (by simp [flat1, hvl]) (fun p kk hp => ?_) q3
   simp only [List.getElem?_map, Option.map_eq_some_iff] at hp
   obtain ⟨j, hj, rfl⟩ := hp
   obtain ⟨hj1, hj2⟩ := List.getElem?_eq_some_iff.1 hj
   simp at hj1 hj2
   subst hj2
   have hu : (flatV (.agg vs.toArray))[p]? = some (vs[p]'(by omega)) := by simp [flatV, flat1, List.getElem?_eq_getElem (show p < vs.length by omega)]
   exact ⟨_, by simpa [flatV] using hu, h1.nth hu⟩
  ·simp at h
theorem memN_iff {x : Nat} : ∀ {l : List Nat}, memN x l = true ↔ x ∈ l
 | [] => by simp [memN]
 | y :: r => by simp [memN, memN_iff (l := r)]
theorem rtTags_ok {σ : Nat → ST} {l : List KK} : ∀ {rt : List (Nat × Nat)} {q : List Nat}, rtTags σ l rt = some q →
  (∀ x ∈ rt, ∃ kk, l[x.1]? = some kk ∧ (kk = .full ∨ ∃ g, kk = .own g ∧ g ∈ q ∧ σ (3 * g + 2) = .live ⟨x.2, none⟩)) ∧
  (∀ (i j : Nat) (x y : Nat × Nat) (g g' : Nat), i < j → rt[i]? = some x → rt[j]? = some y → l[x.1]? = some (.own g) → l[y.1]? = some (.own g') → g ≠ g')
 | [], q, h => ⟨fun x hx => by simp at hx, fun i j x y g g' _ h => by simp at h⟩
 | (p, m) :: r, q, h => by
  simp only [rtTags] at h
  split at h
  ·rename_i q' hp hq'
   simp only [Option.some.injEq] at h; subst h
   obtain ⟨i1, i2⟩ := rtTags_ok hq'
   refine ⟨fun x hx => ?_, fun i j x y g g' hij hx hy h1 h2 => ?_⟩
   ·rcases List.mem_cons.1 hx with rfl | hx
    ·exact ⟨_, hp, .inl rfl⟩
    ·exact i1 x hx
   ·obtain ⟨j, rfl⟩ : ∃ j', j = j' + 1 := ⟨j - 1, by omega⟩
    simp at hy
    cases i with
    | zero => simp at hx; subst hx; rw [hp] at h1; cases h1
    | succ i => simp at hx; exact i2 i j x y g g' (by omega) hx hy h1 h2
  ·rename_i g0 q' hp hq'
   split at h
   ·rename_i hc
    simp only [Option.some.injEq] at h; subst h
    obtain ⟨i1, i2⟩ := rtTags_ok hq'
    refine ⟨fun x hx => ?_, fun i j x y g g' hij hx hy h1 h2 => ?_⟩
    ·rcases List.mem_cons.1 hx with rfl | hx
     ·exact ⟨_, hp, .inr ⟨g0, rfl, by simp, hc.1⟩⟩
     ·obtain ⟨kk, k1, k2⟩ := i1 x hx
      exact ⟨kk, k1, k2.imp id fun ⟨g, z1, z2, z3⟩ => ⟨g, z1, by simp [z2], z3⟩⟩
    ·obtain ⟨j, rfl⟩ : ∃ j', j = j' + 1 := ⟨j - 1, by omega⟩
     simp at hy
     cases i with
     | zero =>
      simp at hx; subst hx
      rw [hp] at h1; simp at h1; subst h1
      obtain ⟨kk, k1, k2⟩ := i1 y (List.mem_of_getElem? hy)
      rw [h2] at k1; cases k1
      rcases k2 with k2 | ⟨g, z1, z2, _⟩
      ·cases k2
      ·cases z1
       intro e
       rw [e] at hc
       exact absurd (memN_iff.2 z2) (by rw [hc.2]; simp)
     | succ i => simp at hx; exact i2 i j x y g g' (by omega) hx hy h1 h2
   ·simp at h
  ·simp at h
theorem rt_ok {tab : Nat → List CT} {c : SC} {F : Nat → Prop} {σ : Nat → ST} {bm : Nat → Nat} {tm : Nat → Value} (hs : Sim c F σ bm tm a w) (hΓ : EnvTy tab s.Γ c.env) {es : List (K × E)} {us : List Value} {rt : List (Nat × Nat)} (hc : rtChk tab s.Γ σ es rt = true) (hr : relCs w (MM c.M0 bm tm σ) tm c.env es us) {v : Value}
  (hv : (us = [v]) ∨ v = .tuple us.toArray) : RtOk c.B w v rt ∧ ∀ p, RtM v rt p → MM c.M0 bm tm σ p := by
 cases rt with
 | nil => exact ⟨⟨fun x hx => by simp at hx, fun i j x y h => by simp at h⟩, fun p ⟨x, hx, _⟩ => by simp at hx⟩
 | cons x0 rt0 =>
  simp only [rtChk] at hc
  split at hc
  ·rename_i l hl
   obtain ⟨q, hq⟩ := Option.isSome_iff_exists.1 hc
   obtain ⟨h1, h2⟩ := rtTags_ok hq
   obtain ⟨c1, c2⟩ := cellsK_ok hΓ hl hr
   have hfl : flatV v = us.flatMap flat1 := by
    rcases hv with rfl | rfl
    ·rw [c2 v (by simp)]; simp
    ·simp [flatV]
   have hval : ∀ x ∈ x0 :: rt0, (∃ ad, rtV v x = .slice ad 0 0 ∧ l[x.1]? = some .full) ∨ ∃ g, rtV v x = tm g ∧ σ (3 * g + 2) = .live ⟨x.2, none⟩ ∧ l[x.1]? = some (.own g) := fun x hx => by
    obtain ⟨kk, k1, k2⟩ := h1 x hx
    obtain ⟨u, u1, u2⟩ := c1 x.1 kk k1
    have hu : rtV v x = u := by unfold rtV; rw [hfl]; simp [List.getD, u1]
    rcases k2 with rfl | ⟨g, rfl, _, k3⟩
    ·obtain ⟨ad, rfl⟩ := u2
     exact .inl ⟨ad, hu, k1⟩
    ·exact .inr ⟨g, by rw [hu]; exact u2, k3, k1⟩
   refine ⟨⟨fun x hx => ?_, fun i j x y hx hy hne => ?_⟩, fun p ⟨x, hx, hp⟩ => ?_⟩
   ·intro b o s len cap he hlt
    rcases hval x hx with ⟨ad, e, _⟩ | ⟨g, e, hg, _⟩
    ·rw [e] at he; simp only [Value.slice.injEq] at he; omega
    ·rw [e] at he
     exact (hs.live g ⟨x.2, none⟩ hg).sp b o s len cap he hlt
   ·intro b o s len cap b' o' s' len' cap' he hlt he' hlt'
    rcases hval x (List.mem_of_getElem? hx) with ⟨ad, e, _⟩ | ⟨g, e, hg, hlg⟩
    ·rw [e] at he; simp only [Value.slice.injEq] at he; omega
    ·rcases hval y (List.mem_of_getElem? hy) with ⟨ad, e', _⟩ | ⟨g', e', hg', hlg'⟩
     ·rw [e'] at he'; simp only [Value.slice.injEq] at he'; omega
     ·rw [e] at he; rw [e'] at he'
      refine hs.dll g ⟨x.2, none⟩ g' ⟨y.2, none⟩ b b' hg hg' ?_ (.inl ⟨o, s, len, cap, he, hlt⟩) (.inl ⟨o', s', len', cap', he', hlt'⟩)
      rcases Nat.lt_or_gt_of_ne hne with h | h
      ·exact h2 i j x y g g' h hx hy hlg hlg'
      ·exact fun e => h2 j i y x g' g h hy hx hlg' hlg e.symm
   ·rcases hval x hx with ⟨ad, e, _⟩ | ⟨g, e, hg, _⟩
    ·rw [e] at hp
     obtain ⟨o, s, len, cap, z1, z2⟩ := spare_lt hp
     simp only [Value.slice.injEq] at z1; omega
    ·rw [e] at hp
     exact .inr (.inr ⟨g, ⟨x.2, none⟩, hg, ownA_of hp⟩)
  ·simp at hc
end
theorem FunR.of_vc {P : Program} {rb : RB} {rt : List (Nat × Nat)} {f : FuncId} {fn : Func} {cd : Code} {tb : TB} {bx : Option (List CT)} {ss : SS} {V : VC} (hf : P.funcs[f]? = some fn) (hb : fn.body = some cd) (hn : (fn.name == "runtime.NumGoroutine") = false) (htb : tbOk P tb tb = true) (hm : P.follows .mixedOrders = true)
  (hss : initSS tb fn.params.toList bx = some ss) (hV : sx ⟨⟨tb, fn.ntmps, rb⟩, fn.results.toList, bx.isSome, rt⟩ cd ss [] (retVC ⟨⟨tb, fn.ntmps, rb⟩, fn.results.toList, bx.isSome, rt⟩) = V) (hsz : Nat.ble fn.params.size fn.ntmps = true)
  {bc : Option (List D)} {ds : List D} {r : D} {bx' : List D} (hbc : bc.isSome = bx.isSome) (hty : HasTys tb.tab ss.Γ (ds ++ bc.getD [])) (hdl : ds.length = match bx with | none => fn.params.size | some _ => fn.params.size - 1) (hbx' : bx = none → bx' = [])
  (hden : FitsL ds → FitsL (bc.getD []) → V.den P tb.tab (ds ++ bc.getD []) (fun d bs => d = r ∧ bs = bx') []) : FunR P f bc ds r bx' rt := by
 subst hV
 refine ⟨by simp [callable, hf, hn, hb], fun w M g vs hM hrs hbox => ?_⟩
 have hsz' := Nat.le_of_ble_eq_true hsz
 refine calls_of_wp hf hb ?_
 generalize hargs : (match bc with | none => vs | some _ => Value.pointer (some ⟨g, 0, none⟩) :: vs) = args
 let c0 : SC := { w0 := w, B := w.heap.size, X := bc.map fun _ => g, M0 := M, nt := fn.ntmps, env := ds ++ bc.getD [] }
 have hbody : ∀ e a' w', Post P ⟨⟨tb, fn.ntmps, rb⟩, fn.results.toList, bx.isSome, rt⟩ c0 (fun d bs => d = r ∧ bs = bx') (ds ++ bc.getD []) [] [] (retVC ⟨⟨tb, fn.ntmps, rb⟩, fn.results.toList, bx.isSome, rt⟩) e a' w' →
   bodyPost P fn (fun e w' => ∃ v, e = .returned v ∧ R w' (fun p => M p ∨ RtM v rt p) r v ∧ Fr w.heap.size (bc.map fun _ => g) w w' ∧ RtOk w.heap.size w' v rt ∧ (bc.isSome = true → ∃ us T, w'.heap[g]? = some (.cells us.toArray T (0, 0)) ∧ Rs w' (fun p => M p ∨ RtM v rt p) bx' us)) e a' w' := by
  have hret : ∀ (env : List D) (s : SS) (L : List (List D → Prop)) (a' : Act) (w' : World), Good c0 tb.tab env s a' w' → (retVC ⟨⟨tb, fn.ntmps, rb⟩, fn.results.toList, bx.isSome, rt⟩ s).den P tb.tab env (fun d bs => d = r ∧ bs = bx') L →
    a'.defers = [] ∧ ∃ v, (results fn a'.tmps).run P w' = .ok v w' ∧ ∃ v', Ending.returned v = .returned v' ∧ R w' (fun p => M p ∨ RtM v' rt p) r v' ∧ Fr w.heap.size (bc.map fun _ => g) w w' ∧ RtOk w.heap.size w' v' rt ∧ (bc.isSome = true → ∃ us T, w'.heap[g]? = some (.cells us.toArray T (0, 0)) ∧ Rs w' (fun p => M p ∨ RtM v' rt p) bx' us) := by
   intro env s L a' w' hG h
   obtain ⟨hE, hl, bm, tm, hS⟩ := hG
   refine ⟨hS.defers, ?_⟩
   simp only [retVC] at h
   split at h
   ·rename_i es hes
    have hSf := hS.freeze
    cases hck : rtChk tb.tab s.Γ (frzS s.σ.get) es rt with
    | false => rw [hck] at h; exact h.elim
    | true =>
    rw [hck] at h
    simp only [cond_true] at h
    obtain ⟨us, hus, hrk⟩ := retEs_ok htb hE hS hes
    have hrs' := hrk.rs
    have hrun : ∃ v, (results fn a'.tmps).run P w' = .ok v w' ∧ R w' (MM c0.M0 bm tm (frzS s.σ.get)) ((oneE (es.map (·.2))).den env) v ∧ ((us = [v]) ∨ v = .tuple us.toArray) := by
     have hmm : (results fn a'.tmps).run P w' = .ok (if h : us.toArray.size = 1 then us.toArray[0] else .tuple us.toArray) w' := by
      simp only [results, Sem.run_bind]
      rw [Array.mapM_eq_mapM_toList, Sem.run_map]
      erw [hus]
      rfl
     refine ⟨_, hmm, ?_⟩
     have hlen := hrs'.length
     simp only [List.length_map] at hlen
     generalize hes2 : es.map (·.2) = es2 at hrs' ⊢
     have hel : es2.length = es.length := by rw [← hes2]; simp
     unfold oneE
     split
     ·rename_i e
      obtain ⟨v, q, rfl, h1, h2⟩ := hrs'
      have : q = [] := h2
      subst this
      exact ⟨by simpa using h1, .inl (by simp)⟩
     ·rename_i es' hne
      have h1 : ¬ us.toArray.size = 1 := by
       intro h1
       have : es2.length = 1 := by rw [hel]; simpa [hlen] using h1
       match es2, this with
       | [e], _ => exact hne e rfl
      rw [dif_neg h1, tups_den es2 .tp0 [] rfl, List.nil_append]
      exact ⟨⟨us.toArray, rfl, by simpa using hrs'⟩, .inr rfl⟩
    obtain ⟨v, hv, hR, hvu⟩ := hrun
    obtain ⟨hrt1, hrt2⟩ := rt_ok (c := { c0 with env := env }) hSf hE hck hrk hvu
    have hkM : Keeps w' (MM c0.M0 bm tm (frzS s.σ.get)) w' (fun p => M p ∨ RtM v rt p) := fun p u hp hn => ⟨hp, fun h => h.elim (fun h => hn (.inl h)) (fun h => hn (hrt2 p h))⟩
    refine ⟨v, hv, v, rfl, ?_⟩
    generalize oneE (es.map (·.2)) = e at h hR
    cases hbx : bx.isSome with
    | false =>
     rw [hbx] at h hbc
     simp only [cond_false, VC.den, List.map_nil] at h
     refine ⟨by rw [← h.1]; exact R.keep hkM _ _ hR, hS.fr, hrt1, fun h => by rw [hbc] at h; cases h⟩
    | true =>
     rw [hbx] at h hbc
     simp only [cond_true] at h
     split at h
     ·rename_i cs hcs
      simp only [VC.den] at h
      obtain ⟨us', T, q1, q2, q3⟩ := hSf.box 0 cs (frzS_box.2 hcs)
      have hx : c0.X = some g := by
       show bc.map _ = _
       cases bc with
       | none => simp at hbc
       | some _ => rfl
      have hg := (hS.x0 g hx).1
      refine ⟨by rw [← h.1]; exact R.keep hkM _ _ hR, hS.fr, hrt1, fun _ => ⟨us', T, by rw [← hg]; exact q1, ?_⟩⟩
      rw [← h.2]
      exact Rs.keep hkM _ _ q2.rs
     ·exact h.elim
   ·exact h.elim
  intro e a' w' hp
  cases e with
  | normal =>
   obtain ⟨more, pre, s, h1, h2, h3⟩ := hp
   exact hret _ s _ a' w' h1 h3
  | exit id => obtain ⟨k', h1, _⟩ := hp; simp [lookupE] at h1
  | ret =>
   obtain ⟨env, s, L, h1, h2⟩ := hp
   exact hret env s L a' w' h1 h2
  | goto l => exact hp.elim
  | panic ch => exact hp.elim
  | outgrown => exact hp.elim
 have hlenΓ := hasTys_length hty
 have hfits : FitsL ds ∧ FitsL (bc.getD []) := by
  refine ⟨Rs.fits _ _ hrs, ?_⟩
  cases bc with
  | none => trivial
  | some cs => obtain ⟨us, T, _, h2, _⟩ := hbox cs rfl; exact Rs.fits _ _ h2
 refine wp_mono (sx_sound (fx := ⟨⟨tb, fn.ntmps, rb⟩, fn.results.toList, bx.isSome, rt⟩) (c0 := c0) htb rfl hm (fun d bs => d = r ∧ bs = bx') cd ss [] _ (ds ++ bc.getD []) [] _ w ?_ ?_ (hden hfits.1 hfits.2)) hbody
 ·have hEnv : EnvTy tb.tab ss.Γ (ds ++ bc.getD []) := by
   have := EnvTy.append (tab := tb.tab) (Γ := []) (env := []) (fun i t h => by simp at h) rfl hty
   simpa using this
  have hvl := hrs.length
  have htm : ∀ t, ({ tmps := args.toArray ++ Array.replicate (fn.ntmps - args.toArray.size) undef, defers := [] } : Act).tmps.getD t undef = args.getD t undef := fun t => by
   simp only [Array.getD_eq_getD_getElem?, List.getD]
   by_cases h : t < args.length
   ·rw [Array.getElem?_append_left (by simpa using h)]; simp
   ·rw [Array.getElem?_append_right (by simp; omega), List.getElem?_eq_none (by omega)]
    simp only [Array.getElem?_replicate]
    split <;> rfl
  refine ⟨hEnv, hlenΓ, ?_⟩
  unfold initSS at hss
  split at hss
  · -- no box
   rename_i ps
   split at hss
   ·rename_i Γ hΓ
    simp only [Option.some.injEq] at hss; subst hss
    have hbn : bc = none := by cases bc with | none => rfl | some _ => simp at hbc
    subst hbn
    simp only at hargs; subst hargs
    simp only [Option.getD_none, List.append_nil] at hlenΓ hEnv ⊢
    have hsz0 : vs.length ≤ fn.ntmps := by
     have : Γ.length = fn.params.size := by
      have hk : ∀ (l : List Nat) (Γ : List VT), allVT tb l = some Γ → Γ.length = l.length := by
       intro l
       induction l with
       | nil => intro Γ h; simp [allVT] at h; subst h; rfl
       | cons T l ih =>
        intro Γ h
        simp only [allVT] at h
        split at h
        ·rename_i i l' _ h2
         simp only [Option.some.injEq] at h; subst h
         simp [ih _ h2]
        ·simp at h
      simpa using hk _ _ hΓ
     omega
    have hσb : ∀ id cs, (paramsSg 0 0 Γ).get (3 * id + 1) ≠ .box cs := fun id cs h => by rw [paramsSg_get] at h; split at h <;> cases h
    have hσl : ∀ g n, (paramsSg 0 0 Γ).get (3 * g + 2) ≠ .live n := fun g n h => by rw [paramsSg_get] at h; split at h <;> cases h
    refine ⟨fun x => x, fun _ => undef, Fr.refl _ _ _, Nat.le_refl _, ⟨hM.1, hM.2.1, hM.2.2, fun g' hg' => by cases hg'⟩, fun t => ?_, fun id cs h => absurd h (hσb id cs), fun g n h => absurd h (hσl g n), fun id id' cs cs' h => absurd h (hσb id cs), fun id cs g n b h => absurd h (hσb id cs), fun g n g' n' b b' h => absurd h (hσl g n), fun l g h => ?_, fun id cs h => absurd h (hσb id cs), fun g n h => absurd h (hσl g n), ?_, rfl, fun g hg => by simp [c0] at hg⟩
    ·rw [htm, paramsSg_get]
     split
     ·rename_i hc
      refine ⟨fun _ => ?_, fun h => absurd (gsH_nil _) h⟩
      have ht : t < ds.length := by omega
      obtain ⟨v, hv, hr⟩ := hrs.get (List.getElem?_eq_getElem ht)
      simp only [relK, E.den, List.getD, show 0 + (3 * t / 3 - 0) = t by omega, List.getElem?_eq_getElem ht, hv, Option.getD_some]
      refine R.keep (fun p u hp hn => ⟨hp, ?_⟩) _ _ hr
      rintro (h | ⟨id, cs, h1, _⟩ | ⟨g, n, h1, _⟩)
      ·exact hn h
      ·exact hσb id cs h1
      ·exact hσl g n h1
     ·trivial
    ·rw [paramsSg_get] at h
     split at h
     ·exact h.elim
     ·exact h.elim
    ·show _ = fn.ntmps
     simp only [Array.size_append, Array.size_replicate]; simp; omega
   ·simp at hss
  · -- a box behind the first argument
   rename_i cts p0 ps hps hxx
   split at hss
   ·rename_i Γ hΓ
    simp only [Option.some.injEq] at hss; subst hss
    obtain ⟨bcs, rfl⟩ : ∃ x, bc = some x := by cases bc with | none => simp at hbc | some x => exact ⟨x, rfl⟩
    simp only at hargs; subst hargs
    simp only [Option.getD_some] at hlenΓ hEnv hty ⊢
    obtain ⟨us, T, hblk, hur, hng, hgM⟩ := hbox bcs rfl
    have hk : ∀ (l : List Nat) (Γ : List VT), allVT tb l = some Γ → Γ.length = l.length := by
     intro l
     induction l with
     | nil => intro Γ h; simp [allVT] at h; subst h; rfl
     | cons T l ih =>
      intro Γ h
      simp only [allVT] at h
      split at h
      ·rename_i i l' _ h2
       simp only [Option.some.injEq] at h; subst h
       simp [ih _ h2]
      ·simp at h
    have hpl : fn.params.size = ps.length + 1 := by rw [← Array.length_toList, hps]; rfl
    have hΓl := hk _ _ hΓ
    have hdl' : ds.length = Γ.length := by
     have : ds.length = fn.params.size - 1 := hdl
     omega
    have hbl : bcs.length = cts.length := by simp only [List.length_append, List.length_map] at hlenΓ; omega
    have hget : ∀ l, Sg.get ((0, .ptr [] 0 0) :: (1, .box (vars Γ.length cts)) :: paramsSg 1 0 Γ) l = if l = 0 then .ptr [] 0 0 else if l = 1 then .box (vars Γ.length cts) else (paramsSg 1 0 Γ).get l := fun l => by
     rw [Sg.get_cons, Sg.get_cons]; simp only [upd]
    have hσb : ∀ id cs, Sg.get ((0, .ptr [] 0 0) :: (1, .box (vars Γ.length cts)) :: paramsSg 1 0 Γ) (3 * id + 1) = .box cs → id = 0 ∧ cs = vars Γ.length cts := fun id cs h => by
     rw [hget, if_neg (by omega)] at h
     by_cases e : 3 * id + 1 = 1
     ·rw [if_pos e] at h; simp only [ST.box.injEq] at h; exact ⟨by omega, h.symm⟩
     ·rw [if_neg e, paramsSg_get] at h; split at h <;> cases h
    have hσl : ∀ g n, Sg.get ((0, .ptr [] 0 0) :: (1, .box (vars Γ.length cts)) :: paramsSg 1 0 Γ) (3 * g + 2) ≠ .live n := fun g n h => by
     rw [hget, if_neg (by omega), if_neg (by omega), paramsSg_get] at h; split at h <;> cases h
    have hMM : ∀ p, MM M (fun _ => g) (fun _ => undef) (Sg.get ((0, .ptr [] 0 0) :: (1, .box (vars Γ.length cts)) :: paramsSg 1 0 Γ)) p → M p := by
     rintro p (h | ⟨id, cs, h1, h2⟩ | ⟨g', n, h1, _⟩)
     ·exact h
     ·exact hgM p h2
     ·exact absurd h1 (hσl g' n)
    have hkeep : Keeps w M w (MM M (fun _ => g) (fun _ => undef) (Sg.get ((0, .ptr [] 0 0) :: (1, .box (vars Γ.length cts)) :: paramsSg 1 0 Γ))) := fun p u hp hn => ⟨hp, fun h => hn (hMM p h)⟩
    refine ⟨fun _ => g, fun _ => undef, Fr.refl _ _ _, Nat.le_refl _, ⟨hM.1, hM.2.1, hM.2.2, fun g' hg' => by cases hg'; exact hng⟩, fun t => ?_, fun id cs h => ?_, fun g n h => absurd h (hσl g n), fun id id' cs cs' h h' hne => ?_, fun id cs g n b _ h => absurd h (hσl g n), fun g n g' n' b b' h => absurd h (hσl g n), fun l x h => ?_, fun id cs h => ?_, fun g n h => absurd h (hσl g n), ?_, rfl, fun g' hg => ⟨?_, by simp [below]⟩⟩
    ·rw [htm, hget]
     by_cases h0 : 3 * t = 0
     ·rw [if_pos h0]
      have : t = 0 := by omega
      subst this
      exact ⟨fun _ => rfl, fun h => absurd (gsH_nil _) h⟩
     ·rw [if_neg h0, if_neg (by omega), paramsSg_get]
      split
      ·rename_i hc
       refine ⟨fun _ => ?_, fun h => absurd (gsH_nil _) h⟩
       have ht : t - 1 < ds.length := by omega
       obtain ⟨v, hv, hr⟩ := hrs.get (List.getElem?_eq_getElem ht)
       have e1 : 0 + (3 * t / 3 - 1) = t - 1 := by omega
       have e2 : (Value.pointer (some ⟨g, 0, none⟩) :: vs).getD t undef = v := by
        obtain ⟨t', rfl⟩ : ∃ t', t = t' + 1 := ⟨t - 1, by omega⟩
        simp only [List.getD, List.getElem?_cons_succ]
        rw [show t' + 1 - 1 = t' by omega] at hv
        rw [hv]; rfl
       rw [e2]
       simp only [relK, E.den, e1, List.getD, List.getElem?_append_left ht, List.getElem?_eq_getElem ht, Option.getD_some]
       exact R.keep hkeep _ _ hr
      ·trivial
    ·obtain ⟨rfl, rfl⟩ := hσb id cs h
     refine ⟨us, T, hblk, ?_, .inr ⟨rfl, rfl⟩⟩
     refine relCs_vars (c := { c0 with env := ds ++ bcs }) cts Γ.length us ?_
     have : ((List.range cts.length).map fun j => (ds ++ bcs).getD (Γ.length + j) .un) = bcs := by
      refine List.ext_getElem? fun i => ?_
      simp only [List.getElem?_map]
      by_cases hi : i < cts.length
      ·rw [List.getElem?_range hi]
       simp only [Option.map_some, List.getD]
       rw [List.getElem?_append_right (by omega), show Γ.length + i - ds.length = i by omega]
       simp [List.getElem?_eq_getElem (show i < bcs.length by omega)]
      ·rw [List.getElem?_eq_none (by simp; omega), List.getElem?_eq_none (by omega)]; rfl
     show Rs w _ ((List.range cts.length).map fun j => (ds ++ bcs).getD (Γ.length + j) .un) us
     rw [this]
     exact Rs.keep hkeep _ _ hur
    ·obtain ⟨rfl, _⟩ := hσb id cs h
     obtain ⟨rfl, _⟩ := hσb id' cs' h'
     exact absurd rfl hne
    ·rw [hget] at h
     split at h
     ·simp only [men] at h; subst h; simp [below]
     ·split at h
      ·exact absurd h (vars_d _ _ _)
      ·rw [paramsSg_get] at h; split at h <;> exact h.elim
    ·obtain ⟨rfl, _⟩ := hσb id cs h; simp [below]
    ·show _ = fn.ntmps
     simp only [Array.size_append, Array.size_replicate]; simp; omega
    ·have : (some bcs).map (fun _ => g) = some g' := hg
     simpa using this
   ·simp at hss
  ·simp at hss
 ·unfold initSS at hss
  split at hss
  ·split at hss
   ·simp only [Option.some.injEq] at hss; subst hss; rfl
   ·simp at hss
  ·split at hss
   ·simp only [Option.some.injEq] at hss; subst hss; rfl
   ·simp at hss
  ·simp at hss
open Classical in
def nBx : Option (List CT) → Nat
 | none => 0
 | some _ => 1
def vcOf (P : Program) (tb : TB) (rb : RB) (f : FuncId) (bx : Option (List CT)) : VC :=
 match P.funcs[f]? with
 | none => .fail 90
 | some fn => match fn.body, initSS tb fn.params.toList bx with
  | some c, some ss => bif !(fn.name == "runtime.NumGoroutine") && Nat.ble fn.params.size fn.ntmps && Nat.beq ss.Γ.length (fn.params.size - nBx bx + (bx.getD []).length) then
    sx ⟨⟨tb, fn.ntmps, rb⟩, fn.results.toList, bx.isSome, rb.get f⟩ c ss [] (retVC ⟨⟨tb, fn.ntmps, rb⟩, fn.results.toList, bx.isSome, rb.get f⟩) else .fail 92
  | _, _ => .fail 91
def tyOf (P : Program) (tb : TB) (f : FuncId) (bx : Option (List CT)) : List VT :=
 match P.funcs[f]? with
 | none => []
 | some fn => match initSS tb fn.params.toList bx with
  | some ss => ss.Γ
  | none => []
def VC.ok : VC → Bool
 | .fail _ => false
 | _ => true
theorem FunR.of {P : Program} {f : FuncId} {tb : TB} {rb : RB} {bx : Option (List CT)} {V : VC} {Γ : List VT} (hV : vcOf P tb rb f bx = V) (hok : V.ok = true) (hΓ : tyOf P tb f bx = Γ) (htb : tbOk P tb tb = true) (hm : P.follows .mixedOrders = true)
  {bc : Option (List D)} {ds : List D} {r : D} {bx' : List D} (hbc : bc.map List.length = bx.map List.length) (hty : HasTys tb.tab Γ (ds ++ bc.getD [])) (hbx' : bx = none → bx' = [])
  (hden : FitsL ds → FitsL (bc.getD []) → V.den P tb.tab (ds ++ bc.getD []) (fun d bs => d = r ∧ bs = bx') []) : FunR P f bc ds r bx' (rb.get f) := by
 have hiso : bc.isSome = bx.isSome := by
  cases bc <;> cases bx <;> first | rfl | (exact absurd hbc (by intro h; cases h))
 unfold vcOf at hV
 unfold tyOf at hΓ
 split at hV
 ·subst hV; exact absurd hok (by intro h; cases h)
 ·rename_i fn hf
  rw [hf] at hΓ
  simp only at hΓ
  split at hV
  ·rename_i c ss hb hss
   rw [hss] at hΓ
   simp only at hΓ
   subst hΓ
   generalize hC : (!(fn.name == "runtime.NumGoroutine") && Nat.ble fn.params.size fn.ntmps && Nat.beq ss.Γ.length (fn.params.size - nBx bx + (bx.getD []).length)) = C at hV
   cases C with
   | false => simp only [cond_false] at hV; subst hV; exact absurd hok (by intro h; cases h)
   | true =>
    simp only [cond_true] at hV
    simp only [Bool.and_eq_true, Bool.not_eq_true'] at hC
    obtain ⟨⟨h1, h2⟩, h3⟩ := hC
    replace h3 := Nat.eq_of_beq_eq_true h3
    refine FunR.of_vc hf hb h1 htb hm hss hV h2 hiso hty ?_ hbx' hden
    have hl := hasTys_length hty
    cases bx with
    | none =>
     cases bc with
     | none => simp [nBx] at hl h3; simp only; omega
     | some _ => simp at hiso
    | some ct =>
     cases bc with
     | none => simp at hiso
     | some cs => simp [nBx] at hl h3 hbc; simp only; omega
  ·subst hV; exact absurd hok (by intro h; cases h)
theorem Fun.of {P : Program} {f : FuncId} {tb : TB} {rb : RB} {bx : Option (List CT)} {V : VC} {Γ : List VT} (hV : vcOf P tb rb f bx = V) (hok : V.ok = true) (hΓ : tyOf P tb f bx = Γ) (htb : tbOk P tb tb = true) (hm : P.follows .mixedOrders = true)
  {bc : Option (List D)} {ds : List D} {r : D} {bx' : List D} (hbc : bc.map List.length = bx.map List.length) (hty : HasTys tb.tab Γ (ds ++ bc.getD [])) (hbx' : bx = none → bx' = [])
  (hden : FitsL ds → FitsL (bc.getD []) → V.den P tb.tab (ds ++ bc.getD []) (fun d bs => d = r ∧ bs = bx') []) : Fun P f bc ds r bx' :=
 .ofR (FunR.of hV hok hΓ htb hm hbc hty hbx' hden)
end Go.Proofs.YtbgcaneflfdddaaGreatDoor
/- Which answers have rights: a function, the places of slices in its answer, the cells of an element. Written by fun.py. -/
namespace Go.Proofs.YtbgcaneflfdddaaGreatDoor
open Go
def rbt : RB := [(15, [(6, 4)]), (16, [(3, 2), (5, 2)]), (17, [(3, 2), (5, 2)]), (18, [(3, 2), (5, 2)]), (26, [(3, 2)]), (27, [(6, 4)]), (29, [(3, 2), (5, 2), (6, 5)]), (31, [(0, 1)]), (35, [(3, 2), (5, 2)]), (36, [(3, 2), (5, 2)]), (43, [(3, 2), (5, 2), (6, 5)]), (44, [(0, 4)]), (55, [(3, 2), (5, 2)]), (58, [(3, 2), (5, 2)]), (77, [(3, 2)]), (78, [(0, 2)]), (87, [(3, 2)]), (94, [(3, 2)]), (98, [(3, 2)]), (101, [(3, 2)]), (115, [(0, 2)]), (122, [(0, 2)]), (131, [(0, 2)]), (135, [(0, 1)]), (142, [(0, 2)]), (146, [(0, 1)]), (150, [(0, 2)]), (159, [(0, 1)]), (165, [(0, 1)])]
abbrev tyP : V1 := .agg [.str, .bool, .bool, .sl 125, .int .i64, .sl 52]
abbrev tyR : V1 := .agg [.int .i64, .int .i64, .str, .int .i64, .int .i64]
abbrev tyC : V1 := .agg [.str, .str, .int .i64, .str]
abbrev tyO : V1 := .agg [.str, .bool, .bool, .sl 125, .int .i64]
abbrev tyK : List CT := [.sl 5, .int .i64, .int .i64]
abbrev tyI : VT := .one (.c (.int .i64))
abbrev tyB : VT := .one (.c .bool)
abbrev tyS : VT := .one (.c .str)
end Go.Proofs.YtbgcaneflfdddaaGreatDoor
/- Conditions of functions of this seat's program. Written by fun.py. -/
namespace Go.Proofs.YtbgcaneflfdddaaGreatDoor
open Go
set_option maxRecDepth 1000000
def vc_laws_FnPartWants : VC := (.rq (.call [] 14 none [(.var 0)] tyB []) (.ite (.var 1) (.ret (.lb true) []) (.rq (.call [] 19 none [(.var 0)] (.tup [tyP, tyC]) []) (.rq (.callR 17 none [(.proj (.var 2) 0), (.proj (.var 2) 1)] (.tup [tyP, tyR]) [] [(3, 2), (5, 2)]) (.rq (.call [] 20 none [(.proj (.var 2) 0)] tyB []) (.rq (.call [((.no (.var 4)), false)] 21 none [(.proj (.var 2) 1)] tyB []) (.ite (.or (.no (.var 4)) (.no (.var 5))) (.rq (.call [((.ic .eql (.cell (.proj (.var 3) 1) 0) (.li .i64 7)), true)] 22 none [(.proj (.var 2) 0), (.proj (.var 3) 0)] tyB []) (.ret (.an (.ic .eql (.cell (.proj (.var 3) 1) 0) (.li .i64 7)) (.var 6)) [])) (.rq (.call [] 23 none [(.cell (.proj (.var 2) 1) 0)] tyI []) (.rq (.call [] 25 none [(.proj (.var 2) 0)] tyI []) (.rq (.call [] 24 none [(.var 7), (.var 6)] tyB []) (.ite (.or (.bc (.ic .eql (.cell (.proj (.var 3) 1) 0) (.li .i64 1)) (.var 8)) (.ic .eql (.cell (.proj (.var 3) 1) 0) (.li .i64 7))) (.ret (.lb false) []) (.rq (.call [((.ic .neq (.cell (.proj (.var 3) 1) 0) (.li .i64 1)), false)] 22 none [(.proj (.var 2) 0), (.proj (.var 3) 0)] tyB []) (.rq (.call [((.ic .neq (.cell (.proj (.var 3) 1) 0) (.li .i64 1)), false), ((.an (.var 9) (.ic .eql (.cell (.proj (.var 3) 1) 3) (.var 6))), true)] 25 none [(.proj (.var 2) 0)] tyI []) (.ret (.or (.ic .neq (.cell (.proj (.var 3) 1) 0) (.li .i64 1)) (.an (.an (.var 9) (.ic .eql (.cell (.proj (.var 3) 1) 3) (.var 6))) (.ic .eql (.cell (.proj (.var 3) 1) 4) (.var 10)))) []))))))))))))))
theorem vc_laws_FnPartWants_ok : vcOf Tryz.prog tbl rbt 6 none = vc_laws_FnPartWants := by kernel_rfl
def ty_laws_FnPartWants : List VT := [(.one (.c (.sl 5)))]
theorem ty_laws_FnPartWants_ok : tyOf Tryz.prog tbl 6 none = ty_laws_FnPartWants := by kernel_rfl
def vc_laws_FnPartKeeps : VC := (.rq (.call [] 14 none [(.var 0)] tyB []) (.ite (.var 1) (.ret (.lb true) []) (.rq (.callR 27 none [(.var 0)] (.tup [tyP, (.c (.sl 39))]) [] [(6, 4)]) (.rq (.call [] 20 none [(.proj (.var 2) 0)] tyB []) (.rq (.call [] 28 none [(.proj (.var 2) 0)] tyB []) (.ite (.no (.bc (.var 3) (.var 4))) (.ret (.lb false) []) (.rq (.call [] 20 none [(.proj (.var 2) 0)] tyB []) (.ite (.no (.var 5)) (.ret (.lb true) []) (.rq (.callR 29 none [(.proj (.var 2) 0), (.proj (.var 2) 1)] (.tup [tyP, (.c (.sl 34))]) [] [(3, 2), (5, 2), (6, 5)]) (.rq (.call [] 20 none [(.proj (.var 6) 0)] tyB []) (.rq (.call [((.var 7), true)] 31 none [(.proj (.var 2) 0)] (.one (.c (.sl 9))) []) (.rq (.call [((.var 7), true)] 31 none [(.proj (.var 6) 0)] (.one (.c (.sl 9))) []) (.rq (.call [((.var 7), true)] 30 none [(.var 8), (.var 9)] tyB []) (.rq (.call [((.an (.var 7) (.var 10)), true)] 25 none [(.proj (.var 2) 0)] tyI []) (.rq (.call [((.an (.var 7) (.var 10)), true)] 25 none [(.proj (.var 6) 0)] tyI []) (.ret (.an (.an (.var 7) (.var 10)) (.ic .eql (.var 11) (.var 12))) []))))))))))))))))
theorem vc_laws_FnPartKeeps_ok : vcOf Tryz.prog tbl rbt 10 none = vc_laws_FnPartKeeps := by kernel_rfl
def ty_laws_FnPartKeeps : List VT := [(.one (.c (.sl 5)))]
theorem ty_laws_FnPartKeeps_ok : tyOf Tryz.prog tbl 10 none = ty_laws_FnPartKeeps := by kernel_rfl
def vc_spec_DrawPart : VC := (.rq (.new 50 [(.var 0)] tyK) (.rq (.call [] 51 (some [(.var 1), (.var 2), (.var 3)]) [] (.one tyP) tyK) (.rq (.call [] 52 (some [(.var 5), (.var 6), (.var 7)]) [(.li .i64 7)] tyI tyK) (.loop [(.one (.c (.sl 39))), tyI, (.one (.c (.sl 5))), tyI, tyI] [(.nilS 39), (.var 8), (.var 9), (.var 10), (.var 11)] (.ite (.ic .gtr (.var 13) (.li .i64 0)) (.rq (.call [] 53 (some [(.var 14), (.var 15), (.var 16)]) [(.var 4)] (.one tyC) tyK) (.rq (.call [] 54 none [(.var 17)] tyB []) (.ite (.var 21) (.rq (.cond [] (.few (.var 12) (.put (.nilS 39) (.var 17)))) (.again 0 [(.app (.var 12) (.put (.nilS 39) (.var 17))), (.ar .sub .i64 (.var 13) (.li .i64 1)), (.var 18), (.var 19), (.var 20)])) (.again 0 [(.var 12), (.ar .sub .i64 (.var 13) (.li .i64 1)), (.var 18), (.var 19), (.var 20)])))) (.ret (.tp1 (.tp1 .tp0 (.var 4)) (.var 12)) []))))))
theorem vc_spec_DrawPart_ok : vcOf Tryz.prog tbl rbt 15 none = vc_spec_DrawPart := by kernel_rfl
def ty_spec_DrawPart : List VT := [(.one (.c (.sl 5)))]
theorem ty_spec_DrawPart_ok : tyOf Tryz.prog tbl 15 none = ty_spec_DrawPart := by kernel_rfl
theorem rt_spec_DrawPart_ok : rbt.get 15 = [(6, 4)] := by kernel_rfl
def vc_impl_IsPart : VC := (.rq (.call [] 63 none [(.sub (.var 0) 0 5)] tyB []) (.ite (.or (.no (.var 1)) (.ic .gtr (.len (.cell (.var 0) 5)) (.li .i64 3))) (.ret (.lb false) []) (.loop [tyI] [(.li .i64 0)] (.ite (.ic .lss (.var 2) (.len (.cell (.var 0) 5))) (.rq (.cond [] (.inb (.cell (.var 0) 5) (.var 2))) (.rq (.call [] 56 none [(.cell (.row [.str, (.int .i64)] (.cell (.var 0) 5) (.var 2)) 0)] (.tup [(.c (.int .i64)), (.c (.int .i64)), (.c .bool)]) []) (.rq (.call [((.no (.proj (.var 3) 2)), false)] 64 none [(.var 0), (.var 2)] tyI []) (.rq (.call [((.no (.proj (.var 3) 2)), false)] 24 none [(.var 4), (.proj (.var 3) 0)] tyB []) (.rq (.call [((.or (.no (.proj (.var 3) 2)) (.no (.var 5))), false)] 65 none [(.cell (.row [.str, (.int .i64)] (.cell (.var 0) 5) (.var 2)) 1)] tyB []) (.ite (.or (.or (.or (.no (.proj (.var 3) 2)) (.no (.var 5))) (.no (.var 6))) (.an (.an (.ic .neq (.cell (.row [.str, (.int .i64)] (.cell (.var 0) 5) (.var 2)) 1) (.li .i64 0)) (.sc .neq (.cell (.row [.str, (.int .i64)] (.cell (.var 0) 5) (.var 2)) 0) (.ls ⟨#[99, 111, 117, 110, 116, 115]⟩))) (.sc .neq (.cell (.row [.str, (.int .i64)] (.cell (.var 0) 5) (.var 2)) 0) (.ls ⟨#[104, 101, 97, 114, 115]⟩)))) (.ret (.lb false) []) (.again 0 [(.ar .add .i64 (.var 2) (.li .i64 1))]))))))) (.ret (.lb true) [])))))
theorem vc_impl_IsPart_ok : vcOf Tryz.prog tbl rbt 20 none = vc_impl_IsPart := by kernel_rfl
def ty_impl_IsPart : List VT := [(.one tyP)]
theorem ty_impl_IsPart_ok : tyOf Tryz.prog tbl 20 none = ty_impl_IsPart := by kernel_rfl
def vc_impl_Offers : VC := (.rq (.call [] 69 none [(.var 0)] tyB []) (.rq (.call [((.var 2), true)] 69 none [(.var 1)] tyB []) (.ret (.an (.an (.var 2) (.var 3)) (.ic .eql (.ar .andNot .i64 (.var 1) (.var 0)) (.li .i64 0))) [])))
theorem vc_impl_Offers_ok : vcOf Tryz.prog tbl rbt 24 none = vc_impl_Offers := by kernel_rfl
def ty_impl_Offers : List VT := [tyI, tyI]
theorem ty_impl_Offers_ok : tyOf Tryz.prog tbl 24 none = ty_impl_Offers := by kernel_rfl
def vc_spec_IsPart : VC := (.rq (.call [] 70 none [(.sub (.var 0) 0 5)] tyB []) (.ite (.or (.no (.var 1)) (.ic .gtr (.len (.cell (.var 0) 5)) (.li .i64 3))) (.ret (.lb false) []) (.loop [tyI] [(.li .i64 0)] (.ite (.ic .lss (.var 2) (.len (.cell (.var 0) 5))) (.rq (.cond [] (.inb (.cell (.var 0) 5) (.var 2))) (.rq (.call [] 71 none [(.cell (.row [.str, (.int .i64)] (.cell (.var 0) 5) (.var 2)) 0)] (.tup [(.c (.int .i64)), (.c .bool)]) []) (.rq (.call [((.no (.proj (.var 3) 1)), false)] 72 none [(.var 0), (.var 2)] tyI []) (.rq (.call [((.no (.proj (.var 3) 1)), false)] 60 none [(.var 4), (.proj (.var 3) 0)] tyB []) (.ite (.or (.or (.or (.or (.no (.proj (.var 3) 1)) (.no (.var 5))) (.ic .lss (.cell (.row [.str, (.int .i64)] (.cell (.var 0) 5) (.var 2)) 1) (.li .i64 0))) (.ic .gtr (.cell (.row [.str, (.int .i64)] (.cell (.var 0) 5) (.var 2)) 1) (.li .i64 999))) (.an (.ic .gtr (.cell (.row [.str, (.int .i64)] (.cell (.var 0) 5) (.var 2)) 1) (.li .i64 0)) (.no (.or (.sc .eql (.cell (.row [.str, (.int .i64)] (.cell (.var 0) 5) (.var 2)) 0) (.ls ⟨#[99, 111, 117, 110, 116, 115]⟩)) (.sc .eql (.cell (.row [.str, (.int .i64)] (.cell (.var 0) 5) (.var 2)) 0) (.ls ⟨#[104, 101, 97, 114, 115]⟩)))))) (.ret (.lb false) []) (.again 0 [(.ar .add .i64 (.var 2) (.li .i64 1))])))))) (.ret (.lb true) [])))))
theorem vc_spec_IsPart_ok : vcOf Tryz.prog tbl rbt 28 none = vc_spec_IsPart := by kernel_rfl
def ty_spec_IsPart : List VT := [(.one tyP)]
theorem ty_spec_IsPart_ok : tyOf Tryz.prog tbl 28 none = ty_spec_IsPart := by kernel_rfl
def vc_laws_replies : VC := (.ite (.ic .neq (.len (.var 0)) (.len (.var 1))) (.ret (.lb false) []) (.loop [tyI] [(.li .i64 0)] (.ite (.ic .lss (.var 2) (.len (.var 0))) (.rq (.cond [] (.inb (.var 0) (.var 2))) (.rq (.cond [] (.inb (.var 1) (.var 2))) (.ite (.no (.ae (.row [(.int .i64), (.int .i64), .str, (.int .i64), (.int .i64)] (.var 0) (.var 2)) (.row [(.int .i64), (.int .i64), .str, (.int .i64), (.int .i64)] (.var 1) (.var 2)))) (.ret (.lb false) []) (.again 0 [(.ar .add .i64 (.var 2) (.li .i64 1))])))) (.ret (.lb true) []))))
theorem vc_laws_replies_ok : vcOf Tryz.prog tbl rbt 32 none = vc_laws_replies := by kernel_rfl
def ty_laws_replies : List VT := [(.one (.c (.sl 34))), (.one (.c (.sl 34)))]
theorem ty_laws_replies_ok : tyOf Tryz.prog tbl 32 none = ty_laws_replies := by kernel_rfl
def vc_spec_l4Call : VC := (.rq (.call [] 91 (some [(.var 1), (.var 2), (.var 3)]) [] (.one tyC) tyK) (.loop [tyI, (.one (.c (.sl 5))), tyI, tyI, tyS, tyS, tyI, tyS] [(.li .i64 0), (.var 5), (.var 6), (.var 7), (.cell (.var 4) 0), (.cell (.var 4) 1), (.cell (.var 4) 2), (.cell (.var 4) 3)] (.rq (.call [((.ic .lss (.var 8) (.li .i64 4)), true)] 61 none [(.var 0)] tyI []) (.rq (.call [((.ic .lss (.var 8) (.li .i64 4)), true)] 75 none [(.var 12)] tyI []) (.rq (.call [((.ic .lss (.var 8) (.li .i64 4)), true)] 60 none [(.var 16), (.var 17)] tyB []) (.ite (.an (.ic .lss (.var 8) (.li .i64 4)) (.no (.var 18))) (.rq (.call [] 92 (some [(.var 9), (.var 10), (.var 11)]) [] (.one tyC) tyK) (.again 0 [(.ar .add .i64 (.var 8) (.li .i64 1)), (.var 20), (.var 21), (.var 22), (.cell (.var 19) 0), (.cell (.var 19) 1), (.cell (.var 19) 2), (.cell (.var 19) 3)])) (.ret (.cat (.ag1 (.var 12)) (.cat (.ag1 (.var 13)) (.cat (.ag1 (.var 14)) (.cat (.ag1 (.var 15)) .ag0)))) [(.var 9), (.var 10), (.var 11)])))))))
theorem vc_spec_l4Call_ok : vcOf Tryz.prog tbl rbt 53 (some tyK) = vc_spec_l4Call := by kernel_rfl
def ty_spec_l4Call : List VT := [(.one tyP), (.one (.c (.sl 5))), tyI, tyI]
theorem ty_spec_l4Call_ok : tyOf Tryz.prog tbl 53 (some tyK) = ty_spec_l4Call := by kernel_rfl
def vc_spec_l4Copy : VC := (.rq (.callR 98 none [(.sub (.var 0) 0 5)] (.one tyO) [] [(3, 2)]) (.rq (.cond [] (.few (.nilS 52) (.cell (.var 0) 5))) (.ret (.cat (.ag1 (.cell (.var 1) 0)) (.cat (.ag1 (.cell (.var 1) 1)) (.cat (.ag1 (.cell (.var 1) 2)) (.cat (.ag1 (.cell (.var 1) 3)) (.cat (.ag1 (.cell (.var 1) 4)) (.cat (.ag1 (.app (.nilS 52) (.cell (.var 0) 5))) .ag0)))))) [])))
theorem vc_spec_l4Copy_ok : vcOf Tryz.prog tbl rbt 58 none = vc_spec_l4Copy := by kernel_rfl
def ty_spec_l4Copy : List VT := [(.one tyP)]
theorem ty_spec_l4Copy_ok : tyOf Tryz.prog tbl 58 none = ty_spec_l4Copy := by kernel_rfl
theorem rt_spec_l4Copy_ok : rbt.get 58 = [(3, 2), (5, 2)] := by kernel_rfl
def vc_impl_IsCore : VC := (.rq (.call [] 104 none [(.cell (.var 0) 0)] (.tup [(.c (.int .i64)), (.c .bool)]) []) (.rq (.call [((.no (.proj (.var 1) 1)), false)] 105 none [(.cell (.var 0) 3)] tyB []) (.rq (.call [((.or (.or (.no (.proj (.var 1) 1)) (.no (.var 2))) (.an (.ic .gtr (.len (.cell (.var 0) 3)) (.li .i64 0)) (.ic .eql (.ar .and .i64 (.proj (.var 1) 0) (.li .i64 2)) (.li .i64 0)))), false)] 65 none [(.cell (.var 0) 4)] tyB []) (.ite (.or (.or (.or (.no (.proj (.var 1) 1)) (.no (.var 2))) (.an (.ic .gtr (.len (.cell (.var 0) 3)) (.li .i64 0)) (.ic .eql (.ar .and .i64 (.proj (.var 1) 0) (.li .i64 2)) (.li .i64 0)))) (.no (.var 3))) (.ret (.lb false) []) (.ret (.an (.no (.an (.cell (.var 0) 1) (.cell (.var 0) 2))) (.or (.ic .eql (.ar .and .i64 (.proj (.var 1) 0) (.li .i64 1)) (.li .i64 1)) (.an (.no (.cell (.var 0) 1)) (.no (.cell (.var 0) 2))))) [])))))
theorem vc_impl_IsCore_ok : vcOf Tryz.prog tbl rbt 63 none = vc_impl_IsCore := by kernel_rfl
def ty_impl_IsCore : List VT := [(.one tyO)]
theorem ty_impl_IsCore_ok : tyOf Tryz.prog tbl 63 none = ty_impl_IsCore := by kernel_rfl
def vc_impl_IsName : VC := (.rq (.cond [((.or (.ic .lss (.len (.var 0)) (.li .i64 1)) (.ic .gtr (.len (.var 0)) (.li .i64 8))), false)] (.inb (.var 0) (.li .i64 0))) (.rq (.cond [((.or (.or (.ic .lss (.len (.var 0)) (.li .i64 1)) (.ic .gtr (.len (.var 0)) (.li .i64 8))) (.ic .lss (.at (.var 0) (.li .i64 0)) (.li .u8 97))), false)] (.inb (.var 0) (.li .i64 0))) (.ite (.or (.or (.or (.ic .lss (.len (.var 0)) (.li .i64 1)) (.ic .gtr (.len (.var 0)) (.li .i64 8))) (.ic .lss (.at (.var 0) (.li .i64 0)) (.li .u8 97))) (.ic .gtr (.at (.var 0) (.li .i64 0)) (.li .u8 122))) (.ret (.lb false) []) (.loop [tyI] [(.li .i64 0)] (.ite (.ic .lss (.var 1) (.len (.var 0))) (.rq (.cond [] (.inb (.var 0) (.var 1))) (.rq (.cond [((.ic .lss (.at (.var 0) (.var 1)) (.li .u8 97)), false)] (.inb (.var 0) (.var 1))) (.rq (.cond [((.or (.ic .lss (.at (.var 0) (.var 1)) (.li .u8 97)) (.ic .gtr (.at (.var 0) (.var 1)) (.li .u8 122))), true)] (.inb (.var 0) (.var 1))) (.rq (.cond [((.or (.ic .lss (.at (.var 0) (.var 1)) (.li .u8 97)) (.ic .gtr (.at (.var 0) (.var 1)) (.li .u8 122))), true), ((.ic .lss (.at (.var 0) (.var 1)) (.li .u8 48)), false)] (.inb (.var 0) (.var 1))) (.ite (.an (.or (.ic .lss (.at (.var 0) (.var 1)) (.li .u8 97)) (.ic .gtr (.at (.var 0) (.var 1)) (.li .u8 122))) (.or (.ic .lss (.at (.var 0) (.var 1)) (.li .u8 48)) (.ic .gtr (.at (.var 0) (.var 1)) (.li .u8 57)))) (.ret (.lb false) []) (.again 0 [(.ar .add .i64 (.var 1) (.li .i64 1))])))))) (.ret (.lb true) []))))))
theorem vc_impl_IsName_ok : vcOf Tryz.prog tbl rbt 67 none = vc_impl_IsName := by kernel_rfl
def ty_impl_IsName : List VT := [tyS]
theorem ty_impl_IsName_ok : tyOf Tryz.prog tbl 67 none = ty_impl_IsName := by kernel_rfl
def vc_spec_LayerNeeds : VC := (.rq (.call [] 59 none [(.var 0)] (.tup [(.c (.int .i64)), (.c (.int .i64)), (.c .bool)]) []) (.ret (.tp1 (.tp1 .tp0 (.proj (.var 1) 0)) (.proj (.var 1) 2)) []))
theorem vc_spec_LayerNeeds_ok : vcOf Tryz.prog tbl rbt 71 none = vc_spec_LayerNeeds := by kernel_rfl
def ty_spec_LayerNeeds : List VT := [tyS]
theorem ty_spec_LayerNeeds_ok : tyOf Tryz.prog tbl 71 none = ty_spec_LayerNeeds := by kernel_rfl
def vc_spec_WantOf : VC := (.rq (.call [] 112 none [(.var 0)] tyI []) (.ite (.ic .lss (.var 1) (.li .i64 0)) (.ret (.li .i64 0) []) (.rq (.cond [] (.ic .geq (.var 1) (.li .i64 0))) (.ret (.ar .shl .i64 (.li .i64 1) (.var 1)) []))))
theorem vc_spec_WantOf_ok : vcOf Tryz.prog tbl rbt 75 none = vc_spec_WantOf := by kernel_rfl
def ty_spec_WantOf : List VT := [tyS]
theorem ty_spec_WantOf_ok : tyOf Tryz.prog tbl 75 none = ty_spec_WantOf := by kernel_rfl
def vc_spec_l4Fitting : VC := (.rq (.call [] 102 (some [(.var 1), (.var 2), (.var 3)]) [] tyS tyK) (.loop [tyS, tyI, (.one (.c (.sl 5))), tyI, tyI] [(.var 4), (.li .i64 0), (.var 5), (.var 6), (.var 7)] (.ite (.ic .lss (.var 9) (.li .i64 6)) (.rq (.call [] 71 none [(.var 8)] (.tup [(.c (.int .i64)), (.c .bool)]) []) (.rq (.call [((.proj (.var 13) 1), true)] 60 none [(.var 0), (.proj (.var 13) 0)] tyB []) (.ite (.an (.an (.proj (.var 13) 1) (.var 14)) (.or (.sc .neq (.var 8) (.ls ⟨#[112, 108, 97, 105, 110]⟩)) (.ic .gtr (.var 9) (.li .i64 4)))) (.ret (.var 8) [(.var 10), (.var 11), (.var 12)]) (.rq (.call [] 102 (some [(.var 10), (.var 11), (.var 12)]) [] tyS tyK) (.again 0 [(.var 15), (.ar .add .i64 (.var 9) (.li .i64 1)), (.var 16), (.var 17), (.var 18)]))))) (.ret (.var 8) [(.var 10), (.var 11), (.var 12)]))))
theorem vc_spec_l4Fitting_ok : vcOf Tryz.prog tbl rbt 88 (some tyK) = vc_spec_l4Fitting := by kernel_rfl
def ty_spec_l4Fitting : List VT := [tyI, (.one (.c (.sl 5))), tyI, tyI]
theorem ty_spec_l4Fitting_ok : tyOf Tryz.prog tbl 88 (some tyK) = ty_spec_l4Fitting := by kernel_rfl
def vc_spec_l3Call : VC := (.rq (.call [] 125 (some [(.var 0), (.var 1), (.var 2)]) [(.put (.put (.put (.put (.put (.put (.put (.put (.put (.put (.put (.put (.nilS 9) (.ag1 (.ls ⟨#[83, 116, 97, 114, 116]⟩))) (.ag1 (.ls ⟨#[83, 116, 97, 114, 116]⟩))) (.ag1 (.ls ⟨#[83, 116, 111, 112]⟩))) (.ag1 (.ls ⟨#[71, 101, 116]⟩))) (.ag1 (.ls ⟨#[71, 101, 116]⟩))) (.ag1 (.ls ⟨#[80, 117, 116]⟩))) (.ag1 (.ls ⟨#[80, 117, 116]⟩))) (.ag1 (.ls ⟨#[84, 101, 108, 108]⟩))) (.ag1 (.ls ⟨#[72, 101, 97, 114]⟩))) (.ag1 (.ls ⟨#[76, 111, 97, 100]⟩))) (.ag1 (.ls ⟨#[83, 97, 118, 101]⟩))) (.ag1 (.ls ⟨#[72, 101, 97, 108]⟩)))] tyS tyK) (.ite (.sc .eql (.cell (.cat (.ag1 (.var 3)) (.cat (.ag1 (.ls ⟨#[]⟩)) (.cat (.ag1 (.li .i64 0)) (.cat (.ag1 (.ls ⟨#[]⟩)) .ag0)))) 0) (.ls ⟨#[71, 101, 116]⟩)) (.rq (.call [] 126 (some [(.var 4), (.var 5), (.var 6)]) [] tyS tyK) (.ret (.cat (.ag1 (.cell (.cat (.ag1 (.var 3)) (.cat (.ag1 (.ls ⟨#[]⟩)) (.cat (.ag1 (.li .i64 0)) (.cat (.ag1 (.ls ⟨#[]⟩)) .ag0)))) 0)) (.cat (.ag1 (.var 7)) (.cat (.ag1 (.cell (.cat (.ag1 (.var 3)) (.cat (.ag1 (.ls ⟨#[]⟩)) (.cat (.ag1 (.li .i64 0)) (.cat (.ag1 (.ls ⟨#[]⟩)) .ag0)))) 2)) (.cat (.ag1 (.cell (.cat (.ag1 (.var 3)) (.cat (.ag1 (.ls ⟨#[]⟩)) (.cat (.ag1 (.li .i64 0)) (.cat (.ag1 (.ls ⟨#[]⟩)) .ag0)))) 3)) .ag0)))) [(.var 8), (.var 9), (.var 10)])) (.ite (.sc .eql (.cell (.cat (.ag1 (.var 3)) (.cat (.ag1 (.ls ⟨#[]⟩)) (.cat (.ag1 (.li .i64 0)) (.cat (.ag1 (.ls ⟨#[]⟩)) .ag0)))) 0) (.ls ⟨#[80, 117, 116]⟩)) (.rq (.call [] 126 (some [(.var 4), (.var 5), (.var 6)]) [] tyS tyK) (.rq (.call [] 52 (some [(.var 8), (.var 9), (.var 10)]) [(.li .i64 20)] tyI tyK) (.ret (.cat (.ag1 (.cell (.cat (.ag1 (.var 3)) (.cat (.ag1 (.ls ⟨#[]⟩)) (.cat (.ag1 (.li .i64 0)) (.cat (.ag1 (.ls ⟨#[]⟩)) .ag0)))) 0)) (.cat (.ag1 (.var 7)) (.cat (.ag1 (.var 11)) (.cat (.ag1 (.cell (.cat (.ag1 (.var 3)) (.cat (.ag1 (.ls ⟨#[]⟩)) (.cat (.ag1 (.li .i64 0)) (.cat (.ag1 (.ls ⟨#[]⟩)) .ag0)))) 3)) .ag0)))) [(.var 12), (.var 13), (.var 14)]))) (.ite (.sc .eql (.cell (.cat (.ag1 (.var 3)) (.cat (.ag1 (.ls ⟨#[]⟩)) (.cat (.ag1 (.li .i64 0)) (.cat (.ag1 (.ls ⟨#[]⟩)) .ag0)))) 0) (.ls ⟨#[72, 101, 97, 114]⟩)) (.rq (.call [] 52 (some [(.var 4), (.var 5), (.var 6)]) [(.li .i64 4)] tyI tyK) (.ret (.cat (.ag1 (.cell (.cat (.ag1 (.var 3)) (.cat (.ag1 (.ls ⟨#[]⟩)) (.cat (.ag1 (.li .i64 0)) (.cat (.ag1 (.ls ⟨#[]⟩)) .ag0)))) 0)) (.cat (.ag1 (.cell (.cat (.ag1 (.var 3)) (.cat (.ag1 (.ls ⟨#[]⟩)) (.cat (.ag1 (.li .i64 0)) (.cat (.ag1 (.ls ⟨#[]⟩)) .ag0)))) 1)) (.cat (.ag1 (.var 7)) (.cat (.ag1 (.cell (.cat (.ag1 (.var 3)) (.cat (.ag1 (.ls ⟨#[]⟩)) (.cat (.ag1 (.li .i64 0)) (.cat (.ag1 (.ls ⟨#[]⟩)) .ag0)))) 3)) .ag0)))) [(.var 8), (.var 9), (.var 10)])) (.ite (.sc .eql (.cell (.cat (.ag1 (.var 3)) (.cat (.ag1 (.ls ⟨#[]⟩)) (.cat (.ag1 (.li .i64 0)) (.cat (.ag1 (.ls ⟨#[]⟩)) .ag0)))) 0) (.ls ⟨#[76, 111, 97, 100]⟩)) (.rq (.call [] 127 (some [(.var 4), (.var 5), (.var 6)]) [] tyS tyK) (.ret (.cat (.ag1 (.cell (.cat (.ag1 (.var 3)) (.cat (.ag1 (.ls ⟨#[]⟩)) (.cat (.ag1 (.li .i64 0)) (.cat (.ag1 (.ls ⟨#[]⟩)) .ag0)))) 0)) (.cat (.ag1 (.cell (.cat (.ag1 (.var 3)) (.cat (.ag1 (.ls ⟨#[]⟩)) (.cat (.ag1 (.li .i64 0)) (.cat (.ag1 (.ls ⟨#[]⟩)) .ag0)))) 1)) (.cat (.ag1 (.cell (.cat (.ag1 (.var 3)) (.cat (.ag1 (.ls ⟨#[]⟩)) (.cat (.ag1 (.li .i64 0)) (.cat (.ag1 (.ls ⟨#[]⟩)) .ag0)))) 2)) (.cat (.ag1 (.var 7)) .ag0)))) [(.var 8), (.var 9), (.var 10)])) (.ret (.cat (.ag1 (.var 3)) (.cat (.ag1 (.ls ⟨#[]⟩)) (.cat (.ag1 (.li .i64 0)) (.cat (.ag1 (.ls ⟨#[]⟩)) .ag0)))) [(.var 4), (.var 5), (.var 6)]))))))
theorem vc_spec_l3Call_ok : vcOf Tryz.prog tbl rbt 92 (some tyK) = vc_spec_l3Call := by kernel_rfl
def ty_spec_l3Call : List VT := [(.one (.c (.sl 5))), tyI, tyI]
theorem ty_spec_l3Call_ok : tyOf Tryz.prog tbl 92 (some tyK) = ty_spec_l3Call := by kernel_rfl
def vc_spec_l3Copy : VC := (.rq (.cond [] (.few (.nilS 125) (.cell (.var 0) 3))) (.ret (.cat (.ag1 (.cell (.var 0) 0)) (.cat (.ag1 (.cell (.var 0) 1)) (.cat (.ag1 (.cell (.var 0) 2)) (.cat (.ag1 (.app (.nilS 125) (.cell (.var 0) 3))) (.cat (.ag1 (.cell (.var 0) 4)) .ag0))))) []))
theorem vc_spec_l3Copy_ok : vcOf Tryz.prog tbl rbt 98 none = vc_spec_l3Copy := by kernel_rfl
def ty_spec_l3Copy : List VT := [(.one tyO)]
theorem ty_spec_l3Copy_ok : tyOf Tryz.prog tbl 98 none = ty_spec_l3Copy := by kernel_rfl
theorem rt_spec_l3Copy_ok : rbt.get 98 = [(3, 2)] := by kernel_rfl
def vc_spec_l4Name : VC := (.rq (.call [] 89 (some [(.var 0), (.var 1), (.var 2)]) [(.li .i64 16)] tyB tyK) (.ite (.var 3) (.rq (.call [] 125 (some [(.var 4), (.var 5), (.var 6)]) [(.put (.put (.put (.put (.put (.nilS 9) (.ag1 (.ls ⟨#[]⟩))) (.ag1 (.ls ⟨#[80, 108, 97, 105, 110]⟩))) (.ag1 (.ls ⟨#[115, 97, 118, 101]⟩))) (.ag1 (.ls ⟨#[99, 111, 117, 110, 116]⟩))) (.ag1 (.ls ⟨#[108, 97, 109, 112]⟩)))] tyS tyK) (.ret (.var 7) [(.var 8), (.var 9), (.var 10)])) (.rq (.call [] 125 (some [(.var 4), (.var 5), (.var 6)]) [(.put (.put (.put (.put (.put (.put (.put (.put (.put (.put (.put (.nilS 9) (.ag1 (.ls ⟨#[112, 108, 97, 105, 110]⟩))) (.ag1 (.ls ⟨#[114, 117, 110, 115]⟩))) (.ag1 (.ls ⟨#[107, 101, 101, 112, 115]⟩))) (.ag1 (.ls ⟨#[99, 111, 117, 110, 116, 115]⟩))) (.ag1 (.ls ⟨#[99, 111, 117, 110, 116, 115]⟩))) (.ag1 (.ls ⟨#[108, 97, 122, 121]⟩))) (.ag1 (.ls ⟨#[108, 97, 122, 121]⟩))) (.ag1 (.ls ⟨#[114, 101, 97, 100, 115]⟩))) (.ag1 (.ls ⟨#[104, 101, 97, 114, 115]⟩))) (.ag1 (.ls ⟨#[104, 101, 97, 108, 115]⟩))) (.ag1 (.ls ⟨#[116, 119, 105, 99, 101]⟩)))] tyS tyK) (.ret (.var 7) [(.var 8), (.var 9), (.var 10)]))))
theorem vc_spec_l4Name_ok : vcOf Tryz.prog tbl rbt 102 (some tyK) = vc_spec_l4Name := by kernel_rfl
def ty_spec_l4Name : List VT := [(.one (.c (.sl 5))), tyI, tyI]
theorem ty_spec_l4Name_ok : tyOf Tryz.prog tbl 102 (some tyK) = ty_spec_l4Name := by kernel_rfl
def vc_impl_hasText : VC := (.loop [tyI] [(.li .i64 0)] (.ite (.ic .lss (.var 2) (.len (.var 0))) (.rq (.cond [] (.inb (.var 0) (.var 2))) (.ite (.sc .eql (.cell (.row [.str] (.var 0) (.var 2)) 0) (.var 1)) (.ret (.lb true) []) (.again 0 [(.ar .add .i64 (.var 2) (.li .i64 1))]))) (.ret (.lb false) [])))
theorem vc_impl_hasText_ok : vcOf Tryz.prog tbl rbt 106 none = vc_impl_hasText := by kernel_rfl
def ty_impl_hasText : List VT := [(.one (.c (.sl 9))), tyS]
theorem ty_impl_hasText_ok : tyOf Tryz.prog tbl 106 none = ty_impl_hasText := by kernel_rfl
def vc_spec_l3Kind : VC := (.rq (.call [] 89 (some [(.var 0), (.var 1), (.var 2)]) [(.li .i64 14)] tyB tyK) (.ite (.var 3) (.rq (.call [] 125 (some [(.var 4), (.var 5), (.var 6)]) [(.put (.put (.put (.put (.put (.nilS 9) (.ag1 (.ls ⟨#[]⟩))) (.ag1 (.ls ⟨#[76, 97, 109, 112]⟩))) (.ag1 (.ls ⟨#[108, 97, 109, 112, 115]⟩))) (.ag1 (.ls ⟨#[114, 111, 99, 107]⟩))) (.ag1 (.ls ⟨#[107, 101, 101, 112]⟩)))] tyS tyK) (.ret (.var 7) [(.var 8), (.var 9), (.var 10)])) (.rq (.call [] 125 (some [(.var 4), (.var 5), (.var 6)]) [(.put (.put (.put (.put (.put (.put (.put (.put (.put (.put (.put (.nilS 9) (.ag1 (.ls ⟨#[115, 116, 111, 110, 101]⟩))) (.ag1 (.ls ⟨#[108, 97, 109, 112]⟩))) (.ag1 (.ls ⟨#[115, 104, 101, 108, 102]⟩))) (.ag1 (.ls ⟨#[109, 101, 116, 101, 114]⟩))) (.ag1 (.ls ⟨#[100, 114, 97, 119, 101, 114]⟩))) (.ag1 (.ls ⟨#[100, 114, 97, 119, 101, 114]⟩))) (.ag1 (.ls ⟨#[104, 111, 114, 110]⟩))) (.ag1 (.ls ⟨#[118, 97, 117, 108, 116]⟩))) (.ag1 (.ls ⟨#[118, 97, 117, 108, 116]⟩))) (.ag1 (.ls ⟨#[114, 111, 98, 111, 116]⟩))) (.ag1 (.ls ⟨#[114, 111, 98, 111, 116]⟩)))] tyS tyK) (.ret (.var 7) [(.var 8), (.var 9), (.var 10)]))))
theorem vc_spec_l3Kind_ok : vcOf Tryz.prog tbl rbt 121 (some tyK) = vc_spec_l3Kind := by kernel_rfl
def ty_spec_l3Kind : List VT := [(.one (.c (.sl 5))), tyI, tyI]
theorem ty_spec_l3Kind_ok : tyOf Tryz.prog tbl 121 (some tyK) = ty_spec_l3Kind := by kernel_rfl
def vc_spec_l1Str : VC := (.rq (.call [] 52 (some [(.var 1), (.var 2), (.var 3)]) [(.len (.var 0))] tyI tyK) (.rq (.cond [] (.inb (.var 0) (.var 4))) (.ret (.cell (.row [.str] (.var 0) (.var 4)) 0) [(.var 5), (.var 6), (.var 7)])))
theorem vc_spec_l1Str_ok : vcOf Tryz.prog tbl rbt 125 (some tyK) = vc_spec_l1Str := by kernel_rfl
def ty_spec_l1Str : List VT := [(.one (.c (.sl 9))), (.one (.c (.sl 5))), tyI, tyI]
theorem ty_spec_l1Str_ok : tyOf Tryz.prog tbl 125 (some tyK) = ty_spec_l1Str := by kernel_rfl
def vc_impl_FormatCells : VC := (.rq (.call [] 105 none [(.var 0)] tyB []) (.ite (.no (.var 1)) (.ret (.ls ⟨#[]⟩) []) (.ite (.ic .eql (.len (.var 0)) (.li .i64 0)) (.ret (.ls ⟨#[45]⟩) []) (.loop [(.one (.c (.sl 9))), tyI] [(.nilS 9), (.li .i64 0)] (.ite (.ic .lss (.var 3) (.len (.var 0))) (.rq (.cond [] (.inb (.var 0) (.var 3))) (.rq (.cond [] (.sok (.cell (.row [.str, (.int .i64)] (.var 0) (.var 3)) 0) (.ls ⟨#[61]⟩))) (.rq (.call [] 144 none [(.cell (.row [.str, (.int .i64)] (.var 0) (.var 3)) 1)] tyS []) (.rq (.cond [] (.sok (.scat (.cell (.row [.str, (.int .i64)] (.var 0) (.var 3)) 0) (.ls ⟨#[61]⟩)) (.var 4))) (.rq (.cond [] (.few (.var 2) (.put (.nilS 9) (.ag1 (.scat (.scat (.cell (.row [.str, (.int .i64)] (.var 0) (.var 3)) 0) (.ls ⟨#[61]⟩)) (.var 4)))))) (.again 0 [(.app (.var 2) (.put (.nilS 9) (.ag1 (.scat (.scat (.cell (.row [.str, (.int .i64)] (.var 0) (.var 3)) 0) (.ls ⟨#[61]⟩)) (.var 4))))), (.ar .add .i64 (.var 3) (.li .i64 1))])))))) (.rq (.call [] 145 none [(.var 2), (.ls ⟨#[44]⟩)] tyS []) (.ret (.var 4) [])))))))
theorem vc_impl_FormatCells_ok : vcOf Tryz.prog tbl rbt 130 none = vc_impl_FormatCells := by kernel_rfl
def ty_impl_FormatCells : List VT := [(.one (.c (.sl 125)))]
theorem ty_impl_FormatCells_ok : tyOf Tryz.prog tbl 130 none = ty_impl_FormatCells := by kernel_rfl
def vc_spec_l1HasText : VC := (.loop [tyI] [(.li .i64 0)] (.ite (.ic .lss (.var 2) (.len (.var 0))) (.rq (.cond [] (.inb (.var 0) (.var 2))) (.ite (.sc .eql (.cell (.row [.str] (.var 0) (.var 2)) 0) (.var 1)) (.ret (.lb true) []) (.again 0 [(.ar .add .i64 (.var 2) (.li .i64 1))]))) (.ret (.lb false) [])))
theorem vc_spec_l1HasText_ok : vcOf Tryz.prog tbl rbt 134 none = vc_spec_l1HasText := by kernel_rfl
def ty_spec_l1HasText : List VT := [(.one (.c (.sl 9))), tyS]
theorem ty_spec_l1HasText_ok : tyOf Tryz.prog tbl 134 none = ty_spec_l1HasText := by kernel_rfl
def vc_spec_l3Put : VC := (.loop [tyB, (.one (.c (.sl 125))), tyI] [(.lb false), (.nilS 125), (.li .i64 0)] (.ite (.ic .lss (.var 5) (.len (.var 0))) (.rq (.cond [] (.inb (.var 0) (.var 5))) (.ite (.an (.no (.var 3)) (.sc .geq (.cell (.row [.str, (.int .i64)] (.var 0) (.var 5)) 0) (.var 1))) (.rq (.cond [] (.few (.var 4) (.put (.nilS 125) (.cat (.ag1 (.var 1)) (.cat (.ag1 (.var 2)) .ag0))))) (.ite (.sc .neq (.cell (.row [.str, (.int .i64)] (.var 0) (.var 5)) 0) (.var 1)) (.rq (.cond [] (.few (.app (.var 4) (.put (.nilS 125) (.cat (.ag1 (.var 1)) (.cat (.ag1 (.var 2)) .ag0)))) (.put (.nilS 125) (.row [.str, (.int .i64)] (.var 0) (.var 5))))) (.again 0 [(.lb true), (.app (.app (.var 4) (.put (.nilS 125) (.cat (.ag1 (.var 1)) (.cat (.ag1 (.var 2)) .ag0)))) (.put (.nilS 125) (.row [.str, (.int .i64)] (.var 0) (.var 5)))), (.ar .add .i64 (.var 5) (.li .i64 1))])) (.again 0 [(.lb true), (.app (.var 4) (.put (.nilS 125) (.cat (.ag1 (.var 1)) (.cat (.ag1 (.var 2)) .ag0)))), (.ar .add .i64 (.var 5) (.li .i64 1))]))) (.ite (.sc .neq (.cell (.row [.str, (.int .i64)] (.var 0) (.var 5)) 0) (.var 1)) (.rq (.cond [] (.few (.var 4) (.put (.nilS 125) (.row [.str, (.int .i64)] (.var 0) (.var 5))))) (.again 0 [(.var 3), (.app (.var 4) (.put (.nilS 125) (.row [.str, (.int .i64)] (.var 0) (.var 5)))), (.ar .add .i64 (.var 5) (.li .i64 1))])) (.again 0 [(.var 3), (.var 4), (.ar .add .i64 (.var 5) (.li .i64 1))])))) (.ite (.no (.var 3)) (.rq (.cond [] (.few (.var 4) (.put (.nilS 125) (.cat (.ag1 (.var 1)) (.cat (.ag1 (.var 2)) .ag0))))) (.ret (.app (.var 4) (.put (.nilS 125) (.cat (.ag1 (.var 1)) (.cat (.ag1 (.var 2)) .ag0)))) [])) (.ret (.var 4) []))))
theorem vc_spec_l3Put_ok : vcOf Tryz.prog tbl rbt 142 none = vc_spec_l3Put := by kernel_rfl
def ty_spec_l3Put : List VT := [(.one (.c (.sl 125))), tyS, tyI]
theorem ty_spec_l3Put_ok : tyOf Tryz.prog tbl 142 none = ty_spec_l3Put := by kernel_rfl
theorem rt_spec_l3Put_ok : rbt.get 142 = [(0, 2)] := by kernel_rfl
def vc_spec_FormatNumber : VC := (.ite (.ic .eql (.var 0) (.li .i64 (-9223372036854775808))) (.ret (.ls ⟨#[45, 57, 50, 50, 51, 51, 55, 50, 48, 51, 54, 56, 53, 52, 55, 55, 53, 56, 48, 56]⟩) []) (.ite (.ic .lss (.var 0) (.li .i64 0)) (.rq (.call [] 152 none [(.ar .sub .i64 (.li .i64 0) (.var 0))] tyS []) (.rq (.cond [] (.sok (.ls ⟨#[45]⟩) (.var 1))) (.ret (.scat (.ls ⟨#[45]⟩) (.var 1)) []))) (.rq (.cond [] (.ic .neq (.li .i64 10) (.li .i64 0))) (.ite (.ic .gtr (.var 0) (.li .i64 9)) (.rq (.cond [] (.ic .neq (.li .i64 10) (.li .i64 0))) (.rq (.call [] 152 none [(.ar .quo .i64 (.var 0) (.li .i64 10))] tyS []) (.rq (.cond [] (.sok (.var 1) (.bstr (.put (.nilS 5) (.ag1 (.conv .u8 (.ar .add .i64 (.li .i64 48) (.ar .rem .i64 (.var 0) (.li .i64 10))))))))) (.ret (.scat (.var 1) (.bstr (.put (.nilS 5) (.ag1 (.conv .u8 (.ar .add .i64 (.li .i64 48) (.ar .rem .i64 (.var 0) (.li .i64 10)))))))) [])))) (.ret (.bstr (.put (.nilS 5) (.ag1 (.conv .u8 (.ar .add .i64 (.li .i64 48) (.ar .rem .i64 (.var 0) (.li .i64 10))))))) [])))))
theorem vc_spec_FormatNumber_ok : vcOf Tryz.prog tbl rbt 152 none = vc_spec_FormatNumber := by kernel_rfl
def ty_spec_FormatNumber : List VT := [tyI]
theorem ty_spec_FormatNumber_ok : tyOf Tryz.prog tbl 152 none = ty_spec_FormatNumber := by kernel_rfl
end Go.Proofs.YtbgcaneflfdddaaGreatDoor
