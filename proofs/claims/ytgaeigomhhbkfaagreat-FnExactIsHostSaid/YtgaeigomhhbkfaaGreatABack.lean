/- The head of a loop: the state that holds at each round's beginning. No program in sight. -/
import Derived.Test.YtgaeigomhhbkfaaGreatACode
namespace Go.Proofs.YtgaeigomhhbkfaaGreat
open Go.RowKit
set_option linter.unusedVariables false
set_option linter.unusedSimpArgs false
set_option linter.unusedSectionVars false
variable [GC]

/-- Two lists of values give the same to all expressions that name values below n alone. -/
def Agr (n : Nat) (env env' : List D) : Prop := ∀ e : E, e.bel n = true → e.den env' = e.den env
theorem Agr.of {n : Nat} {env more : List D} (h : n ≤ env.length) : Agr n env (env ++ more) := fun e he => E.den_bel h e he
theorem Agr.symm {n : Nat} {env env' : List D} (h : Agr n env env') : Agr n env' env := fun e he => (h e he).symm
theorem Agr.trans {n : Nat} {env env' env'' : List D} (h : Agr n env env') (h' : Agr n env' env'') : Agr n env env'' := fun e he => (h' e he).trans (h e he)
section
variable {w : World} {M : Addr → Prop} {bm : Nat → Nat} {tm : Nat → Value} {n : Nat} {env env' : List D}
theorem gsH_agr (h : Agr n env env') {gs : Gd} (hb : gdBel n gs = true) : gsH env' gs ↔ gsH env gs := by
  unfold gdBel at hb
  have hb := List.all_eq_true.1 hb
  unfold gsH
  exact ⟨fun q x hx => by rw [← h x.1 (hb x hx)]; exact q x hx, fun q x hx => by rw [h x.1 (hb x hx)]; exact q x hx⟩
theorem relK_agr (h : Agr n env env') {k : K} {e : E} {v : Value} (hb : e.bel n = true) (hr : relK w M tm env k e v) : relK w M tm env' k e v := by
  cases k <;> simp only [relK, h e hb] at * <;> exact hr
theorem relT_agr (h : Agr n env env') {st : ST} {v : Value} (hb : stBel n st = true) (hr : relT w M bm tm env st v) : relT w M bm tm env' st v := by
  cases st with
  | v gs k e =>
    simp only [stBel, Bool.and_eq_true] at hb
    exact ⟨fun hg => relK_agr h hb.2 (hr.1 ((gsH_agr h hb.1).1 hg)), fun hg => hr.2 fun q => hg ((gsH_agr h hb.1).2 q)⟩
  | ptr gs id off =>
    simp only [stBel] at hb
    exact ⟨fun hg => hr.1 ((gsH_agr h hb).1 hg), fun hg => hr.2 fun q => hg ((gsH_agr h hb).2 q)⟩
  | ro gs e off =>
    simp only [stBel, Bool.and_eq_true] at hb
    exact ⟨fun hg => by rw [h e hb.2]; exact hr.1 ((gsH_agr h hb.1).1 hg), fun hg => hr.2 fun q => hg ((gsH_agr h hb.1).2 q)⟩
  | gp gs g x i =>
    simp only [stBel, Bool.and_eq_true] at hb
    exact ⟨fun hg => by rw [h x (by simp [hb]), h i (by simp [hb])]; exact hr.1 ((gsH_agr h (by simp [hb])).1 hg), fun hg => hr.2 fun q => hg ((gsH_agr h (by simp [hb])).2 q)⟩
  | mp gs g n' i off =>
    simp only [stBel, Bool.and_eq_true] at hb
    exact ⟨fun hg => by rw [h i hb.2]; exact hr.1 ((gsH_agr h hb.1).1 hg), fun hg => hr.2 fun q => hg ((gsH_agr h hb.1).2 q)⟩
  | iv gs g gv n' i off l =>
    simp only [stBel, Bool.and_eq_true] at hb
    exact ⟨fun hg => by rw [h i hb.1.2, h l hb.2]; exact hr.1 ((gsH_agr h hb.1.1).1 hg), fun hg => hr.2 fun q => hg ((gsH_agr h hb.1.1).2 q)⟩
  | ip gs g gv n' i off j m o2 =>
    simp only [stBel, Bool.and_eq_true] at hb
    exact ⟨fun hg => by rw [h i hb.1.2, h j hb.2]; exact hr.1 ((gsH_agr h hb.1.1).1 hg), fun hg => hr.2 fun q => hg ((gsH_agr h hb.1.1).2 q)⟩
  | _ => trivial
theorem relCs_agr (h : Agr n env env') : ∀ {cs : List (K × E)} {vs : List Value}, (∀ x ∈ cs, x.2.bel n = true) → relCs w M tm env cs vs → relCs w M tm env' cs vs
  | [], _, _, hr => hr
  | c :: r, vs, hb, ⟨v, q, e, h1, h2⟩ => ⟨v, q, e, relK_agr h (hb c (by simp)) h1, relCs_agr h (fun x hx => hb x (by simp [hx])) h2⟩
theorem BoxOk.agr {c : SC} {id : Nat} {cs : List (K × E)} (h : Agr n c.env env') (hb : ∀ x ∈ cs, x.2.bel n = true) (hr : BoxOk c w M bm tm id cs) : BoxOk { c with env := env' } w M bm tm id cs := by
  obtain ⟨vs, T, h1, h2, h3⟩ := hr
  exact ⟨vs, T, h1, relCs_agr h hb h2, h3⟩
theorem Sim.envTo {c : SC} {F : Nat → Prop} {σ : Nat → ST} {a : Act} (h : Agr n c.env env') (hb : ∀ l, stBel n (σ l) = true) (hs : Sim c F σ bm tm a w) : Sim { c with env := env' } F σ bm tm a w :=
  { hs with
    tmps := fun t => relT_agr h (hb _) (hs.tmps t)
    box := fun id cs hc => (hs.box id cs hc).agr h (by
      have := hb (3 * id + 1)
      rw [hc] at this
      simpa [stBel] using this)
    live := fun g m hm => ⟨(hs.live g m hm).sp, fun e dp he => by
      have hbe : e.bel n = true := by
        have := hb (3 * g + 2)
        rw [hm] at this
        simpa [stBel, he] using this
      show RowsOk w (tm g) m.n _ (e.den env')
      rw [h e hbe]
      exact (hs.live g m hm).bd e dp he, (hs.live g m hm).dp⟩ }
theorem Sg.get_mem : ∀ {σ : Sg} {l : Nat}, σ.get l ≠ .un → ∃ x ∈ σ, x.1 = l
  | [], l, h => absurd rfl h
  | (l', s) :: r, l, h => by
    simp only [Sg.get] at h
    cases e : Nat.beq l' l with
    | true => exact ⟨(l', s), by simp, Nat.eq_of_beq_eq_true e⟩
    | false =>
      rw [e] at h
      obtain ⟨x, hx, hl⟩ := Sg.get_mem (σ := r) h
      exact ⟨x, by simp [hx], hl⟩
theorem all_bel {σ : Sg} (h : σ.all (fun x => stBel n (σ.get x.1)) = true) (l : Nat) : stBel n (σ.get l) = true := by
  by_cases he : σ.get l = .un
  · rw [he]; rfl
  · obtain ⟨x, hx, hl⟩ := Sg.get_mem he
    have := List.all_eq_true.1 h x hx
    rwa [hl] at this
end

theorem kTag_has {n : Nat} {k : K} {g : Nat} (h : kTag n k = true) (hg : k.has g) : g < n := by
  cases k with
  | own g' => have : g = g' := hg; subst this; exact Nat.le_of_ble_eq_true h
  | ag ks =>
    have := List.all_eq_true.1 h _ (show KK.own g ∈ ks from hg)
    exact Nat.le_of_ble_eq_true this
  | _ => exact hg.elim
theorem slotVals_get {tab : Nat → List CT} {Γ : List VT} {σ : Nat → ST} : ∀ {ss : List Slot} {ks : List K} {tys : List VT} {vs : List (K × E)}, slotVals tab Γ σ ss ks tys = some vs → ss.length = vs.length ∧ ks.length = vs.length ∧ tys.length = vs.length ∧
    ∀ (i : Nat) (s : Slot), ss[i]? = some s → ∃ k ty k' e', ks[i]? = some k ∧ tys[i]? = some ty ∧ vs[i]? = some (k', e') ∧ slotGet σ s = some (k', e') ∧ e'.inf tab Γ = some ty ∧ kOk tab σ ty k k' = true
  | [], [], [], vs, h => by simp [slotVals] at h; subst h; exact ⟨rfl, rfl, rfl, fun i s hs => by simp at hs⟩
  | s :: ss, k :: ks, ty :: tys, vs, h => by
    simp only [slotVals] at h
    split at h
    · rename_i k' e' r h1 h2
      cases hc : (decide (e'.inf tab Γ = some ty) && kOk tab σ ty k k') with
      | false => rw [hc] at h; simp at h
      | true =>
        rw [hc] at h
        simp only [cond_true, Option.some.injEq] at h
        subst h
        simp only [Bool.and_eq_true, decide_eq_true_eq] at hc
        obtain ⟨i1, i2, i3, i4⟩ := slotVals_get h2
        refine ⟨by simp [i1], by simp [i2], by simp [i3], fun i s' hs' => ?_⟩
        cases i with
        | zero => simp at hs'; subst hs'; exact ⟨k, ty, k', e', rfl, rfl, rfl, h1, hc.1, hc.2⟩
        | succ i =>
          simp at hs'
          obtain ⟨a, b, c, d, q1, q2, q3, q4⟩ := i4 i s' hs'
          exact ⟨a, b, c, d, by simpa using q1, by simpa using q2, by simpa using q3, q4⟩
    · simp at h
  | [], [], _ :: _, vs, h => by simp [slotVals] at h
  | [], _ :: _, _, vs, h => by simp [slotVals] at h
  | _ :: _, [], _, vs, h => by simp [slotVals] at h
  | _ :: _, _ :: _, [], vs, h => by simp [slotVals] at h
theorem ksOk_get {nt : Nat} : ∀ {ks : List K} {o : Nat}, ksOk nt o ks = true → ∀ {i : Nat} {k : K}, ks[i]? = some k → k = .d ∨ k = .own (nt + (o + i))
  | [], o, h, i, k, hk => by simp at hk
  | .d :: r, o, h, i, k, hk => by
    cases i with
    | zero => simp at hk; exact .inl hk.symm
    | succ i =>
      simp only [ksOk] at h
      simp at hk
      have := ksOk_get h hk
      rwa [show o + 1 + i = o + (i + 1) by omega] at this
  | .own g :: r, o, h, i, k, hk => by
    simp only [ksOk, Bool.and_eq_true] at h
    cases i with
    | zero => simp at hk; subst hk; exact .inr (by rw [Nat.eq_of_beq_eq_true h.1]; simp)
    | succ i =>
      simp at hk
      have := ksOk_get h.2 hk
      rwa [show o + 1 + i = o + (i + 1) by omega] at this
  | .full :: r, o, h, i, k, hk => by simp [ksOk] at h
  | .ag _ :: r, o, h, i, k, hk => by simp [ksOk] at h
theorem usedTags_mem : ∀ {ks : List K} {vs : List (K × E)} {i g' g : Nat} {e : E}, ks[i]? = some (.own g') → vs[i]? = some (.own g, e) → g ∈ usedTags ks vs
  | [], _, i, g', g, e, h, _ => by simp at h
  | _ :: _, [], i, g', g, e, _, h => by simp at h
  | k :: ks, (k', e') :: vs, i, g', g, e, h, h' => by
    cases i with
    | zero => simp at h h'; obtain ⟨rfl, rfl⟩ := h'; subst h; simp [usedTags]
    | succ i =>
      simp at h h'
      have ih := usedTags_mem h h'
      cases k <;> cases k' <;> simp [usedTags, ih]
theorem usedTags_ne : ∀ {ks : List K} {vs : List (K × E)}, nodupB (usedTags ks vs) = true → ∀ {i j g1 g2 g g' : Nat} {e e' : E}, i < j → ks[i]? = some (.own g1) → ks[j]? = some (.own g2) → vs[i]? = some (.own g, e) → vs[j]? = some (.own g', e') → g ≠ g'
  | [], _, _, i, j, _, _, _, _, _, _, _, h, _, _, _ => by simp at h
  | _ :: _, [], _, i, j, _, _, _, _, _, _, _, _, _, h, _ => by simp at h
  | k :: ks, (k', e0) :: vs, hn, i, j, g1, g2, g, g', e, e', hij, h1, h2, h3, h4 => by
    obtain ⟨j, rfl⟩ : ∃ j', j = j' + 1 := ⟨j - 1, by omega⟩
    simp at h2 h4
    cases i with
    | zero =>
      simp at h1 h3
      obtain ⟨rfl, rfl⟩ := h3
      subst h1
      simp only [usedTags, nodupB, Bool.and_eq_true, Bool.not_eq_true', List.contains_eq_mem, decide_eq_false_iff_not] at hn
      have := usedTags_mem h2 h4
      exact fun h => hn.1 (h ▸ this)
    | succ i =>
      simp at h1 h3
      have hn' : nodupB (usedTags ks vs) = true := by
        cases k <;> cases k' <;> simp only [usedTags] at hn <;> first | exact hn | (simp only [nodupB, Bool.and_eq_true] at hn; exact hn.2)
      exact usedTags_ne hn' (show i < j by omega) h1 h2 h3 h4

section
variable {tb : TB} {H : Head} {s : SS} {n nt : Nat} {es : List E} {env0 env' : List D} {c : SC} {bm : Nat → Nat} {tm : Nat → Value} {a : Act} {w : World}
/-- The value in a slot. -/
def slotV (σ : Nat → ST) (bm : Nat → Nat) (tm : Nat → Value) (a : Act) (w : World) : Slot → Value
  | .t t => a.tmps.getD t undef
  | .b id j => (w.cell? ⟨bm id, j, none⟩).getD undef
  | .m g => match σ (3 * g + 2) with | .live ⟨_, some (_, some (gv, _))⟩ => tm gv | _ => undef
theorem leaf_fits {d : D} {v : Value} (h : Leaf d v) : Fits d := R.fits (w := default) (M := fun _ => False) _ _ (h _ _)
theorem fitsL_of : ∀ {l : List D}, (∀ (i : Nat) (d : D), l[i]? = some d → Fits d) → FitsL l
  | [], _ => trivial
  | d :: r, hh => ⟨hh 0 d rfl, fitsL_of fun i d' hd => hh (i + 1) d' (by simpa using hd)⟩
theorem fitsR_of : ∀ {l : List (List D)}, (∀ r ∈ l, FitsL r) → FitsR l
  | [], _ => trivial
  | r :: l, hh => ⟨hh r (by simp), fitsR_of fun x hx => hh x (by simp [hx])⟩
theorem rows_fits {v : Value} {m : Nat} {Q : Nat → Nat → D → Value → Prop} {d : D} (hb : RowsOk w v m Q d) (hQ : ∀ i j d u, Q i j d u → Fits d) : Fits d := by
  obtain ⟨ad, len, cap, rows, h1, h2, h3, h4, h5, h6, h7, h8⟩ := hb
  rw [h2]
  refine ⟨by omega, fitsR_of fun r hr => ?_⟩
  obtain ⟨i, hi, rfl⟩ := List.getElem_of_mem hr
  refine fitsL_of fun j d hj => ?_
  rcases ad with _ | ⟨b, o, s⟩
  · have := h6 rfl; omega
  · obtain ⟨u, _, hl⟩ := (h8 b o s rfl).2 i _ (List.getElem?_eq_getElem hi) j d hj
    exact hQ _ _ _ _ hl
theorem lvq_fits {B n : Nat} {dp : Option (Nat × List Nat)} {i j : Nat} {d : D} {u : Value} (h : LvQ B w tm n dp i j d u) : Fits d := by
  rcases dp with _ | ⟨gv, ms⟩
  · exact leaf_fits h
  · by_cases h0 : ms.getD j 0 = 0
    · exact leaf_fits (h.1 h0)
    · exact rows_fits (h.2 h0).2.2 fun _ _ _ _ h => leaf_fits h
theorem slot_fit {F : Nat → Prop} {σ : Nat → ST} (hs : Sim c F σ bm tm a w) {g : Nat} {k : K} {e : E} (h : slotGet σ (.m g) = some (k, e)) : k = .d ∧ Fits (e.den c.env) := by
  simp only [slotGet] at h
  split at h
  · rename_i n' e' dp hσ
    simp only [Option.some.injEq, Prod.mk.injEq] at h
    obtain ⟨rfl, rfl⟩ := h
    exact ⟨rfl, rows_fits ((hs.live g _ hσ).bd _ _ rfl) fun _ _ _ _ h => lvq_fits h⟩
  · simp at h
/-- Two descriptions of one row of our own, before and behind a turn of the tags and values. -/
structure LvSame (tm tm' : Nat → Value) (env env' : List D) (m m' : LV) : Prop where
  n : m'.n = m.n
  b : (m.body = none ∧ m'.body = none) ∨ ∃ e e' dp dp', m.body = some (e, dp) ∧ m'.body = some (e', dp') ∧ e.den env' = e'.den env ∧ ((dp = none ∧ dp' = none) ∨ ∃ gv gv' ms, dp = some (gv, ms) ∧ dp' = some (gv', ms) ∧ tm' gv = tm gv')
theorem LvSame.deep {tm tm' : Nat → Value} {env env' : List D} {m m' : LV} (h : LvSame tm tm' env env' m m') {e : E} {gv : Nat} {ms : List Nat} (hm : m.body = some (e, some (gv, ms))) : ∃ e' gv', m'.body = some (e', some (gv', ms)) ∧ tm' gv = tm gv' := by
  rcases h.b with ⟨h1, _⟩ | ⟨e1, e2, dp, dp', h1, h2, _, h3⟩
  · rw [hm] at h1; cases h1
  · rw [hm] at h1
    simp only [Option.some.injEq, Prod.mk.injEq] at h1
    rcases h3 with ⟨h4, _⟩ | ⟨g1, g2, ms', h4, h5, h6⟩
    · rw [h4] at h1; cases h1.2
    · rw [h4] at h1
      simp only [Option.some.injEq, Prod.mk.injEq] at h1
      obtain ⟨_, rfl, rfl⟩ := h1
      exact ⟨e2, g2, by rw [h2, h5], h6⟩
theorem LvSame.blk {tm tm' : Nat → Value} {env env' : List D} {m m' : LV} {g b : Nat} (h : LvSame tm tm' env env' m m') (hg : tm' g = tm g) (hb : Blk tm' g m b) : Blk tm g m' b := by
  rcases hb with hb | ⟨e, gv, ms, cells, u, h1, h2, h3, h4⟩
  · rw [hg] at hb; exact .inl hb
  · obtain ⟨e', gv', h5, h6⟩ := h.deep h1
    exact .inr ⟨e', gv', ms, cells, u, h5, by rw [← h6]; exact h2, h3, h4⟩
theorem LvSame.ownA {tm tm' : Nat → Value} {env env' : List D} {m m' : LV} {g : Nat} {p : Addr} (h : LvSame tm tm' env env' m m') (hg : tm' g = tm g) (hb : ownA tm' g m p) : ownA tm g m' p := by
  rcases hb with ⟨b, o, s, len, cap, h1, h2, h3, h4⟩ | ⟨e, gv, ms, cells, u, h1, h2, h3, h4⟩
  · rw [hg] at h1
    refine .inl ⟨b, o, s, len, cap, h1, h2, h3, fun hn => ?_⟩
    rw [h.n]
    refine h4 ?_
    rcases h.b with ⟨h5, _⟩ | ⟨e1, e2, dp, dp', _, h6, _⟩
    · exact h5
    · rw [hn] at h6; cases h6
  · obtain ⟨e', gv', h5, h6⟩ := h.deep h1
    exact .inr ⟨e', gv', ms, cells, u, h5, by rw [← h6]; exact h2, h3, h4⟩
theorem LvSame.live {c : SC} {tm tm' : Nat → Value} {env' : List D} {m m' : LV} {g : Nat} (h : LvSame tm tm' c.env env' m m') (hg : tm' g = tm g) (hl : LiveOk c w tm g m') : LiveOk { c with env := env' } w tm' g m := by
  refine ⟨?_, fun e dp he => ?_, fun e gv ms he => ?_⟩
  · have := hl.sp
    rw [h.n] at this
    rw [hg]; exact this
  · rcases h.b with ⟨h1, _⟩ | ⟨e1, e2, dp1, dp2, h1, h2, h3, h4⟩
    · rw [h1] at he; cases he
    · rw [h1] at he
      simp only [Option.some.injEq, Prod.mk.injEq] at he
      obtain ⟨rfl, rfl⟩ := he
      have := hl.bd e2 dp2 h2
      rw [h.n] at this
      show RowsOk w (tm' g) m.n _ (e1.den env')
      rw [h3, hg]
      refine this.keep (fun _ _ => rfl) fun i j d u hq => ?_
      rcases h4 with ⟨rfl, rfl⟩ | ⟨gv, gv', ms, rfl, rfl, h5⟩
      · exact hq
      · refine ⟨hq.1, fun h0 => ?_⟩
        obtain ⟨⟨cells, h6, h7⟩, h8⟩ := hq.2 h0
        exact ⟨⟨cells, by rw [h5]; exact h6, h7⟩, h8⟩
  · obtain ⟨e', gv', h5, h6⟩ := h.deep he
    obtain ⟨cells, h7, h8, h9, h10⟩ := hl.dp e' gv' ms h5
    exact ⟨cells, by rw [h6]; exact h7, h8, h9, by rw [hg]; exact h10⟩
theorem slot_rel {F : Nat → Prop} {σ : Nat → ST} (hs : Sim c F σ bm tm a w) {sl : Slot} {k : K} {e : E} (hne : ∀ g, sl ≠ .m g) (h : slotGet σ sl = some (k, e)) : relK w (MM c.M0 bm tm σ) tm c.env k e (slotV σ bm tm a w sl) := by
  cases sl with
  | m g => exact absurd rfl (hne g)
  | t t =>
    simp only [slotGet] at h
    split at h
    · rename_i k' e' hσ
      simp only [Option.some.injEq, Prod.mk.injEq] at h
      obtain ⟨rfl, rfl⟩ := h
      have := hs.tmps t
      rw [hσ] at this
      exact this.1 (gsH_nil _)
    · simp at h
  | b id j =>
    simp only [slotGet] at h
    split at h
    · rename_i cs hσ
      obtain ⟨vs, T, hb, hr, _⟩ := hs.box id cs hσ
      obtain ⟨v, hv, hk⟩ := hr.get h
      have : w.cell? ⟨bm id, j, none⟩ = some v := by rw [cell_of_row w _ j _ T _ hb]; simpa using hv
      simp only [slotV, this, Option.getD_some]
      exact hk
    · simp at h
theorem back_sound (hb : back tb.tab n nt H s = some es) (hn : env0.length = n) (hpre : ∃ more, env' = env0 ++ more) (hΓ : EnvTy tb.tab s.Γ env') (hs : Sim { c with env := env' } (below s.nt) s.σ.get bm tm a w) :
    HasTys tb.tab H.tys (es.map (·.den env')) ∧ FitsL (es.map (·.den env')) ∧ es.length = H.slots.length ∧ H.tys.length = H.slots.length ∧ nt + H.slots.length = H.hd.nt ∧ ∃ tm', Sim { c with env := env0 ++ es.map (·.den env') } (below H.hd.nt) H.hd.σ.get bm tm' a w := by
  unfold back at hb
  split at hb
  · rename_i vs hvs
    generalize hC : (nodupB (usedTags H.ks vs) && ksOk nt 0 H.ks && Nat.beq H.hd.nt (nt + H.slots.length) && Nat.ble nt s.nt && Nat.blt 0 nt && H.hd.σ.all (fun x => entryOk tb.tab n nt H s.σ.get (usedTags H.ks vs) x.1 (H.hd.σ.get x.1))) = C at hb
    cases C with
    | false => simp at hb
    | true =>
      simp only [cond_true, Option.some.injEq] at hb
      subst hb
      simp only [Bool.and_eq_true] at hC
      obtain ⟨⟨⟨⟨⟨hnd, hks⟩, hnt⟩, hnts⟩, hpos⟩, hall⟩ := hC
      replace hpos := Nat.le_of_ble_eq_true hpos
      replace hnt := Nat.eq_of_beq_eq_true hnt
      replace hnts := Nat.le_of_ble_eq_true hnts
      obtain ⟨l1, l2, l3, hget⟩ := slotVals_get hvs
      obtain ⟨more, rfl⟩ := hpre
      -- each slot's value
      have hval : ∀ (i : Nat) (sl : Slot), H.slots[i]? = some sl → ∃ k ty k' e', H.ks[i]? = some k ∧ H.tys[i]? = some ty ∧ vs[i]? = some (k', e') ∧ ((∃ g, sl = .m g ∧ k' = .d) ∨ relK w (MM c.M0 bm tm s.σ.get) tm (env0 ++ more) k' e' (slotV s.σ.get bm tm a w sl)) ∧ HasVT tb.tab ty (e'.den (env0 ++ more)) ∧ kOk tb.tab s.σ.get ty k k' = true ∧ Fits (e'.den (env0 ++ more)) ∧ slotGet s.σ.get sl = some (k', e') := fun i sl hi => by
        obtain ⟨k, ty, k', e', q1, q2, q3, q4, q5, q6⟩ := hget i sl hi
        by_cases hm : ∃ g, sl = .m g
        · obtain ⟨g, rfl⟩ := hm
          obtain ⟨z1, z2⟩ := slot_fit hs q4
          exact ⟨k, ty, k', e', q1, q2, q3, .inl ⟨g, rfl, z1⟩, E.inf_ok hΓ e' ty q5, q6, z2, q4⟩
        · have hr := slot_rel hs (fun g h => hm ⟨g, h⟩) q4
          exact ⟨k, ty, k', e', q1, q2, q3, .inr hr, E.inf_ok hΓ e' ty q5, q6, R.fits _ _ hr.rd, q4⟩
      have hentry : ∀ l, H.hd.σ.get l ≠ .un → entryOk tb.tab n nt H s.σ.get (usedTags H.ks vs) l (H.hd.σ.get l) = true := fun l hl => by
        obtain ⟨x, hx, rfl⟩ := Sg.get_mem hl
        exact List.all_eq_true.1 hall x hx
      generalize hys : (vs.map (·.2)).map (·.den (env0 ++ more)) = ys
      have hyl : ys.length = H.slots.length := by rw [← hys]; simp [l1]
      have hyget : ∀ (i : Nat) (k' : K) (e' : E), vs[i]? = some (k', e') → ys[i]? = some (e'.den (env0 ++ more)) := fun i k' e' h => by rw [← hys]; simp [h]
      have hagr : Agr n (env0 ++ more) (env0 ++ ys) := (Agr.of (by omega)).symm.trans (Agr.of (by omega))
      have hslot_lt : ∀ (i : Nat) (sl : Slot), H.slots[i]? = some sl → i < H.slots.length := fun i sl h => (List.getElem?_eq_some_iff.1 h).1
      -- the rights' values
      let tm' : Nat → Value := fun g => if nt ≤ g ∧ g < nt + H.slots.length then ((H.slots[g - nt]?).map (slotV s.σ.get bm tm a w)).getD undef else tm g
      have htm_old : ∀ g, g < nt → tm' g = tm g := fun g hg => if_neg (by omega)
      have htm_new : ∀ (i : Nat) (sl : Slot), H.slots[i]? = some sl → tm' (nt + i) = slotV s.σ.get bm tm a w sl := fun i sl hi => by
        have := hslot_lt i sl hi
        show (if _ then _ else _) = _
        rw [if_pos (by omega), show nt + i - nt = i by omega, hi]; rfl
      -- what a live right at the head is
      have hlive : ∀ g m, H.hd.σ.get (3 * g + 2) = .live m → (g < nt ∧ g ∉ usedTags H.ks vs ∧ (∀ x, men (.live m) x → x < nt + H.slots.length) ∧ ∃ m', s.σ.get (3 * g + 2) = .live m' ∧ LvSame tm tm' (env0 ++ more) (env0 ++ ys) m m') ∨
          (∃ i sl k' e' el, g = nt + i ∧ H.slots[i]? = some sl ∧ H.ks[i]? = some (.own g) ∧ vs[i]? = some (k', e') ∧ m = ⟨(tb.tab el).length, none⟩ ∧ tm' g = slotV s.σ.get bm tm a w sl ∧
          ((k' = .full ∧ ∃ ad, slotV s.σ.get bm tm a w sl = .slice ad 0 0) ∨ (∃ g', k' = .own g' ∧ s.σ.get (3 * g' + 2) = .live m ∧ slotV s.σ.get bm tm a w sl = tm g'))) := by
        intro g m hl
        have he := hentry (3 * g + 2) (by rw [hl]; simp)
        rw [hl] at he
        simp only [entryOk, Bool.and_eq_true, Bool.or_eq_true, show (3 * g + 2) / 3 = g by omega] at he
        obtain ⟨_, he⟩ := he
        rcases he with ⟨⟨⟨h0, h1⟩, h2⟩, h3⟩ | ⟨⟨h2, h3⟩, h1⟩
        · right
          have h1 := Nat.le_of_ble_eq_true h1
          simp only [decide_eq_true_eq] at h2
          split at h3
          · rename_i el hty
            replace h3 := Nat.eq_of_beq_eq_true h3
            have hm : m = ⟨(tb.tab el).length, none⟩ := by
              obtain ⟨mn, mb⟩ := m
              simp only at h3
              cases mb with
              | none => rw [h3]
              | some _ => simp at h0
            have hlt : g - nt < H.ks.length := (List.getElem?_eq_some_iff.1 h2).1
            have hsl : H.slots[g - nt]? = some (H.slots[g - nt]'(by omega)) := List.getElem?_eq_getElem (by omega)
            obtain ⟨k, ty, k', e', q1, q2, q3, q4, q5, q6, _, _⟩ := hval _ _ hsl
            rw [h2] at q1; simp at q1; subst q1
            rw [hty] at q2; simp at q2; subst q2
            have hg : g = nt + (g - nt) := by omega
            refine ⟨g - nt, _, k', e', el, hg, hsl, h2, q3, hm, (by have := htm_new _ _ hsl; rwa [show nt + (g - nt) = g by omega] at this), ?_⟩
            cases k' with
            | d => simp [kOk] at q6
            | ag _ => simp [kOk] at q6
            | full =>
              rcases q4 with ⟨_, _, h⟩ | q4
              · cases h
              · exact .inl ⟨rfl, q4.2⟩
            | own g' =>
              rcases q4 with ⟨_, _, h⟩ | q4
              · cases h
              simp only [kOk, decide_eq_true_eq] at q6
              exact .inr ⟨g', rfl, by rw [q6, hm], q4.2⟩
          · simp at h3
        · left
          refine ⟨Nat.le_of_ble_eq_true h2, by simpa using h3, ?_⟩
          rcases h1 with h1 | h1
          · simp only [plainOk, Bool.and_eq_true, decide_eq_true_eq] at h1
            have hgv : ∀ e gv ms, m.body = some (e, some (gv, ms)) → gv < nt := fun e gv ms he => by
              have := h1.2
              simp only [stTag, he] at this
              exact Nat.le_of_ble_eq_true this
            refine ⟨fun x ⟨e, ms, hx⟩ => by have := hgv e x ms hx; omega, m, h1.1.1, rfl, ?_⟩
            cases hmb : m.body with
            | none => exact .inl ⟨rfl, rfl⟩
            | some ed =>
              obtain ⟨e, dp⟩ := ed
              refine .inr ⟨e, e, dp, dp, rfl, rfl, hagr e ?_, ?_⟩
              · have := h1.1.2
                simpa [stBel, hmb] using this
              · rcases dp with _ | ⟨gv, ms⟩
                · exact .inl ⟨rfl, rfl⟩
                · exact .inr ⟨gv, gv, ms, rfl, rfl, htm_old gv (hgv e gv ms hmb)⟩
          · unfold mOk at h1
            split at h1
            · rename_i v dp n' e2 dp' hmb hσ
              simp only [Bool.and_eq_true, decide_eq_true_eq, show (3 * g + 2) / 3 = g by omega] at h1
              obtain ⟨⟨⟨z1, z2⟩, z3⟩, z4⟩ := h1
              have z1 := Nat.le_of_ble_eq_true z1
              have z3 := Nat.eq_of_beq_eq_true z3
              obtain ⟨k, ty, k', e', q1, q2, q3, q4, q5, q6, _, q8⟩ := hval _ _ z2
              simp only [slotGet, hσ, Option.some.injEq, Prod.mk.injEq] at q8
              obtain ⟨_, rfl⟩ := q8
              have hlt := hslot_lt _ _ z2
              have hgv : ∀ gv ms, dp = some (gv, ms) → gv = nt + (v - n) ∧ ∃ gv', dp' = some (gv', ms) := fun gv ms hd => by
                subst hd
                rcases dp' with _ | ⟨gv', ms'⟩
                · simp [dpOk] at z4
                · simp only [dpOk, Bool.and_eq_true, decide_eq_true_eq] at z4
                  exact ⟨Nat.eq_of_beq_eq_true z4.1, gv', by rw [z4.2]⟩
              refine ⟨fun x ⟨e, ms, hx⟩ => ?_, _, hσ, z3, .inr ⟨_, _, dp, dp', hmb, rfl, ?_, ?_⟩⟩
              · rw [hmb] at hx
                simp only [Option.some.injEq, Prod.mk.injEq] at hx
                have := (hgv x ms hx.2).1
                omega
              · simp only [E.den, List.getD]
                rw [List.getElem?_append_right (by omega), hn, hyget _ _ _ q3]; rfl
              · rcases dp with _ | ⟨gv, ms⟩
                · rcases dp' with _ | ⟨gv', ms'⟩
                  · exact .inl ⟨rfl, rfl⟩
                  · simp [dpOk] at z4
                · obtain ⟨h1, gv', rfl⟩ := hgv gv ms rfl
                  refine .inr ⟨gv, gv', ms, rfl, rfl, ?_⟩
                  rw [h1, htm_new _ _ z2]
                  simp only [slotV, hσ]
            · simp at h1
      -- what a box at the head is
      have hboxs : ∀ id cs, H.hd.σ.get (3 * id + 1) = .box cs → id < nt ∧ ((∃ cs', s.σ.get (3 * id + 1) = .box cs' ∧ cs'.length = cs.length ∧ ∀ j k e, cs[j]? = some (k, e) → ∃ v, e = .var v ∧ n ≤ v ∧ H.slots[v - n]? = some (.b id j) ∧ H.ks[v - n]? = some k) ∨
          (s.σ.get (3 * id + 1) = .box cs ∧ (∀ x ∈ cs, x.2.bel n = true) ∧ ∀ x ∈ cs, kTag nt x.1 = true)) := by
        intro id cs hl
        have he := hentry (3 * id + 1) (by rw [hl]; simp)
        rw [hl] at he
        simp only [entryOk, Bool.and_eq_true, Bool.or_eq_true, show (3 * id + 1) / 3 = id by omega] at he
        obtain ⟨⟨_, h0⟩, he⟩ := he
        refine ⟨Nat.le_of_ble_eq_true h0, ?_⟩
        rcases he with ⟨h1, h2⟩ | h1
        · left
          split at h1
          · rename_i cs' hcs'
            refine ⟨cs', hcs', Nat.eq_of_beq_eq_true h1, fun j k e hj => ?_⟩
            have hz : ((k, e), j) ∈ cs.zipIdx := by
              rw [List.mem_zipIdx_iff_getElem?]; exact hj
            have := List.all_eq_true.1 h2 _ hz
            simp only at this
            split at this
            · rename_i v
              simp only [Bool.and_eq_true, decide_eq_true_eq] at this
              exact ⟨v, rfl, Nat.le_of_ble_eq_true this.1.1, this.1.2, this.2⟩
            · simp at this
          · simp at h1
        · right
          simp only [plainOk, Bool.and_eq_true, decide_eq_true_eq, stBel, stTag, List.all_eq_true] at h1
          exact ⟨h1.1.1, h1.1.2, h1.2⟩
      have hbox_s : ∀ id cs, H.hd.σ.get (3 * id + 1) = .box cs → ∃ cs', s.σ.get (3 * id + 1) = .box cs' := fun id cs h => by
        rcases (hboxs id cs h).2 with ⟨cs', h1, _⟩ | ⟨h1, _⟩
        · exact ⟨cs', h1⟩
        · exact ⟨cs, h1⟩
      have hsub : ∀ p, MM c.M0 bm tm' H.hd.σ.get p → MM c.M0 bm tm s.σ.get p := by
        rintro p (h | ⟨id, cs, h1, h2⟩ | ⟨g, m, h1, h2⟩)
        · exact .inl h
        · obtain ⟨cs', h3⟩ := hbox_s id cs h1
          exact .inr (.inl ⟨id, cs', h3, h2⟩)
        · rcases hlive g m h1 with ⟨q1, _, _, m', q2, q3⟩ | ⟨i, sl, k', e', el, rfl, q1, q2, q3, q4, q5, q6⟩
          · exact .inr (.inr ⟨g, m', q2, q3.ownA (htm_old g q1) h2⟩)
          · subst q4
            have h2 := ownA_none h2
            rw [q5] at h2
            rcases q6 with ⟨_, ad, q7⟩ | ⟨g', _, q7, q8⟩
            · rw [q7] at h2
              obtain ⟨o, s', len', cap', h3, h4⟩ := spare_lt h2
              simp only [Value.slice.injEq] at h3
              omega
            · rw [q8] at h2
              exact .inr (.inr ⟨g', _, q7, ownA_of h2⟩)
      have hkk : Keeps w (MM c.M0 bm tm s.σ.get) w (MM c.M0 bm tm' H.hd.σ.get) := fun p v hp hn => ⟨hp, fun h => hn (hsub p h)⟩
      -- a carried value
      have hcar : ∀ v sl k, (∀ g, sl ≠ Slot.m g) → n ≤ v → H.slots[v - n]? = some sl → H.ks[v - n]? = some k → relK w (MM c.M0 bm tm' H.hd.σ.get) tm' (env0 ++ ys) k (.var v) (slotV s.σ.get bm tm a w sl) := by
        intro v sl k hne hv hsl hk
        obtain ⟨k0, ty, k', e', q1, q2, q3, q4, q5, q6, _, _⟩ := hval _ _ hsl
        rcases q4 with ⟨g, h, _⟩ | q4
        · exact absurd h (hne g)
        rw [hk] at q1; simp at q1; subst q1
        have hd : (E.var v).den (env0 ++ ys) = e'.den (env0 ++ more) := by
          simp only [E.den, List.getD]
          rw [List.getElem?_append_right (by omega), hn, hyget _ _ _ q3]; rfl
        have hr : R w (MM c.M0 bm tm' H.hd.σ.get) ((E.var v).den (env0 ++ ys)) (slotV s.σ.get bm tm a w sl) := by
          rw [hd]; exact R.keep hkk _ _ q4.rd
        rcases ksOk_get hks hk with rfl | rfl
        · exact hr
        · refine ⟨hr, ?_⟩
          rw [show nt + (0 + (v - n)) = nt + (v - n) by omega, htm_new _ _ hsl]
      have hplain : ∀ l st, plainOk n nt s.σ.get l st = true → s.σ.get l = st ∧ stBel n st = true ∧ stTag nt st = true := fun l st h => by
        simp only [plainOk, Bool.and_eq_true, decide_eq_true_eq] at h
        exact ⟨h.1.1, h.1.2, h.2⟩
      have hmen_old : ∀ st, stTag nt st = true → ∀ g, men st g → bm g = bm g ∧ tm' g = tm g := by
        intro st hst g hg
        refine ⟨rfl, htm_old g ?_⟩
        cases st with
        | v gs k e => exact kTag_has (show kTag nt k = true from hst) hg
        | ptr gs id off => simp only [men] at hg; subst hg; simp only [stTag] at hst; exact Nat.le_of_ble_eq_true hst
        | mp gs g' n' i off => simp only [men] at hg; subst hg; simp only [stTag] at hst; exact Nat.le_of_ble_eq_true hst
        | iv gs g' gv n' i off l =>
          simp only [stTag, Bool.and_eq_true] at hst
          rcases hg with rfl | rfl
          · exact Nat.le_of_ble_eq_true hst.1
          · exact Nat.le_of_ble_eq_true hst.2
        | ip gs g' gv n' i off j m o2 =>
          simp only [stTag, Bool.and_eq_true] at hst
          rcases hg with rfl | rfl
          · exact Nat.le_of_ble_eq_true hst.1
          · exact Nat.le_of_ble_eq_true hst.2
        | live m =>
          obtain ⟨e, ms, hx⟩ := hg
          simp only [stTag, hx] at hst
          exact Nat.le_of_ble_eq_true hst
        | box cs =>
          obtain ⟨x, hx, hk⟩ := hg
          simp only [stTag, List.all_eq_true] at hst
          exact kTag_has (hst x hx) hk
        | _ => exact hg.elim
      refine ⟨?_, ?_, by simp [l1], by omega, hnt.symm, tm', ?_⟩
      · have : ∀ (tys : List VT) (vs' : List (K × E)), tys.length = vs'.length → (∀ (i : Nat) (ty : VT) (k' : K) (e' : E), tys[i]? = some ty → vs'[i]? = some (k', e') → HasVT tb.tab ty (e'.den (env0 ++ more))) → HasTys tb.tab tys ((vs'.map (·.2)).map (·.den (env0 ++ more))) := by
          intro tys
          induction tys with
          | nil => intro vs' hl _; cases vs' with | nil => trivial | cons _ _ => simp at hl
          | cons ty tys ih =>
            intro vs' hl hh
            cases vs' with
            | nil => simp at hl
            | cons x r => exact ⟨hh 0 ty x.1 x.2 rfl rfl, ih r (by simpa using hl) fun i t k e h1 h2 => hh (i + 1) t k e (by simpa using h1) (by simpa using h2)⟩
        rw [← hys]
        refine this H.tys vs l3 fun i ty k' e' h1 h2 => ?_
        have hlt : i < H.slots.length := by rw [l1]; exact (List.getElem?_eq_some_iff.1 h2).1
        obtain ⟨k, ty2, k2, e2, q1, q2, q3, q4, q5, q6, q7, _⟩ := hval i _ (List.getElem?_eq_getElem hlt)
        rw [h1] at q2; simp at q2; subst q2
        rw [h2] at q3; simp at q3; obtain ⟨rfl, rfl⟩ := q3
        exact q5
      · have : ∀ (l : List D), (∀ (i : Nat) (d : D), l[i]? = some d → Fits d) → FitsL l := by
          intro l
          induction l with
          | nil => intro _; trivial
          | cons d r ih => intro hh; exact ⟨hh 0 d rfl, ih fun i d' hd => hh (i + 1) d' (by simpa using hd)⟩
        refine this ys fun i d hd => ?_
        have hlt : i < H.slots.length := by rw [← hyl]; exact (List.getElem?_eq_some_iff.1 hd).1
        obtain ⟨k, ty2, k2, e2, q1, q2, q3, q4, q5, q6, q7, _⟩ := hval i _ (List.getElem?_eq_getElem hlt)
        rw [hyget _ _ _ q3] at hd; simp at hd; subst hd
        exact q7
      · have hs' : Sim { c with env := env0 ++ more } (below s.nt) s.σ.get bm tm a w := hs
        refine ⟨hs.fr, hs.hB, hs.m0, fun t => ?_, fun id cs h => ?_, fun g m h => ?_, fun id id' cs cs' h h' => ?_, fun id cs g m b h hg hb => ?_, fun g m g' m' b b' hg hg' hne hb hb' => ?_, fun l g h => ?_, fun id cs h => ?_, fun g m h => ?_, hs.size, hs.defers, fun g hg => ⟨(hs.x0 g hg).1, by unfold below; omega⟩⟩
        · -- slots
          by_cases hu : H.hd.σ.get (3 * t) = .un
          · rw [hu]; trivial
          · have he := hentry _ hu
            generalize hst : H.hd.σ.get (3 * t) = st at he hu
            have pl : plainOk n nt s.σ.get (3 * t) st = true → relT w (MM c.M0 bm tm' H.hd.σ.get) bm tm' (env0 ++ ys) st (a.tmps.getD t undef) := fun hp => by
              obtain ⟨p1, p2, p3⟩ := hplain _ _ hp
              have := hs.tmps t
              rw [p1] at this
              exact relT_agr hagr p2 (this.keep hkk (hmen_old st p3))
            cases st with
            | un => trivial
            | box cs => trivial
            | live m => trivial
            | ptr gs id off => exact pl he
            | ro gs e off => exact pl he
            | gp gs g x i => exact pl he
            | mp gs g n' i off => exact pl he
            | iv gs g gv n' i off l => exact pl he
            | ip gs g gv n' i off j m o2 => exact pl he
            | v gs k e =>
              cases gs with
              | cons _ _ => exact pl he
              | nil =>
                cases e with
                | var v =>
                  simp only [entryOk, Bool.or_eq_true, Bool.and_eq_true, decide_eq_true_eq, show 3 * t / 3 = t by omega] at he
                  rcases he with ⟨⟨⟨h1, _⟩, h2⟩, h3⟩ | hp
                  · exact ⟨fun _ => hcar v (.t t) k (fun _ h => by cases h) (Nat.le_of_ble_eq_true h1) h2 h3, fun hh => absurd (gsH_nil _) hh⟩
                  · exact pl hp
                | _ => exact pl he
        · -- boxes
          rcases (hboxs id cs h).2 with ⟨cs', h1, h2, h3⟩ | ⟨h1, h2, h3⟩
          · obtain ⟨us, T, hb1, hb2, hb3⟩ := hs.box id cs' h1
            refine ⟨us, T, hb1, ?_, hb3⟩
            have hul : us.length = cs.length := by rw [hb2.length, h2]
            have hcell : ∀ j u, us[j]? = some u → w.cell? ⟨bm id, j, none⟩ = some u := fun j u hu => by rw [cell_of_row w _ j _ T _ hb1]; simpa using hu
            have : ∀ (cs0 : List (K × E)) (us0 : List Value) (o : Nat), us0.length = cs0.length → (∀ j x, cs0[j]? = some x → cs[o + j]? = some x) → (∀ j u, us0[j]? = some u → us[o + j]? = some u) → relCs w (MM c.M0 bm tm' H.hd.σ.get) tm' (env0 ++ ys) cs0 us0 := by
              intro cs0
              induction cs0 with
              | nil => intro us0 o hl _ _; exact List.eq_nil_of_length_eq_zero hl
              | cons x r ih =>
                intro us0 o hl hc hu
                cases us0 with
                | nil => simp at hl
                | cons u0 ur =>
                  refine ⟨u0, ur, rfl, ?_, ih ur (o + 1) (by simpa using hl) (fun j x' hx => by have := hc (j + 1) x' (by simpa using hx); rwa [show o + (j + 1) = o + 1 + j by omega] at this) (fun j u' hu' => by have := hu (j + 1) u' (by simpa using hu'); rwa [show o + (j + 1) = o + 1 + j by omega] at this)⟩
                  have hx0 := hc 0 x rfl
                  have hu0 := hu 0 u0 rfl
                  obtain ⟨v, hv, hvn, hvs, hvk⟩ := h3 (o + 0) x.1 x.2 hx0
                  rw [hv]
                  have := hcar v _ x.1 (fun _ h => by cases h) hvn hvs hvk
                  simp only [slotV, hcell _ _ hu0, Option.getD_some] at this
                  exact this
            exact this cs us 0 hul (fun j x hx => by simpa using hx) (fun j u hu => by simpa using hu)
          · refine BoxOk.agr (c := { c with env := env0 ++ more }) hagr h2 ((hs.box id cs h1).keep hkk rfl rfl fun g ⟨x, hx, hk⟩ => ?_)
            exact htm_old g (kTag_has (h3 x hx) hk)
        · rcases hlive g m h with ⟨q1, _, _, m', q2, q3⟩ | ⟨i, sl, k', e', el, rfl, q1, q2, q3, q4, q5, q6⟩
          · exact q3.live (c := { c with env := env0 ++ more }) (htm_old g q1) (hs.live g m' q2)
          · refine ⟨fun b o s' len cap he hl => ?_, (fun e dp he => by rw [q4] at he; cases he), (fun e gv ms he => by rw [q4] at he; cases he)⟩
            rw [q5] at he
            rcases q6 with ⟨_, ad, q7⟩ | ⟨g', _, q7, q8⟩
            · rw [q7] at he; simp only [Value.slice.injEq] at he; omega
            · rw [q8] at he
              exact (hs.live g' m q7).sp b o s' len cap he hl
        · obtain ⟨d, hd⟩ := hbox_s id cs h
          obtain ⟨d', hd'⟩ := hbox_s id' cs' h'
          exact hs.dbb id id' d d' hd hd'
        · obtain ⟨d, hd⟩ := hbox_s id cs h
          rcases hlive g m hg with ⟨q1, _, _, m', q2, q3⟩ | ⟨i, sl, k', e', el, rfl, q1, q2, q3, q4, q5, q6⟩
          · exact hs.dbl id d g m' b hd q2 (q3.blk (htm_old g q1) hb)
          · subst q4
            obtain ⟨o, s', len, cap, he, hl⟩ := Blk_none hb
            rw [q5] at he
            rcases q6 with ⟨_, ad, q7⟩ | ⟨g', _, q7, q8⟩
            · rw [q7] at he; simp only [Value.slice.injEq] at he; omega
            · rw [q8] at he
              exact hs.dbl id d g' _ b hd q7 (.inl ⟨o, s', len, cap, he, hl⟩)
        · -- two rights
          have hone : ∀ g m b, H.hd.σ.get (3 * g + 2) = .live m → Blk tm' g m b → ∃ g0 m0, s.σ.get (3 * g0 + 2) = .live m0 ∧ Blk tm g0 m0 b ∧ ((g < nt ∧ g0 = g ∧ g ∉ usedTags H.ks vs) ∨ (∃ i e', g = nt + i ∧ H.ks[i]? = some (.own g) ∧ vs[i]? = some (.own g0, e'))) := by
            intro g m b hg hb
            rcases hlive g m hg with ⟨q1, q0, _, m', q2, q3⟩ | ⟨i, sl, k', e', el, rfl, q1, q2, q3, q4, q5, q6⟩
            · exact ⟨g, m', q2, q3.blk (htm_old g q1) hb, .inl ⟨q1, rfl, q0⟩⟩
            · subst q4
              obtain ⟨o, s', len, cap, he, hl⟩ := Blk_none hb
              rw [q5] at he
              rcases q6 with ⟨_, ad, q7⟩ | ⟨g', rfl, q7, q8⟩
              · rw [q7] at he; simp only [Value.slice.injEq] at he; omega
              · exact ⟨g', _, q7, .inl ⟨o, s', len, cap, by rw [← q8]; exact he, hl⟩, .inr ⟨i, e', rfl, q2, q3⟩⟩
          obtain ⟨g0, m0, z1, z2, z3⟩ := hone g m b hg hb
          obtain ⟨g1, m1, y1, y2, y3⟩ := hone g' m' b' hg' hb'
          refine hs.dll g0 m0 g1 m1 b b' z1 y1 ?_ z2 y2
          rcases z3 with ⟨z3, rfl, z4⟩ | ⟨i, e1, rfl, z3, z4⟩ <;> rcases y3 with ⟨y3, rfl, y4⟩ | ⟨j, e2, rfl, y3, y4⟩
          · exact hne
          · exact fun h => z4 (h ▸ usedTags_mem y3 y4)
          · exact fun h => y4 (h ▸ usedTags_mem z3 z4)
          · rcases Nat.lt_trichotomy i j with h | h | h
            · exact usedTags_ne hnd h z3 y3 z4 y4
            · subst h; exact absurd rfl hne
            · exact fun e => usedTags_ne hnd h y3 z3 y4 z4 e.symm
        · -- tags
          unfold below
          rw [hnt]
          by_cases hu : H.hd.σ.get l = .un
          · rw [hu] at h; exact h.elim
          · have he := hentry _ hu
            generalize hst : H.hd.σ.get l = st at he hu h
            have pl : plainOk n nt s.σ.get l st = true → g < nt + H.slots.length := fun hp => by
              obtain ⟨p1, p2, p3⟩ := hplain _ _ hp
              rcases Nat.lt_or_ge g nt with hlt | hge
              · omega
              · exfalso
                cases st with
                | v gs k e => have := kTag_has (show kTag nt k = true from p3) h; omega
                | ptr gs id off => simp only [men] at h; subst h; simp only [stTag] at p3; have := Nat.le_of_ble_eq_true p3; omega
                | mp gs g' n' i off => simp only [men] at h; subst h; simp only [stTag] at p3; have := Nat.le_of_ble_eq_true p3; omega
                | iv gs g' gv n' i off l =>
                  simp only [stTag, Bool.and_eq_true] at p3
                  have h1 := Nat.le_of_ble_eq_true p3.1
                  have h2 := Nat.le_of_ble_eq_true p3.2
                  rcases h with rfl | rfl <;> omega
                | ip gs g' gv n' i off j m o2 =>
                  simp only [stTag, Bool.and_eq_true] at p3
                  have h1 := Nat.le_of_ble_eq_true p3.1
                  have h2 := Nat.le_of_ble_eq_true p3.2
                  rcases h with rfl | rfl <;> omega
                | live m =>
                  obtain ⟨e, ms, hx⟩ := h
                  simp only [stTag, hx] at p3
                  have := Nat.le_of_ble_eq_true p3
                  omega
                | box cs =>
                  obtain ⟨x, hx, hk⟩ := h
                  simp only [stTag, List.all_eq_true] at p3
                  have := kTag_has (p3 x hx) hk; omega
                | _ => exact h.elim
            have hown : ∀ (i g' : Nat) (k : K), H.ks[i]? = some k → k.has g' → g' < nt + H.slots.length := fun i g' k hk hg' => by
              have hlt : i < H.slots.length := by rw [l1, ← l2]; exact (List.getElem?_eq_some_iff.1 hk).1
              rcases ksOk_get hks hk with rfl | rfl
              · exact hg'.elim
              · have : g' = nt + (0 + i) := hg'
                omega
            cases st with
            | un => exact h.elim
            | live m =>
              simp only [entryOk, Bool.and_eq_true] at he
              have hl2 : l = 3 * (l / 3) + 2 := by
                have := Nat.eq_of_beq_eq_true he.1
                omega
              rw [hl2] at hst
              rcases hlive (l / 3) m hst with ⟨_, _, q3, _⟩ | ⟨i, sl, _, _, _, _, _, _, _, q4, _⟩
              · exact q3 g h
              · subst q4
                obtain ⟨_, _, h⟩ := h
                cases h
            | ro gs e off => exact h.elim
            | gp gs g x i => exact h.elim
            | ptr gs id off => exact pl he
            | mp gs g' n' i off => exact pl he
            | iv gs g' gv n' i off l => exact pl he
            | ip gs g' gv n' i off j m o2 => exact pl he
            | box cs =>
              simp only [entryOk, Bool.and_eq_true, Bool.or_eq_true] at he
              obtain ⟨_, he⟩ := he
              rcases he with ⟨_, h2⟩ | hp
              · obtain ⟨x, hx, hk⟩ := h
                obtain ⟨j, hj⟩ := List.getElem?_of_mem hx
                have hz : (x, j) ∈ cs.zipIdx := by rw [List.mem_zipIdx_iff_getElem?]; exact hj
                have := List.all_eq_true.1 h2 _ hz
                simp only at this
                split at this
                · rename_i v _
                  simp only [Bool.and_eq_true, decide_eq_true_eq] at this
                  exact hown _ _ _ this.2 hk
                · simp at this
              · exact pl hp
            | v gs k e =>
              cases gs with
              | cons _ _ => exact pl he
              | nil =>
                cases e with
                | var v =>
                  simp only [entryOk, Bool.or_eq_true, Bool.and_eq_true, decide_eq_true_eq] at he
                  rcases he with ⟨⟨⟨h1, _⟩, h2⟩, h3⟩ | hp
                  · exact hown _ _ _ h3 h
                  · exact pl hp
                | _ => exact pl he
        · unfold below
          rw [hnt]
          have := (hboxs id cs h).1
          omega
        · unfold below
          rw [hnt]
          rcases hlive g m h with ⟨q1, _⟩ | ⟨i, sl, _, _, _, rfl, q1, _⟩
          · omega
          · have := hslot_lt i sl q1; omega
  · simp at hb
end
end Go.Proofs.YtgaeigomhhbkfaaGreat
