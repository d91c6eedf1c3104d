/- The head of a loop: the state that holds at each round's beginning. No program in sight. -/
import Derived.Test.YtimickglpboilaaGreatN6
set_option linter.unusedVariables false
set_option linter.unusedSimpArgs false
set_option linter.unusedSectionVars false
namespace Go.Proofs.YtimickglpboilaaGreat
open Go.RowKit
variable [GC]
def Agr (n : Nat) (env env' : List D) : Prop := ∀ e : E, e.bel n = true → e.den env' = e.den env
theorem Agr.of {n : Nat} {env more : List D} (h : n ≤ env.length) : Agr n env (env ++ more) := fun e he => E.den_bel h e he
theorem Agr.symm {n : Nat} {env env' : List D} (h : Agr n env env') : Agr n env' env := fun e he => (h e he).symm
theorem Agr.trans {n : Nat} {env env' env'' : List D} (h : Agr n env env') (h' : Agr n env' env'') : Agr n env env'' := fun e he => (h' e he).trans (h e he)
section
variable {w : World} {M : Addr → Prop} {bm : Nat → Nat} {tm : Nat → Value} {n : Nat} {env env' : List D}
theorem gsH_agr (h : Agr n env env') {gs : Gd} (hb : gdBel n gs = true) : gsH env' gs ↔ gsH env gs := by
 unfold gdBel at hb
 have hb := List.all_eq_true.1 hb
 unfold gsH
 exact ⟨fun q x hx => by rw [← h x.1 (hb x hx)]; exact q x hx, fun q x hx => by rw [h x.1 (hb x hx)]; exact q x hx⟩
theorem relK_agr (h : Agr n env env') {k : K} {e : E} {v : Value} (hb : e.bel n = true) (hr : relK w M tm env k e v) : relK w M tm env' k e v := by
 cases k <;> simp only [relK, h e hb] at * <;> exact hr
theorem relT_agr (h : Agr n env env') {st : ST} {v : Value} (hb : stBel n st = true) (hr : relT w M bm tm env st v) : relT w M bm tm env' st v := by
 cases st with
 | v gs k e =>
  simp only [stBel, Bool.and_eq_true] at hb
  exact ⟨fun hg => relK_agr h hb.2 (hr.1 ((gsH_agr h hb.1).1 hg)), fun hg => hr.2 fun q => hg ((gsH_agr h hb.1).2 q)⟩
 | ptr gs id off =>
  simp only [stBel] at hb
  exact ⟨fun hg => hr.1 ((gsH_agr h hb).1 hg), fun hg => hr.2 fun q => hg ((gsH_agr h hb).2 q)⟩
 | ro gs e off =>
  simp only [stBel, Bool.and_eq_true] at hb
  exact ⟨fun hg => by rw [h e hb.2]; exact hr.1 ((gsH_agr h hb.1).1 hg), fun hg => hr.2 fun q => hg ((gsH_agr h hb.1).2 q)⟩
 | gp gs g x i =>
  simp only [stBel, Bool.and_eq_true] at hb
  exact ⟨fun hg => by rw [h x (by simp [hb]), h i (by simp [hb])]; exact hr.1 ((gsH_agr h (by simp [hb])).1 hg), fun hg => hr.2 fun q => hg ((gsH_agr h (by simp [hb])).2 q)⟩
 | mp gs g n' i off =>
  simp only [stBel, Bool.and_eq_true] at hb
  exact ⟨fun hg => by rw [h i hb.2]; exact hr.1 ((gsH_agr h hb.1).1 hg), fun hg => hr.2 fun q => hg ((gsH_agr h hb.1).2 q)⟩
 | iv gs g gv n' i off l =>
  simp only [stBel, Bool.and_eq_true] at hb
  exact ⟨fun hg => by rw [h i hb.1.2, h l hb.2]; exact hr.1 ((gsH_agr h hb.1.1).1 hg), fun hg => hr.2 fun q => hg ((gsH_agr h hb.1.1).2 q)⟩
 | ip gs g gv n' i off j m o2 =>
  simp only [stBel, Bool.and_eq_true] at hb
  exact ⟨fun hg => by rw [h i hb.1.2, h j hb.2]; exact hr.1 ((gsH_agr h hb.1.1).1 hg), fun hg => hr.2 fun q => hg ((gsH_agr h hb.1.1).2 q)⟩
 | _ => trivial
theorem relCs_agr (h : Agr n env env') : ∀ {cs : List (K × E)} {vs : List Value}, (∀ x ∈ cs, x.2.bel n = true) → relCs w M tm env cs vs → relCs w M tm env' cs vs
 | [], _, _, hr => hr
 | c :: r, vs, hb, ⟨v, q, e, h1, h2⟩ => ⟨v, q, e, relK_agr h (hb c (by simp)) h1, relCs_agr h (fun x hx => hb x (by simp [hx])) h2⟩
theorem BoxOk.agr {c : SC} {id : Nat} {cs : List (K × E)} (h : Agr n c.env env') (hb : ∀ x ∈ cs, x.2.bel n = true) (hr : BoxOk c w M bm tm id cs) : BoxOk { c with env := env' } w M bm tm id cs := by
 obtain ⟨vs, T, h1, h2, h3⟩ := hr
 exact ⟨vs, T, h1, relCs_agr h hb h2, h3⟩
theorem Sim.envTo {c : SC} {F : Nat → Prop} {σ : Nat → ST} {a : Act} (h : Agr n c.env env') (hb : ∀ l, stBel n (σ l) = true) (hs : Sim c F σ bm tm a w) : Sim { c with env := env' } F σ bm tm a w :=
 { hs with
  tmps := fun t => relT_agr h (hb _) (hs.tmps t)
  box := fun id cs hc => (hs.box id cs hc).agr h (by
   have := hb (3 * id + 1)
   rw [hc] at this
   simpa [stBel] using this)
  live := fun g m hm => ⟨(hs.live g m hm).sp, fun e dp he => by
   have hbe : e.bel n = true := by
    have := hb (3 * g + 2)
    rw [hm] at this
    simpa [stBel, he] using this
   show RowsOk w (tm g) m.n _ (e.den env')
   rw [h e hbe]
   exact (hs.live g m hm).bd e dp he, (hs.live g m hm).dp⟩ }
theorem Sg.get_mem : ∀ {σ : Sg} {l : Nat}, σ.get l ≠ .un → ∃ x ∈ σ, x.1 = l
 | [], l, h => absurd rfl h
 | (l', s) :: r, l, h => by
  simp only [Sg.get] at h
  cases e : Nat.beq l' l with
  | true => exact ⟨(l', s), by simp, Nat.eq_of_beq_eq_true e⟩
  | false =>
   rw [e] at h
   obtain ⟨x, hx, hl⟩ := Sg.get_mem (σ := r) h
   exact ⟨x, by simp [hx], hl⟩
theorem all_bel {σ : Sg} (h : σ.all (fun x => stBel n (σ.get x.1)) = true) (l : Nat) : stBel n (σ.get l) = true := by
 by_cases he : σ.get l = .un
 ·rw [he]; rfl
 ·obtain ⟨x, hx, hl⟩ := Sg.get_mem he
  have := List.all_eq_true.1 h x hx
  rwa [hl] at this
end
theorem kTag_has {n : Nat} {k : K} {g : Nat} (h : kTag n k = true) (hg : k.has g) : g < n := by
 cases k with
 | own g' => have : g = g' := hg; subst this; exact Nat.le_of_ble_eq_true h
 | ag ks =>
  have := List.all_eq_true.1 h _ (show KK.own g ∈ ks from hg)
  exact Nat.le_of_ble_eq_true this
 | _ => exact hg.elim
theorem slotVals_get {tab : Nat → List CT} {Γ : List VT} {σ : Nat → ST} : ∀ {ss : List Slot} {ks : List K} {tys : List VT} {vs : List (K × E)}, slotVals tab Γ σ ss ks tys = some vs → ss.length = vs.length ∧ ks.length = vs.length ∧ tys.length = vs.length ∧
  ∀ (i : Nat) (s : Slot), ss[i]? = some s → ∃ k ty k' e', ks[i]? = some k ∧ tys[i]? = some ty ∧ vs[i]? = some (k', e') ∧ slotGet σ s = some (k', e') ∧ e'.inf tab Γ = some ty ∧ kOk tab σ ty k k' = true
 | [], [], [], vs, h => by simp [slotVals] at h; subst h; exact ⟨rfl, rfl, rfl, fun i s hs => by simp at hs⟩
 | s :: ss, k :: ks, ty :: tys, vs, h => by
  simp only [slotVals] at h
  split at h
  ·rename_i k' e' r h1 h2
   cases hc : (decide (e'.inf tab Γ = some ty) && kOk tab σ ty k k') with
   | false => rw [hc] at h; simp at h
   | true =>
    rw [hc] at h
    simp only [cond_true, Option.some.injEq] at h
    subst h
    simp only [Bool.and_eq_true, decide_eq_true_eq] at hc
    obtain ⟨i1, i2, i3, i4⟩ := slotVals_get h2
    refine ⟨by simp [i1], by simp [i2], by simp [i3], fun i s' hs' => ?_⟩
    cases i with
    | zero => simp at hs'; subst hs'; exact ⟨k, ty, k', e', rfl, rfl, rfl, h1, hc.1, hc.2⟩
    | succ i =>
     simp at hs'
     obtain ⟨a, b, c, d, q1, q2, q3, q4⟩ := i4 i s' hs'
     exact ⟨a, b, c, d, by simpa using q1, by simpa using q2, by simpa using q3, q4⟩
  ·simp at h
 | [], [], _ :: _, vs, h => by simp [slotVals] at h
 | [], _ :: _, _, vs, h => by simp [slotVals] at h
 | _ :: _, [], _, vs, h => by simp [slotVals] at h
 | _ :: _, _ :: _, [], vs, h => by simp [slotVals] at h
theorem ksOk_get {nt : Nat} : ∀ {ks : List K} {o : Nat}, ksOk nt o ks = true → ∀ {i : Nat} {k : K}, ks[i]? = some k → k = .d ∨ k = .own (nt + (o + i))
 | [], o, h, i, k, hk => by simp at hk
 | .d :: r, o, h, i, k, hk => by
  cases i with
  | zero => simp at hk; exact .inl hk.symm
  | succ i =>
   simp only [ksOk] at h
   simp at hk
   have := ksOk_get h hk
   rwa [show o + 1 + i = o + (i + 1) by omega] at this
 | .own g :: r, o, h, i, k, hk => by
  simp only [ksOk, Bool.and_eq_true] at h
  cases i with
  | zero => simp at hk; subst hk; exact .inr (by rw [Nat.eq_of_beq_eq_true h.1]; simp)
  | succ i =>
   simp at hk
   have := ksOk_get h.2 hk
   rwa [show o + 1 + i = o + (i + 1) by omega] at this
 | .full :: r, o, h, i, k, hk => by simp [ksOk] at h
 | .ag _ :: r, o, h, i, k, hk => by simp [ksOk] at h
theorem usedTags_mem : ∀ {ks : List K} {vs : List (K × E)} {i g' g : Nat} {e : E}, ks[i]? = some (.own g') → vs[i]? = some (.own g, e) → g ∈ usedTags ks vs
 | [], _, i, g', g, e, h, _ => by simp at h
 | _ :: _, [], i, g', g, e, _, h => by simp at h
 | k :: ks, (k', e') :: vs, i, g', g, e, h, h' => by
  cases i with
  | zero => simp at h h'; obtain ⟨rfl, rfl⟩ := h'; subst h; simp [usedTags]
  | succ i =>
   simp at h h'
   have ih := usedTags_mem h h'
   cases k <;> cases k' <;> simp [usedTags, ih]
theorem usedTags_ne : ∀ {ks : List K} {vs : List (K × E)}, nodupB (usedTags ks vs) = true → ∀ {i j g1 g2 g g' : Nat} {e e' : E}, i < j → ks[i]? = some (.own g1) → ks[j]? = some (.own g2) → vs[i]? = some (.own g, e) → vs[j]? = some (.own g', e') → g ≠ g'
 | [], _, _, i, j, _, _, _, _, _, _, _, h, _, _, _ => by simp at h
 | _ :: _, [], _, i, j, _, _, _, _, _, _, _, _, _, h, _ => by simp at h
 | k :: ks, (k', e0) :: vs, hn, i, j, g1, g2, g, g', e, e', hij, h1, h2, h3, h4 => by
  obtain ⟨j, rfl⟩ : ∃ j', j = j' + 1 := ⟨j - 1, by omega⟩
  simp at h2 h4
  cases i with
  | zero =>
   simp at h1 h3
   obtain ⟨rfl, rfl⟩ := h3
   subst h1
   simp only [usedTags, nodupB, Bool.and_eq_true, Bool.not_eq_true', List.contains_eq_mem, decide_eq_false_iff_not] at hn
   have := usedTags_mem h2 h4
   exact fun h => hn.1 (h ▸ this)
  | succ i =>
   simp at h1 h3
   have hn' : nodupB (usedTags ks vs) = true := by
    cases k <;> cases k' <;> simp only [usedTags] at hn <;> first | exact hn | (simp only [nodupB, Bool.and_eq_true] at hn; exact hn.2)
   exact usedTags_ne hn' (show i < j by omega) h1 h2 h3 h4
section
variable {tb : TB} {H : Head} {s : SS} {n nt : Nat} {es : List E} {env0 env' : List D} {c : SC} {bm : Nat → Nat} {tm : Nat → Value} {a : Act} {w : World}
def slotV (σ : Nat → ST) (bm : Nat → Nat) (tm : Nat → Value) (a : Act) (w : World) : Slot → Value
 | .t t => a.tmps.getD t undef
 | .b id j => (w.cell? ⟨bm id, j, none⟩).getD undef
 | .m g => match σ (3 * g + 2) with | .live ⟨_, some (_, some (gv, _))⟩ => tm gv | _ => undef
theorem leaf_fits {d : D} {v : Value} (h : Leaf d v) : Fits d := R.fits (w := default) (M := fun _ => False) _ _ (h _ _)
theorem fitsL_of : ∀ {l : List D}, (∀ (i : Nat) (d : D), l[i]? = some d → Fits d) → FitsL l
 | [], _ => trivial
 | d :: r, hh => ⟨hh 0 d rfl, fitsL_of fun i d' hd => hh (i + 1) d' (by simpa using hd)⟩
theorem fitsR_of : ∀ {l : List (List D)}, (∀ r ∈ l, FitsL r) → FitsR l
 | [], _ => trivial
 | r :: l, hh => ⟨hh r (by simp), fitsR_of fun x hx => hh x (by simp [hx])⟩
theorem rows_fits {v : Value} {m : Nat} {Q : Nat → Nat → D → Value → Prop} {d : D} (hb : RowsOk w v m Q d) (hQ : ∀ i j d u, Q i j d u → Fits d) : Fits d := by
 obtain ⟨ad, len, cap, rows, h1, h2, h3, h4, h5, h6, h7, h8⟩ := hb
 rw [h2]
 refine ⟨by omega, fitsR_of fun r hr => ?_⟩
 obtain ⟨i, hi, rfl⟩ := List.getElem_of_mem hr
 refine fitsL_of fun j d hj => ?_
 rcases ad with _ | ⟨b, o, s⟩
 ·have := h6 rfl; omega
 ·obtain ⟨u, _, hl⟩ := (h8 b o s rfl).2 i _ (List.getElem?_eq_getElem hi) j d hj
  exact hQ _ _ _ _ hl
theorem lvq_fits {B n : Nat} {dp : Option (Nat × List Nat)} {i j : Nat} {d : D} {u : Value} (h : LvQ B w tm n dp i j d u) : Fits d := by
 rcases dp with _ | ⟨gv, ms⟩
 ·exact leaf_fits h
 ·by_cases h0 : ms.getD j 0 = 0
  ·exact leaf_fits (h.1 h0)
  ·exact rows_fits (h.2 h0).2.2 fun _ _ _ _ h => leaf_fits h
theorem slot_fit {F : Nat → Prop} {σ : Nat → ST} (hs : Sim c F σ bm tm a w) {g : Nat} {k : K} {e : E} (h : slotGet σ (.m g) = some (k, e)) : k = .d ∧ Fits (e.den c.env) := by
 simp only [slotGet] at h
 split at h
 ·rename_i n' e' dp hσ
  simp only [Option.some.injEq, Prod.mk.injEq] at h
  obtain ⟨rfl, rfl⟩ := h
  exact ⟨rfl, rows_fits ((hs.live g _ hσ).bd _ _ rfl) fun _ _ _ _ h => lvq_fits h⟩
 ·simp at h
structure LvSame (tm tm' : Nat → Value) (env env' : List D) (m m' : LV) : Prop where
 n : m'.n = m.n
 b : (m.body = none ∧ m'.body = none) ∨ ∃ e e' dp dp', m.body = some (e, dp) ∧ m'.body = some (e', dp') ∧ e.den env' = e'.den env ∧ ((dp = none ∧ dp' = none) ∨ ∃ gv gv' ms, dp = some (gv, ms) ∧ dp' = some (gv', ms) ∧ tm' gv = tm gv')
theorem LvSame.deep {tm tm' : Nat → Value} {env env' : List D} {m m' : LV} (h : LvSame tm tm' env env' m m') {e : E} {gv : Nat} {ms : List Nat} (hm : m.body = some (e, some (gv, ms))) : ∃ e' gv', m'.body = some (e', some (gv', ms)) ∧ tm' gv = tm gv' := by
 rcases h.b with ⟨h1, _⟩ | ⟨e1, e2, dp, dp', h1, h2, _, h3⟩
 ·rw [hm] at h1; cases h1
 ·rw [hm] at h1
  simp only [Option.some.injEq, Prod.mk.injEq] at h1
  rcases h3 with ⟨h4, _⟩ | ⟨g1, g2, ms', h4, h5, h6⟩
  ·rw [h4] at h1; cases h1.2
  ·rw [h4] at h1
   simp only [Option.some.injEq, Prod.mk.injEq] at h1
   obtain ⟨_, rfl, rfl⟩ := h1
   exact ⟨e2, g2, by rw [h2, h5], h6⟩
theorem LvSame.blk {tm tm' : Nat → Value} {env env' : List D} {m m' : LV} {g b : Nat} (h : LvSame tm tm' env env' m m') (hg : tm' g = tm g) (hb : Blk tm' g m b) : Blk tm g m' b := by
 rcases hb with hb | ⟨e, gv, ms, cells, u, h1, h2, h3, h4⟩
 ·rw [hg] at hb; exact .inl hb
 ·obtain ⟨e', gv', h5, h6⟩ := h.deep h1
  exact .inr ⟨e', gv', ms, cells, u, h5, by rw [← h6]; exact h2, h3, h4⟩
theorem LvSame.ownA {tm tm' : Nat → Value} {env env' : List D} {m m' : LV} {g : Nat} {p : Addr} (h : LvSame tm tm' env env' m m') (hg : tm' g = tm g) (hb : ownA tm' g m p) : ownA tm g m' p := by
 rcases hb with ⟨b, o, s, len, cap, h1, h2, h3, h4⟩ | ⟨e, gv, ms, cells, u, h1, h2, h3, h4⟩
 ·rw [hg] at h1
  refine .inl ⟨b, o, s, len, cap, h1, h2, h3, fun hn => ?_⟩
  rw [h.n]
  refine h4 ?_
  rcases h.b with ⟨h5, _⟩ | ⟨e1, e2, dp, dp', _, h6, _⟩
  ·exact h5
  ·rw [hn] at h6; cases h6
 ·obtain ⟨e', gv', h5, h6⟩ := h.deep h1
  exact .inr ⟨e', gv', ms, cells, u, h5, by rw [← h6]; exact h2, h3, h4⟩
theorem LvSame.live {c : SC} {tm tm' : Nat → Value} {env' : List D} {m m' : LV} {g : Nat} (h : LvSame tm tm' c.env env' m m') (hg : tm' g = tm g) (hl : LiveOk c w tm g m') : LiveOk { c with env := env' } w tm' g m := by
 refine ⟨?_, fun e dp he => ?_, fun e gv ms he => ?_⟩
 ·have := hl.sp
  rw [h.n] at this
  rw [hg]; exact this
 ·rcases h.b with ⟨h1, _⟩ | ⟨e1, e2, dp1, dp2, h1, h2, h3, h4⟩
  ·rw [h1] at he; cases he
  ·rw [h1] at he
   simp only [Option.some.injEq, Prod.mk.injEq] at he
   obtain ⟨rfl, rfl⟩ := he
   have := hl.bd e2 dp2 h2
   rw [h.n] at this
   show RowsOk w (tm' g) m.n _ (e1.den env')
   rw [h3, hg]
   refine this.keep (fun _ _ => rfl) fun i j d u hq => ?_
   rcases h4 with ⟨rfl, rfl⟩ | ⟨gv, gv', ms, rfl, rfl, h5⟩
   ·exact hq
   ·refine ⟨hq.1, fun h0 => ?_⟩
    obtain ⟨⟨cells, h6, h7⟩, h8⟩ := hq.2 h0
    exact ⟨⟨cells, by rw [h5]; exact h6, h7⟩, h8⟩
 ·obtain ⟨e', gv', h5, h6⟩ := h.deep he
  obtain ⟨cells, h7, h8, h9, h10⟩ := hl.dp e' gv' ms h5
  exact ⟨cells, by rw [h6]; exact h7, h8, h9, by rw [hg]; exact h10⟩
theorem slot_rel {F : Nat → Prop} {σ : Nat → ST} (hs : Sim c F σ bm tm a w) {sl : Slot} {k : K} {e : E} (hne : ∀ g, sl ≠ .m g) (h : slotGet σ sl = some (k, e)) : relK w (MM c.M0 bm tm σ) tm c.env k e (slotV σ bm tm a w sl) := by
 cases sl with
 | m g => exact absurd rfl (hne g)
 | t t =>
  simp only [slotGet] at h
  split at h
  ·rename_i k' e' hσ
   simp only [Option.some.injEq, Prod.mk.injEq] at h
   obtain ⟨rfl, rfl⟩ := h
   have := hs.tmps t
   rw [hσ] at this
   exact this.1 (gsH_nil _)
  ·simp at h
 | b id j =>
  simp only [slotGet] at h
  split at h
  ·rename_i cs hσ
   obtain ⟨vs, T, hb, hr, _⟩ := hs.box id cs hσ
   obtain ⟨v, hv, hk⟩ := hr.get h
   have : w.cell? ⟨bm id, j, none⟩ = some v := by rw [cell_of_row w _ j _ T _ hb]; simpa using hv
   simp only [slotV, this, Option.getD_some]
   exact hk
  ·simp at h
theorem back_sound (hb : back tb.tab n nt H s = some es) (hn : env0.length = n) (hpre : ∃ more, env' = env0 ++ more) (hΓ : EnvTy tb.tab s.Γ env') (hs : Sim { c with env := env' } (below s.nt) s.σ.get bm tm a w) :
  HasTys tb.tab H.tys (es.map (·.den env')) ∧ FitsL (es.map (·.den env')) ∧ es.length = H.slots.length ∧ H.tys.length = H.slots.length ∧ nt + H.slots.length = H.hd.nt ∧ ∃ tm', Sim { c with env := env0 ++ es.map (·.den env') } (below H.hd.nt) H.hd.σ.get bm tm' a w := by
 unfold back at hb
 split at hb
 ·rename_i vs hvs
  generalize hC : (nodupB (usedTags H.ks vs) && ksOk nt 0 H.ks && Nat.beq H.hd.nt (nt + H.slots.length) && Nat.ble nt s.nt && Nat.blt 0 nt && H.hd.σ.all (fun x => entryOk tb.tab n nt H s.σ.get (usedTags H.ks vs) x.1 (H.hd.σ.get x.1))) = C at hb
  cases C with
  | false => simp at hb
  | true =>
   simp only [cond_true, Option.some.injEq] at hb
   subst hb
   simp only [Bool.and_eq_true] at hC
   obtain ⟨⟨⟨⟨⟨hnd, hks⟩, hnt⟩, hnts⟩, hpos⟩, hall⟩ := hC
   replace hpos := Nat.le_of_ble_eq_true hpos
   replace hnt := Nat.eq_of_beq_eq_true hnt
   replace hnts := Nat.le_of_ble_eq_true hnts
   obtain ⟨l1, l2, l3, hget⟩ := slotVals_get hvs
   obtain ⟨more, rfl⟩ := hpre
   have hval : ∀ (i : Nat) (sl : Slot), H.slots[i]? = some sl → ∃ k ty k' e', H.ks[i]? = some k ∧ H.tys[i]? = some ty ∧ vs[i]? = some (k', e') ∧ ((∃ g, sl = .m g ∧ k' = .d) ∨ relK w (MM c.M0 bm tm s.σ.get) tm (env0 ++ more) k' e' (slotV s.σ.get bm tm a w sl)) ∧ HasVT tb.tab ty (e'.den (env0 ++ more)) ∧ kOk tb.tab s.σ.get ty k k' = true ∧ Fits (e'.den (env0 ++ more)) ∧ slotGet s.σ.get sl = some (k', e') := fun i sl hi => by
    obtain ⟨k, ty, k', e', q1, q2, q3, q4, q5, q6⟩ := hget i sl hi
    by_cases hm : ∃ g, sl = .m g
    ·obtain ⟨g, rfl⟩ := hm
     obtain ⟨z1, z2⟩ := slot_fit hs q4
     exact ⟨k, ty, k', e', q1, q2, q3, .inl ⟨g, rfl, z1⟩, E.inf_ok hΓ e' ty q5, q6, z2, q4⟩
    ·have hr := slot_rel hs (fun g h => hm ⟨g, h⟩) q4
     exact ⟨k, ty, k', e', q1, q2, q3, .inr hr, E.inf_ok hΓ e' ty q5, q6, R.fits _ _ hr.rd, q4⟩
   have hentry : ∀ l, H.hd.σ.get l ≠ .un → entryOk tb.tab n nt H s.σ.get (usedTags H.ks vs) l (H.hd.σ.get l) = true := fun l hl => by
    obtain ⟨x, hx, rfl⟩ := Sg.get_mem hl
    exact List.all_eq_true.1 hall x hx
   generalize hys : (vs.map (·.2)).map (·.den (env0 ++ more)) = ys
   have hyl : ys.length = H.slots.length := by rw [← hys]; simp [l1]
   have hyget : ∀ (i : Nat) (k' : K) (e' : E), vs[i]? = some (k', e') → ys[i]? = some (e'.den (env0 ++ more)) := fun i k' e' h => by rw [← hys]; simp [h]
   have hagr : Agr n (env0 ++ more) (env0 ++ ys) := (Agr.of (by omega)).symm.trans (Agr.of (by omega))
   have hslot_lt : ∀ (i : Nat) (sl : Slot), H.slots[i]? = some sl → i < H.slots.length := fun i sl h => (List.getElem?_eq_some_iff.1 h).1
   let tm' : Nat → Value := fun g => if nt ≤ g ∧ g < nt + H.slots.length then ((H.slots[g - nt]?).map (slotV s.σ.get bm tm a w)).getD undef else tm g
   have htm_old : ∀ g, g < nt → tm' g = tm g := fun g hg => if_neg (by omega)
   have htm_new : ∀ (i : Nat) (sl : Slot), H.slots[i]? = some sl → tm' (nt + i) = slotV s.σ.get bm tm a w sl := fun i sl hi => by
    have := hslot_lt i sl hi
    show (if _ then _ else _) = _
    rw [if_pos (by omega), show nt + i - nt = i by omega, hi]; rfl
   have hlive : ∀ g m, H.hd.σ.get (3 * g + 2) = .live m → (g < nt ∧ g ∉ usedTags H.ks vs ∧ (∀ x, men (.live m) x → x < nt + H.slots.length) ∧ ∃ m', s.σ.get (3 * g + 2) = .live m' ∧ LvSame tm tm' (env0 ++ more) (env0 ++ ys) m m') ∨
     (∃ i sl k' e' el, g = nt + i ∧ H.slots[i]? = some sl ∧ H.ks[i]? = some (.own g) ∧ vs[i]? = some (k', e') ∧ m = ⟨(tb.tab el).length, none⟩ ∧ tm' g = slotV s.σ.get bm tm a w sl ∧
     ((k' = .full ∧ ∃ ad, slotV s.σ.get bm tm a w sl = .slice ad 0 0) ∨ (∃ g', k' = .own g' ∧ s.σ.get (3 * g' + 2) = .live m ∧ slotV s.σ.get bm tm a w sl = tm g'))) := by
    intro g m hl
    have he := hentry (3 * g + 2) (by rw [hl]; simp)
    rw [hl] at he
    simp only [entryOk, Bool.and_eq_true, Bool.or_eq_true, show (3 * g + 2) / 3 = g by omega] at he
    obtain ⟨_, he⟩ := he
    rcases he with ⟨⟨⟨h0, h1⟩, h2⟩, h3⟩ | ⟨⟨h2, h3⟩, h1⟩
    ·right
     have h1 := Nat.le_of_ble_eq_true h1
     simp only [decide_eq_true_eq] at h2
     split at h3
     ·rename_i el hty
      replace h3 := Nat.eq_of_beq_eq_true h3
      have hm : m = ⟨(tb.tab el).length, none⟩ := by
       obtain ⟨mn, mb⟩ := m
       simp only at h3
       cases mb with
       | none => rw [h3]
       | some _ => simp at h0
      have hlt : g - nt < H.ks.length := (List.getElem?_eq_some_iff.1 h2).1
      have hsl : H.slots[g - nt]? = some (H.slots[g - nt]'(by omega)) := List.getElem?_eq_getElem (by omega)
      obtain ⟨k, ty, k', e', q1, q2, q3, q4, q5, q6, _, _⟩ := hval _ _ hsl
      rw [h2] at q1; simp at q1; subst q1
      rw [hty] at q2; simp at q2; subst q2
      have hg : g = nt + (g - nt) := by omega
      refine ⟨g - nt, _, k', e', el, hg, hsl, h2, q3, hm, (by have := htm_new _ _ hsl; rwa [show nt + (g - nt) = g by omega] at this), ?_⟩
      cases k' with
      | d => simp [kOk] at q6
      | ag _ => simp [kOk] at q6
      | full =>
       rcases q4 with ⟨_, _, h⟩ | q4
       ·cases h
       ·exact .inl ⟨rfl, q4.2⟩
      | own g' =>
       rcases q4 with ⟨_, _, h⟩ | q4
       ·cases h
       simp only [kOk, decide_eq_true_eq] at q6
       exact .inr ⟨g', rfl, by rw [q6, hm], q4.2⟩
     ·simp at h3
    ·left
     refine ⟨Nat.le_of_ble_eq_true h2, by simpa using h3, ?_⟩
     rcases h1 with h1 | h1
     ·simp only [plainOk, Bool.and_eq_true, decide_eq_true_eq] at h1
      have hgv : ∀ e gv ms, m.body = some (e, some (gv, ms)) → gv < nt := fun e gv ms he => by
       have := h1.2
       simp only [stTag, he] at this
       exact Nat.le_of_ble_eq_true this
      refine ⟨fun x ⟨e, ms, hx⟩ => by have := hgv e x ms hx; omega, m, h1.1.1, rfl, ?_⟩
      cases hmb : m.body with
      | none => exact .inl ⟨rfl, rfl⟩
      | some ed =>
       obtain ⟨e, dp⟩ := ed
       refine .inr ⟨e, e, dp, dp, rfl, rfl, hagr e ?_, ?_⟩
       ·have := h1.1.2
        simpa [stBel, hmb] using this
       ·rcases dp with _ | ⟨gv, ms⟩
        ·exact .inl ⟨rfl, rfl⟩
        ·exact .inr ⟨gv, gv, ms, rfl, rfl, htm_old gv (hgv e gv ms hmb)⟩
     ·unfold mOk at h1
      split at h1
      ·rename_i v dp n' e2 dp' hmb hσ
       simp only [Bool.and_eq_true, decide_eq_true_eq, show (3 * g + 2) / 3 = g by omega] at h1
       obtain ⟨⟨⟨z1, z2⟩, z3⟩, z4⟩ := h1
       have z1 := Nat.le_of_ble_eq_true z1
       have z3 := Nat.eq_of_beq_eq_true z3
       obtain ⟨k, ty, k', e', q1, q2, q3, q4, q5, q6, _, q8⟩ := hval _ _ z2
       simp only [slotGet, hσ, Option.some.injEq, Prod.mk.injEq] at q8
       obtain ⟨_, rfl⟩ := q8
       have hlt := hslot_lt _ _ z2
       have hgv : ∀ gv ms, dp = some (gv, ms) → gv = nt + (v - n) ∧ ∃ gv', dp' = some (gv', ms) := fun gv ms hd => by
        subst hd
        rcases dp' with _ | ⟨gv', ms'⟩
        ·simp [dpOk] at z4
        ·simp only [dpOk, Bool.and_eq_true, decide_eq_true_eq] at z4
         exact ⟨Nat.eq_of_beq_eq_true z4.1, gv', by rw [z4.2]⟩
       refine ⟨fun x ⟨e, ms, hx⟩ => ?_, _, hσ, z3, .inr ⟨_, _, dp, dp', hmb, rfl, ?_, ?_⟩⟩
       ·rw [hmb] at hx
        simp only [Option.some.injEq, Prod.mk.injEq] at hx
        have := (hgv x ms hx.2).1
        omega
       ·simp only [E.den, List.getD]
        rw [List.getElem?_append_right (by omega), hn, hyget _ _ _ q3]; rfl
       ·rcases dp with _ | ⟨gv, ms⟩
        ·rcases dp' with _ | ⟨gv', ms'⟩
         ·exact .inl ⟨rfl, rfl⟩
         ·simp [dpOk] at z4
        ·obtain ⟨h1, gv', rfl⟩ := hgv gv ms rfl
         refine .inr ⟨gv, gv', ms, rfl, rfl, ?_⟩
         rw [h1, htm_new _ _ z2]
         simp only [slotV, hσ]
      ·simp at h1
   have hboxs : ∀ id cs, H.hd.σ.get (3 * id + 1) = .box cs → id < nt ∧ ((∃ cs', s.σ.get (3 * id + 1) = .box cs' ∧ cs'.length = cs.length ∧ ∀ j k e, cs[j]? = some (k, e) → ∃ v, e = .var v ∧ n ≤ v ∧ H.slots[v - n]? = some (.b id j) ∧ H.ks[v - n]? = some k) ∨
     (s.σ.get (3 * id + 1) = .box cs ∧ (∀ x ∈ cs, x.2.bel n = true) ∧ ∀ x ∈ cs, kTag nt x.1 = true)) := by
    intro id cs hl
    have he := hentry (3 * id + 1) (by rw [hl]; simp)
    rw [hl] at he
    simp only [entryOk, Bool.and_eq_true, Bool.or_eq_true, show (3 * id + 1) / 3 = id by omega] at he
    obtain ⟨⟨_, h0⟩, he⟩ := he
    refine ⟨Nat.le_of_ble_eq_true h0, ?_⟩
    rcases he with ⟨h1, h2⟩ | h1
    ·left
     split at h1
     ·rename_i cs' hcs'
      refine ⟨cs', hcs', Nat.eq_of_beq_eq_true h1, fun j k e hj => ?_⟩
      have hz : ((k, e), j) ∈ cs.zipIdx := by
       rw [List.mem_zipIdx_iff_getElem?]; exact hj
      have := List.all_eq_true.1 h2 _ hz
      simp only at this
      split at this
      ·rename_i v
       simp only [Bool.and_eq_true, decide_eq_true_eq] at this
       exact ⟨v, rfl, Nat.le_of_ble_eq_true this.1.1, this.1.2, this.2⟩
      ·simp at this
     ·simp at h1
    ·right
     simp only [plainOk, Bool.and_eq_true, decide_eq_true_eq, stBel, stTag, List.all_eq_true] at h1
     exact ⟨h1.1.1, h1.1.2, h1.2⟩
   have hbox_s : ∀ id cs, H.hd.σ.get (3 * id + 1) = .box cs → ∃ cs', s.σ.get (3 * id + 1) = .box cs' := fun id cs h => by
    rcases (hboxs id cs h).2 with ⟨cs', h1, _⟩ | ⟨h1, _⟩
    ·exact ⟨cs', h1⟩
    ·exact ⟨cs, h1⟩
   have hsub : ∀ p, MM c.M0 bm tm' H.hd.σ.get p → MM c.M0 bm tm s.σ.get p := by
    rintro p (h | ⟨id, cs, h1, h2⟩ | ⟨g, m, h1, h2⟩)
    ·exact .inl h
    ·obtain ⟨cs', h3⟩ := hbox_s id cs h1
     exact .inr (.inl ⟨id, cs', h3, h2⟩)
    ·rcases hlive g m h1 with ⟨q1, _, _, m', q2, q3⟩ | ⟨i, sl, k', e', el, rfl, q1, q2, q3, q4, q5, q6⟩
     ·exact .inr (.inr ⟨g, m', q2, q3.ownA (htm_old g q1) h2⟩)
     ·subst q4
      have h2 := ownA_none h2
      rw [q5] at h2
      rcases q6 with ⟨_, ad, q7⟩ | ⟨g', _, q7, q8⟩
      ·rw [q7] at h2
       obtain ⟨o, s', len', cap', h3, h4⟩ := spare_lt h2
       simp only [Value.slice.injEq] at h3
       omega
      ·rw [q8] at h2
       exact .inr (.inr ⟨g', _, q7, ownA_of h2⟩)
   have hkk : Keeps w (MM c.M0 bm tm s.σ.get) w (MM c.M0 bm tm' H.hd.σ.get) := fun p v hp hn => ⟨hp, fun h => hn (hsub p h)⟩
   have hcar : ∀ v sl k, (∀ g, sl ≠ Slot.m g) → n ≤ v → H.slots[v - n]? = some sl → H.ks[v - n]? = some k → relK w (MM c.M0 bm tm' H.hd.σ.get) tm' (env0 ++ ys) k (.var v) (slotV s.σ.get bm tm a w sl) := by
    intro v sl k hne hv hsl hk
    obtain ⟨k0, ty, k', e', q1, q2, q3, q4, q5, q6, _, _⟩ := hval _ _ hsl
    rcases q4 with ⟨g, h, _⟩ | q4
    ·exact absurd h (hne g)
    rw [hk] at q1; simp at q1; subst q1
    have hd : (E.var v).den (env0 ++ ys) = e'.den (env0 ++ more) := by
     simp only [E.den, List.getD]
     rw [List.getElem?_append_right (by omega), hn, hyget _ _ _ q3]; rfl
    have hr : R w (MM c.M0 bm tm' H.hd.σ.get) ((E.var v).den (env0 ++ ys)) (slotV s.σ.get bm tm a w sl) := by
     rw [hd]; exact R.keep hkk _ _ q4.rd
    rcases ksOk_get hks hk with rfl | rfl
    ·exact hr
    ·refine ⟨hr, ?_⟩
     rw [show nt + (0 + (v - n)) = nt + (v - n) by omega, htm_new _ _ hsl]
   have hplain : ∀ l st, plainOk n nt s.σ.get l st = true → s.σ.get l = st ∧ stBel n st = true ∧ stTag nt st = true := fun l st h => by
    simp only [plainOk, Bool.and_eq_true, decide_eq_true_eq] at h
    exact ⟨h.1.1, h.1.2, h.2⟩
   have hmen_old : ∀ st, stTag nt st = true → ∀ g, men st g → bm g = bm g ∧ tm' g = tm g := by
    intro st hst g hg
    refine ⟨rfl, htm_old g ?_⟩
    cases st with
    | v gs k e => exact kTag_has (show kTag nt k = true from hst) hg
    | ptr gs id off => simp only [men] at hg; subst hg; simp only [stTag] at hst; exact Nat.le_of_ble_eq_true hst
    | mp gs g' n' i off => simp only [men] at hg; subst hg; simp only [stTag] at hst; exact Nat.le_of_ble_eq_true hst
    | iv gs g' gv n' i off l =>
     simp only [stTag, Bool.and_eq_true] at hst
     rcases hg with rfl | rfl
     ·exact Nat.le_of_ble_eq_true hst.1
     ·exact Nat.le_of_ble_eq_true hst.2
    | ip gs g' gv n' i off j m o2 =>
     simp only [stTag, Bool.and_eq_true] at hst
     rcases hg with rfl | rfl
     ·exact Nat.le_of_ble_eq_true hst.1
     ·exact Nat.le_of_ble_eq_true hst.2
    | live m =>
     obtain ⟨e, ms, hx⟩ := hg
     simp only [stTag, hx] at hst
     exact Nat.le_of_ble_eq_true hst
    | box cs =>
     obtain ⟨x, hx, hk⟩ := hg
     simp only [stTag, List.all_eq_true] at hst
     exact kTag_has (hst x hx) hk
    | _ => exact hg.elim
   refine ⟨?_, ?_, by simp [l1], by omega, hnt.symm, tm', ?_⟩
   ·have : ∀ (tys : List VT) (vs' : List (K × E)), tys.length = vs'.length → (∀ (i : Nat) (ty : VT) (k' : K) (e' : E), tys[i]? = some ty → vs'[i]? = some (k', e') → HasVT tb.tab ty (e'.den (env0 ++ more))) → HasTys tb.tab tys ((vs'.map (·.2)).map (·.den (env0 ++ more))) := by
     intro tys
     induction tys with
     | nil => intro vs' hl _; cases vs' with | nil => trivial | cons _ _ => simp at hl
     | cons ty tys ih =>
      intro vs' hl hh
      cases vs' with
      | nil => simp at hl
      | cons x r => exact ⟨hh 0 ty x.1 x.2 rfl rfl, ih r (by simpa using hl) fun i t k e h1 h2 => hh (i + 1) t k e (by simpa using h1) (by simpa using h2)⟩
    rw [← hys]
    refine this H.tys vs l3 fun i ty k' e' h1 h2 => ?_
    have hlt : i < H.slots.length := by rw [l1]; exact (List.getElem?_eq_some_iff.1 h2).1
    obtain ⟨k, ty2, k2, e2, q1, q2, q3, q4, q5, q6, q7, _⟩ := hval i _ (List.getElem?_eq_getElem hlt)
    rw [h1] at q2; simp at q2; subst q2
    rw [h2] at q3; simp at q3; obtain ⟨rfl, rfl⟩ := q3
    exact q5
   ·have : ∀ (l : List D), (∀ (i : Nat) (d : D), l[i]? = some d → Fits d) → FitsL l := by
     intro l
     induction l with
     | nil => intro _; trivial
     | cons d r ih => intro hh; exact ⟨hh 0 d rfl, ih fun i d' hd => hh (i + 1) d' (by simpa using hd)⟩
    refine this ys fun i d hd => ?_
    have hlt : i < H.slots.length := by rw [← hyl]; exact (List.getElem?_eq_some_iff.1 hd).1
    obtain ⟨k, ty2, k2, e2, q1, q2, q3, q4, q5, q6, q7, _⟩ := hval i _ (List.getElem?_eq_getElem hlt)
    rw [hyget _ _ _ q3] at hd; simp at hd; subst hd
    exact q7
   ·have hs' : Sim { c with env := env0 ++ more } (below s.nt) s.σ.get bm tm a w := hs
    refine ⟨hs.fr, hs.hB, hs.m0, fun t => ?_, fun id cs h => ?_, fun g m h => ?_, fun id id' cs cs' h h' => ?_, fun id cs g m b h hg hb => ?_, fun g m g' m' b b' hg hg' hne hb hb' => ?_, fun l g h => ?_, fun id cs h => ?_, fun g m h => ?_, hs.size, hs.defers, fun g hg => ⟨(hs.x0 g hg).1, by unfold below; omega⟩⟩
    · -- slots
     by_cases hu : H.hd.σ.get (3 * t) = .un
     ·rw [hu]; trivial
     ·have he := hentry _ hu
      generalize hst : H.hd.σ.get (3 * t) = st at he hu
      have pl : plainOk n nt s.σ.get (3 * t) st = true → relT w (MM c.M0 bm tm' H.hd.σ.get) bm tm' (env0 ++ ys) st (a.tmps.getD t undef) := fun hp => by
       obtain ⟨p1, p2, p3⟩ := hplain _ _ hp
       have := hs.tmps t
       rw [p1] at this
       exact relT_agr hagr p2 (this.keep hkk (hmen_old st p3))
      cases st with
      | un => trivial
      | box cs => trivial
      | live m => trivial
      | ptr gs id off => exact pl he
      | ro gs e off => exact pl he
      | gp gs g x i => exact pl he
      | mp gs g n' i off => exact pl he
      | iv gs g gv n' i off l => exact pl he
      | ip gs g gv n' i off j m o2 => exact pl he
      | v gs k e =>
       cases gs with
       | cons _ _ => exact pl he
       | nil =>
        cases e with
        | var v =>
         simp only [entryOk, Bool.or_eq_true, Bool.and_eq_true, decide_eq_true_eq, show 3 * t / 3 = t by omega] at he
         rcases he with ⟨⟨⟨h1, _⟩, h2⟩, h3⟩ | hp
         ·exact ⟨fun _ => hcar v (.t t) k (fun _ h => by cases h) (Nat.le_of_ble_eq_true h1) h2 h3, fun hh => absurd (gsH_nil _) hh⟩
         ·exact pl hp
        | _ => exact pl he
    · -- boxes
     rcases (hboxs id cs h).2 with ⟨cs', h1, h2, h3⟩ | ⟨h1, h2, h3⟩
     ·obtain ⟨us, T, hb1, hb2, hb3⟩ := hs.box id cs' h1
      refine ⟨us, T, hb1, ?_, hb3⟩
      have hul : us.length = cs.length := by rw [hb2.length, h2]
      have hcell : ∀ j u, us[j]? = some u → w.cell? ⟨bm id, j, none⟩ = some u := fun j u hu => by rw [cell_of_row w _ j _ T _ hb1]; simpa using hu
      have : ∀ (cs0 : List (K × E)) (us0 : List Value) (o : Nat), us0.length = cs0.length → (∀ j x, cs0[j]? = some x → cs[o + j]? = some x) → (∀ j u, us0[j]? = some u → us[o + j]? = some u) → relCs w (MM c.M0 bm tm' H.hd.σ.get) tm' (env0 ++ ys) cs0 us0 := by
       intro cs0
       induction cs0 with
       | nil => intro us0 o hl _ _; exact List.eq_nil_of_length_eq_zero hl
       | cons x r ih =>
        intro us0 o hl hc hu
        cases us0 with
        | nil => simp at hl
        | cons u0 ur =>
         refine ⟨u0, ur, rfl, ?_, ih ur (o + 1) (by simpa using hl) (fun j x' hx => by have := hc (j + 1) x' (by simpa using hx); rwa [show o + (j + 1) = o + 1 + j by omega] at this) (fun j u' hu' => by have := hu (j + 1) u' (by simpa using hu'); rwa [show o + (j + 1) = o + 1 + j by omega] at this)⟩
         have hx0 := hc 0 x rfl
         have hu0 := hu 0 u0 rfl
         obtain ⟨v, hv, hvn, hvs, hvk⟩ := h3 (o + 0) x.1 x.2 hx0
         rw [hv]
         have := hcar v _ x.1 (fun _ h => by cases h) hvn hvs hvk
         simp only [slotV, hcell _ _ hu0, Option.getD_some] at this
         exact this
      exact this cs us 0 hul (fun j x hx => by simpa using hx) (fun j u hu => by simpa using hu)
     ·refine BoxOk.agr (c := { c with env := env0 ++ more }) hagr h2 ((hs.box id cs h1).keep hkk rfl rfl fun g ⟨x, hx, hk⟩ => ?_)
      exact htm_old g (kTag_has (h3 x hx) hk)
    ·rcases hlive g m h with ⟨q1, _, _, m', q2, q3⟩ | ⟨i, sl, k', e', el, rfl, q1, q2, q3, q4, q5, q6⟩
     ·exact q3.live (c := { c with env := env0 ++ more }) (htm_old g q1) (hs.live g m' q2)
     ·refine ⟨fun b o s' len cap he hl => ?_, (fun e dp he => by rw [q4] at he; cases he), (fun e gv ms he => by rw [q4] at he; cases he)⟩
      rw [q5] at he
      rcases q6 with ⟨_, ad, q7⟩ | ⟨g', _, q7, q8⟩
      ·rw [q7] at he; simp only [Value.slice.injEq] at he; omega
      ·rw [q8] at he
       exact (hs.live g' m q7).sp b o s' len cap he hl
    ·obtain ⟨d, hd⟩ := hbox_s id cs h
     obtain ⟨d', hd'⟩ := hbox_s id' cs' h'
     exact hs.dbb id id' d d' hd hd'
    ·obtain ⟨d, hd⟩ := hbox_s id cs h
     rcases hlive g m hg with ⟨q1, _, _, m', q2, q3⟩ | ⟨i, sl, k', e', el, rfl, q1, q2, q3, q4, q5, q6⟩
     ·exact hs.dbl id d g m' b hd q2 (q3.blk (htm_old g q1) hb)
     ·subst q4
      obtain ⟨o, s', len, cap, he, hl⟩ := Blk_none hb
      rw [q5] at he
      rcases q6 with ⟨_, ad, q7⟩ | ⟨g', _, q7, q8⟩
      ·rw [q7] at he; simp only [Value.slice.injEq] at he; omega
      ·rw [q8] at he
       exact hs.dbl id d g' _ b hd q7 (.inl ⟨o, s', len, cap, he, hl⟩)
    · -- two rights
     have hone : ∀ g m b, H.hd.σ.get (3 * g + 2) = .live m → Blk tm' g m b → ∃ g0 m0, s.σ.get (3 * g0 + 2) = .live m0 ∧ Blk tm g0 m0 b ∧ ((g < nt ∧ g0 = g ∧ g ∉ usedTags H.ks vs) ∨ (∃ i e', g = nt + i ∧ H.ks[i]? = some (.own g) ∧ vs[i]? = some (.own g0, e'))) := by
      intro g m b hg hb
      rcases hlive g m hg with ⟨q1, q0, _, m', q2, q3⟩ | ⟨i, sl, k', e', el, rfl, q1, q2, q3, q4, q5, q6⟩
      ·exact ⟨g, m', q2, q3.blk (htm_old g q1) hb, .inl ⟨q1, rfl, q0⟩⟩
      ·subst q4
       obtain ⟨o, s', len, cap, he, hl⟩ := Blk_none hb
       rw [q5] at he
       rcases q6 with ⟨_, ad, q7⟩ | ⟨g', rfl, q7, q8⟩
       ·rw [q7] at he; simp only [Value.slice.injEq] at he; omega
       ·exact ⟨g', _, q7, .inl ⟨o, s', len, cap, by rw [← q8]; exact he, hl⟩, .inr ⟨i, e', rfl, q2, q3⟩⟩
     obtain ⟨g0, m0, z1, z2, z3⟩ := hone g m b hg hb
     obtain ⟨g1, m1, y1, y2, y3⟩ := hone g' m' b' hg' hb'
     refine hs.dll g0 m0 g1 m1 b b' z1 y1 ?_ z2 y2
     rcases z3 with ⟨z3, rfl, z4⟩ | ⟨i, e1, rfl, z3, z4⟩ <;> rcases y3 with ⟨y3, rfl, y4⟩ | ⟨j, e2, rfl, y3, y4⟩
     ·exact hne
     ·exact fun h => z4 (h ▸ usedTags_mem y3 y4)
     ·exact fun h => y4 (h ▸ usedTags_mem z3 z4)
     ·rcases Nat.lt_trichotomy i j with h | h | h
      ·exact usedTags_ne hnd h z3 y3 z4 y4
      ·subst h; exact absurd rfl hne
      ·exact fun e => usedTags_ne hnd h y3 z3 y4 z4 e.symm
    · -- tags
     unfold below
     rw [hnt]
     by_cases hu : H.hd.σ.get l = .un
     ·rw [hu] at h; exact h.elim
     ·have he := hentry _ hu
      generalize hst : H.hd.σ.get l = st at he hu h
      have pl : plainOk n nt s.σ.get l st = true → g < nt + H.slots.length := fun hp => by
       obtain ⟨p1, p2, p3⟩ := hplain _ _ hp
       rcases Nat.lt_or_ge g nt with hlt | hge
       ·omega
       ·exfalso
        cases st with
        | v gs k e => have := kTag_has (show kTag nt k = true from p3) h; omega
        | ptr gs id off => simp only [men] at h; subst h; simp only [stTag] at p3; have := Nat.le_of_ble_eq_true p3; omega
        | mp gs g' n' i off => simp only [men] at h; subst h; simp only [stTag] at p3; have := Nat.le_of_ble_eq_true p3; omega
        | iv gs g' gv n' i off l =>
         simp only [stTag, Bool.and_eq_true] at p3
         have h1 := Nat.le_of_ble_eq_true p3.1
         have h2 := Nat.le_of_ble_eq_true p3.2
         rcases h with rfl | rfl <;> omega
        | ip gs g' gv n' i off j m o2 =>
         simp only [stTag, Bool.and_eq_true] at p3
         have h1 := Nat.le_of_ble_eq_true p3.1
         have h2 := Nat.le_of_ble_eq_true p3.2
         rcases h with rfl | rfl <;> omega
        | live m =>
         obtain ⟨e, ms, hx⟩ := h
         simp only [stTag, hx] at p3
         have := Nat.le_of_ble_eq_true p3
         omega
        | box cs =>
         obtain ⟨x, hx, hk⟩ := h
         simp only [stTag, List.all_eq_true] at p3
         have := kTag_has (p3 x hx) hk; omega
        | _ => exact h.elim
      have hown : ∀ (i g' : Nat) (k : K), H.ks[i]? = some k → k.has g' → g' < nt + H.slots.length := fun i g' k hk hg' => by
       have hlt : i < H.slots.length := by rw [l1, ← l2]; exact (List.getElem?_eq_some_iff.1 hk).1
       rcases ksOk_get hks hk with rfl | rfl
       ·exact hg'.elim
       ·have : g' = nt + (0 + i) := hg'
        omega
      cases st with
      | un => exact h.elim
      | live m =>
       simp only [entryOk, Bool.and_eq_true] at he
       have hl2 : l = 3 * (l / 3) + 2 := by
        have := Nat.eq_of_beq_eq_true he.1
        omega
       rw [hl2] at hst
       rcases hlive (l / 3) m hst with ⟨_, _, q3, _⟩ | ⟨i, sl, _, _, _, _, _, _, _, q4, _⟩
       ·exact q3 g h
       ·subst q4
        obtain ⟨_, _, h⟩ := h
        cases h
      | ro gs e off => exact h.elim
      | gp gs g x i => exact h.elim
      | ptr gs id off => exact pl he
      | mp gs g' n' i off => exact pl he
      | iv gs g' gv n' i off l => exact pl he
      | ip gs g' gv n' i off j m o2 => exact pl he
      | box cs =>
       simp only [entryOk, Bool.and_eq_true, Bool.or_eq_true] at he
       obtain ⟨_, he⟩ := he
       rcases he with ⟨_, h2⟩ | hp
       ·obtain ⟨x, hx, hk⟩ := h
        obtain ⟨j, hj⟩ := List.getElem?_of_mem hx
        have hz : (x, j) ∈ cs.zipIdx := by rw [List.mem_zipIdx_iff_getElem?]; exact hj
        have := List.all_eq_true.1 h2 _ hz
        simp only at this
        split at this
        ·rename_i v _
         simp only [Bool.and_eq_true, decide_eq_true_eq] at this
         exact hown _ _ _ this.2 hk
        ·simp at this
       ·exact pl hp
      | v gs k e =>
       cases gs with
       | cons _ _ => exact pl he
       | nil =>
        cases e with
        | var v =>
         simp only [entryOk, Bool.or_eq_true, Bool.and_eq_true, decide_eq_true_eq] at he
         rcases he with ⟨⟨⟨h1, _⟩, h2⟩, h3⟩ | hp
         ·exact hown _ _ _ h3 h
         ·exact pl hp
        | _ => exact pl he
    ·unfold below
     rw [hnt]
     have := (hboxs id cs h).1
     omega
    ·unfold below
     rw [hnt]
     rcases hlive g m h with ⟨q1, _⟩ | ⟨i, sl, _, _, _, rfl, q1, _⟩
     ·omega
     ·have := hslot_lt i sl q1; omega
 ·simp at hb
end
end Go.Proofs.YtimickglpboilaaGreat
/- What is left to be shown suffices: for code, and for a whole function. No program in sight. -/
namespace Go.Proofs.YtimickglpboilaaGreat
open Go.RowKit
variable [GC]
section
variable {P : Program} {tab : Nat → List CT}
theorem EnvTy.append {Γ Δ : List VT} {env ds : List D} (h : EnvTy tab Γ env) (hl : env.length = Γ.length) (hd : HasTys tab Δ ds) : EnvTy tab (Γ ++ Δ) (env ++ ds) := by
 have key : ∀ (Δ : List VT) (ds : List D), HasTys tab Δ ds → ∀ (i : Nat) (t : VT), Δ[i]? = some t → HasVT tab t (ds.getD i .un) := by
  intro Δ
  induction Δ with
  | nil => intro ds _ i t h; simp at h
  | cons v Δ ih =>
   intro ds hd i t h
   cases ds with
   | nil => exact hd.elim
   | cons d r =>
    cases i with
    | zero => simp at h; subst h; exact hd.1
    | succ i => simp at h; simpa using ih r hd.2 i t h
 intro i t ht
 rw [List.getElem?_append] at ht
 split at ht
 ·rename_i hi
  have := h i t ht
  rwa [List.getD, List.getElem?_append_left (by omega)]
 ·rename_i hi
  have := key Δ ds hd _ t ht
  rw [List.getD, List.getElem?_append_right (by omega), hl]
  exact this
theorem hasTys_length : ∀ {ts : List VT} {ds : List D}, HasTys tab ts ds → ds.length = ts.length
 | [], [], _ => rfl
 | t :: ts, d :: ds, h => by simp [hasTys_length h.2]
 | [], _ :: _, h => h.elim
 | _ :: _, [], h => h.elim
theorem rowTy_tys : ∀ {ts : List CT} {ds : List D}, RowTy tab ts ds → HasTys tab (ts.map fun t => .one (.c t)) ds
 | [], [], _ => trivial
 | t :: ts, d :: ds, h => by simp only [RowTy] at h; exact ⟨h.1, rowTy_tys h.2⟩
 | [], _ :: _, h => by simp [RowTy] at h
 | _ :: _, [], h => by simp [RowTy] at h
theorem rq_den {Q : D → List D → Prop} {L : List (List D → Prop)} : ∀ (rs : List Rq) (k : VC) (env : List D), (∀ r ∈ rs, rqBel env.length r = true) → (rs.length ≤ 1) → (rs.foldr VC.rq k).den P tab env Q L →
  ∃ ds, HasTys tab (rqTys rs) ds ∧ (∀ more, ∀ r ∈ rs, RqH P (env ++ ds ++ more) env.length r) ∧ k.den P tab (env ++ ds) Q L
 | [], k, env, _, _, h => ⟨[], trivial, fun _ r hr => by simp at hr, by simpa using h⟩
 | [.cond gs c], k, env, hb, _, h => by
  have hb := hb (.cond gs c) (by simp)
  simp only [rqBel, Bool.and_eq_true] at hb
  obtain ⟨h1, h2⟩ := h
  refine ⟨[], trivial, fun more r hr => ?_, by simpa using h2⟩
  simp only [List.mem_singleton] at hr; subst hr
  have ha : Agr env.length env (env ++ [] ++ more) := by rw [List.append_nil]; exact Agr.of (Nat.le_refl _)
  intro hg
  rw [ha c hb.2]
  exact h1 ((gsH_agr ha hb.1).1 hg)
 | [.glob g vt ix], k, env, hb, _, h => by
  have hb := hb (.glob g vt ix) (by simp)
  obtain ⟨d, h1, h2, h3, h4⟩ := h
  refine ⟨[d], ⟨h1, trivial⟩, fun more r hr => ?_, h4⟩
  simp only [List.mem_singleton] at hr; subst hr
  have e : (env ++ [d] ++ more).getD env.length .un = d := by simp [List.getD]
  refine ⟨by rw [e]; exact h2, ?_, ?_⟩
  ·cases ix with
   | none => trivial
   | some x =>
    obtain ⟨gs, ei, n⟩ := x
    simp only [rqBel, Bool.and_eq_true] at hb
    have ha : Agr env.length env (env ++ [d] ++ more) := by rw [List.append_assoc]; exact Agr.of (Nat.le_refl _)
    intro hg
    rw [ha ei hb.2]
    exact h3 ((gsH_agr ha hb.1).1 hg)
  ·rw [e]
   unfold AggOk
   split
   ·obtain ⟨l, q1, q2⟩ := hasV1_agg h1
    exact ⟨l, q1, q2.length⟩
   ·trivial
 | [.new f args nb], k, env, hb, _, h => by
  have hb := hb (.new f args nb) (by simp)
  simp only [rqBel] at hb
  obtain ⟨cs, h2, h3, h4⟩ := h
  refine ⟨cs, ?_, fun more r hr => ?_, h4⟩
  ·simp only [rqTys, List.append_nil]
   exact rowTy_tys h2
  ·simp only [List.mem_singleton] at hr; subst hr
   have ha : Agr env.length env (env ++ cs ++ more) := by rw [List.append_assoc]; exact Agr.of (Nat.le_refl _)
   have e1 : args.map (·.den (env ++ cs ++ more)) = args.map (·.den env) := List.map_congr_left fun e he => ha e (List.all_eq_true.1 hb e he)
   have e4 : (List.range nb.length).map (fun j => (env ++ cs ++ more).getD (env.length + j) .un) = cs := by
    have hl := h2.length
    refine List.ext_getElem? fun i => ?_
    simp only [List.getElem?_map]
    by_cases hi : i < nb.length
    ·rw [List.getElem?_range hi]
     simp only [Option.map_some, List.getD]
     rw [List.append_assoc, List.getElem?_append_right (by omega), show env.length + i - env.length = i by omega]
     simp [List.getElem?_append_left (show i < cs.length by omega), List.getElem?_eq_getElem (show i < cs.length by omega)]
    ·rw [List.getElem?_eq_none (by simp; omega), List.getElem?_eq_none (by omega)]; rfl
   show FunN P f _ _
   rw [e1, e4]
   exact h3
 | [.call gs f bx args vt nb], k, env, hb, _, h => by
  have hb := hb (.call gs f bx args vt nb) (by simp)
  simp only [rqBel, Bool.and_eq_true] at hb
  obtain ⟨d, cs, h1, h2, h3, h4⟩ := h
  refine ⟨d :: cs, ?_, fun more r hr => ?_, h4⟩
  ·simp only [rqTys, List.append_nil]
   exact ⟨h1, rowTy_tys h2⟩
  ·simp only [List.mem_singleton] at hr; subst hr
   have ha : Agr env.length env (env ++ d :: cs ++ more) := by rw [List.append_assoc]; exact Agr.of (Nat.le_refl _)
   intro hg
   have hf := h3 ((gsH_agr ha hb.1.1).1 hg)
   have e1 : args.map (·.den (env ++ d :: cs ++ more)) = args.map (·.den env) := List.map_congr_left fun e he => ha e (List.all_eq_true.1 hb.2 e he)
   have e2 : bx.map (·.map (·.den (env ++ d :: cs ++ more))) = bx.map (·.map (·.den env)) := by
    cases bx with
    | none => rfl
    | some l => simp only [Option.map_some]; exact congrArg some (List.map_congr_left fun e he => ha e (List.all_eq_true.1 hb.1.2 e he))
   have e3 : (env ++ d :: cs ++ more).getD env.length .un = d := by simp [List.getD]
   have e4 : (List.range nb.length).map (fun j => (env ++ d :: cs ++ more).getD (env.length + 1 + j) .un) = cs := by
    have hl := h2.length
    refine List.ext_getElem? fun i => ?_
    simp only [List.getElem?_map]
    by_cases hi : i < nb.length
    ·rw [List.getElem?_range hi]
     simp only [Option.map_some, List.getD]
     rw [List.append_assoc, List.getElem?_append_right (by omega), show env.length + 1 + i - env.length = i + 1 by omega]
     simp [List.getElem?_append_left (show i < cs.length by omega), List.getElem?_eq_getElem (show i < cs.length by omega)]
    ·rw [List.getElem?_eq_none (by simp; omega), List.getElem?_eq_none (by omega)]; rfl
   rw [e1, e2, e3, e4]
   exact hf
 | [.callV gs e args vt], k, env, hb, _, h => by
  have hb := hb (.callV gs e args vt) (by simp)
  simp only [rqBel, Bool.and_eq_true] at hb
  obtain ⟨d, h1, h3, h4⟩ := h
  refine ⟨[d], ?_, fun more r hr => ?_, h4⟩
  ·simp only [rqTys]
   exact ⟨h1, trivial⟩
  ·simp only [List.mem_singleton] at hr; subst hr
   have ha : Agr env.length env (env ++ [d] ++ more) := by rw [List.append_assoc]; exact Agr.of (Nat.le_refl _)
   intro hg
   have hf := h3 ((gsH_agr ha hb.1.1).1 hg)
   have e1 : args.map (·.den (env ++ [d] ++ more)) = args.map (·.den env) := List.map_congr_left fun e he => ha e (List.all_eq_true.1 hb.2 e he)
   have e3 : (env ++ [d] ++ more).getD env.length .un = d := by simp [List.getD]
   rw [e1, e3, ha e hb.1.2]
   exact hf
 | [.callR f bx args vt nb rt], k, env, hb, _, h => by
  have hb := hb (.callR f bx args vt nb rt) (by simp)
  simp only [rqBel, Bool.and_eq_true] at hb
  obtain ⟨d, cs, h1, h2, h3, h4⟩ := h
  refine ⟨d :: cs, ?_, fun more r hr => ?_, h4⟩
  ·simp only [rqTys, List.append_nil]
   exact ⟨h1, rowTy_tys h2⟩
  ·simp only [List.mem_singleton] at hr; subst hr
   have ha : Agr env.length env (env ++ d :: cs ++ more) := by rw [List.append_assoc]; exact Agr.of (Nat.le_refl _)
   have hf := h3
   have e1 : args.map (·.den (env ++ d :: cs ++ more)) = args.map (·.den env) := List.map_congr_left fun e he => ha e (List.all_eq_true.1 hb.2 e he)
   have e2 : bx.map (·.map (·.den (env ++ d :: cs ++ more))) = bx.map (·.map (·.den env)) := by
    cases bx with
    | none => rfl
    | some l => simp only [Option.map_some]; exact congrArg some (List.map_congr_left fun e he => ha e (List.all_eq_true.1 hb.1 e he))
   have e3 : (env ++ d :: cs ++ more).getD env.length .un = d := by simp [List.getD]
   have e4 : (List.range nb.length).map (fun j => (env ++ d :: cs ++ more).getD (env.length + 1 + j) .un) = cs := by
    have hl := h2.length
    refine List.ext_getElem? fun i => ?_
    simp only [List.getElem?_map]
    by_cases hi : i < nb.length
    ·rw [List.getElem?_range hi]
     simp only [Option.map_some, List.getD]
     rw [List.append_assoc, List.getElem?_append_right (by omega), show env.length + 1 + i - env.length = i + 1 by omega]
     simp [List.getElem?_append_left (show i < cs.length by omega), List.getElem?_eq_getElem (show i < cs.length by omega)]
    ·rw [List.getElem?_eq_none (by simp; omega), List.getElem?_eq_none (by omega)]; rfl
   refine ⟨by rw [e3]; exact ShapeOk.of h1, ?_⟩
   rw [e1, e2, e3, e4]
   exact hf
 | _ :: _ :: _, _, _, _, hl, _ => by simp at hl
theorem rqs_den {Q : D → List D → Prop} {L : List (List D → Prop)} : ∀ (es : List Eff) (k : VC) (env : List D) (Γ : List VT), EnvTy tab Γ env → env.length = Γ.length → effsBel Γ.length es = true → (∀ e ∈ es, e.rq.length ≤ 1) → (rqs es k).den P tab env Q L →
  ∃ ds, EnvTy tab (Γ ++ es.flatMap fun e => rqTys e.rq) (env ++ ds) ∧ (env ++ ds).length = (Γ ++ es.flatMap fun e => rqTys e.rq).length ∧ (∀ more, RqsH P (env ++ ds ++ more) Γ.length es) ∧ k.den P tab (env ++ ds) Q L
 | [], k, env, Γ, hE, hl, _, _, h => ⟨[], by simpa using hE, by simpa using hl, fun _ => trivial, by simpa [rqs] using h⟩
 | e :: r, k, env, Γ, hE, hl, hb, h1, h => by
  simp only [effsBel, Bool.and_eq_true, List.all_eq_true] at hb
  obtain ⟨ds, d1, d2, d3⟩ := rq_den e.rq (rqs r k) env (by rw [hl]; exact hb.1) (h1 e (by simp)) h
  have hdl := hasTys_length d1
  have hE' := hE.append hl d1
  obtain ⟨ds', q1, q2, q3, q4⟩ := rqs_den r k (env ++ ds) (Γ ++ rqTys e.rq) hE' (by simp [hl, hdl]) (by simpa using hb.2) (fun x hx => h1 x (by simp [hx])) d3
  refine ⟨ds ++ ds', by simpa [List.append_assoc] using q1, by simpa [List.append_assoc] using q2, fun more => ⟨fun x hx => ?_, ?_⟩, by simpa [List.append_assoc] using q4⟩
  ·have := d2 (ds' ++ more) x hx
   rw [hl] at this
   simpa [List.append_assoc] using this
  ·have := q3 more
   simpa [List.append_assoc] using this
end
theorem regRun_tys {cx : Cx} {ops : Array Oper} : ∀ {l : List Oper} {ss : SS} {es : List Eff} {s : SS}, regRun cx ops l ss = some (es, s) → s.Γ = ss.Γ ++ es.flatMap fun e => rqTys e.rq
 | [], ss, es, s, h => by simp [regRun] at h; obtain ⟨rfl, rfl⟩ := h; simp
 | o :: r, ss, es, s, h => by
  simp only [regRun] at h
  split at h
  ·simp at h
  ·split at h
   ·simp at h
   ·rename_i e he es' s' hrec
    simp only [Option.some.injEq, Prod.mk.injEq] at h
    obtain ⟨rfl, rfl⟩ := h
    rw [regRun_tys hrec]
    simp [SS.step]
section
variable {P : Program} {fx : Fx} {c0 : SC}
def Good (c0 : SC) (tab : Nat → List CT) (env : List D) (s : SS) (a : Act) (w : World) : Prop :=
 EnvTy tab s.Γ env ∧ env.length = s.Γ.length ∧ ∃ bm tm, Sim { c0 with env := env } (below s.nt) s.σ.get bm tm a w
def Goes (P : Program) (c0 : SC) (tab : Nat → List CT) (Q : D → List D → Prop) (env : List D) (L : List (List D → Prop)) (k : SS → VC) (a : Act) (w : World) : Prop :=
 ∃ (more : List D) (pre : List (List D → Prop)) (s : SS), Good c0 tab (env ++ more) s a w ∧ (pre ++ L).length = s.lv ∧ (k s).den P tab (env ++ more) Q (pre ++ L)
def Rets (P : Program) (fx : Fx) (c0 : SC) (Q : D → List D → Prop) (a : Act) (w : World) : Prop :=
 ∃ (env : List D) (s : SS) (L : List (List D → Prop)), Good c0 fx.cx.tb.tab env s a w ∧ (retVC fx s).den P fx.cx.tb.tab env Q L
def Post (P : Program) (fx : Fx) (c0 : SC) (Q : D → List D → Prop) (env : List D) (L : List (List D → Prop)) (ex : List (Nat × (SS → VC))) (k : SS → VC) : Exit → Act → World → Prop
 | .normal, a, w => Goes P c0 fx.cx.tb.tab Q env L k a w
 | .exit id, a, w => ∃ k', lookupE id ex = some k' ∧ Goes P c0 fx.cx.tb.tab Q env L k' a w
 | .ret, a, w => Rets P fx c0 Q a w
 | _, _, _ => False
theorem Goes.weaken {Q : D → List D → Prop} {tab : Nat → List CT} {env more : List D} {L pre : List (List D → Prop)} {k : SS → VC} {a : Act} {w : World} (h : Goes P c0 tab Q (env ++ more) (pre ++ L) k a w) : Goes P c0 tab Q env L k a w := by
 obtain ⟨m2, p2, s, h1, h2, h3⟩ := h
 exact ⟨more ++ m2, p2 ++ pre, s, by simpa [List.append_assoc] using h1, by simpa [List.append_assoc] using h2, by simpa [List.append_assoc] using h3⟩
theorem Post.weaken {Q : D → List D → Prop} {env more : List D} {L pre : List (List D → Prop)} {ex : List (Nat × (SS → VC))} {k : SS → VC} {e : Exit} {a : Act} {w : World} (h : Post P fx c0 Q (env ++ more) (pre ++ L) ex k e a w) : Post P fx c0 Q env L ex k e a w := by
 cases e with
 | normal => exact Goes.weaken h
 | exit id => obtain ⟨k', h1, h2⟩ := h; exact ⟨k', h1, h2.weaken⟩
 | ret => exact h
 | _ => exact h
end
theorem spanG_eq : ∀ l : List Oper, (spanG l).1 ++ (spanG l).2 = l
 | [] => rfl
 | o :: r => by
  unfold spanG
  split
  ·simp [spanG_eq r]
  ·rfl
section
variable {P : Program} {c : SC} {F : Nat → Prop} {σ : Nat → ST} {bm : Nat → Nat} {tm : Nat → Value} {a : Act} {w : World} {cx : Cx} {Γ : List VT} {gs : Gd} {ops : Array Oper}
theorem yielded_at {j d : Nat} {v : Bool} (hj : (ops[j]?).bind (·.dst) = some d) (hv : a.tmps.getD d undef = .bool v) : yielded ops a.tmps j = some v := by
 unfold yielded
 rw [hj]
 rw [Array.getD_eq_getD_getElem?] at hv
 cases h2 : a.tmps[d]? with
 | none => rw [h2] at hv; simp [undef] at hv
 | some u => rw [h2] at hv; simp at hv; subst hv; simp [h2]
theorem fOp_sound (hcx : tbOk P cx.tb cx.tb = true) (hnt : c.nt = cx.nt) (hs : Sim c F σ bm tm a w) (hΓ : EnvTy cx.tb.tab Γ c.env) {g i j d : Nat} {v : Bool} (hg : ∀ x, NewT g x → ¬ F x) {o : Oper} (hi : ops[i]? = some o) {eff : Eff} (h : fEff cx ops j d v Γ g o σ = some eff)
  (hj : (ops[j]?).bind (·.dst) = some d) (hv : a.tmps.getD d undef = .bool v)
  (hr : ∀ r ∈ eff.rq, RqH P c.env Γ.length r) {Q : Exit → Act → World → Prop} {K : Act → World → Prop} (hK : ∀ bm' tm' a' w', Sim c (fun x => F x ∨ NewT g x) (updL σ eff.wr) bm' tm' a' w' → K a' w') : wpOp P ops Q i K a w := by
 have plain : opEff cx ops Γ g o σ = some eff → wpOp P ops Q i K a w := fun he => wpOp_sound hcx hnt hs hΓ hg hi he hr hK
 unfold fEff at h
 split at h
 ·rename_i o' ho
  unfold fOp at ho
  split at ho
  ·rename_i i' b hgd
   cases hij : Nat.beq i' j with
   | false => rw [hij] at ho; simp at ho; subst ho; exact plain h
   | true =>
    have : i' = j := Nat.eq_of_beq_eq_true hij
    subst this
    rw [hij] at ho
    simp only [cond_true] at ho
    cases hbv : b == v with
    | false => rw [hbv] at ho; simp at ho
    | true =>
     rw [hbv] at ho
     simp only [cond_true, Option.some.injEq] at ho
     have : b = v := by simpa using hbv
     subst this
     subst ho
     obtain ⟨gs, hgs, hok⟩ := op_sound hcx hnt hs hΓ hg h
     have : gs = [] := by simp [gsOf] at hgs; exact hgs
     subst this
     unfold wpOp
     rw [hi]
     simp only
     rw [if_pos (by simp [Region.wanted, hgd, yielded_at hj hv])]
     exact .inl (hok.1 (gsH_nil _) hr K Q hK)
  ·rename_i hgd
   split at ho
   ·rename_i t x y hop
    cases htd : Nat.beq t d with
    | false => rw [htd] at ho; simp at ho; subst ho; exact plain h
    | true =>
     have : t = d := Nat.eq_of_beq_eq_true htd
     subst this
     rw [htd] at ho
     simp only [cond_true, Option.some.injEq] at ho
     subst ho
     obtain ⟨gs, hgs, hok⟩ := op_sound hcx hnt hs hΓ hg h
     have : gs = [] := by simp [gsOf, hgd] at hgs; exact hgs
     subst this
     unfold wpOp
     rw [hi]
     simp only
     rw [if_pos (by simp [Region.wanted, hgd])]
     refine .inl ?_
     have h1 := hok.1 (gsH_nil _) hr K Q hK
     unfold Oper.wp at h1 ⊢
     have e : (execOp a.eval o).run P w = (execOp a.eval { o with op := .move (bif v then x else y) }).run P w := by
      have : a.eval (.tmp t) = .bool v := hv
      cases v <;> simp [execOp, hop, this, asBool]
     rw [e]
     exact h1
   ·simp only [Option.some.injEq] at ho; subst ho; exact plain h
 ·rename_i ho
  cases hdst : dstOk cx.nt o.dst with
  | false => rw [hdst] at h; simp at h
  | true =>
   rw [hdst] at h
   simp only [cond_true, Option.some.injEq] at h
   subst h
   have hd : ∀ d, o.dst = some d → d < c.nt := fun d he => by rw [he] at hdst; simp only [dstOk] at hdst; rw [hnt]; exact Nat.le_of_ble_eq_true hdst
   unfold fOp at ho
   split at ho
   ·rename_i i' b hgd
    cases hij : Nat.beq i' j with
    | false => rw [hij] at ho; simp at ho
    | true =>
     have : i' = j := Nat.eq_of_beq_eq_true hij
     subst this
     rw [hij] at ho
     simp only [cond_true] at ho
     cases hbv : b == v with
     | true => rw [hbv] at ho; simp at ho
     | false =>
      unfold wpOp
      rw [hi]
      simp only
      rw [if_neg (by simp [Region.wanted, hgd, yielded_at hj hv]; intro e; rw [e] at hbv; simp at hbv)]
      exact hK _ _ _ _ ((hs.putO hd (st := .un) (v := undef) trivial (fun g h => by simp [men] at h)).mono fun x hx => .inl hx)
   ·split at ho
    ·rename_i t x y _; cases hb : Nat.beq t d <;> rw [hb] at ho <;> simp at ho
    ·simp at ho
theorem runF_Γ {j d : Nat} {v : Bool} {e0 : E} : ∀ {l : List Oper} {ss : SS} {es : List Eff} {s : SS}, runF cx ops j d v e0 l ss = some (es, s) → s.Γ = ss.Γ ++ (es.flatMap fun e => rqTys e.rq) ∧ s.lv = ss.lv
 | [], ss, es, s, h => by simp [runF] at h; obtain ⟨rfl, rfl⟩ := h; simp
 | o :: r, ss, es, s, h => by
  simp only [runF] at h
  cases hh : holdsAt ss.σ.get d e0 with
  | false => rw [hh] at h; simp at h
  | true =>
   rw [hh] at h
   simp only [cond_true] at h
   split at h
   ·simp at h
   ·rename_i e he
    split at h
    ·simp at h
    ·rename_i es' s' hrec
     simp only [Option.some.injEq, Prod.mk.injEq] at h
     obtain ⟨rfl, rfl⟩ := h
     obtain ⟨h1, h3⟩ := runF_Γ hrec
     exact ⟨by rw [h1]; simp [SS.step], by rw [h3]; rfl⟩
theorem runF_sound (hcx : tbOk P cx.tb cx.tb = true) (hnt : c.nt = cx.nt) {Q : Exit → Act → World → Prop} {rest : List Nat} {j d : Nat} {v : Bool} {e0 : E} (hj : (ops[j]?).bind (·.dst) = some d) (hv : e0.den c.env = .bool v) : ∀ (l : List Oper) (k : Nat) (ss : SS) (es : List Eff) (s : SS), (∀ i o, l[i]? = some o → ops[k + i]? = some o) → runF cx ops j d v e0 l ss = some (es, s) → EnvTy cx.tb.tab s.Γ c.env → RqsH P c.env ss.Γ.length es →
  (∀ bm' tm' a' w', Sim c (below s.nt) s.σ.get bm' tm' a' w' → wpOps P ops Q rest a' w') → ∀ bm tm a w, Sim c (below ss.nt) ss.σ.get bm tm a w → wpOps P ops Q (List.range' k l.length ++ rest) a w
 | [], k, ss, es, s, hl, h, hΓ, hr, hQ, bm, tm, a, w, hs => by
  simp [runF] at h; obtain ⟨_, rfl⟩ := h
  exact hQ _ _ _ _ hs
 | o :: r, k, ss, es, s, hl, h, hΓ, hr, hQ, bm, tm, a, w, hs => by
  simp only [runF] at h
  cases hh : holdsAt ss.σ.get d e0 with
  | false => rw [hh] at h; simp at h
  | true =>
   rw [hh] at h
   simp only [cond_true] at h
   split at h
   ·simp at h
   ·rename_i e he
    split at h
    ·simp at h
    ·rename_i es' s' hrec
     simp only [Option.some.injEq, Prod.mk.injEq] at h
     obtain ⟨rfl, rfl⟩ := h
     obtain ⟨h1, _⟩ := runF_Γ hrec
     have hΓ' : EnvTy cx.tb.tab ss.Γ c.env := by
      rw [h1] at hΓ
      simp only [SS.step, List.append_assoc] at hΓ
      exact hΓ.firsts
     have hvd : a.tmps.getD d undef = .bool v := by
      have ht := hs.tmps d
      unfold holdsAt at hh
      split at hh
      ·rename_i kk e1 hσ
       have : e1 = e0 := by simpa using hh
       subst this
       rw [hσ] at ht
       have := (ht.1 (gsH_nil _)).rd
       rw [hv] at this
       simpa [R] using this
      ·simp at hh
     simp only [List.length_cons, List.range'_succ, List.cons_append]
     rw [wpOps_cons]
     refine fOp_sound hcx hnt hs hΓ' (g := ss.nt) (fun x hx => by have := hx.1; simp only [below]; omega) (by simpa using hl 0 o (by simp)) he hj hvd hr.1 fun bm' tm' a' w' hS => ?_
     refine runF_sound hcx hnt hj hv r (k + 1) (ss.step e) es' s' (fun i o' ho' => by have := hl (i + 1) o' (by simpa using ho'); simpa [Nat.add_assoc, Nat.add_comm 1 i] using this) hrec hΓ (by
      have := hr.2
      simpa [SS.step] using this) hQ bm' tm' a' w' ?_
     rw [step_get]
     exact hS.mono fun x hx => by simp only [below, SS.step, NewT] at *; omega
theorem seq_part (hcx : tbOk P cx.tb cx.tb = true) (hnt : c.nt = cx.nt) {Q : Exit → Act → World → Prop} {rest : List Nat} : ∀ (l : List Oper) (k : Nat) (ss : SS) (es : List Eff) (s : SS), (∀ i o, l[i]? = some o → ops[k + i]? = some o) → regRun cx ops l ss = some (es, s) → EnvTy cx.tb.tab s.Γ c.env → RqsH P c.env ss.Γ.length es →
  (∀ bm' tm' a' w', Sim c (below s.nt) s.σ.get bm' tm' a' w' → wpOps P ops Q rest a' w') → ∀ bm tm a w, Sim c (below ss.nt) ss.σ.get bm tm a w → wpOps P ops Q (List.range' k l.length ++ rest) a w
 | [], k, ss, es, s, hl, h, hΓ, hr, hQ, bm, tm, a, w, hs => by
  simp [regRun] at h; obtain ⟨_, rfl⟩ := h
  exact hQ _ _ _ _ hs
 | o :: r, k, ss, es, s, hl, h, hΓ, hr, hQ, bm, tm, a, w, hs => by
  simp only [regRun] at h
  split at h
  ·simp at h
  ·rename_i e he
   split at h
   ·simp at h
   ·rename_i es' s' hrec
    simp only [Option.some.injEq, Prod.mk.injEq] at h
    obtain ⟨rfl, rfl⟩ := h
    obtain ⟨Δ, h1, h2, _⟩ := regRun_Γ hrec
    have hΓ' : EnvTy cx.tb.tab ss.Γ c.env := by
     rw [h1] at hΓ
     simp only [SS.step, List.append_assoc] at hΓ
     exact hΓ.firsts
    simp only [List.length_cons, List.range'_succ, List.cons_append]
    rw [wpOps_cons]
    refine wpOp_sound hcx hnt hs hΓ' (g := ss.nt) (fun x hx => by have := hx.1; simp only [below]; omega) (by simpa using hl 0 o (by simp)) he hr.1 fun bm' tm' a' w' hS => ?_
    refine seq_part hcx hnt r (k + 1) (ss.step e) es' s' (fun i o' ho' => by have := hl (i + 1) o' (by simpa using ho'); simpa [Nat.add_assoc, Nat.add_comm 1 i] using this) hrec hΓ (by
     have := hr.2
     simpa [SS.step] using this) hQ bm' tm' a' w' ?_
    rw [step_get]
    exact hS.mono fun x hx => by simp only [below, SS.step, NewT] at *; omega
end
section
variable {P : Program} {c0 : SC} {tab : Nat → List CT}
theorem run_pre {Q : D → List D → Prop} {L : List (List D → Prop)} {ss s : SS} {es : List Eff} {V : VC} {env : List D} (hok : okEs ss es = true) (hE : EnvTy tab ss.Γ env) (hl : env.length = ss.Γ.length) (htys : s.Γ = ss.Γ ++ es.flatMap fun e => rqTys e.rq)
  (h : (rqs es V).den P tab env Q L) :
  ∃ ds, EnvTy tab s.Γ (env ++ ds) ∧ (env ++ ds).length = s.Γ.length ∧ (∀ more, RqsH P (env ++ ds ++ more) ss.Γ.length es) ∧ V.den P tab (env ++ ds) Q L ∧ ∀ F bm tm a w, Sim { c0 with env := env } F ss.σ.get bm tm a w → Sim { c0 with env := env ++ ds } F ss.σ.get bm tm a w := by
 unfold okEs at hok
 simp only [Bool.and_eq_true] at hok
 obtain ⟨⟨hbel, heb⟩, hone⟩ := hok
 obtain ⟨ds, q1, q2, q3, q4⟩ := rqs_den es V env ss.Γ hE hl heb (fun e he => Nat.le_of_ble_eq_true (List.all_eq_true.1 hone e he)) h
 rw [← htys] at q1 q2
 refine ⟨ds, q1, q2, q3, q4, fun F bm tm a w hS => ?_⟩
 simp only [Bool.or_eq_true] at hbel
 rcases hbel with hr | hb
 ·have : ds = [] := by
   have hz : (es.flatMap fun e => rqTys e.rq) = [] := by
    clear q1 q2 q4 htys heb hone hl hE h q3
    induction es with
    | nil => rfl
    | cons e r ih =>
     simp only [isRet, Bool.and_eq_true] at hr
     have h1 : e.rq = [] := by
      have := hr.1
      split at this
      ·assumption
      ·simp at this
     simp [h1, rqTys, ih hr.2]
   rw [htys, hz, List.append_nil] at q2
   simp only [List.length_append] at q2
   exact List.eq_nil_of_length_eq_zero (by omega)
  subst this
  rw [List.append_nil]; exact hS
 ·exact Sim.envTo (c := { c0 with env := env }) (Agr.of (by rw [hl]; exact Nat.le_refl _)) (all_bel hb) hS
theorem regFork_sound {cx : Cx} {ops : Array Oper} (hcx : tbOk P cx.tb cx.tb = true) (hnt : c0.nt = cx.nt) {Q : D → List D → Prop} {L : List (List D → Prop)} {ss : SS} {n id : Nat} {k : SS → VC} {env : List D} {a : Act} {w : World} {Qp : Exit → Act → World → Prop}
  (hG : Good c0 cx.tb.tab env ss a w) (h : (regFork cx ops ss n k).den P cx.tb.tab env Q L)
  (hgo : ∀ ds s a' w', Good c0 cx.tb.tab (env ++ ds) s a' w' → s.lv = ss.lv → (k s).den P cx.tb.tab (env ++ ds) Q L → Qp .normal a' w') : (Code.region id ops false).wp P Qp a w := by
 obtain ⟨hE, hl, bm, tm, hS⟩ := hG
 have hspan := spanG_eq ops.toList
 unfold regFork at h
 split at h
 ·exact h.elim
 rename_i o r hrest
 rw [hrest] at hspan
 split at h
 ·exact h.elim
 rename_i j bj hgd
 split at h
 ·exact h.elim
 rename_i d hj
 split at h
 ·exact h.elim
 rename_i es s hrun
 split at h
 ·rename_i kk e0 hσ
  cases hC : okEs ss es && isC .bool (e0.inf cx.tb.tab s.Γ) && e0.bel s.Γ.length with
  | false => rw [hC] at h; exact h.elim
  | true =>
   rw [hC] at h
   simp only [cond_true] at h
   simp only [Bool.and_eq_true] at hC
   obtain ⟨_, _, _, hlv⟩ := regRun_Γ hrun
   obtain ⟨ds, q1, q2, q3, q4, q5⟩ := run_pre (c0 := c0) hC.1.1 hE hl (regRun_tys hrun) h
   obtain ⟨b, hb⟩ : ∃ b, e0.den (env ++ ds) = .bool b := hasTy_bool (E.inf_ok q1 e0 _ (isC_some hC.1.2))
   have hV : (forkK cx ops j d e0 (o :: r) s n k b).den P cx.tb.tab (env ++ ds) Q L := by
    obtain ⟨h1, h2⟩ := q4
    rw [hb] at h1 h2
    cases b with
    | true => exact h1 rfl
    | false => exact h2 rfl
   unfold forkK at hV
   split at hV
   ·rename_i es2 s2 hrun2
    cases hC2 : okEs s es2 with
    | false => rw [hC2] at hV; exact hV.elim
    | true =>
     rw [hC2] at hV
     simp only [cond_true] at hV
     obtain ⟨hΓ2, hlv2⟩ := runF_Γ hrun2
     obtain ⟨ds2, p1, p2, p3, p4, p5⟩ := run_pre (c0 := c0) hC2 q1 q2 hΓ2 hV
     have hb2 : e0.den (env ++ ds ++ ds2) = .bool b := by
      rw [E.den_bel (by rw [q2]; exact Nat.le_refl _) e0 hC.2]; exact hb
     have hlen : (spanG ops.toList).1.length + (o :: r).length = ops.size := by
      have := congrArg List.length hspan
      simpa using this
     refine wp_region ?_
     rw [List.range_eq_range', ← hlen, ← List.range'_append_1]
     refine seq_part (c := { c0 with env := env ++ ds }) hcx hnt _ 0 ss es s (fun i o' ho' => ?_) hrun q1 (by have := q3 []; rw [List.append_nil] at this; exact this) (fun bm' tm' a' w' hS2 => ?_) bm tm a w (q5 _ _ _ _ _ hS)
     ·have : ops.toList[i]? = some o' := by
       rw [← hspan, List.getElem?_append_left (List.getElem?_eq_some_iff.1 ho').1]
       exact ho'
      simpa using this
     ·rw [← List.append_nil (List.range' _ _)]
      refine runF_sound (c := { c0 with env := env ++ ds ++ ds2 }) hcx hnt hj hb2 _ _ s es2 s2 (fun i o' ho' => ?_) hrun2 p1 (by have := p3 []; rw [List.append_nil] at this; exact this) (fun bm' tm' a' w' hS3 => ?_) bm' tm' a' w' (p5 _ _ _ _ _ hS2)
      ·have h0 : ((spanG ops.toList).1 ++ (o :: r))[(spanG ops.toList).1.length + i]? = some o' := by
        rw [List.getElem?_append_right (by omega), Nat.add_sub_cancel_left]
        exact ho'
       rw [hspan] at h0
       simpa using h0
      ·exact hgo (ds ++ ds2) s2 a' w' ⟨by rw [← List.append_assoc]; exact p1, by rw [← List.append_assoc]; exact p2, bm', tm', by rw [← List.append_assoc]; exact hS3⟩ (by rw [hlv2, hlv]) (by rw [← List.append_assoc]; exact p4)
   ·exact hV.elim
 ·exact h.elim
end
section
variable {P : Program} {fx : Fx} {c0 : SC}
theorem sx_sound (hcx : tbOk P fx.cx.tb fx.cx.tb = true) (hnt : c0.nt = fx.cx.nt) (hm : P.follows .mixedOrders = true) (Q : D → List D → Prop) : ∀ (cd : Code) (ss : SS) (ex : List (Nat × (SS → VC))) (k : SS → VC) (env : List D) (L : List (List D → Prop)) (a : Act) (w : World),
  Good c0 fx.cx.tb.tab env ss a w → L.length = ss.lv → (sx fx cd ss ex k).den P fx.cx.tb.tab env Q L → cd.wp P (Post P fx c0 Q env L ex k) a w := by
 intro cd
 induction cd with
 | skip =>
  intro ss ex k env L a w hG hL h
  exact wp_skip ⟨[], [], ss, by simpa using hG, by simpa using hL, by simpa [sx] using h⟩
 | region id ops draw =>
  intro ss ex k env L a w hG hL h
  simp only [sx] at h
  split at h
  ·rename_i es s hrun
   generalize hC : ((!draw || drawOk ops es ss) && (isRet es || ss.σ.all fun x => stBel ss.Γ.length (ss.σ.get x.1)) && effsBel ss.Γ.length es && oneRq es) = C at h
   cases C with
   | false => exact h.elim
   | true =>
    simp only [cond_true] at h
    simp only [Bool.and_eq_true] at hC
    obtain ⟨⟨⟨hdr, hbel⟩, heb⟩, hone⟩ := hC
    obtain ⟨hE, hl, bm, tm, hS⟩ := hG
    obtain ⟨ds, q1, q2, q3, q4⟩ := rqs_den es (k s) env ss.Γ hE hl heb (fun e he => Nat.le_of_ble_eq_true (List.all_eq_true.1 hone e he)) h
    have htys := regRun_tys hrun
    rw [← htys] at q1 q2
    obtain ⟨_, _, _, hlv⟩ := regRun_Γ hrun
    have hS' : Sim { c0 with env := env ++ ds } (below ss.nt) ss.σ.get bm tm a w := by
     simp only [Bool.or_eq_true] at hbel
     rcases hbel with hr | hb
     ·have : ds = [] := by
       have hz : (es.flatMap fun e => rqTys e.rq) = [] := by
        clear q1 q2 q3 q4 h htys hrun hdr heb hone
        induction es with
        | nil => rfl
        | cons e r ih =>
         simp only [isRet, Bool.and_eq_true] at hr
         have h1 : e.rq = [] := by
          have := hr.1
          split at this
          ·assumption
          ·simp at this
         simp [h1, rqTys, ih hr.2]
       rw [htys, hz, List.append_nil] at q2
       have := q2
       simp only [List.length_append] at this
       exact List.eq_nil_of_length_eq_zero (by omega)
      subst this
      rw [List.append_nil]; exact hS
     ·exact Sim.envTo (c := { c0 with env := env }) (Agr.of (by rw [hl]; exact Nat.le_refl _)) (all_bel hb) hS
    have hq := q3 []
    rw [List.append_nil] at hq
    have hgo : ∀ bm' tm' a' w', Sim { c0 with env := env ++ ds } (below s.nt) s.σ.get bm' tm' a' w' → Post P fx c0 Q env L ex k .normal a' w' := fun bm' tm' a' w' hS2 =>
     ⟨ds, [], s, ⟨q1, q2, bm', tm', hS2⟩, by rw [List.nil_append, hL, hlv], by simpa using q4⟩
    cases draw with
    | false => exact region_seq (c := { c0 with env := env ++ ds }) hcx hnt hrun q1 hq hgo hS'
    | true => exact region_draw (c := { c0 with env := env ++ ds }) hcx hnt hm hrun (by simpa using hdr) q1 hq hgo hS'
  ·cases draw with
   | true => exact h.elim
   | false =>
    simp only [cond_false] at h
    exact regFork_sound hcx hnt hG h fun ds s a' w' hG2 hlv hd => ⟨ds, [], s, hG2, by rw [List.nil_append, hL, hlv], by simpa using hd⟩
 | seq x y ihx ihy =>
  intro ss ex k env L a w hG hL h
  simp only [sx] at h
  refine wp_seq (wp_mono (ihx ss ex _ env L a w hG hL h) fun e a' w' hp => ?_)
  cases e with
  | normal =>
   obtain ⟨more, pre, s, g1, g2, g3⟩ := hp
   exact wp_mono (ihy s ex k (env ++ more) (pre ++ L) a' w' g1 g2 g3) fun e a w hp => hp.weaken
  | _ => exact hp
 | cond x y z ihy ihz =>
  intro ss ex k env L a w hG hL h
  simp only [sx] at h
  split at h
  ·rename_i kk e hx
   generalize hC : isC .bool (e.inf fx.cx.tb.tab ss.Γ) = C at h
   cases C with
   | false => exact h.elim
   | true =>
    simp only [cond_true] at h
    obtain ⟨hE, hl, bm, tm, hS⟩ := hG
    obtain ⟨b, hb, hv⟩ := eval_bool hE (isC_some hC) ((val_rel hS hx).1 (gsH_nil _))
    obtain ⟨h1, h2⟩ := h
    rw [hb] at h1 h2
    refine wp_cond hv ?_
    cases b with
    | true => exact ihy ss ex k env L a w ⟨hE, hl, bm, tm, hS⟩ hL (h1 rfl)
    | false => exact ihz ss ex k env L a w ⟨hE, hl, bm, tm, hS⟩ hL (h2 rfl)
  ·exact h.elim
 | block id b ih =>
  intro ss ex k env L a w hG hL h
  simp only [sx] at h
  refine wp_block (wp_mono (ih ss _ k env L a w hG hL h) fun e a' w' hp => ?_)
  cases e with
  | normal => exact hp
  | exit id' =>
   obtain ⟨k', h1, h2⟩ := hp
   simp only [lookupE] at h1
   simp only [Exit.inBlock]
   by_cases e : id' = id
   ·rw [if_pos e]
    subst e
    have : Nat.beq id' id' = true := by simp
    rw [this] at h1
    simp only [cond_true, Option.some.injEq] at h1
    subst h1; exact h2
   ·rw [if_neg e]
    have : Nat.beq id id' = false := by
     cases hb : Nat.beq id id' with
     | false => rfl
     | true => exact absurd (Nat.eq_of_beq_eq_true hb).symm e
    rw [this] at h1
    exact ⟨k', h1, h2⟩
  | ret => exact hp
  | _ => exact hp
 | exit id =>
  intro ss ex k env L a w hG hL h
  simp only [sx] at h
  refine wp_exit ?_
  split at h
  ·rename_i k' hk
   exact ⟨k', hk, [], [], ss, by simpa using hG, by simpa using hL, by simpa using h⟩
  ·exact h.elim
 | loop b ih =>
  intro ss ex k env L a w hG hL h
  simp only [sx] at h
  generalize mkHead fx.cx.tb.tab b ss = H at h
  split at h
  ·rename_i es hback
   generalize hC : (Nat.beq H.hd.lv (ss.lv + 1) && decide (H.hd.Γ = ss.Γ ++ H.tys) && Nat.beq H.slots.length H.tys.length) = C at h
   cases C with
   | false => exact h.elim
   | true =>
    simp only [cond_true] at h
    simp only [Bool.and_eq_true, decide_eq_true_eq] at hC
    obtain ⟨⟨hlv, hΓ⟩, hst⟩ := hC
    replace hlv := Nat.eq_of_beq_eq_true hlv
    obtain ⟨hE, hl, bm, tm, hS⟩ := hG
    obtain ⟨I, μ, h1, h2⟩ := h
    have hhead : ∀ xs, HasTys fx.cx.tb.tab H.tys xs → EnvTy fx.cx.tb.tab H.hd.Γ (env ++ xs) ∧ (env ++ xs).length = H.hd.Γ.length := fun xs hx => by
     rw [hΓ]
     exact ⟨hE.append hl hx, by simp [hl, hasTys_length hx]⟩
    obtain ⟨b1, b2, b3, b4, b5, tm', b6⟩ := back_sound (c := c0) (env0 := env) (env' := env) hback hl ⟨[], by simp⟩ hE hS
    refine wp_loop_ghost (fun m a w => ∃ xs, μ xs = m ∧ HasTys fx.cx.tb.tab H.tys xs ∧ FitsL xs ∧ I xs ∧ ∃ bm tm, Sim { c0 with env := env ++ xs } (below H.hd.nt) H.hd.σ.get bm tm a w) (μ (es.map (·.den env))) ⟨_, rfl, b1, b2, h1, bm, tm', b6⟩ ?_
    rintro m a w ⟨xs, rfl, x1, x2, x3, bm, tm, x4⟩
    obtain ⟨g1, g2⟩ := hhead xs x1
    refine wp_mono (ih H.hd ex _ (env ++ xs) ((fun ys => I ys ∧ μ ys < μ xs) :: L) a w ⟨g1, g2, bm, tm, x4⟩ (by simp [hL, hlv]) (h2 xs x1 x2 x3)) fun e a' w' hp => ?_
    have hw : ∀ {e a w}, Post P fx c0 Q (env ++ xs) ((fun ys => I ys ∧ μ ys < μ xs) :: L) ex (againVC fx.cx.tb.tab ss.Γ.length ss.nt ss.lv H) e a w → e ≠ .normal → Post P fx c0 Q env L ex k e a w := fun {e a w} hp hne => by
     have : Post P fx c0 Q env L ex (againVC fx.cx.tb.tab ss.Γ.length ss.nt ss.lv H) e a w := Post.weaken (more := xs) (pre := [fun ys => I ys ∧ μ ys < μ xs]) hp
     cases e with
     | normal => exact absurd rfl hne
     | exit id => exact this
     | ret => exact this
     | _ => exact this
    cases e with
    | normal =>
     obtain ⟨more, pre, s, q1, q2, q3⟩ := hp
     simp only [againVC] at q3
     split at q3
     ·rename_i es' hback'
      cases hlt : Nat.blt ss.lv s.lv with
      | false => rw [hlt] at q3; exact q3.elim
      | true =>
       rw [hlt] at q3
       simp only [cond_true] at q3
       obtain ⟨q11, q12, bm2, tm2, q13⟩ := q1
       obtain ⟨c1, c2, c3, c4, c5, tm3, c6⟩ := back_sound (c := c0) (env0 := env) (env' := env ++ xs ++ more) hback' hl ⟨xs ++ more, by simp⟩ q11 q13
       have hidx : (pre ++ (fun ys => I ys ∧ μ ys < μ xs) :: L)[s.lv - ss.lv - 1]? = some (fun ys => I ys ∧ μ ys < μ xs) := by
        have hpl : s.lv - ss.lv - 1 = pre.length := by
         simp only [List.length_append, List.length_cons] at q2
         omega
        rw [hpl]; simp
       simp only [VC.den, hidx] at q3
       exact ⟨_, q3.2, _, rfl, c1, c2, q3.1, bm2, tm3, c6⟩
     ·exact q3.elim
    | exit id => exact hw hp (by simp)
    | goto l => exact hp.elim
    | ret => exact hw hp (by simp)
    | panic ch => exact hp.elim
    | outgrown => exact hp.elim
  ·exact h.elim
 | ret =>
  intro ss ex k env L a w hG hL h
  simp only [sx] at h
  exact wp_ret ⟨env, ss, L, hG, h⟩
 | rangeFunc f ps asg b ih1 ih2 => intro ss ex k env L a w hG hL h; exact h.elim
 | scope b ih => intro ss ex k env L a w hG hL h; exact h.elim
 | label l => intro ss ex k env L a w hG hL h; exact h.elim
 | goto l => intro ss ex k env L a w hG hL h; exact h.elim
 | refuse s => intro ss ex k env L a w hG hL h; exact h.elim
end
end Go.Proofs.YtimickglpboilaaGreat
