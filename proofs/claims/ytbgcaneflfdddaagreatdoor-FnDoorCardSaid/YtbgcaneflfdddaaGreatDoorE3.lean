/- Each operation does to a world what the executor says it does: structs and slices built, boxes, calls, append. No program in sight. -/
import Derived.Test.YtbgcaneflfdddaaGreatDoorE2
set_option linter.unusedVariables false
set_option linter.unusedSimpArgs false
set_option linter.unusedSectionVars false
namespace Go.Proofs.YtbgcaneflfdddaaGreatDoor
open Go.RowKit
variable [GC]
section
variable {w : World} {M : Addr → Prop}
theorem take_setAll {α : Type} : ∀ (r l : List α) (i : Nat), i + r.length ≤ l.length → (setAll l i r).take (i + r.length) = l.take i ++ r
 | [], l, i, _ => by simp [setAll]
 | x :: r, l, i, h => by
  simp only [List.length_cons] at h
  have := take_setAll r (l.set i x) (i + 1) (by simp; omega)
  simp only [setAll, List.length_cons]
  rw [show i + (r.length + 1) = i + 1 + r.length by omega, this]
  have h1 : (l.set i x).take (i + 1) = l.take i ++ [x] := by
   rw [List.take_succ_eq_append_getElem (by simp; omega)]
   simp [List.take_set_of_le]
  rw [h1]; simp
theorem cells_c {tab : Nat → List CT} {t : CT} {d : D} {v : Value} (ht : HasTy tab t d) (h : R w M d v) : v.cells = #[v] ∧ v.oneCell' = true := by
 cases t with
 | bool => obtain ⟨b, rfl⟩ := hasTy_bool ht; simp only [R] at h; subst h; exact ⟨rfl, rfl⟩
 | int k => obtain ⟨n, rfl⟩ := hasTy_int ht; obtain ⟨rfl, _⟩ := h; exact ⟨rfl, rfl⟩
 | str => obtain ⟨s, rfl⟩ := hasTy_str ht; obtain ⟨rfl, _⟩ := h; exact ⟨rfl, rfl⟩
 | sl e => obtain ⟨r, rfl, _⟩ := hasTy_sl ht; obtain ⟨_, _, _, rfl, _⟩ := h; exact ⟨rfl, rfl⟩
 | mem => obtain ⟨n, rfl⟩ := hasTy_mem ht; obtain ⟨_, _, rfl, _⟩ := h; exact ⟨rfl, rfl⟩
 | fn => obtain ⟨f, caps, rfl⟩ := hasTy_fn ht; obtain ⟨_, rfl, _⟩ := h; exact ⟨rfl, rfl⟩
theorem cells_one {tab : Nat → List CT} : ∀ {ts : List CT} {l : List D} {vs : List Value}, RowTy tab ts l → Rs w M l vs → ∀ v ∈ vs, v.oneCell' = true
 | [], [], _, _, h, v, hv => by subst h; simp at hv
 | t :: ts, d :: ds, vs, ht, ⟨u, q, e, h1, h2⟩, v, hv => by
  subst e
  simp only [RowTy] at ht
  rcases List.mem_cons.1 hv with rfl | hv
  ·exact (cells_c ht.1 h1).2
  ·exact cells_one ht.2 h2 v hv
 | [], _ :: _, _, ht, _, _, _ => by simp [RowTy] at ht
 | _ :: _, [], _, ht, _, _, _ => by simp [RowTy] at ht
theorem fold_cells (off : Nat) : ∀ (l : List Value) (k : Nat) (cs : Array Value), (l.zipIdx k).foldl (fun cs (x : Value × Nat) => cs.setIfInBounds (off + x.2) x.1) cs = setAllA cs (off + k) l
 | [], _, _ => rfl
 | x :: r, k, cs => by
  simp only [List.zipIdx_cons, List.foldl_cons, setAllA]
  rw [fold_cells off r (k + 1)]; rfl
theorem fold_cells' (off : Nat) (v cs : Array Value) : v.zipIdx.foldl (fun cs (x : Value × Nat) => cs.setIfInBounds (off + x.2) x.1) cs = setAllA cs off v.toList := by
 rw [← Array.foldl_toList, Array.toList_zipIdx, fold_cells]; rfl
theorem fill_cons {place : Nat → Option (Nat × Nat)} {cs : Array Value} {i : Nat} {v : Value} {r : List (Nat × Value)} {off sz : Nat} (hp : place i = some (off, sz)) (hsz : v.cells.size = sz) (hle : off + sz ≤ cs.size) :
  Instr.fill place cs ((i, v) :: r) = Instr.fill place (setAllA cs off v.cells.toList) r := by
 have h1 := fold_cells' off v.cells cs
 simp only [Instr.fill, hp]
 rw [if_neg (by simp [hsz]; omega), ← h1]
theorem Rws.of_flat {b : Nat} : ∀ {rows : List (List D)} {vs : List Value} {o : Nat}, Rs w M rows.flatten vs → ∀ {w' : World} {M' : Addr → Prop}, Keeps w M w' M' → (∀ i u, vs[i]? = some u → w'.cell? ⟨b, o + i, none⟩ = some u ∧ ¬ M' ⟨b, o + i, none⟩) → Rws w' M' rows b o
 | [], _, _, _, _, _, _, _ => trivial
 | r :: l, vs, o, h, w', M', hk, hc => by
  simp only [List.flatten_cons] at h
  have h1 := h.take r.length
  have h2 := h.drop r.length
  rw [List.take_left'] at h1
  rw [List.drop_left'] at h2
  ·refine ⟨Rw.of fun i d hd => ?_, Rws.of_flat h2 hk fun i u hu => ?_⟩
   ·obtain ⟨v, hv, hr⟩ := h1.get hd
    simp only [List.getElem?_take] at hv
    split at hv
    ·exact ⟨v, (hc i v hv).1, (hc i v hv).2, hr.keep hk⟩
    ·simp at hv
   ·rw [List.getElem?_drop] at hu
    have := hc _ _ hu
    rwa [show o + (r.length + i) = o + r.length + i by omega] at this
  ·rfl
  ·rfl
end
section
variable {P : Program} {c : SC} {F : Nat → Prop} {σ : Nat → ST} {bm : Nat → Nat} {tm : Nat → Value} {a : Act} {w : World} {tb : TB} {Γ : List VT} {gs : Gd}
theorem Sim.M_lt (hs : Sim c F σ bm tm a w) : ∀ p, MM c.M0 bm tm σ p → p.block < w.heap.size := by
 rintro p (h | ⟨id, cs, h1, h2⟩ | ⟨g, n, h1, h2⟩)
 ·exact Nat.lt_of_lt_of_le (hs.m0.1 p h) hs.hB
 ·rw [h2]; exact (hs.box id cs h1).lt
 ·exact (hs.live g n h1).lt (ownA_blk h2)
theorem Sim.gi (hs : Sim c F σ bm tm a w) : GInv w := hs.m0.2.1.keep fun k hk => hs.fr.block k (Nat.lt_of_lt_of_le hk hs.m0.2.2.1) fun e => by have := hs.m0.2.2.2 k e.symm; omega
theorem Sim.rdy (hs : Sim c F σ bm tm a w) : Rdy w (MM c.M0 bm tm σ) := ⟨hs.M_lt, hs.gi, Nat.le_trans hs.m0.2.2.1 hs.hB⟩
theorem mem_setAll {α : Type} : ∀ (r l : List α) (i : Nat) {x : α}, x ∈ setAll l i r → x ∈ l ∨ x ∈ r
 | [], l, i, x, h => .inl h
 | y :: r, l, i, x, h => by
  rcases mem_setAll r _ _ h with h | h
  ·rcases List.mem_or_eq_of_mem_set h with h | h
   ·exact .inl h
   ·exact .inr (by simp [h])
  ·exact .inr (by simp [h])
theorem relCs_apart {M : Addr → Prop} {l : List D} {k : K} {e : E} {vs : List Value} (h : e.den c.env = .agg l) (hr : Rs w M l vs) (hk : relK w M tm c.env k e (.agg vs.toArray)) : relCs w M tm c.env (apart k l.length e) vs := by
 have key : ∀ (n : Nat) (l' : List D) (vs' : List Value), Rs w M l' vs' → (∀ i d, l'[i]? = some d → l[n + i]? = some d) → (∀ (i : Nat) (u : Value), vs'[i]? = some u → vs[n + i]? = some u) → relCs w M tm c.env ((List.range' n l'.length).map fun j => (k.nth j, E.cell e j)) vs' := by
  intro n l'
  induction l' generalizing n with
  | nil => intro vs' h _ _; subst h; simp [relCs]
  | cons d r ih =>
   intro vs' hr' hl hv
   obtain ⟨v, q, rfl, h1, h2⟩ := hr'
   simp only [List.length_cons, List.range'_succ, List.map_cons]
   refine ⟨v, q, rfl, ?_, ih (n + 1) q h2 (fun i d' hd => ?_) fun i u hu => ?_⟩
   ·have hd := hl 0 d rfl
    have hu := hv 0 v rfl
    rw [Nat.add_zero] at hd hu
    refine relK.ofn ?_ (hk.nth (by simpa [flatV, flat1] using hu))
    simp only [E.den, h, D.toA_agg, List.getD]
    rw [hd]; exact h1
   ·have := hl (i + 1) d' (by simpa using hd)
    rwa [show n + (i + 1) = n + 1 + i by omega] at this
   ·have := hv (i + 1) u (by simpa using hu)
    rwa [show n + (i + 1) = n + 1 + i by omega] at this
 have := key 0 l vs hr (by simp) (by simp)
 simpa [apart, List.range_eq_range'] using this
theorem apart_has {k : K} {n : Nat} {e : E} {x : Nat} (h : ∃ z ∈ apart k n e, z.1.has x) : k.has x := by
 obtain ⟨z, hz, hx⟩ := h
 obtain ⟨j, _, rfl⟩ := List.mem_map.1 hz
 exact K.has_nth hx
theorem parts_has (hs : Sim c F σ bm tm a w) {fs : List (Nat × Nat)} : ∀ (parts : List (Nat × Operand)) (es es' : List (K × E)), eParts tb Γ gs σ fs parts es = some es' → (∀ g, (∃ z ∈ es, z.1.has g) → F g) → ∀ g, (∃ z ∈ es', z.1.has g) → F g
 | [], es, es', h, h0, g, hg => by simp only [eParts, Option.some.injEq] at h; subst h; exact h0 g hg
 | (f, x) :: r, es, es', h, h0, g, hg => by
  simp only [eParts] at h
  split at h
  ·split at h
   ·rename_i fi kx e hfi hx
    have hm := (val_rel hs hx).2
    split at h
    ·split at h
     ·refine parts_has hs r _ es' h (fun g ⟨z, hz, hzg⟩ => ?_) g hg
      rcases List.mem_or_eq_of_mem_set hz with hz | rfl
      ·exact h0 g ⟨z, hz, hzg⟩
      ·exact hm g hzg
     ·simp at h
    ·split at h
     ·refine parts_has hs r _ es' h (fun g ⟨z, hz, hzg⟩ => ?_) g hg
      rcases mem_setAll _ _ _ hz with hz | hz
      ·exact h0 g ⟨z, hz, hzg⟩
      ·exact hm g (apart_has ⟨z, hz, hzg⟩)
     ·simp at h
    ·simp at h
   ·simp at h
  ·simp at h
theorem run_places (hcx : tbOk P tb tb = true) : ∀ (fs : List (Nat × Nat)) (fl : List Field), fieldsOk tb fs fl = true → ∃ pl : List (Nat × Nat), (fl.mapM (m := Sem) fun f => do pure (f.offset, ← sizeOf f.type)).run P w = .ok pl w ∧
  ∀ (f fo ft : Nat) (fi : TI) (v1 : V1), fs[f]? = some (fo, ft) → tb.get ft = some fi → fi.vt = .one v1 → pl[f]? = some (fo, v1.cells.length)
 | [], [], _ => ⟨[], by simp, fun f fo ft fi v1 h => by simp at h⟩
 | [], _ :: _, h => by simp [fieldsOk] at h
 | _ :: _, [], h => by simp [fieldsOk] at h
 | (fo, ft) :: r, x :: fl, h => by
  simp only [fieldsOk, Bool.and_eq_true, beq_iff_eq] at h
  obtain ⟨⟨⟨h1, h2⟩, h3⟩, h4⟩ := h
  obtain ⟨pl, hpl, hget⟩ := run_places hcx r fl h4
  split at h3
  ·rename_i ti hti
   split at h3
   ·rename_i v1 hv1
    obtain ⟨j, hj, hjs, _⟩ := ty_one hcx hti hv1
    refine ⟨(fo, v1.cells.length) :: pl, ?_, fun f fo' ft' fi' v' hf hfi hv' => ?_⟩
    ·rw [List.mapM_cons]
     simp only [Sem.run_bind, Sem.run_pure, ← h2, run_sizeOf hj, hjs, Result.andThen_ok, hpl, ← h1]
    ·cases f with
     | zero =>
      simp at hf; obtain ⟨rfl, rfl⟩ := hf
      rw [hti] at hfi; simp at hfi; subst hfi
      rw [hv1] at hv'; simp at hv'; subst hv'; rfl
     | succ f => simp at hf; simpa using hget f fo' ft' fi' v' hf hfi hv'
   ·simp at h3
  ·simp at h3
theorem fill_parts (hs : Sim c F σ bm tm a w) (hΓ : EnvTy tb.tab Γ c.env) (hg : gsH c.env gs) {fs : List (Nat × Nat)} {pl : List (Nat × Nat)} (hcx : tbOk P tb tb = true)
  (hpl : ∀ (f fo ft : Nat) (fi : TI) (v1 : V1), fs[f]? = some (fo, ft) → tb.get ft = some fi → fi.vt = .one v1 → pl[f]? = some (fo, v1.cells.length)) :
  ∀ (parts : List (Nat × Operand)) (es es' : List (K × E)) (cs : Array Value), eParts tb Γ gs σ fs parts es = some es' → relCs w (MM c.M0 bm tm σ) tm c.env es cs.toList →
   ∃ cs', Instr.fill (fun i => pl.toArray[i]?) cs (parts.map fun p => (p.1, a.eval p.2)) = some cs' ∧ relCs w (MM c.M0 bm tm σ) tm c.env es' cs'.toList
 | [], es, es', cs, h, hr => by simp only [eParts, Option.some.injEq] at h; subst h; exact ⟨cs, rfl, hr⟩
 | (f, x) :: r, es, es', cs, h, hr => by
  simp only [eParts] at h
  split at h
  ·rename_i fo ft hf
   split at h
   ·rename_i fi kx e hfi hx
    have hvr := (val_rel hs hx).1 hg
    split at h
    ·rename_i t t' hv he
     split at h
     ·rename_i hlt
      have hp := hpl f fo ft fi _ hf hfi hv
      have hty := E.inf_ok hΓ e _ he
      obtain ⟨hc1, hc2⟩ := cells_c hty hvr.rd
      have hlen := hr.length
      simp only [Array.length_toList] at hlen
      obtain ⟨cs', h1, h2⟩ := fill_parts hs hΓ hg hcx hpl r _ es' (setAllA cs fo [a.eval x]) h (by
       rw [setAllA_toList]
       exact hr.set fo (c := (kx, e)) hvr)
      refine ⟨cs', ?_, h2⟩
      simp only [List.map_cons]
      rw [fill_cons (off := fo) (sz := 1) (by simpa [V1.cells] using hp) (by rw [hc1]; rfl) (by omega), hc1]
      exact h1
     ·simp at h
    ·rename_i us ts hv he
     split at h
     ·rename_i hcnd
      have hp := hpl f fo ft fi _ hf hfi hv
      obtain ⟨l, hl, hlt⟩ := hasV1_agg (E.inf_ok hΓ e _ he)
      have hrd := hvr.rd
      rw [hl] at hrd
      obtain ⟨vs, hvs, hrs⟩ := hrd
      have hlen := hr.length
      have hlen2 := hrs.length
      have hlen3 := hlt.length
      simp only [Array.length_toList] at hlen hlen2
      obtain ⟨cs', h1, h2⟩ := fill_parts hs hΓ hg hcx hpl r _ es' (setAllA cs fo vs.toList) h (by
       rw [setAllA_toList, ← hlen3]
       exact relCs.setAll (relCs_apart hl hrs (by rw [hvs] at hvr; simpa using hvr)) fo hr)
      refine ⟨cs', ?_, h2⟩
      simp only [List.map_cons]
      have hcl : (a.eval x).cells = vs := by rw [hvs]; rfl
      rw [fill_cons (off := fo) (sz := us.length) (by simpa [V1.cells] using hp) (by rw [hcl, hlen2, hlen3]; exact hcnd.1.symm) (by omega), hcl]
      exact h1
     ·simp at h
    ·simp at h
   ·simp at h
  ·simp at h
theorem zero_rel {M : Addr → Prop} {t : CT} {v : Value} (h : zeroV t v = true) : R w M (zeroD t) v ∧ relK w M tm c.env (zeroE t).1 (zeroE t).2 v := by
 cases t with
 | mem => simp [zeroV] at h
 | fn => simp [zeroV] at h
 | bool => cases v <;> simp [zeroV] at h; subst h; exact ⟨rfl, rfl⟩
 | int k =>
  cases v <;> simp [zeroV] at h
  obtain ⟨rfl, rfl⟩ := h
  have : k.min ≤ 0 ∧ 0 ≤ k.max := by cases k <;> simp [IntKind.min, IntKind.max, IntKind.signed, IntKind.bits]
  exact ⟨⟨rfl, this⟩, ⟨rfl, this⟩⟩
 | str => cases v <;> simp [zeroV] at h; subst h; exact ⟨⟨rfl, by decide⟩, ⟨rfl, by decide⟩⟩
 | sl e =>
  rcases v with _ | _ | _ | _ | _ | _ | ⟨ad, len, cap⟩ | _ | _ | _ | _ | _ | _ | _ | _ <;> try (simp [zeroV] at h; done)
  rcases ad with _ | ad <;> rcases len with _ | len <;> rcases cap with _ | cap <;> simp [zeroV] at h
  have hr : R w M (.sl []) (.slice none 0 0) := ⟨none, 0, 0, rfl, rfl, Nat.le_refl _, by decide, fun _ => rfl, fun b o s h => by cases h⟩
  exact ⟨hr, hr, none, rfl⟩
theorem zeros_rel {M : Addr → Prop} : ∀ {ts : List CT} {vs : List Value}, zerosV ts vs = true → Rs w M (ts.map zeroD) vs ∧ relCs w M tm c.env (ts.map zeroE) vs
 | [], [], _ => ⟨rfl, rfl⟩
 | t :: ts, v :: vs, h => by
  simp only [zerosV, Bool.and_eq_true] at h
  have h1 := zero_rel (w := w) (M := M) (tm := tm) (c := c) h.1
  have h2 := zeros_rel (M := M) h.2
  exact ⟨⟨v, vs, rfl, h1.1, h2.1⟩, ⟨v, vs, rfl, h1.2, h2.2⟩⟩
 | [], _ :: _, h => by simp [zerosV] at h
 | _ :: _, [], h => by simp [zerosV] at h
theorem sBuild (hcx : tbOk P tb tb = true) (hs : Sim c F σ bm tm a w) (hΓ : EnvTy tb.tab Γ c.env) {n : Nat} {o : Oper} {T : Nat} {parts : Array (Nat × Operand)} (ho : o.op = .build T parts) {ti : TI} (hti : tb.get T = some ti) {eff : Eff}
  (h : eBuild tb Γ gs o.dst σ ti parts.toList = some eff) : PureSpec P c F gs σ bm tm a w n o eff := by
 unfold eBuild at h
 split at h
 ·rename_i ts hv
  simp only [Option.map_eq_some_iff] at h
  obtain ⟨es, hes, rfl⟩ := h
  refine ⟨_, rfl, rfl, fun g hg => ?_, fun hg _ => ?_⟩
  ·obtain ⟨q, hq, hx⟩ := K.has_pack (show (packK _).has g from hg)
   obtain ⟨z, hz, rfl⟩ := List.mem_map.1 hq
   exact parts_has hs parts.toList _ es hes (fun g ⟨x, hx, hg⟩ => by obtain ⟨t, _, rfl⟩ := List.mem_map.1 hx; cases t <;> simp [zeroE, K.has] at hg) g ⟨z, hz, hx⟩
  obtain ⟨i, fields, z, hi, hsz, _, hz, hzo, hu, hfo⟩ := ty_agg hcx hti hv
  obtain ⟨pl, hpl, hget⟩ := run_places (w := w) hcx ti.fs fields.toList hfo
  obtain ⟨cs', h1, h2⟩ := fill_parts hs hΓ hg hcx hget parts.toList _ es z hes (zeros_rel (w := w) (M := MM c.M0 bm tm σ) (tm := tm) (c := c) hzo).2
  refine ⟨.agg cs', w, ?_, Below.refl _ _, relT_v hg ?_⟩
  ·have hm : (fields.mapM (m := Sem) fun f => do pure (f.offset, ← sizeOf f.type)).run P w = .ok pl.toArray w := by
    rw [Array.mapM_eq_mapM_toList, Sem.run_map, hpl]; rfl
   simp only [execOp, ho, Instr.build, Sem.run_bind, zeroValue, run_typeInfo hi, hz, Result.andThen_ok, Sem.run_pure, run_underlying hu, hm, Value.cells]
   simp only [List.getElem?_toArray] at h1
   simp [h1]
  ·have e : cs' = cs'.toList.toArray := by simp
   rw [e]
   refine relK.pack ?_ fun j k u hk hu => ?_
   ·rw [den_pack hΓ]
    exact h2.rs.to_agg
   ·simp only [List.getElem?_map, Option.map_eq_some_iff] at hk
    obtain ⟨z, hz, rfl⟩ := hk
    obtain ⟨u', hu', hr'⟩ := h2.get hz
    rw [hu] at hu'; cases hu'
    exact hr'.kk
 ·simp at h
theorem fill_rows (hs : Sim c F σ bm tm a w) (hΓ : EnvTy tb.tab Γ c.env) (hg : gsH c.env gs) {el sz : Nat} (hsz : (tb.tab el).length = sz) :
  ∀ (parts : List (Nat × Operand)) (k : Nat) (acc e' : E) (rows : List (List D)) (cs : Array Value), eRows tb Γ gs σ el k parts acc = some e' → acc.den c.env = .sl rows → rows.length = k → (∀ r ∈ rows, r.length = sz) → (k + parts.length) * sz ≤ cs.size →
   Rs w (MM c.M0 bm tm σ) rows.flatten (cs.toList.take (k * sz)) →
   ∃ cs' rows', Instr.fill (fun i => some (i * sz, sz)) cs (parts.map fun p => (p.1, a.eval p.2)) = some cs' ∧ e'.den c.env = .sl rows' ∧ rows'.length = k + parts.length ∧ (∀ r ∈ rows', r.length = sz) ∧ cs'.size = cs.size ∧
    Rs w (MM c.M0 bm tm σ) rows'.flatten (cs'.toList.take ((k + parts.length) * sz))
 | [], k, acc, e', rows, cs, h, hacc, hk, hl, hle, hr => by
  simp only [eRows, Option.some.injEq] at h; subst h
  exact ⟨cs, rows, rfl, hacc, by simpa using hk, hl, rfl, by simpa using hr⟩
 | (i, x) :: r, k, acc, e', rows, cs, h, hacc, hk, hl, hle, hr => by
  simp only [eRows] at h
  split at h
  ·rename_i hik; subst hik
   split at h
   ·rename_i kx e hx
    have hvr := (val_rel hs hx).1 hg
    have hle2 : i * sz + sz ≤ cs.size := by
     have : (i + 1) * sz ≤ (i + (((i, x) :: r).length)) * sz := Nat.mul_le_mul_right _ (by simp)
     rw [Nat.add_mul, Nat.one_mul] at this; omega
    have hgo : ∀ (row : List D) (vals : List Value) (nx : E), nx.den c.env = .sl (rows ++ [row]) → row.length = sz → vals.length = sz → Rs w (MM c.M0 bm tm σ) row vals → (a.eval x).cells.toList = vals → eRows tb Γ gs σ el (i + 1) r nx = some e' →
      ∃ cs' rows', Instr.fill (fun i => some (i * sz, sz)) cs (((i, x) :: r).map fun p => (p.1, a.eval p.2)) = some cs' ∧ e'.den c.env = .sl rows' ∧ rows'.length = i + ((i, x) :: r).length ∧ (∀ r ∈ rows', r.length = sz) ∧ cs'.size = cs.size ∧
       Rs w (MM c.M0 bm tm σ) rows'.flatten (cs'.toList.take ((i + ((i, x) :: r).length) * sz)) := by
     intro row vals nx hnx hrow hvals hrs hcl hnext
     have htk : (setAllA cs (i * sz) vals).toList.take ((i + 1) * sz) = cs.toList.take (i * sz) ++ vals := by
      rw [setAllA_toList, Nat.add_mul, Nat.one_mul]
      have := take_setAll vals cs.toList (i * sz) (by simp; omega)
      rwa [hvals] at this
     obtain ⟨cs', rows', h1, h2, h3, h4, h5, h6⟩ := fill_rows hs hΓ hg hsz r (i + 1) nx e' (rows ++ [row]) (setAllA cs (i * sz) vals) hnext hnx (by simp [hk]) (fun q hq => (List.mem_append.1 hq).elim (hl q) fun h => by simp at h; subst h; exact hrow)
      (by rw [size_setAllA]; simp only [List.length_cons] at hle; rwa [show i + 1 + r.length = i + (r.length + 1) by omega])
      (by rw [htk, List.flatten_append]; simpa using hr.append hrs)
     refine ⟨cs', rows', ?_, h2, by simp only [List.length_cons]; omega, h4, by rw [h5, size_setAllA], by
      simp only [List.length_cons]; rwa [show i + (r.length + 1) = i + 1 + r.length by omega]⟩
     simp only [List.map_cons]
     have hcs : (a.eval x).cells.size = sz := by rw [← Array.length_toList, hcl, hvals]
     rw [fill_cons (off := i * sz) (sz := sz) rfl hcs hle2, hcl]
     exact h1
    split at h
    ·rename_i t he
     split at h
     ·rename_i htab
      have hs1 : sz = 1 := by rw [← hsz, htab]; rfl
      have hty := E.inf_ok hΓ e _ he
      obtain ⟨hc1, hc2⟩ := cells_c hty hvr.rd
      exact hgo [e.den c.env] [a.eval x] _ (by simp [E.den, hacc]) (by simp [hs1]) (by simp [hs1]) (Rs.one hvr.rd) (by rw [hc1]) h
     ·simp at h
    ·rename_i ts he
     split at h
     ·rename_i htab
      obtain ⟨l, hll, hlt⟩ := hasV1_agg (E.inf_ok hΓ e _ he)
      have hrd := hvr.rd
      rw [hll] at hrd
      obtain ⟨vs, hvs, hrs⟩ := hrd
      have hlen := hrs.length
      have hlen2 := hlt.length
      rw [← htab, hsz] at hlen2
      exact hgo l vs.toList _ (by simp [E.den, hacc, hll]) hlen2 (by rw [hlen, hlen2]) hrs (by rw [hvs]; rfl) h
     ·simp at h
    ·simp at h
   ·simp at h
  ·simp at h
theorem run_buildSlice (hcx : tbOk P tb tb = true) (hs : Sim c F σ bm tm a w) (hΓ : EnvTy tb.tab Γ c.env) {o : Oper} {T len el : Nat} {parts : Array (Nat × Operand)} (ho : o.op = .buildSlice T len parts) {ti : TI} (hti : tb.get T = some ti) (hv : ti.vt = .one (.c (.sl el))) {e : E}
  (hlen : parts.toList.length = len) (hok : eRowsOk tb el len = true) (he : eRows tb Γ gs σ el 0 parts.toList (.nilS el) = some e) (hg : gsH c.env gs) :
  ∃ w' cells, (execOp a.eval o).run P w = .ok (.value (.slice (some ⟨w.heap.size, 0, none⟩) len len)) w' ∧ Below w.heap.size w w' ∧ w'.heap[w.heap.size]? = some (.cells cells el (0, 0)) ∧ len * (tb.tab el).length ≤ cells.size ∧
   ∀ M' : Addr → Prop, (∀ p, M' p → MM c.M0 bm tm σ p) → R w' M' (e.den c.env) (.slice (some ⟨w.heap.size, 0, none⟩) len len) := by
 unfold eRowsOk at hok
 split at hok
 ·rename_i ei hei
  split at hok
  ·rename_i v1 hv1
   simp only [Bool.and_eq_true, decide_eq_true_eq] at hok
   obtain ⟨j, hj, hjs, _⟩ := ty_one hcx hei hv1
   have hcl : ei.cells = v1.cells := by simp [TI.cells, hv1]
   rw [hcl] at hok
   have htab : tb.tab el = v1.cells := by simp [TB.tab, hei, TI.cells, hv1]
   obtain ⟨_, d1, _, _, _, _, hd1, hdc1⟩ := ty_c hcx hti hv
   simp only [DescC] at hdc1; subst hdc1
   obtain ⟨z0, hz0⟩ : ∃ z, j.zero = some z := by
    cases v1 with
    | c t => obtain ⟨i', d', hi', _, _, ⟨z, hz, _⟩, _⟩ := ty_c hcx hei hv1; rw [hj] at hi'; simp at hi'; subst hi'; exact ⟨z, hz⟩
    | agg ts => obtain ⟨i', f', cs', hi', _, _, hz, _⟩ := ty_agg hcx hei hv1; rw [hj] at hi'; simp at hi'; subst hi'; exact ⟨_, hz⟩
   have hlen' : len * v1.cells.length ≤ 65536 := hok.1
   have hll : len ≤ 65536 := Nat.le_trans (Nat.le_mul_of_pos_right _ hok.2) hlen'
   have hfin : ∀ (z : Array Value), z.size = len * v1.cells.length → ∃ cs' rows', Instr.fill (fun i => some (i * v1.cells.length, v1.cells.length)) z (parts.toList.map fun p => (p.1, a.eval p.2)) = some cs' ∧ e.den c.env = .sl rows' ∧ rows'.length = len ∧ (∀ r ∈ rows', r.length = v1.cells.length) ∧ Rs w (MM c.M0 bm tm σ) rows'.flatten cs'.toList ∧ cs'.size = len * v1.cells.length := by
    intro z hz
    obtain ⟨cs', rows', h1, h2, h3, h4, h5, h6⟩ := fill_rows hs hΓ hg (by rw [htab]) parts.toList 0 (.nilS el) e [] z he rfl rfl (by simp) (by rw [Nat.zero_add, hlen, hz]; exact Nat.le_refl _) (by simp [Rs])
    refine ⟨cs', rows', h1, h2, by rw [h3, hlen]; omega, h4, ?_, by rw [h5, hz]⟩
    rw [Nat.zero_add, hlen, ← hz, ← h5, ← Array.length_toList, List.take_length] at h6
    exact h6
   have hrun : ∃ cs' rows', (Instr.buildSlice T len (parts.map fun x => (x.1, a.eval x.2))).run P w = .ok (.slice (some ⟨w.heap.size, 0, none⟩) len len) (w.alloc (.cells cs' el)) ∧ e.den c.env = .sl rows' ∧ rows'.length = len ∧ (∀ r ∈ rows', r.length = v1.cells.length) ∧ Rs w (MM c.M0 bm tm σ) rows'.flatten cs'.toList ∧ cs'.size = len * v1.cells.length := by
    by_cases h0 : len * v1.cells.length = 0
    ·obtain ⟨cs', rows', h1, h2, h3, h4, h5, h6⟩ := hfin #[] (by simp [h0])
     refine ⟨cs', rows', ?_, h2, h3, h4, h5, h6⟩
     have hr0 : Array.range 0 = #[] := rfl
     simp only [Instr.buildSlice, Sem.run_bind, run_underlying hd1, run_sizeOf hj, hjs, Result.andThen_ok, h0, hr0]
     simp [h1, newRow]
    ·obtain ⟨cs', rows', h1, h2, h3, h4, h5, h6⟩ := hfin ((Array.range (len * v1.cells.length)).map fun x => z0.cells[x % z0.cells.size]!) (by simp)
     refine ⟨cs', rows', ?_, h2, h3, h4, h5, h6⟩
     have hbig : ¬ (len * v1.cells.length > 2 ^ 24) := by omega
     simp only [Instr.buildSlice, Sem.run_bind, run_underlying hd1, run_sizeOf hj, hjs, Result.andThen_ok, if_neg hbig, if_neg h0, zeroValue, run_typeInfo hj, hz0, Sem.run_pure, Sem.run_ite]
     simp [h1, newRow]
   obtain ⟨cs', rows', h1, h2, h3, h4, h5, h6⟩ := hrun
   have hb : Below w.heap.size w (w.alloc (.cells cs' el)) := (Below.refl _ _).alloc (Nat.le_refl _) _
   refine ⟨_, cs', by simp only [execOp, ho]; rw [Sem.run_bind, h1]; rfl, hb, heap_alloc_new w _, by rw [h6, htab]; exact Nat.le_refl _, fun M' hM' => ?_⟩
   rw [h2]
   refine ⟨_, _, _, rfl, h3.symm, Nat.le_refl _, by unfold maxLen; omega, (fun h => by cases h), fun b o' s hbo => ?_⟩
   simp only [Option.some.injEq, Addr.mk.injEq] at hbo
   obtain ⟨rfl, rfl, rfl⟩ := hbo
   refine ⟨fun _ => rfl, Rws.of_flat h5 (Keeps.below hb fun p _ h => hM' p h) fun i u hu => ⟨?_, fun hm => ?_⟩⟩
   ·rw [World.cell?_alloc_new]; simpa using hu
   ·have := hs.M_lt _ (hM' _ hm)
    simp at this
  ·simp at hok
 ·simp at hok
theorem sBuildSlice (hcx : tbOk P tb tb = true) (hs : Sim c F σ bm tm a w) (hΓ : EnvTy tb.tab Γ c.env) {n : Nat} {o : Oper} {T len : Nat} {parts : Array (Nat × Operand)} (ho : o.op = .buildSlice T len parts) {ti : TI} (hti : tb.get T = some ti) {eff : Eff}
  (h : eBuildSlice tb Γ gs o.dst σ ti len parts.toList = some eff) : PureSpec P c F gs σ bm tm a w n o eff := by
 unfold eBuildSlice at h
 split at h
 ·rename_i el hv
  split at h
  ·rename_i hcnd
   obtain ⟨hlen, hok⟩ := hcnd
   simp only [Option.map_eq_some_iff] at h
   obtain ⟨e, he, rfl⟩ := h
   refine ⟨_, rfl, rfl, fun g hg => ?_, fun hg _ => ?_⟩
   ·cases hz : Nat.beq len 0 <;> rw [hz] at hg <;> simp [men, K.has] at hg
   ·obtain ⟨w', cells, h1, h2, _, _, h4⟩ := run_buildSlice hcx hs hΓ ho hti hv hlen hok he hg
    refine ⟨_, w', h1, h2, relT_v hg ?_⟩
    have hR := h4 _ fun _ h => h
    cases hz : Nat.beq len 0 with
    | true =>
     have h0 : len = 0 := Nat.eq_of_beq_eq_true hz
     subst h0
     exact ⟨hR, _, rfl⟩
    | false => exact hR
  ·simp at h
 ·simp at h
end
end Go.Proofs.YtbgcaneflfdddaaGreatDoor
/- Each operation does to a world what the executor says it does: boxes, stores, calls. No program in sight. -/
namespace Go.Proofs.YtbgcaneflfdddaaGreatDoor
open Go.RowKit
variable [GC]
section
variable {P : Program} {c : SC} {F : Nat → Prop} {σ : Nat → ST} {bm : Nat → Nat} {tm : Nat → Value} {a : Act} {w : World} {tb : TB} {Γ : List VT} {gs : Gd}
def NewT (g : Nat) : Nat → Prop := fun x => g ≤ x ∧ x < g + stride
theorem NewT.self (g : Nat) : NewT g g := ⟨Nat.le_refl _, by unfold stride; omega⟩
theorem Sim.tag {g : Nat} (h : Sim c (fun x => F x ∨ x = g) σ bm tm a w) : Sim c (fun x => F x ∨ NewT g x) σ bm tm a w :=
 h.mono fun x hx => hx.imp id (fun e => by subst e; exact NewT.self x)
def OpOk (P : Program) (c : SC) (F : Nat → Prop) (σ : Nat → ST) (bm : Nat → Nat) (tm : Nat → Value) (a : Act) (w : World) (g : Nat) (gs : Gd) (n : Nat) (o : Oper) (eff : Eff) : Prop :=
 (gsH c.env gs → (∀ r ∈ eff.rq, RqH P c.env n r) → ∀ (K : Act → World → Prop) (Q : Exit → Act → World → Prop),
  (∀ bm' tm' a' w', Sim c (fun x => F x ∨ NewT g x) (updL σ eff.wr) bm' tm' a' w' → K a' w') → o.wp P a w K Q) ∧
 (¬ gsH c.env gs → Sim c (fun x => F x ∨ NewT g x) (updL σ eff.wr) bm tm (a.put o.dst undef) w)
theorem OpOk.of_pure (hs : Sim c F σ bm tm a w) {g n : Nat} {o : Oper} {eff : Eff} (hd : ∀ d, o.dst = some d → d < c.nt) (h : PureSpec P c F gs σ bm tm a w n o eff) : OpOk P c F σ bm tm a w g gs n o eff := by
 obtain ⟨st, hwr, hst, hm, hrun⟩ := h
 refine ⟨fun hg hr K Q hK => ?_, fun hg => ?_⟩
 ·obtain ⟨v, w', h1, h2, h3⟩ := hrun hg hr
  unfold Oper.wp
  rw [h1]
  refine hK bm tm _ _ ?_
  rw [hwr]
  exact ((hs.grow h2).putO hd h3 hm).mono fun x hx => .inl hx
 ·rw [hwr]
  exact (hs.putO hd (relT_undef hst hg) hm).mono fun x hx => .inl hx
theorem upd_comm {l l' : Nat} (h : l ≠ l') (s s' : ST) : upd (upd σ l s) l' s' = upd (upd σ l' s') l s := by
 funext x
 simp only [upd]
 by_cases h1 : x = l <;> by_cases h2 : x = l' <;> simp_all
theorem updL_wv_box {dst : Option Nat} {st s : ST} {g : Nat} : updL σ (wv dst st ++ [(3 * g + 1, s)]) = updL (upd σ (3 * g + 1) s) (wv dst st) := by
 cases dst with
 | none => rfl
 | some d => exact upd_comm (by omega) _ _
theorem relCs_one {M : Addr → Prop} {k : K} {e : E} {v : Value} (h : relK w M tm c.env k e v) : relCs w M tm c.env [(k, e)] [v] := ⟨v, [], rfl, h, rfl⟩
theorem box_made (hs : Sim c F σ bm tm a w) {g : Nat} (hg : ¬ F g) {dst : Option Nat} (hd : ∀ d, dst = some d → d < c.nt) {cs : List (K × E)} {vs : List Value} {T : TypeId} (hv : relCs w (MM c.M0 bm tm σ) tm c.env cs vs) (hm : ∀ x, (∃ y ∈ cs, y.1.has x) → F x) :
  Sim c (fun x => F x ∨ NewT g x) (updL σ (wv dst (.ptr [] g 0) ++ [(3 * g + 1, .box cs)])) (upd bm g w.heap.size) tm (a.put dst (.pointer (some ⟨w.heap.size, 0, none⟩))) (w.alloc (.cells vs.toArray T)) := by
 rw [updL_wv_box]
 refine Sim.tag ((hs.newBox hg hv hm).putO hd ⟨fun _ => by rw [upd_same], fun h => absurd (gsH_nil _) h⟩ fun x hx => ?_)
 simp only [men] at hx
 exact .inr hx
theorem sBox (hcx : tbOk P tb tb = true) (hs : Sim c F σ bm tm a w) (hΓ : EnvTy tb.tab Γ c.env) {g n : Nat} (hg : ¬ F g) {o : Oper} {x : Operand} {T : Nat} (ho : o.op = .box T x) (hd : ∀ d, o.dst = some d → d < c.nt) {eff : Eff}
  (h : eBox tb.tab Γ gs o.dst g (opd tb σ T x) = some eff) : OpOk P c F σ bm tm a w g gs n o eff := by
 unfold eBox at h
 split at h
 ·rename_i k e hx
  have hvr := (val_rel hs hx).1 (gsH_nil _)
  have hmen := (val_rel hs hx).2
  refine ⟨fun _ _ K Q hK => ?_, fun hn => absurd (gsH_nil _) hn⟩
  split at h
  ·rename_i t he
   simp only [Option.some.injEq] at h; subst h
   have hc := (cells_c (E.inf_ok hΓ e _ he) hvr.rd).1
   have hrun : (execOp a.eval o).run P w = .ok (.value (.pointer (some ⟨w.heap.size, 0, none⟩))) (w.alloc (.cells [a.eval x].toArray T)) := by
    simp [execOp, ho, Instr.box, newVar, newRow, hc]
   unfold Oper.wp; rw [hrun]
   exact hK _ _ _ _ (box_made hs hg hd (relCs_one hvr) fun y ⟨z, hz, hy⟩ => by simp at hz; subst hz; exact hmen y hy)
  ·rename_i ts he
   simp only [Option.some.injEq] at h; subst h
   obtain ⟨l, hl, hlt⟩ := hasV1_agg (E.inf_ok hΓ e _ he)
   have hrd := hvr.rd
   rw [hl] at hrd
   obtain ⟨vs, hvs, hrs⟩ := hrd
   have hrun : (execOp a.eval o).run P w = .ok (.value (.pointer (some ⟨w.heap.size, 0, none⟩))) (w.alloc (.cells vs.toList.toArray T)) := by
    simp [execOp, ho, Instr.box, newVar, newRow, hvs, Value.cells]
   unfold Oper.wp; rw [hrun]
   refine hK _ _ _ _ (box_made hs hg hd (by rw [← hlt.length]; exact relCs_apart hl hrs (by rw [hvs] at hvr; simpa using hvr)) fun y hy => hmen y (apart_has hy))
  ·simp at h
 ·simp at h
theorem sAlloc (hcx : tbOk P tb tb = true) (hs : Sim c F σ bm tm a w) {g n : Nat} (hg : ¬ F g) {o : Oper} {T : Nat} (ho : o.op = .alloc T) (hd : ∀ d, o.dst = some d → d < c.nt) {ti : TI} (hti : tb.get T = some ti) {eff : Eff}
  (h : eAlloc gs o.dst g ti = some eff) : OpOk P c F σ bm tm a w g gs n o eff := by
 unfold eAlloc at h
 split at h
 ·rename_i v hv
  simp only [Option.some.injEq] at h; subst h
  refine ⟨fun _ _ K Q hK => ?_, fun hn => absurd (gsH_nil _) hn⟩
  have hno : ∀ x, (∃ y ∈ v.cells.map zeroE, y.1.has x) → F x := fun y ⟨z, hz, hy⟩ => by
   simp only [List.mem_map] at hz
   obtain ⟨t, _, rfl⟩ := hz
   cases t <;> simp [zeroE, Go.Proofs.YtbgcaneflfdddaaGreatDoor.K.has] at hy
  cases v with
  | c t =>
   obtain ⟨i, d, hi, _, _, ⟨z, hz, hzv⟩, _⟩ := ty_c hcx hti hv
   have hzr := (zero_rel (w := w) (M := MM c.M0 bm tm σ) (tm := tm) (c := c) hzv).2
   have hzc : z.cells = #[z] := by cases t <;> cases z <;> simp [zeroV] at hzv <;> rfl
   have hrun : (execOp a.eval o).run P w = .ok (.value (.pointer (some ⟨w.heap.size, 0, none⟩))) (w.alloc (.cells [z].toArray T)) := by
    simp [execOp, ho, Instr.alloc, zeroValue, run_typeInfo hi, hz, newVar, newRow, hzc]
   unfold Oper.wp; rw [hrun]
   exact hK _ _ _ _ (box_made hs hg hd (cs := [zeroE t]) (relCs_one hzr) hno)
  | agg ts =>
   obtain ⟨i, f, cs, hi, _, _, hz, hzv, _⟩ := ty_agg hcx hti hv
   have hzr := (zeros_rel (w := w) (M := MM c.M0 bm tm σ) (tm := tm) (c := c) hzv).2
   have hrun : (execOp a.eval o).run P w = .ok (.value (.pointer (some ⟨w.heap.size, 0, none⟩))) (w.alloc (.cells cs.toList.toArray T)) := by
    simp [execOp, ho, Instr.alloc, zeroValue, run_typeInfo hi, hz, newVar, newRow, Value.cells]
   unfold Oper.wp; rw [hrun]
   exact hK _ _ _ _ (box_made hs hg hd hzr hno)
 ·simp at h
theorem sStore (hcx : tbOk P tb tb = true) (hs : Sim c F σ bm tm a w) (hΓ : EnvTy tb.tab Γ c.env) {g n : Nat} {o : Oper} {y x : Operand} {T T1 T2 : Nat} (ho : o.op = .store T y x) {ti : TI} (hti : tb.get T = some ti) {eff : Eff}
  (h : eStore tb.tab Γ gs o.dst σ ti (opd tb σ T1 y) (opd tb σ T2 x) = some eff) : OpOk P c F σ bm tm a w g gs n o eff := by
 unfold eStore at h
 split at h
 ·rename_i dst g' id off k e hdst hy hx
  obtain ⟨st, h2, h3⟩ := bind_some' hy
  have hp := under_ptr h3 (opd_rel hs h2).1 (gsH_nil _)
  have hvr := (val_rel hs hx).1 (gsH_nil _)
  have hmen := (val_rel hs hx).2
  refine ⟨fun _ _ K Q hK => ?_, fun hn => absurd (gsH_nil _) hn⟩
  split at h
  ·rename_i cs hbox
   obtain ⟨vs, T0, hblk, hrel, hBX⟩ := hs.box id cs hbox
   have hgo : ∀ (news : List (Go.Proofs.YtbgcaneflfdddaaGreatDoor.K × E)) (vals : List Value) (i : TypeInfo), P.info? T = some i → (a.eval x).cells.toList = vals → vals.length = i.size → (∀ v ∈ vals, v.oneCell' = true) → off + vals.length ≤ cs.length → relCs w (MM c.M0 bm tm σ) tm c.env news vals → (∀ q, (∃ z ∈ news, z.1.has q) → F q) →
     eff = ⟨[(3 * id + 1, .box (setAll cs off news))], []⟩ → o.wp P a w K Q := by
    intro news vals i hi hcl hln hone hle hnew hnm heff
    subst heff
    have hlen := hrel.length
    obtain ⟨w', h1, h4, h5⟩ := run_storeCells (P := P) (bm id) T0 vals w vs.toArray off 0 hblk hone (by simp; omega)
    have hsz : (a.eval x).cells.size = i.size := by rw [← Array.length_toList, hcl, hln]
    have hrun : (execOp a.eval o).run P w = .ok .skip w' := by
     simp [execOp, ho, hp, Instr.storeAt, Instr.sureAddr, storeVar, run_sizeOf hi, hsz, hcl, h1]
    unfold Oper.wp; rw [hrun]
    simp only [Oper.upon, hdst, Act.put]
    refine hK bm tm a w' (Sim.mono (F := F) ?_ fun x hx => .inl hx)
    refine hs.setBox hbox (Fr.of_one h5 (hBX.imp (fun h => h) (fun h => h.2))) (fun k _ hk => h5.block k hk) (fun M' hM' hk => ?_) fun q ⟨z, hz, hq⟩ => ?_
    ·refine ⟨(setAllA vs.toArray off vals).toList, T0, by simpa using h4, ?_, hBX⟩
     rw [setAllA_toList]
     exact relCs.keep (tm' := tm) hk (fun _ _ => rfl) (relCs.setAll hnew off hrel)
    ·rcases mem_setAll _ _ _ hz with hz | hz
     ·exact hs.f1 (3 * id + 1) q (by rw [hbox]; exact ⟨z, hz, hq⟩)
     ·exact hnm q ⟨z, hz, hq⟩
   split at h
   ·rename_i t t' hv he
    split at h
    ·rename_i hoff
     simp only [Option.some.injEq] at h
     obtain ⟨i, d, hi, hsz, _⟩ := ty_c hcx hti hv
     obtain ⟨hc1, hc2⟩ := cells_c (E.inf_ok hΓ e _ he) hvr.rd
     exact hgo [(k, e)] [a.eval x] i hi (by rw [hc1]) (by simp [hsz]) (by simpa using hc2) (by simp only [List.length_cons, List.length_nil]; omega) (relCs_one hvr) (fun q ⟨z, hz, hq⟩ => by simp at hz; subst hz; exact hmen q hq) (by rw [← h]; rfl)
    ·simp at h
   ·rename_i ts us hv he
    split at h
    ·rename_i hc
     simp only [Option.some.injEq] at h
     obtain ⟨i, f, z, hi, hsz, _⟩ := ty_agg hcx hti hv
     obtain ⟨l, hl, hlt⟩ := hasV1_agg (E.inf_ok hΓ e _ he)
     have hrd := hvr.rd
     rw [hl] at hrd
     obtain ⟨us', hus, hrs⟩ := hrd
     have hl1 := hrs.length
     have hl2 := hlt.length
     refine hgo (apart k ts.length e) us'.toList i hi (by rw [hus]; rfl) (by rw [hl1, hl2, hsz]; exact hc.1.symm) (cells_one hlt hrs) (by rw [hl1, hl2, ← hc.1]; exact hc.2) ?_ (fun q hq => hmen q (apart_has hq)) h.symm
     rw [hc.1, ← hl2]; exact relCs_apart hl hrs (by rw [hus] at hvr; simpa using hvr)
    ·simp at h
   ·simp at h
  ·simp at h
 ·simp at h
def dropR (σ : Nat → ST) : Option Nat → Nat → ST
 | none => σ
 | some h => upd σ (3 * h + 2) .un
theorem dropR_t {oh : Option Nat} (t : Nat) : dropR σ oh (3 * t) = σ (3 * t) := by cases oh <;> simp only [dropR]; exact upd_r_t _ _ _
theorem dropR_box {oh : Option Nat} (id : Nat) : dropR σ oh (3 * id + 1) = σ (3 * id + 1) := by cases oh <;> simp only [dropR]; exact upd_r_box _ _ _
theorem dropR_live {oh : Option Nat} {g : Nat} {n : LV} (h : dropR σ oh (3 * g + 2) = .live n) : σ (3 * g + 2) = .live n ∧ oh ≠ some g := by
 cases oh with
 | none => exact ⟨h, by simp⟩
 | some k =>
  simp only [dropR] at h
  by_cases e : g = k
  ·subst e; rw [upd_same] at h; cases h
  ·rw [upd_r_live _ e] at h; exact ⟨h, fun x => e (by simpa using x.symm)⟩
theorem dropR_men {oh : Option Nat} {l x : Nat} (h : men (dropR σ oh l) x) : men (σ l) x := by
 cases oh with
 | none => exact h
 | some k =>
  simp only [dropR] at h
  by_cases e : l = 3 * k + 2
  ·subst e; rw [upd_same] at h; exact h.elim
  ·rwa [upd_ne _ _ e] at h
theorem ownA.congr {tm' : Nat → Value} {g : Nat} {n : LV} {p : Addr} (ht : tm' g = tm g) (hv : ∀ x, men (.live n) x → tm' x = tm x) (h : ownA tm' g n p) : ownA tm g n p := by
 unfold ownA at *
 rw [ht] at h
 rcases h with h | ⟨e, gv, ms, cells, u, h1, h2, h3⟩
 ·exact .inl h
 ·exact .inr ⟨e, gv, ms, cells, u, h1, by rw [← hv gv ⟨e, ms, h1⟩]; exact h2, h3⟩
theorem setL_nth {α : Type} {l r : List α} {off : Nat} (hr : off + r.length ≤ l.length) : ∀ j x, (setL l off r)[j]? = some x → (off ≤ j ∧ j < off + r.length ∧ r[j - off]? = some x) ∨ ((j < off ∨ off + r.length ≤ j) ∧ l[j]? = some x) := by
 intro j x h
 rw [setL_get?] at h
 split at h
 ·rename_i hc; exact .inl ⟨hc.1, hc.2.1, h⟩
 ·rename_i hc
  refine .inr ⟨?_, h⟩
  have := (List.getElem?_eq_some_iff.1 h).1
  omega
theorem setAllA_get? (C : Array Value) (o : Nat) (vals : List Value) (x : Nat) : (setAllA C o vals)[x]? = if o ≤ x ∧ x < o + vals.length ∧ x < C.size then vals[x - o]? else C[x]? := by
 have : ∀ (l : List Value) (cs : List Value) (q : Nat), setAll cs q l = setL cs q l := by
  intro l
  induction l with
  | nil => intro cs q; rfl
  | cons y l ih => intro cs q; simp [setAll, setL, ih]
 rw [← Array.getElem?_toList, setAllA_toList, this, setL_get?]
 simp
theorem RowsOk.upd {w' : World} {v : Value} {n : Nat} {Q Q' : Nat → Nat → D → Value → Prop} {d0 : D} {k off : Nat} {l : List D} (hb : RowsOk w v n Q d0) {b o len cap : Nat} (hv : v = .slice (some ⟨b, o, none⟩) len cap) (hk : k < len) {C : Array Value} {T : TypeId}
  {vals : List Value} (hw : w.heap[b]? = some (.cells C T (0, 0))) (hl : vals.length = l.length) (hoff : off + vals.length ≤ n) (hsz : o + cap * n ≤ C.size)
  (hnew : ∀ (j : Nat) (d : D), l[j]? = some d → ∃ u, vals[j]? = some u ∧ Q' k (off + j) d u) (hold : ∀ (i j : Nat) (d : D) (u : Value), j < n → i ≠ k ∨ j < off ∨ off + l.length ≤ j → Q i j d u → Q' i j d u)
  (hw' : w'.heap[b]? = some (.cells (setAllA C (o + k * n + off) vals) T (0, 0))) : RowsOk w' v n Q' (.sl (updR d0.toR k off l)) := by
 obtain ⟨a', len', cap', rows, h1, h2, h3, h4, h5, h6, h7, h8⟩ := hb
 rw [hv] at h1
 simp only [Value.slice.injEq] at h1
 obtain ⟨rfl, rfl, rfl⟩ := h1
 subst h2
 have hkl : k < rows.length := by omega
 have p2 : rows[k]? = some rows[k] := List.getElem?_eq_getElem hkl
 have p3 : rows[k].length = n := h7 _ (List.getElem_mem hkl)
 have p6 := (h8 b o none rfl).2 k _ p2
 refine ⟨_, len, cap, updR rows k off l, hv, rfl, by simp [updR]; exact h3, h4, h5, h6, ?_, fun b' o' s' he => ⟨fun _ => by cases he; rfl, ?_⟩⟩
 ·intro z hz
  unfold updR at hz
  rcases List.mem_or_eq_of_mem_set hz with h | h
  ·exact h7 z h
  ·subst h; rw [length_setL]; simpa [List.getD, p2] using p3
 ·cases he
  intro x z hz j d hj
  have hx : x < rows.length := by
   have := (List.getElem?_eq_some_iff.1 hz).1
   simpa [updR] using this
  have hw0 : ∀ q, w.cell? ⟨b, q, none⟩ = C[q]? := fun q => cell_of_row w b q _ T _ hw
  have hw1 : ∀ q, w'.cell? ⟨b, q, none⟩ = (setAllA C (o + k * n + off) vals)[q]? := fun q => cell_of_row w' b q _ T _ hw'
  have hzl : z.length = n := by
   have : z ∈ updR rows k off l := List.mem_of_getElem? hz
   unfold updR at this
   rcases List.mem_or_eq_of_mem_set this with h | h
   ·exact h7 z h
   ·subst h; rw [length_setL]; simpa [List.getD, p2] using p3
  have hjn : j < n := by rw [← hzl]; exact (List.getElem?_eq_some_iff.1 hj).1
  rw [hw1, setAllA_get?]
  unfold updR at hz
  rw [List.getElem?_set] at hz
  by_cases e : k = x
  ·subst e
   rw [if_pos rfl, if_pos hx] at hz
   simp only [Option.some.injEq] at hz
   subst hz
   simp only [List.getD, p2, Option.getD_some] at hj
   rcases setL_nth (by rw [← hl, p3]; exact hoff) j d hj with ⟨q1, q2, q3⟩ | ⟨q1, q2⟩
   ·obtain ⟨u, hu, hlf⟩ := hnew _ d q3
    refine ⟨u, ?_, by rwa [show off + (j - off) = j by omega] at hlf⟩
    have hb2 : k * n + n ≤ cap * n := by
     have : (k + 1) * n ≤ cap * n := Nat.mul_le_mul_right _ (by omega)
     rwa [Nat.add_mul, Nat.one_mul] at this
    rw [if_pos (by omega), ← hu]
    congr 1; omega
   ·obtain ⟨u, hu, hlf⟩ := p6 j d q2
    refine ⟨u, ?_, hold _ _ _ _ hjn (.inr q1) hlf⟩
    rw [hw0] at hu
    rw [if_neg (by omega)]; exact hu
  ·rw [if_neg e] at hz
   obtain ⟨u, hu, hlf⟩ := (h8 b o none rfl).2 x z hz j d hj
   refine ⟨u, ?_, hold _ _ _ _ hjn (.inl (fun h => e h.symm)) hlf⟩
   rw [hw0] at hu
   have hne : ¬ (o + k * n + off ≤ o + x * n + j ∧ o + x * n + j < o + k * n + off + vals.length ∧ o + x * n + j < C.size) := by
    rintro ⟨g1, g2, _⟩
    rcases Nat.lt_or_gt_of_ne e with h | h
    ·have : (k + 1) * n ≤ x * n := Nat.mul_le_mul_right _ h
     rw [Nat.add_mul, Nat.one_mul] at this
     omega
    ·have : (x + 1) * n ≤ k * n := Nat.mul_le_mul_right _ h
     rw [Nat.add_mul, Nat.one_mul] at this
     omega
   rw [if_neg hne]; exact hu
theorem SpOk.store {w' : World} {B n b : Nat} {v : Value} {C : Array Value} {T : TypeId} {o : Nat} {vals : List Value} (h : SpOk B w v n) (h1 : OneBlock w w' b) (hw : w.heap[b]? = some (.cells C T (0, 0))) (hw' : w'.heap[b]? = some (.cells (setAllA C o vals) T (0, 0))) : SpOk B w' v n := fun b' o' s len cap he hl => by
 obtain ⟨q1, q2, cells, T', q3, q4⟩ := h b' o' s len cap he hl
 refine ⟨q1, q2, ?_⟩
 by_cases e : b' = b
 ·subst e
  rw [hw] at q3
  simp only [Option.some.injEq, Obj.cells.injEq] at q3
  obtain ⟨rfl, rfl, _⟩ := q3
  exact ⟨_, T, hw', by rw [size_setAllA]; exact q4⟩
 ·exact ⟨cells, T', by rw [h1.block _ e]; exact q3, q4⟩
theorem sSt (hcx : tbOk P tb tb = true) (hs : Sim c F σ bm tm a w) (hΓ : EnvTy tb.tab Γ c.env) {g n : Nat} (hg : ¬ F g) {o : Oper} {y x : Operand} {T T1 T2 : Nat} (ho : o.op = .store T y x) {ti : TI} (hti : tb.get T = some ti) {eff : Eff}
  (h : eSt tb Γ gs o.dst σ g ti (opd tb σ T1 y) (opd tb σ T2 x) = some eff) : OpOk P c F σ bm tm a w g gs n o eff := by
 unfold eSt at h
 split at h
 ·rename_i g' m i off hdst hy
  exact (by simp [eMStore] at h)
 ·rename_i g' gv m i off j m2 o2 hdst hy
  exact (by simp [eIStore] at h)
 ·exact sStore hcx hs hΓ ho hti h
theorem args_rel (hs : Sim c F σ bm tm a w) (hg : gsH c.env gs) : ∀ (xs : List Operand) (Ts : List Nat) (es : List E), eArgs tb Γ gs σ xs Ts = some es → Rs w (MM c.M0 bm tm σ) (es.map (·.den c.env)) (xs.map a.eval)
 | [], [], es, h => by simp [eArgs] at h; subst h; rfl
 | x :: xs, T :: Ts, es, h => by
  simp only [eArgs] at h
  split at h
  ·rename_i k e es' h1 h2
   simp only [Option.some.injEq] at h; subst h
   exact ⟨_, _, rfl, ((val_rel hs h1).1 hg).rd, args_rel hs hg xs Ts es' h2⟩
  ·simp at h
 | [], _ :: _, es, h => by simp [eArgs] at h
 | _ :: _, [], es, h => by simp [eArgs] at h
theorem run_call {f : FuncId} (hf : callable P f = true) {o : Oper} {cl : Call} (ho : o.op = .call cl) (hcl : cl.callee = .value (.func f)) : (execOp a.eval o).run P w = .ok (.enter f (cl.args.map a.eval)) w := by
 unfold callable at hf
 split at hf
 ·rename_i fn hfn
  simp only [Bool.and_eq_true, Bool.not_eq_true'] at hf
  obtain ⟨h1, h2⟩ := hf
  obtain ⟨b, hb⟩ := Option.isSome_iff_exists.1 h2
  have h1' : (fn.name = "runtime.NumGoroutine") = False := by
   apply eq_false
   intro e
   rw [e] at h1
   exact absurd h1 (by decide)
  simp [execOp, ho, resolve, hcl, Deferred.ofValue, Act.eval, invoke, callFunc, hfn, hb, h1']
 ·simp at hf
theorem sCall_args (hs : Sim c F σ bm tm a w) (hg : gsH c.env gs) {g n : Nat} {o : Oper} {cl : Call} {f : FuncId} (ho : o.op = .call cl) (hcl : cl.callee = .value (.func f)) (hd : ∀ d, o.dst = some d → d < c.nt) {es : List E} {Ts : List Nat} {vt : VT}
  (hes : eArgs tb Γ gs σ cl.args.toList Ts = some es) (hr : RqH P c.env n (.call gs f none es vt [])) (K : Act → World → Prop) (Q : Exit → Act → World → Prop)
  (hK : ∀ bm' tm' a' w', Sim c (fun x => F x ∨ NewT g x) (updL σ (wv o.dst (.v gs .d (.var n)))) bm' tm' a' w' → K a' w') : o.wp P a w K Q := by
 obtain ⟨hf, hrun⟩ := hr hg
 have hargs := args_rel hs hg _ _ _ hes
 unfold Oper.wp
 rw [run_call hf ho hcl]
 simp only [Oper.upon]
 have := hrun w (MM c.M0 bm tm σ) 0 (cl.args.toList.map a.eval) hs.rdy hargs (fun cs h => by simp at h)
 simp only [Option.map_none] at this
 have e : (cl.args.toList.map a.eval).toArray = cl.args.map a.eval := by rw [← Array.toList_inj]; simp
 rw [e] at this
 refine this.mono ?_
 rintro e' w' ⟨v, rfl, h1, h2, _⟩
 refine hK bm tm _ _ (((hs.grow h2.to_below).putO hd (relT_v (k := .d) (e := .var n) hg h1) fun x hx => by simp [men, Go.Proofs.YtbgcaneflfdddaaGreatDoor.K.has] at hx).mono fun x hx => .inl hx)
theorem relCs_vars {M : Addr → Prop} : ∀ (nb : List CT) (m : Nat) (us : List Value), Rs w M ((List.range nb.length).map fun j => c.env.getD (m + j) .un) us → relCs w M tm c.env (vars m nb) us
 | [], m, us, h => by simpa [Rs, vars, relCs] using h
 | t :: nb, m, us, h => by
  simp only [List.length_cons, List.range_succ_eq_map, List.map_cons, List.map_map] at h
  obtain ⟨v, q, rfl, h1, h2⟩ := h
  refine ⟨v, q, rfl, by simpa [relK, E.den] using h1, relCs_vars nb (m + 1) q ?_⟩
  simpa [Function.comp_def, Nat.add_assoc, Nat.add_comm 1] using h2
theorem vars_d : ∀ (nb : List CT) (m : Nat) (q : Nat), ¬ ∃ z ∈ vars m nb, z.1.has q
 | [], _, _, ⟨z, hz, _⟩ => by simp [vars] at hz
 | t :: nb, m, q, ⟨z, hz, hq⟩ => by
  simp only [vars, List.mem_cons] at hz
  rcases hz with rfl | hz
  ·cases hq
  ·exact vars_d nb (m + 1) q ⟨z, hz, hq⟩
theorem sNew (hs : Sim c F σ bm tm a w) (hΓ : EnvTy tb.tab Γ c.env) {g n : Nat} (hgF : ¬ F g) {o : Oper} {cl : Call} {f : FuncId} {nb : List CT} (ho : o.op = .call cl) (hcl : cl.callee = .value (.func f)) (hd : ∀ d, o.dst = some d → d < c.nt) (hn : n = Γ.length) {eff : Eff}
  (h : eNew tb Γ gs o.dst σ g nb f cl.args.toList cl.argTypes.toList = some eff) : OpOk P c F σ bm tm a w g gs n o eff := by
 subst hn
 unfold eNew at h
 split at h
 ·rename_i es hes
  simp only [Option.some.injEq] at h; subst h
  refine ⟨fun hg hr K Q hK => ?_, fun hn => absurd (gsH_nil _) hn⟩
  have hrq : RqH P c.env Γ.length (.new f es nb) := hr _ (by simp)
  obtain ⟨hf, hrun⟩ := hrq
  have hargs := args_rel hs (gsH_nil _) _ _ _ hes
  unfold Oper.wp
  rw [run_call hf ho hcl]
  simp only [Oper.upon]
  have := hrun w (MM c.M0 bm tm σ) (cl.args.toList.map a.eval) hs.rdy hargs
  have e : (cl.args.toList.map a.eval).toArray = cl.args.map a.eval := by rw [← Array.toList_inj]; simp
  rw [e] at this
  refine this.mono ?_
  rintro e' w' ⟨g0, us, T, rfl, h1, h2, h3, h4⟩
  refine hK (upd bm g g0) tm _ w' ?_
  rw [updL_wv_box]
  refine Sim.tag ((hs.newBoxAt hgF h4 h1 h2 (relCs_vars nb _ us h3) fun q hq => absurd hq (vars_d _ _ _)).putO hd ⟨fun _ => by rw [upd_same], fun h => absurd (gsH_nil _) h⟩ fun x hx => ?_)
  simp only [men] at hx; exact .inr hx
 ·simp at h
theorem updL_ups {dst : Option Nat} {st : ST} : ∀ {ups : List (Nat × ST)} {σ : Nat → ST}, (∀ p ∈ ups, ∀ d, p.1 ≠ 3 * d) → updL σ (wv dst st ++ ups) = updL (updL σ ups) (wv dst st) := by
 intro ups σ h
 cases dst with
 | none => rfl
 | some d =>
  show updL (upd σ (3 * d) st) ups = upd (updL σ ups) (3 * d) st
  induction ups generalizing σ with
  | nil => rfl
  | cons p r ih =>
   obtain ⟨l, s⟩ := p
   show updL (upd (upd σ (3 * d) st) l s) r = _
   rw [upd_comm (Ne.symm (h (l, s) (by simp) d))]
   exact ih fun q hq => h q (by simp [hq])
theorem rtLive_t : ∀ {rt : List (Nat × Nat)} {g : Nat} {σ : Nat → ST} (t : Nat), updL σ (rtLive g rt) (3 * t) = σ (3 * t)
 | [], _, _, _ => rfl
 | (q, m) :: r, g, σ, t => by
  show updL (upd σ (3 * g + 2) (.live ⟨m, none⟩)) (rtLive (g + 1) r) (3 * t) = _
  rw [rtLive_t t, upd_r_t]
theorem rtLive_b : ∀ {rt : List (Nat × Nat)} {g : Nat} {σ : Nat → ST} (t : Nat), updL σ (rtLive g rt) (3 * t + 1) = σ (3 * t + 1)
 | [], _, _, _ => rfl
 | (q, m) :: r, g, σ, t => by
  show updL (upd σ (3 * g + 2) (.live ⟨m, none⟩)) (rtLive (g + 1) r) (3 * t + 1) = _
  rw [rtLive_b t, upd_r_box]
theorem rtLive_r : ∀ {rt : List (Nat × Nat)} {g : Nat} {σ : Nat → ST} (x : Nat), updL σ (rtLive g rt) (3 * x + 2) = if g ≤ x ∧ x < g + rt.length then .live ⟨(rt.getD (x - g) (0, 0)).2, none⟩ else σ (3 * x + 2)
 | [], g, σ, x => by rw [if_neg (by simp only [List.length_nil]; omega)]; rfl
 | (q, m) :: r, g, σ, x => by
  show updL (upd σ (3 * g + 2) (.live ⟨m, none⟩)) (rtLive (g + 1) r) (3 * x + 2) = _
  rw [rtLive_r x]
  by_cases h : x = g
  ·subst h
   rw [if_neg (by omega), upd_same, if_pos (by simp only [List.length_cons]; omega)]; simp
  ·rw [upd_r_live _ h]
   by_cases h1 : g + 1 ≤ x ∧ x < g + 1 + r.length
   ·rw [if_pos h1, if_pos (by simp only [List.length_cons]; omega), show x - g = (x - (g + 1)) + 1 by omega]; rfl
   ·rw [if_neg h1, if_neg (by simp only [List.length_cons]; omega)]
def tmR (tm : Nat → Value) (g : Nat) (v : Value) (rt : List (Nat × Nat)) : Nat → Value := fun x => if g ≤ x ∧ x < g + rt.length then rtV v (rt.getD (x - g) (0, 0)) else tm x
def boxO (σ : Nat → ST) (cs : List (K × E)) : Option Nat → Nat → ST
 | none => σ
 | some id => upd σ (3 * id + 1) (.box cs)
theorem Sim.rights {w' : World} (hs : Sim c F σ bm tm a w) {g : Nat} (hg : ∀ x, NewT g x → ¬ F x) {rt : List (Nat × Nat)} (hl : rt.length ≤ stride) {v : Value} (hrt : RtOk w.heap.size w' v rt) (oid : Option Nat) {cs' : List (K × E)}
  (hid : ∀ id, oid = some id → ∃ cs, σ (3 * id + 1) = .box cs) (hfr : Fr c.B c.X w w') (hob : ∀ k, k < w.heap.size → (∀ id, oid = some id → k ≠ bm id) → w'.heap[k]? = w.heap[k]?)
  (hbox : ∀ id M' tm', oid = some id → (∀ p, M' p → MM c.M0 bm tm σ p ∨ RtM v rt p) → BoxOk c w' M' bm tm' id cs') (hno : ∀ x, ¬ ∃ z ∈ cs', z.1.has x) :
  Sim c (fun x => F x ∨ NewT g x) (updL (boxO σ cs' oid) (rtLive g rt)) bm (tmR tm g v rt) a w' ∧ (∀ p, MM c.M0 bm (tmR tm g v rt) (updL (boxO σ cs' oid) (rtLive g rt)) p → MM c.M0 bm tm σ p ∨ RtM v rt p) := by
 have hO_t : ∀ t, boxO σ cs' oid (3 * t) = σ (3 * t) := fun t => by cases oid with | none => rfl | some id => exact upd_b_t _ _ _
 have hO_r : ∀ t, boxO σ cs' oid (3 * t + 2) = σ (3 * t + 2) := fun t => by cases oid with | none => rfl | some id => exact upd_b_live _ _ _
 have hO_b : ∀ id cs, boxO σ cs' oid (3 * id + 1) = .box cs → (oid = some id ∧ cs = cs') ∨ (oid ≠ some id ∧ σ (3 * id + 1) = .box cs) := fun id cs h => by
  cases oid with
  | none => exact .inr ⟨by simp, h⟩
  | some i =>
   simp only [boxO] at h
   by_cases e : id = i
   ·subst e; rw [upd_same] at h; simp at h; exact .inl ⟨rfl, h.symm⟩
   ·rw [upd_b_box _ e] at h; exact .inr ⟨fun e' => e (by simp at e'; exact e'.symm), h⟩
 have hO_bo : ∀ id cs, boxO σ cs' oid (3 * id + 1) = .box cs → ∃ cs0, σ (3 * id + 1) = .box cs0 := fun id cs h => by
  rcases hO_b id cs h with ⟨h1, _⟩ | ⟨_, h1⟩
  ·exact hid id h1
  ·exact ⟨cs, h1⟩
 have hin : ∀ x, g ≤ x ∧ x < g + rt.length → ∃ y, rt[x - g]? = some y ∧ rt.getD (x - g) (0, 0) = y ∧ y ∈ rt := fun x hx => by
  have : x - g < rt.length := by omega
  exact ⟨rt[x - g], List.getElem?_eq_getElem this, by simp [List.getD, List.getElem?_eq_getElem this], List.getElem_mem this⟩
 have hlv : ∀ x n, updL (boxO σ cs' oid) (rtLive g rt) (3 * x + 2) = .live n → (∃ y, rt[x - g]? = some y ∧ y ∈ rt ∧ (g ≤ x ∧ x < g + rt.length) ∧ (⟨y.2, none⟩ : LV) = n ∧ tmR tm g v rt x = rtV v y) ∨ (¬ (g ≤ x ∧ x < g + rt.length) ∧ σ (3 * x + 2) = .live n ∧ tmR tm g v rt x = tm x) := fun x n h => by
  rw [rtLive_r] at h
  by_cases hc : g ≤ x ∧ x < g + rt.length
  ·obtain ⟨y, h1, h2, h3⟩ := hin x hc
   rw [if_pos hc, h2] at h
   simp at h
   exact .inl ⟨y, h1, h3, hc, h, by unfold tmR; rw [if_pos hc, h2]⟩
  ·rw [if_neg hc, hO_r] at h
   exact .inr ⟨hc, h, if_neg hc⟩
 have htm : ∀ x, F x → tmR tm g v rt x = tm x := fun x hx => if_neg fun hc => hg x ⟨hc.1, by omega⟩ hx
 have hMM : ∀ p, MM c.M0 bm (tmR tm g v rt) (updL (boxO σ cs' oid) (rtLive g rt)) p → MM c.M0 bm tm σ p ∨ RtM v rt p := by
  rintro p (h | ⟨id, cs, h1, h2⟩ | ⟨x, n, h1, h2⟩)
  ·exact .inl (.inl h)
  ·rw [rtLive_b] at h1
   obtain ⟨cs0, h3⟩ := hO_bo id cs h1
   exact .inl (.inr (.inl ⟨id, cs0, h3, h2⟩))
  ·rcases hlv x n h1 with ⟨y, q1, q2, q3, q4, q5⟩ | ⟨q1, q2, q3⟩
   ·rw [← q4] at h2; exact .inr ⟨y, q2, by have := ownA_none h2; rwa [q5] at this⟩
   ·exact .inl (.inr (.inr ⟨x, n, q2, ownA.congr q3 (fun y hy => htm y (hs.f1 (3 * x + 2) y (by rw [q2]; exact hy))) h2⟩))
 have hnew : ∀ y ∈ rt, ∀ b o s len cap, rtV v y = .slice (some ⟨b, o, s⟩) len cap → 0 < cap → w.heap.size ≤ b := fun y hy b o s len cap he hlt => (hrt.1 y hy b o s len cap he hlt).2.1
 have hk : Keeps w (MM c.M0 bm tm σ) w' (MM c.M0 bm (tmR tm g v rt) (updL (boxO σ cs' oid) (rtLive g rt))) := fun p u hp hn => by
  have hlt := block_lt_of_cell hp
  refine ⟨?_, fun h => ?_⟩
  ·rw [← hp]
   refine World.cell?_of_block (hob _ hlt fun id hi e => ?_)
   obtain ⟨cs, hc⟩ := hid id hi
   exact hn (.inr (.inl ⟨id, cs, hc, e⟩))
  ·rcases hMM p h with h | ⟨y, hy, h⟩
   ·exact hn h
   ·obtain ⟨o, s, len, cap, h1, h2⟩ := spare_lt h
    have := hnew y hy _ _ _ _ _ h1 h2
    omega
 refine ⟨?_, hMM⟩
 refine hs.turn (fun t => by rw [rtLive_t, hO_t]) (fun x hx => ⟨rfl, htm x hx⟩) (fun _ h => .inl h) hfr hk ?_ ?_ ?_ ?_ ?_ ?_ ?_ ?_
 ·intro id cs h
  rw [rtLive_b] at h
  rcases hO_b id cs h with ⟨h1, rfl⟩ | ⟨h1, h2⟩
  ·exact hbox id _ _ h1 hMM
  ·refine (hs.box id cs h2).keep hk rfl (hob _ (hs.box id cs h2).lt fun i hi e => ?_) fun x hx => htm x (hs.f1 (3 * id + 1) x (by rw [h2]; exact hx))
   obtain ⟨cs0, hc⟩ := hid i hi
   exact hs.dbb id i cs cs0 h2 hc (fun e' => h1 (by rw [e']; exact hi)) e
 ·intro x n h
  rcases hlv x n h with ⟨y, q1, q2, q3, q4, q5⟩ | ⟨q1, q2, q3⟩
  ·subst q4
   refine ⟨fun b o s len cap he hlt => ?_, (fun e dp he => by cases he), (fun e gv ms he => by cases he)⟩
   rw [q5] at he
   obtain ⟨z1, z2, z3⟩ := hrt.1 y q2 b o s len cap he hlt
   exact ⟨z1, Nat.le_trans hs.hB z2, z3⟩
  ·refine (hs.live x n q2).keep (fun b hb => hob _ ((hs.live x n q2).lt hb) fun i hi e => ?_) q3 fun y hy => htm y (hs.f1 (3 * x + 2) y (by rw [q2]; exact hy))
   obtain ⟨cs0, hc⟩ := hid i hi
   exact hs.dbl i cs0 x n b hc q2 hb e.symm
 ·intro i j cs1 cs2 h h' hne
  rw [rtLive_b] at h h'
  obtain ⟨d, hd⟩ := hO_bo i cs1 h
  obtain ⟨d', hd'⟩ := hO_bo j cs2 h'
  exact hs.dbb i j d d' hd hd' hne
 ·intro i cs1 x n b h hx hb
  rw [rtLive_b] at h
  obtain ⟨d, hd⟩ := hO_bo i cs1 h
  rcases hlv x n hx with ⟨y, q1, q2, q3, q4, q5⟩ | ⟨q1, q2, q3⟩
  ·subst q4
   obtain ⟨o, s, len, cap, he, hlt⟩ := Blk_none hb
   rw [q5] at he
   have := hnew y q2 b o s len cap he hlt
   have := (hs.box i d hd).lt
   omega
  ·exact hs.dbl i d x n b hd q2 ((Blk.congr q3 fun y hy => htm y (hs.f1 (3 * x + 2) y (by rw [q2]; exact hy))).1 hb)
 ·intro x n y m b b' hx hy hne hb hb'
  rcases hlv x n hx with ⟨x1, q1, q2, q3, q4, q5⟩ | ⟨q1, q2, q3⟩ <;> rcases hlv y m hy with ⟨y1, p1, p2, p3, p4, p5⟩ | ⟨p1, p2, p3⟩
  ·subst q4 p4
   obtain ⟨o, s, len, cap, he, hlt⟩ := Blk_none hb
   obtain ⟨o', s', len', cap', he', hlt'⟩ := Blk_none hb'
   rw [q5] at he; rw [p5] at he'
   exact hrt.2 _ _ x1 y1 q1 p1 (by omega) _ _ _ _ _ _ _ _ _ _ he hlt he' hlt'
  ·subst q4
   obtain ⟨o, s, len, cap, he, hlt⟩ := Blk_none hb
   rw [q5] at he
   have h1 := hnew x1 q2 b o s len cap he hlt
   have h2 := (hs.live y m p2).lt ((Blk.congr p3 fun z hz => htm z (hs.f1 (3 * y + 2) z (by rw [p2]; exact hz))).1 hb')
   omega
  ·subst p4
   obtain ⟨o, s, len, cap, he, hlt⟩ := Blk_none hb'
   rw [p5] at he
   have h1 := hnew y1 p2 b' o s len cap he hlt
   have h2 := (hs.live x n q2).lt ((Blk.congr q3 fun z hz => htm z (hs.f1 (3 * x + 2) z (by rw [q2]; exact hz))).1 hb)
   omega
  ·exact hs.dll x n y m b b' q2 p2 hne ((Blk.congr q3 fun z hz => htm z (hs.f1 (3 * x + 2) z (by rw [q2]; exact hz))).1 hb) ((Blk.congr p3 fun z hz => htm z (hs.f1 (3 * y + 2) z (by rw [p2]; exact hz))).1 hb')
 ·intro l x h
  refine .inl ?_
  have h3 : l = 3 * (l / 3) ∨ l = 3 * (l / 3) + 1 ∨ l = 3 * (l / 3) + 2 := by omega
  rcases h3 with e | e | e
  ·rw [e, rtLive_t, hO_t] at h; exact hs.f1 _ x h
  ·rw [e, rtLive_b] at h
   generalize hst : boxO σ cs' oid (3 * (l / 3) + 1) = st at h
   cases oid with
   | none => rw [← hst] at h; exact hs.f1 _ x h
   | some id =>
    by_cases e' : l / 3 = id
    ·simp only [boxO] at hst
     rw [e', upd_same] at hst
     subst hst
     exact absurd h (hno x)
    ·simp only [boxO] at hst
     rw [upd_b_box _ e'] at hst
     rw [← hst] at h; exact hs.f1 _ x h
  ·rw [e, rtLive_r] at h
   split at h
   ·obtain ⟨_, _, h⟩ := h; cases h
   ·rw [hO_r] at h; exact hs.f1 _ x h
 ·intro id cs h
  rw [rtLive_b] at h
  obtain ⟨d, hd⟩ := hO_bo id cs h
  exact .inl (hs.f2 id d hd)
 ·intro x n h
  rcases hlv x n h with ⟨y, q1, q2, q3, q4, q5⟩ | ⟨q1, q2, q3⟩
  ·exact .inr ⟨q3.1, by omega⟩
  ·exact .inl (hs.f3 x n q2)
theorem rtAt_in : ∀ {rt : List (Nat × Nat)} {g p x : Nat}, rtAt g rt p = .own x → ∃ i y, rt[i]? = some y ∧ y.1 = p ∧ x = g + i
 | [], g, p, x, h => by simp [rtAt] at h
 | (q, m) :: r, g, p, x, h => by
  simp only [rtAt] at h
  cases e : Nat.beq q p with
  | true =>
   rw [e] at h; simp only [cond_true, KK.own.injEq] at h
   exact ⟨0, (q, m), rfl, Nat.eq_of_beq_eq_true e, by omega⟩
  | false =>
   rw [e] at h; simp only [cond_false] at h
   obtain ⟨i, y, h1, h2, h3⟩ := rtAt_in h
   exact ⟨i + 1, y, by simpa using h1, h2, by omega⟩
theorem rtAt_ok {rt : List (Nat × Nat)} {g p : Nat} {v u : Value} (hu : (flatV v)[p]? = some u) : kkOk (tmR tm g v rt) (rtAt g rt p) u := by
 cases h : rtAt g rt p with
 | d => trivial
 | full =>
  exfalso
  have : ∀ (rt : List (Nat × Nat)) (g : Nat), rtAt g rt p ≠ .full := by
   intro rt
   induction rt with
   | nil => intro g h; simp [rtAt] at h
   | cons a r ih =>
    intro g h
    obtain ⟨q, m⟩ := a
    simp only [rtAt] at h
    cases e : Nat.beq q p with
    | true => rw [e] at h; simp at h
    | false => rw [e] at h; exact ih _ h
  exact this rt g h
 | own x =>
  obtain ⟨i, y, h1, h2, rfl⟩ := rtAt_in h
  have hi : i < rt.length := (List.getElem?_eq_some_iff.1 h1).1
  show u = tmR tm g v rt (g + i)
  unfold tmR
  rw [if_pos (by omega), show g + i - g = i by omega]
  simp only [List.getD, h1, Option.getD_some, rtV, h2, hu]
theorem rtK_ok {rt : List (Nat × Nat)} {g : Nat} {v : Value} {vt : VT} {e : E} {M : Addr → Prop} {w : World} (hty : ShapeOk vt (e.den c.env)) (hr : R w M (e.den c.env) v) : relK w M (tmR tm g v rt) c.env (rtK g rt vt) e v := by
 have lst : ∀ (n j : Nat) (kk : KK) (u : Value), ((List.range n).map (rtAt g rt))[j]? = some kk → (flatV v)[j]? = some u → kkOk (tmR tm g v rt) kk u := fun n j kk u h1 h2 => by
  simp only [List.getElem?_map, Option.map_eq_some_iff] at h1
  obtain ⟨j', hj', rfl⟩ := h1
  have : j' = j := by
   rw [List.getElem?_eq_some_iff] at hj'
   obtain ⟨_, q2⟩ := hj'
   simpa using q2.symm
  subst this
  exact rtAt_ok h2
 rcases vt with (t | ts) | vs
 ·exact relK.of hr (rtAt_ok (by rw [D.one_flat hty hr]; rfl))
 ·exact ⟨hr, lst _⟩
 ·exact ⟨hr, lst _⟩
theorem rtK_has {rt : List (Nat × Nat)} {g x : Nat} {vt : VT} (h : (rtK g rt vt).has x) : g ≤ x ∧ x < g + rt.length := by
 have key : ∀ p, rtAt g rt p = .own x → g ≤ x ∧ x < g + rt.length := fun p hp => by
  obtain ⟨i, y, h1, _, rfl⟩ := rtAt_in hp
  have : i < rt.length := (List.getElem?_eq_some_iff.1 h1).1
  omega
 have lst : ∀ n, KK.own x ∈ (List.range n).map (rtAt g rt) → g ≤ x ∧ x < g + rt.length := fun n hn => by
  obtain ⟨p, _, hp⟩ := List.mem_map.1 hn
  exact key p hp
 rcases vt with (t | ts) | vs
 ·exact key 0 (K.has_k h)
 ·exact lst _ h
 ·exact lst _ h
theorem rtLive_nt : ∀ {rt : List (Nat × Nat)} {g : Nat}, ∀ p ∈ rtLive g rt, ∀ d, p.1 ≠ 3 * d
 | [], _, p, h, _ => by simp [rtLive] at h
 | (q, m) :: r, g, p, h, d => by
  simp only [rtLive, List.mem_cons] at h
  rcases h with rfl | h
  ·show 3 * g + 2 ≠ 3 * d; omega
  ·exact rtLive_nt p h d
theorem sCallR (hs : Sim c F σ bm tm a w) {g n : Nat} (hgF : ∀ x, NewT g x → ¬ F x) {o : Oper} {cl : Call} {f : FuncId} (ho : o.op = .call cl) (hcl : cl.callee = .value (.func f)) (hd : ∀ d, o.dst = some d → d < c.nt) {es : List E} {Ts : List Nat} {vt : VT} {rt : List (Nat × Nat)} (hl : rt.length ≤ stride)
  (hes : eArgs tb Γ [] σ cl.args.toList Ts = some es) (hr : RqH P c.env n (.callR f none es vt [] rt)) (K : Act → World → Prop) (Q : Exit → Act → World → Prop)
  (hK : ∀ bm' tm' a' w', Sim c (fun x => F x ∨ NewT g x) (updL σ (wv o.dst (.v [] (rtK g rt vt) (.var n)) ++ rtLive g rt)) bm' tm' a' w' → K a' w') : o.wp P a w K Q := by
 obtain ⟨hsh, hf, hrun⟩ := hr
 have hargs := args_rel hs (gsH_nil _) _ _ _ hes
 unfold Oper.wp
 rw [run_call hf ho hcl]
 simp only [Oper.upon]
 have := hrun w (MM c.M0 bm tm σ) 0 (cl.args.toList.map a.eval) hs.rdy hargs (fun cs h => by simp at h)
 simp only [Option.map_none] at this
 have e : (cl.args.toList.map a.eval).toArray = cl.args.map a.eval := by rw [← Array.toList_inj]; simp
 rw [e] at this
 refine this.mono ?_
 rintro e' w' ⟨v, rfl, h1, h2, h3, _⟩
 obtain ⟨hS, hMM⟩ := hs.rights hgF hl h3 none (cs' := []) (fun id h => by simp at h) (Fr.of_below h2.to_below hs.hB) (fun k hk _ => h2.block k hk (by simp)) (fun id M' tm' h => by simp at h) (fun x ⟨z, hz, _⟩ => by simp at hz)
 refine hK bm (tmR tm g v rt) _ w' ?_
 rw [updL_ups rtLive_nt]
 have hk : Keeps w' (fun p => MM c.M0 bm tm σ p ∨ RtM v rt p) w' (MM c.M0 bm (tmR tm g v rt) (updL σ (rtLive g rt))) := fun p u hp hn => ⟨hp, fun h => hn (hMM p h)⟩
 refine hS.putO hd (relT_v (gsH_nil _) (rtK_ok (vt := vt) (e := .var n) hsh (R.keep hk _ _ h1))) fun x hx => .inr ?_
 have := rtK_has (show (rtK g rt vt).has x from hx)
 exact ⟨this.1, by omega⟩
theorem gdE_den {env : List D} (hΓ : EnvTy tb.tab Γ env) : ∀ (gs : Gd), gs.all (fun x => isC .bool (x.1.inf tb.tab Γ)) = true → (((gdE gs).den env).toB = true ↔ gsH env gs)
 | [], _ => by simp [gdE, E.den, gsH]
 | (c, b) :: r, h => by
  simp only [List.all_cons, Bool.and_eq_true] at h
  have ih := gdE_den hΓ r h.2
  have hc : c.inf tb.tab Γ = some (.one (.c .bool)) := by simpa [isC] using h.1
  obtain ⟨x, hx⟩ : ∃ x, c.den env = .bool x := hasTy_bool (E.inf_ok hΓ c _ hc)
  have e : gsH env ((c, b) :: r) ↔ c.den env = .bool b ∧ gsH env r := by simp [gsH]
  rw [e, ← ih, hx]
  cases b <;> simp [gdE, E.den, hx]
theorem relCs_mixL {M : Addr → Prop} {g : E} (hg : (g.den c.env).toB = true) : ∀ {xs ys : List (K × E)} {vs : List Value}, xs.length = ys.length → relCs w M tm c.env xs vs → relCs w M tm c.env (mixB g xs ys) vs
 | [], [], _, _, h => h
 | x :: r, y :: q, vs, hl, ⟨v, z, e, h1, h2⟩ => ⟨v, z, e, by simp only [relK, E.den, hg, cond_true]; exact h1.rd, relCs_mixL hg (by simpa using hl) h2⟩
 | [], _ :: _, _, hl, _ => by simp at hl
 | _ :: _, [], _, hl, _ => by simp at hl
theorem relCs_mixR {M : Addr → Prop} {g : E} (hg : (g.den c.env).toB = false) : ∀ {xs ys : List (K × E)} {vs : List Value}, xs.length = ys.length → relCs w M tm c.env ys vs → relCs w M tm c.env (mixB g xs ys) vs
 | [], [], _, _, h => h
 | x :: r, y :: q, vs, hl, ⟨v, z, e, h1, h2⟩ => ⟨v, z, e, by simp only [relK, E.den, hg, cond_false]; exact h1.rd, relCs_mixR hg (by simpa using hl) h2⟩
 | [], _ :: _, _, hl, _ => by simp at hl
 | _ :: _, [], _, hl, _ => by simp at hl
theorem mixB_d (g : E) : ∀ (xs ys : List (K × E)) (q : Nat), ¬ ∃ z ∈ mixB g xs ys, z.1.has q
 | [], _, _, ⟨z, hz, _⟩ => by simp [mixB] at hz
 | _ :: _, [], _, ⟨z, hz, _⟩ => by simp [mixB] at hz
 | x :: r, y :: p, q, ⟨z, hz, hq⟩ => by
  simp only [mixB, List.mem_cons] at hz
  rcases hz with rfl | hz
  ·cases hq
  ·exact mixB_d g r p q ⟨z, hz, hq⟩
theorem infC_len : ∀ {cs : List (K × E)} {nb : List CT}, infC tb.tab Γ cs = some nb → nb.length = cs.length
 | [], nb, h => by simp [infC] at h; subst h; rfl
 | (k, e) :: r, nb, h => by
  unfold infC at h
  split at h
  ·rename_i t ts h1 h2
   simp only [Option.some.injEq] at h; subst h
   simp [infC_len h2]
  ·simp at h
theorem vars_len : ∀ (nb : List CT) (m : Nat), (vars m nb).length = nb.length
 | [], _ => rfl
 | _ :: r, m => by simp [vars, vars_len r (m + 1)]
theorem MM_box {id : Nat} {cs cs' : List (K × E)} (hbox : σ (3 * id + 1) = .box cs) {M0 : Addr → Prop} : MM M0 bm tm (upd σ (3 * id + 1) (.box cs')) = MM M0 bm tm σ := by
 funext p
 simp only [MM, upd_b_live]
 apply propext
 constructor
 ·rintro (h | ⟨i, q, q1, q2⟩ | h)
  ·exact .inl h
  ·by_cases e : i = id
   ·subst e; exact .inr (.inl ⟨i, cs, hbox, q2⟩)
   ·rw [upd_b_box _ e] at q1; exact .inr (.inl ⟨i, q, q1, q2⟩)
  ·exact .inr (.inr h)
 ·rintro (h | ⟨i, q, q1, q2⟩ | h)
  ·exact .inl h
  ·by_cases e : i = id
   ·subst e; exact .inr (.inl ⟨i, _, upd_same _ _ _, q2⟩)
   ·exact .inr (.inl ⟨i, q, by rw [upd_b_box _ e]; exact q1, q2⟩)
  ·exact .inr (.inr h)
theorem sCallG (hs : Sim c F σ bm tm a w) (hΓ : EnvTy tb.tab Γ c.env) {g : Nat} {o : Oper} {cl : Call} {f : FuncId} {ti : TI} {rt : List (Nat × Nat)} (ho : o.op = .call cl) (hcl : cl.callee = .value (.func f)) (hd : ∀ d, o.dst = some d → d < c.nt)
  {x : Operand} {xs : List Operand} {T : Nat} {Ts : List Nat} (hxs : cl.args.toList = x :: xs) {g' : Gd} {id : Nat} (hp : isPtr (opd tb σ T x) = some (g', id)) {eff : Eff}
  (h : eCallG tb Γ gs o.dst σ rt ti f xs Ts g' id = some eff) : OpOk P c F σ bm tm a w g gs Γ.length o eff := by
 unfold eCallG at h
 split at h
 ·rename_i cs es hbox hes
  split at h
  ·rename_i nb hnb
   split at h
   ·rename_i hc
    obtain ⟨hrt, hgi, hall⟩ := hc
    simp only [Option.some.injEq] at h; subst h
    have hlen : (vars (Γ.length + 1) nb).length = cs.length := by rw [vars_len, infC_len hnb]
    have hgd := gdE_den hΓ gs hall
    have hptr : gsH c.env gs → a.eval x = .pointer (some ⟨bm id, 0, none⟩) := fun hg => by
     unfold isPtr at hp
     split at hp
     ·rename_i g2 id2 hst
      simp only [Option.some.injEq, Prod.mk.injEq] at hp
      obtain ⟨rfl, rfl⟩ := hp
      exact (opd_rel hs hst).1.1 (gsH_sub hgi hg)
     ·simp at hp
    obtain ⟨vs, T0, hblk, hrel, hBX⟩ := hs.box id cs hbox
    have hfr : ∀ w', Fr w.heap.size (some (bm id)) w w' → Fr c.B c.X w w' := fun w' h2 => ⟨h2.os, h2.tape, h2.output, h2.size, fun k hk hx => h2.block k (Nat.lt_of_lt_of_le hk hs.hB) (by
     rintro ⟨rfl⟩
     rcases hBX with hBX | hBX
     ·omega
     ·exact hx hBX.2.symm)⟩
    refine ⟨fun hg hr K Q hK => ?_, fun hn => ?_⟩
    ·have e : (Value.pointer (some ⟨bm id, 0, none⟩) :: xs.map a.eval).toArray = cl.args.map a.eval := by
      rw [← Array.toList_inj]; simp [hxs, hptr hg]
     have hargs := args_rel hs hg _ _ _ hes
     have hrq : RqH P c.env Γ.length (.call gs f (some (cs.map (·.2))) es ti.vt nb) := hr _ (by simp)
     obtain ⟨hf, hrun⟩ := hrq hg
     unfold Oper.wp
     rw [run_call hf ho hcl]
     simp only [Oper.upon]
     have := hrun w (MM c.M0 bm tm σ) (bm id) (xs.map a.eval) hs.rdy hargs (fun cs' h' => by
      simp only [Option.map_some, Option.some.injEq] at h'
      subst h'
      exact ⟨vs, T0, hblk, hrel.rs, hBX.elim (fun h => Nat.le_trans hs.m0.2.2.1 h) (fun h => hs.m0.2.2.2 _ h.2), fun p hp => .inr (.inl ⟨id, cs, hbox, hp⟩)⟩)
     simp only [Option.map_some] at this
     rw [e] at this
     refine this.mono ?_
     rintro e' w' ⟨v, rfl, h1, h2, h3⟩
     obtain ⟨us, T1, hu1, hu2⟩ := h3 rfl
     have hsb := hs.setBox (cs' := mixB (gdE gs) (vars (Γ.length + 1) nb) cs) hbox (hfr w' h2) (fun k hk hne => h2.block k hk (by simpa using hne)) (fun M' hM' hk => by
      subst hM'
      exact ⟨us, T1, hu1, relCs_mixL (hgd.2 hg) hlen (relCs_vars nb _ us hu2), hBX⟩) fun q hq => absurd hq (mixB_d _ _ _ _)
     refine hK bm tm _ _ ?_
     rw [updL_wv_box]
     refine Sim.mono (F := F) (hsb.putO hd ⟨fun _ => ?_, fun h => absurd hg h⟩ fun x hx => by simp [men, Go.Proofs.YtbgcaneflfdddaaGreatDoor.K.has] at hx) fun x hx => .inl hx
     rw [MM_box hbox]
     simpa [relK, E.den] using h1
    ·have hb : ((gdE gs).den c.env).toB = false := by
      cases hq : ((gdE gs).den c.env).toB with
      | false => rfl
      | true => exact absurd (hgd.1 hq) hn
     have hsb := hs.setBox (cs' := mixB (gdE gs) (vars (Γ.length + 1) nb) cs) hbox ⟨rfl, rfl, rfl, Nat.le_refl _, fun _ _ _ => rfl⟩ (fun k hk hne => rfl) (fun M' hM' hk => by
      subst hM'
      exact ⟨vs, T0, hblk, relCs_mixR hb hlen hrel, hBX⟩) fun q hq => absurd hq (mixB_d _ _ _ _)
     rw [updL_wv_box]
     exact Sim.mono (F := F) (hsb.putO hd (relT_undef rfl hn) fun x hx => by simp [men, Go.Proofs.YtbgcaneflfdddaaGreatDoor.K.has] at hx) fun x hx => .inl hx
   ·simp at h
  ·simp at h
 ·simp at h
theorem sCall (hs : Sim c F σ bm tm a w) (hΓ : EnvTy tb.tab Γ c.env) {g n : Nat} (hgF : ∀ x, NewT g x → ¬ F x) {o : Oper} {cl : Call} {f : FuncId} {ti : TI} {rt : List (Nat × Nat)} (ho : o.op = .call cl) (hcl : cl.callee = .value (.func f)) (hd : ∀ d, o.dst = some d → d < c.nt) (hn : n = Γ.length) {eff : Eff}
  (h : eCall tb Γ gs o.dst σ g rt ti f cl.args.toList cl.argTypes.toList = some eff) : OpOk P c F σ bm tm a w g gs n o eff := by
 subst hn
 unfold eCall at h
 split at h
 ·rename_i x xs T Ts hxs hTs
  split at h
  ·rename_i g' id hp
   split at h
   ·rename_i cs es hbox hes
    split at h
    ·rename_i nb hnb
     have hptr : a.eval x = .pointer (some ⟨bm id, 0, none⟩) := by
      unfold isPtr at hp
      split at hp
      ·rename_i g2 id2 hst
       simp only [Option.some.injEq, Prod.mk.injEq] at hp
       obtain ⟨rfl, rfl⟩ := hp
       exact (opd_rel hs hst).1.1 (gsH_nil _)
      ·simp at hp
     obtain ⟨vs, T0, hblk, hrel, hBX⟩ := hs.box id cs hbox
     have hid : bm id < w.heap.size := (hs.box id cs hbox).lt
     have hfr : ∀ w', Fr w.heap.size (some (bm id)) w w' → Fr c.B c.X w w' := fun w' h2 => ⟨h2.os, h2.tape, h2.output, h2.size, fun k hk hx => h2.block k (Nat.lt_of_lt_of_le hk hs.hB) (by
      rintro ⟨rfl⟩
      rcases hBX with hBX | hBX
      ·omega
      ·exact hx hBX.2.symm)⟩
     have hargs := args_rel hs (gsH_nil _) _ _ _ hes
     have e : (Value.pointer (some ⟨bm id, 0, none⟩) :: xs.map a.eval).toArray = cl.args.map a.eval := by
      rw [← Array.toList_inj]; simp [hxs, hptr]
     split at h
     ·simp only [Option.some.injEq] at h; subst h
      refine ⟨fun hg hr K Q hK => ?_, fun hn => absurd (gsH_nil _) hn⟩
      have hrq : RqH P c.env Γ.length (.call [] f (some (cs.map (·.2))) es ti.vt nb) := hr _ (by simp)
      obtain ⟨hf, hrun⟩ := hrq hg
      unfold Oper.wp
      rw [run_call hf ho hcl]
      simp only [Oper.upon]
      have := hrun w (MM c.M0 bm tm σ) (bm id) (xs.map a.eval) hs.rdy hargs (fun cs' h' => by
       simp only [Option.map_some, Option.some.injEq] at h'
       subst h'
       exact ⟨vs, T0, hblk, hrel.rs, hBX.elim (fun h => Nat.le_trans hs.m0.2.2.1 h) (fun h => hs.m0.2.2.2 _ h.2), fun p hp => .inr (.inl ⟨id, cs, hbox, hp⟩)⟩)
      simp only [Option.map_some] at this
      rw [e] at this
      refine this.mono ?_
      rintro e' w' ⟨v, rfl, h1, h2, h3⟩
      obtain ⟨us, T1, hu1, hu2⟩ := h3 rfl
      have hsb := hs.setBox (cs' := vars (Γ.length + 1) nb) hbox (hfr w' h2) (fun k hk hne => h2.block k hk (by simpa using hne)) (fun M' hM' hk => by
       subst hM'
       exact ⟨us, T1, hu1, relCs_vars nb _ us hu2, hBX⟩) fun q hq => absurd hq (vars_d _ _ _)
      refine hK bm tm _ _ ?_
      rw [updL_wv_box]
      refine Sim.mono (F := F) (hsb.putO hd (relT_v (gsH_nil _) ?_) fun x hx => by simp [men, Go.Proofs.YtbgcaneflfdddaaGreatDoor.K.has] at hx) fun x hx => .inl hx
      have hM : MM c.M0 bm tm (upd σ (3 * id + 1) (.box (vars (Γ.length + 1) nb))) = MM c.M0 bm tm σ := by
       funext p
       simp only [MM, upd_b_live]
       apply propext
       constructor
       ·rintro (h | ⟨i, q, q1, q2⟩ | h)
        ·exact .inl h
        ·by_cases e : i = id
         ·subst e; exact .inr (.inl ⟨i, cs, hbox, q2⟩)
         ·rw [upd_b_box _ e] at q1; exact .inr (.inl ⟨i, q, q1, q2⟩)
        ·exact .inr (.inr h)
       ·rintro (h | ⟨i, q, q1, q2⟩ | h)
        ·exact .inl h
        ·by_cases e : i = id
         ·subst e; exact .inr (.inl ⟨i, _, upd_same _ _ _, q2⟩)
         ·exact .inr (.inl ⟨i, q, by rw [upd_b_box _ e]; exact q1, q2⟩)
        ·exact .inr (.inr h)
      rw [hM]
      simpa [relK, E.den] using h1
     ·split at h
      ·rename_i hl
       simp only [Option.some.injEq] at h; subst h
       refine ⟨fun hg hr K Q hK => ?_, fun hn => absurd (gsH_nil _) hn⟩
       have hrq : RqH P c.env Γ.length (.callR f (some (cs.map (·.2))) es ti.vt nb rt) := hr _ (by simp)
       obtain ⟨hsh, hf, hrun⟩ := hrq
       unfold Oper.wp
       rw [run_call hf ho hcl]
       simp only [Oper.upon]
       have := hrun w (MM c.M0 bm tm σ) (bm id) (xs.map a.eval) hs.rdy hargs (fun cs' h' => by
        simp only [Option.map_some, Option.some.injEq] at h'
        subst h'
        exact ⟨vs, T0, hblk, hrel.rs, hBX.elim (fun h => Nat.le_trans hs.m0.2.2.1 h) (fun h => hs.m0.2.2.2 _ h.2), fun p hp => .inr (.inl ⟨id, cs, hbox, hp⟩)⟩)
       simp only [Option.map_some] at this
       rw [e] at this
       refine this.mono ?_
       rintro e' w' ⟨v, rfl, h1, h2, h4, h3⟩
       obtain ⟨us, T1, hu1, hu2⟩ := h3 rfl
       obtain ⟨hS, hMM⟩ := hs.rights hgF hl h4 (some id) (cs' := vars (Γ.length + 1) nb) (fun i h => by simp at h; subst h; exact ⟨cs, hbox⟩) (hfr w' h2) (fun k hk hne => h2.block k hk (by simpa using hne id rfl))
        (fun i M' tm' h hM' => by
         simp at h; subst h
         exact ⟨us, T1, hu1, relCs_vars nb _ us (Rs.keep (fun p u hp hn => ⟨hp, fun h => hn (hM' p h)⟩) _ _ hu2), hBX⟩) (fun x => vars_d _ _ x)
       refine hK bm (tmR tm g v rt) _ w' ?_
       have hnt : ∀ p ∈ ((3 * id + 1, ST.box (vars (Γ.length + 1) nb)) :: rtLive g rt), ∀ d, p.1 ≠ 3 * d := fun p hp d => by
        rcases List.mem_cons.1 hp with rfl | hp
        ·show 3 * id + 1 ≠ 3 * d; omega
        ·exact rtLive_nt p hp d
       rw [updL_ups hnt]
       show Sim _ _ (updL (updL (boxO σ (vars (Γ.length + 1) nb) (some id)) (rtLive g rt)) _) _ _ _ _
       have hk : Keeps w' (fun p => MM c.M0 bm tm σ p ∨ RtM v rt p) w' (MM c.M0 bm (tmR tm g v rt) (updL (boxO σ (vars (Γ.length + 1) nb) (some id)) (rtLive g rt))) := fun p u hp hn => ⟨hp, fun h => hn (hMM p h)⟩
       refine hS.putO hd (relT_v (gsH_nil _) (rtK_ok (vt := ti.vt) (e := .var Γ.length) hsh (R.keep hk _ _ h1))) fun x hx => .inr ?_
       have := rtK_has (show (rtK g rt ti.vt).has x from hx)
       exact ⟨this.1, by omega⟩
      ·simp at h
    ·simp at h
   ·exact sCallG hs hΓ ho hcl hd hxs hp h
  ·split at h
   ·rename_i es hes
    split at h
    ·rename_i hc
     simp only [Option.some.injEq] at h; subst h
     obtain ⟨rfl, _, hl⟩ := hc
     exact ⟨fun hg hr K Q hK => sCallR hs hgF ho hcl hd hl hes (hr _ (by simp)) K Q hK, fun hn => absurd (gsH_nil _) hn⟩
    ·simp only [Option.some.injEq] at h; subst h
     refine ⟨fun hg hr K Q hK => sCall_args (vt := ti.vt) hs hg ho hcl hd hes (hr _ (by simp)) K Q hK, fun hg => ?_⟩
     exact Sim.mono (F := F) (hs.putO hd (relT_undef rfl hg) fun x hx => by simp [men, Go.Proofs.YtbgcaneflfdddaaGreatDoor.K.has] at hx) fun x hx => .inl hx
   ·simp at h
 ·rename_i hxs hTs
  simp only [Option.some.injEq] at h; subst h
  refine ⟨fun hg hr K Q hK => sCall_args (vt := ti.vt) (es := []) (Ts := []) hs hg ho hcl hd (by rw [hxs]; exact (rfl : eArgs tb Γ gs σ [] [] = some [])) (hr _ (by simp)) K Q hK, fun hg => ?_⟩
  exact Sim.mono (F := F) (hs.putO hd (relT_undef rfl hg) fun x hx => by simp [men, Go.Proofs.YtbgcaneflfdddaaGreatDoor.K.has] at hx) fun x hx => .inl hx
 ·simp at h
theorem run_callV {f : FuncId} (hf : callable P f = true) {o : Oper} {cl : Call} {t : Nat} {ps : Array Value} (ho : o.op = .call cl) (hcl : cl.callee = .value (.tmp t)) (hv : a.eval (.tmp t) = .func (.func f) #[] ps) : (execOp a.eval o).run P w = .ok (.enter f (cl.args.map a.eval ++ ps)) w := by
 unfold callable at hf
 split at hf
 ·rename_i fn hfn
  simp only [Bool.and_eq_true, Bool.not_eq_true'] at hf
  obtain ⟨h1, h2⟩ := hf
  obtain ⟨b, hb⟩ := Option.isSome_iff_exists.1 h2
  have h1' : (fn.name = "runtime.NumGoroutine") = False := by
   apply eq_false
   intro e
   rw [e] at h1
   exact absurd h1 (by decide)
  simp [execOp, ho, resolve, hcl, hv, Deferred.ofValue, invoke, callFunc, hfn, hb, h1']
 ·simp at hf
end
end Go.Proofs.YtbgcaneflfdddaaGreatDoor
