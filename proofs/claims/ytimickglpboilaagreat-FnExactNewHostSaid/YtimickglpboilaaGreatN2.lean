/- Each operation does to a world what the executor says it does: operations that compute or read. No program in sight. -/
import Derived.Test.YtimickglpboilaaGreatN1
set_option linter.unusedVariables false
set_option linter.unusedSimpArgs false
set_option linter.unusedSectionVars false
namespace Go.Proofs.YtimickglpboilaaGreat
open Go.RowKit
variable [GC]
theorem hasTy_mem {tab : Nat → List CT} {d : D} (h : HasTy tab .mem d) : ∃ n, d = .mem n := by
 cases d <;> simp [HasTy] at h; exact ⟨_, rfl⟩
def callable (P : Program) (f : FuncId) : Bool :=
 match P.funcs[f]? with
 | some fn => !(fn.name == "runtime.NumGoroutine") && fn.body.isSome
 | none => false
def Fun (P : Program) (f : FuncId) (bx : Option (List D)) (ds : List D) (r : D) (bx' : List D) : Prop :=
 callable P f = true ∧ ∀ (w : World) (M : Addr → Prop) (g : Nat) (vs : List Value), Rdy w M → Rs w M ds vs →
  (∀ cs, bx = some cs → ∃ us T, w.heap[g]? = some (.cells us.toArray T (0, 0)) ∧ Rs w M cs us ∧ NG ≤ g ∧ ∀ p, p.block = g → M p) →
  Calls P f (match bx with | none => vs | some _ => .pointer (some ⟨g, 0, none⟩) :: vs).toArray w fun e w' =>
   ∃ v, e = .returned v ∧ R w' M r v ∧ Fr w.heap.size (bx.map fun _ => g) w w' ∧ (bx.isSome = true → ∃ us T, w'.heap[g]? = some (.cells us.toArray T (0, 0)) ∧ Rs w' M bx' us)
def LiveAt (B : Nat) (w : World) (u : Value) (n : Nat) : Prop :=
 ∀ b o s len cap, u = .slice (some ⟨b, o, s⟩) len cap → 0 < cap → s = none ∧ B ≤ b ∧ ∃ cells T, w.heap[b]? = some (.cells cells T (0, 0)) ∧ o + cap * n ≤ cells.size
def Apart (u u' : Value) : Prop := ∀ b o s len cap b' o' s' len' cap', u = .slice (some ⟨b, o, s⟩) len cap → 0 < cap → u' = .slice (some ⟨b', o', s'⟩) len' cap' → 0 < cap' → b ≠ b'
def rtV (v : Value) (x : Nat × Nat) : Value := (flatV v).getD x.1 undef
def RtOk (B : Nat) (w : World) (v : Value) (rt : List (Nat × Nat)) : Prop :=
 (∀ x ∈ rt, LiveAt B w (rtV v x) x.2) ∧ ∀ (i j : Nat) (x y : Nat × Nat), rt[i]? = some x → rt[j]? = some y → i ≠ j → Apart (rtV v x) (rtV v y)
def RtM (v : Value) (rt : List (Nat × Nat)) : Addr → Prop := fun p => ∃ x ∈ rt, spareIn (rtV v x) x.2 p
def FunR (P : Program) (f : FuncId) (bx : Option (List D)) (ds : List D) (r : D) (bx' : List D) (rt : List (Nat × Nat)) : Prop :=
 callable P f = true ∧ ∀ (w : World) (M : Addr → Prop) (g : Nat) (vs : List Value), Rdy w M → Rs w M ds vs →
  (∀ cs, bx = some cs → ∃ us T, w.heap[g]? = some (.cells us.toArray T (0, 0)) ∧ Rs w M cs us ∧ NG ≤ g ∧ ∀ p, p.block = g → M p) →
  Calls P f (match bx with | none => vs | some _ => .pointer (some ⟨g, 0, none⟩) :: vs).toArray w fun e w' =>
   ∃ v, e = .returned v ∧ R w' (fun p => M p ∨ RtM v rt p) r v ∧ Fr w.heap.size (bx.map fun _ => g) w w' ∧ RtOk w.heap.size w' v rt ∧ (bx.isSome = true → ∃ us T, w'.heap[g]? = some (.cells us.toArray T (0, 0)) ∧ Rs w' (fun p => M p ∨ RtM v rt p) bx' us)
theorem Fun.ofR {P : Program} {f : FuncId} {bx : Option (List D)} {ds : List D} {r : D} {bx' : List D} {rt : List (Nat × Nat)} (h : FunR P f bx ds r bx' rt) : Fun P f bx ds r bx' := by
 refine ⟨h.1, fun w M g vs h1 h2 h3 => (h.2 w M g vs h1 h2 h3).mono ?_⟩
 have hk : ∀ w' v, Keeps w' (fun p => M p ∨ RtM v rt p) w' M := fun w' v p u hp hn => ⟨hp, fun h => hn (.inl h)⟩
 rintro e w' ⟨v, q1, q2, q3, q4, q5⟩
 refine ⟨v, q1, R.keep (hk w' v) _ _ q2, q3, fun hb => ?_⟩
 obtain ⟨us, T, u1, u2⟩ := q5 hb
 exact ⟨us, T, u1, Rs.keep (hk w' v) _ _ u2⟩
def FunN (P : Program) (f : FuncId) (ds : List D) (cs : List D) : Prop :=
 callable P f = true ∧ ∀ (w : World) (M : Addr → Prop) (vs : List Value), Rdy w M → Rs w M ds vs →
  Calls P f vs.toArray w fun e w' => ∃ g us T, e = .returned (.pointer (some ⟨g, 0, none⟩)) ∧ w.heap.size ≤ g ∧ w'.heap[g]? = some (.cells us.toArray T (0, 0)) ∧ Rs w' (fun p => M p ∨ p.block = g) cs us ∧ Below w.heap.size w w'
def FunC (P : Program) (f : FuncId) (ds : List D) (caps : List (List D)) (r : D) : Prop :=
 callable P f = true ∧ ∀ (w : World) (M : Addr → Prop) (vs ps : List Value), Rdy w M → Rs w M ds vs → Rps w M caps ps →
  Calls P f (vs ++ ps).toArray w fun e w' => ∃ v, e = .returned v ∧ R w' M r v ∧ Below w.heap.size w w'
def FunV (P : Program) (x : D) (ds : List D) (r : D) : Prop := ∃ f caps, x = .fn f caps ∧ FunC P f ds caps r
def D.one : D → Prop
 | .agg _ | .tup _ | .un => False
 | _ => True
def ShapeOk : VT → D → Prop
 | .one (.c _), d => d.one
 | _, _ => True
theorem ShapeOk.of {tab : Nat → List CT} {vt : VT} {d : D} (h : HasVT tab vt d) : ShapeOk vt d := by
 rcases vt with (t | ts) | vs
 ·have h : HasTy tab t d := h
  cases t with
  | bool => obtain ⟨b, rfl⟩ := hasTy_bool h; trivial
  | int k => obtain ⟨n, rfl⟩ := hasTy_int h; trivial
  | str => obtain ⟨s, rfl⟩ := hasTy_str h; trivial
  | sl e => obtain ⟨r, rfl, _⟩ := hasTy_sl h; trivial
  | mem => obtain ⟨n, rfl⟩ := hasTy_mem h; trivial
  | fn => obtain ⟨f, caps, rfl⟩ := hasTy_fn h; trivial
 ·trivial
 ·trivial
theorem D.one_flat {w : World} {M : Addr → Prop} {d : D} {v : Value} (h : d.one) (hr : R w M d v) : flatV v = [v] := by
 cases d with
 | bool b => have : v = .bool b := hr; subst this; rfl
 | int k n => have : v = .int k n := hr.1; subst this; rfl
 | str s => have : v = .string s := hr.1; subst this; rfl
 | sl rows => obtain ⟨ad, len, cap, rfl, _⟩ := hr; rfl
 | mem n => obtain ⟨ad, cap, rfl, _⟩ := hr; rfl
 | fn f caps => obtain ⟨ps, rfl, _⟩ := hr; rfl
 | _ => exact h.elim
def AggOk : VT → D → Prop
 | .one (.agg ts), d => ∃ l, d = .agg l ∧ l.length = ts.length
 | _, _ => True
def RqH (P : Program) (env : List D) (n : Nat) : Rq → Prop
 | .cond gs c => gsH env gs → c.den env = .bool true
 | .call gs f bx args _ nb => gsH env gs → Fun P f (bx.map (·.map (·.den env))) (args.map (·.den env)) (env.getD n .un) ((List.range nb.length).map fun j => env.getD (n + 1 + j) .un)
 | .callR f bx args vt nb rt => ShapeOk vt (env.getD n .un) ∧ FunR P f (bx.map (·.map (·.den env))) (args.map (·.den env)) (env.getD n .un) ((List.range nb.length).map fun j => env.getD (n + 1 + j) .un) rt
 | .new f args nb => FunN P f (args.map (·.den env)) ((List.range nb.length).map fun j => env.getD (n + j) .un)
 | .callV gs e args _ => gsH env gs → FunV P (e.den env) (args.map (·.den env)) (env.getD n .un)
 | .glob g vt ix => GlobIs g (env.getD n .un) ∧ IxOk env ix ∧ AggOk vt (env.getD n .un)
def stG (gs : Gd) : ST → Prop
 | .v g _ _ => g = gs
 | .ptr g _ _ => g = gs
 | .ro g _ _ => g = gs
 | .gp g _ _ _ => g = gs
 | .mp g _ _ _ _ => g = gs
 | .iv g _ _ _ _ _ _ => g = gs
 | .ip g _ _ _ _ _ _ _ _ => g = gs
 | _ => False
theorem relT_undef {w : World} {M : Addr → Prop} {bm : Nat → Nat} {tm : Nat → Value} {env : List D} {gs : Gd} {st : ST} (h : stG gs st) (hg : ¬ gsH env gs) : relT w M bm tm env st undef := by
 cases st <;> simp only [stG] at h <;> first | (subst h; exact ⟨fun h => absurd h hg, fun _ => rfl⟩) | exact h.elim
section
variable {P : Program} {c : SC} {F : Nat → Prop} {σ : Nat → ST} {bm : Nat → Nat} {tm : Nat → Value} {a : Act} {w : World} {tb : TB} {Γ : List VT} {gs : Gd}
theorem opd_rel (hs : Sim c F σ bm tm a w) {T : Nat} {x : Operand} {st : ST} (h : opd tb σ T x = some st) : relT w (MM c.M0 bm tm σ) bm tm c.env st (a.eval x) ∧ ∀ g, men st g → F g := by
 cases x with
 | tmp t => simp only [opd, Option.some.injEq] at h; subst h; exact ⟨hs.tmps t, fun g hg => hs.f1 _ g hg⟩
 | const v =>
  simp only [opd] at h
  simp only [Act.eval]
  unfold constST at h
  split at h
  ·simp at h; subst h; exact ⟨⟨fun _ => rfl, fun h => absurd (gsH_nil _) h⟩, fun g hg => hg.elim⟩
  ·split at h
   ·rename_i hr; simp at h; subst h; exact ⟨⟨fun _ => ⟨rfl, hr⟩, fun h => absurd (gsH_nil _) h⟩, fun g hg => hg.elim⟩
   ·simp at h
  ·split at h
   ·rename_i hr; simp at h; subst h; exact ⟨⟨fun _ => ⟨rfl, hr⟩, fun h => absurd (gsH_nil _) h⟩, fun g hg => hg.elim⟩
   ·simp at h
  ·split at h
   ·simp at h; subst h
    exact ⟨⟨fun _ => ⟨⟨none, 0, 0, rfl, rfl, Nat.le_refl _, by decide, fun _ => rfl, fun b o s h => by cases h⟩, none, rfl⟩, fun h => absurd (gsH_nil _) h⟩, fun g hg => hg.elim⟩
   ·simp at h
  ·simp at h
 | global g => simp [opd] at h
 | func f => simp [opd] at h
theorem under_inv {st st' : ST} (h : under gs st = some st') : (∃ g k e, st = .v g k e ∧ gdIn g gs = true ∧ st' = .v gs k e) ∨ (∃ g id off, st = .ptr g id off ∧ gdIn g gs = true ∧ st' = .ptr gs id off) ∨ (∃ g e off, st = .ro g e off ∧ gdIn g gs = true ∧ st' = .ro gs e off) := by
 cases st with
 | un => simp [under] at h
 | box cs => simp [under] at h
 | live n => simp [under] at h
 | gp _ _ _ _ => simp [under] at h
 | mp _ _ _ _ _ => simp [under] at h
 | iv _ _ _ _ _ _ _ => simp [under] at h
 | ip _ _ _ _ _ _ _ _ _ => simp [under] at h
 | v g k e =>
  simp only [under] at h
  cases hi : gdIn g gs <;> rw [hi] at h <;> simp at h
  exact .inl ⟨g, k, e, rfl, hi, h.symm⟩
 | ptr g id off =>
  simp only [under] at h
  cases hi : gdIn g gs <;> rw [hi] at h <;> simp at h
  exact .inr (.inl ⟨g, id, off, rfl, hi, h.symm⟩)
 | ro g e off =>
  simp only [under] at h
  cases hi : gdIn g gs <;> rw [hi] at h <;> simp at h
  exact .inr (.inr ⟨g, e, off, rfl, hi, h.symm⟩)
theorem under_v {st : ST} {v : Value} {M : Addr → Prop} {g : Gd} {k : K} {e : E} {env : List D} (h : under gs st = some (.v g k e)) (hr : relT w M bm tm env st v) (hg : gsH env gs) : relK w M tm env k e v ∧ (∀ x, k.has x → men st x) := by
 rcases under_inv h with ⟨g', k', e', rfl, hi, h⟩ | ⟨_, _, _, _, _, h⟩ | ⟨_, _, _, _, _, h⟩ <;> cases h
 exact ⟨hr.1 (gsH_sub hi hg), fun x hx => hx⟩
theorem under_ptr {st : ST} {v : Value} {M : Addr → Prop} {g : Gd} {id off : Nat} {env : List D} (h : under gs st = some (.ptr g id off)) (hr : relT w M bm tm env st v) (hg : gsH env gs) : v = .pointer (some ⟨bm id, off, none⟩) := by
 rcases under_inv h with ⟨_, _, _, _, _, h⟩ | ⟨g', i', o', rfl, hi, h⟩ | ⟨_, _, _, _, _, h⟩ <;> cases h
 exact hr.1 (gsH_sub hi hg)
theorem under_ro {st : ST} {v : Value} {M : Addr → Prop} {g : Gd} {e : E} {off : Nat} {env : List D} (h : under gs st = some (.ro g e off)) (hr : relT w M bm tm env st v) (hg : gsH env gs) : ∃ b o, v = .pointer (some ⟨b, o, none⟩) ∧ Rw w M ((e.den env).toA.drop off) b o := by
 rcases under_inv h with ⟨_, _, _, _, _, h⟩ | ⟨_, _, _, _, _, h⟩ | ⟨g', i', o', rfl, hi, h⟩ <;> cases h
 exact hr.1 (gsH_sub hi hg)
theorem under_men {st st' : ST} {x : Nat} (h : under gs st = some st') (hm : men st' x) : men st x := by
 rcases under_inv h with ⟨g', k', e', rfl, hi, rfl⟩ | ⟨g', i', o', rfl, hi, rfl⟩ | ⟨g', i', o', rfl, hi, rfl⟩
 ·exact hm
 ·exact hm
 ·exact hm
theorem under_stG {st st' : ST} (h : under gs st = some st') : stG gs st' := by
 rcases under_inv h with ⟨g', k', e', rfl, hi, rfl⟩ | ⟨g', i', o', rfl, hi, rfl⟩ | ⟨g', i', o', rfl, hi, rfl⟩ <;> rfl
theorem bind_some' {s : Option ST} {st' : ST} (h : s.bind (under gs) = some st') : ∃ st, s = some st ∧ under gs st = some st' := by
 cases s with
 | none => simp at h
 | some st => exact ⟨st, rfl, by simpa using h⟩
theorem undV_some {s : Option ST} {k : K} {e : E} (h : undV gs s = some (k, e)) : ∃ st g, s = some st ∧ under gs st = some (.v g k e) := by
 unfold undV at h
 split at h
 ·rename_i g k' e' hb
  simp at h; obtain ⟨rfl, rfl⟩ := h
  obtain ⟨st, h1, h2⟩ := bind_some' hb
  exact ⟨st, g, h1, h2⟩
 ·simp at h
theorem val_rel (hs : Sim c F σ bm tm a w) {T : Nat} {x : Operand} {k : K} {e : E} (h : undV gs (opd tb σ T x) = some (k, e)) : (gsH c.env gs → relK w (MM c.M0 bm tm σ) tm c.env k e (a.eval x)) ∧ ∀ g, k.has g → F g := by
 obtain ⟨st, g, h1, h2⟩ := undV_some h
 obtain ⟨h3, h4⟩ := opd_rel hs h1
 exact ⟨fun hg => (under_v h2 h3 hg).1, fun x hx => h4 x (under_men h2 hx)⟩
def PureSpec (P : Program) (c : SC) (F : Nat → Prop) (gs : Gd) (σ : Nat → ST) (bm : Nat → Nat) (tm : Nat → Value) (a : Act) (w : World) (n : Nat) (o : Oper) (eff : Eff) : Prop :=
 ∃ st, eff.wr = wv o.dst st ∧ stG gs st ∧ (∀ g, men st g → F g) ∧
  (gsH c.env gs → (∀ r ∈ eff.rq, RqH P c.env n r) → ∃ v w', (execOp a.eval o).run P w = .ok (.value v) w' ∧ Below w.heap.size w w' ∧ relT w' (MM c.M0 bm tm σ) bm tm c.env st v)
theorem relT_v {M : Addr → Prop} {k : K} {e : E} {v : Value} {env : List D} (hg : gsH env gs) (h : relK w M tm env k e v) : relT w M bm tm env (.v gs k e) v := ⟨fun _ => h, fun h => absurd hg h⟩
theorem sMove (hs : Sim c F σ bm tm a w) {n : Nat} {o : Oper} {x : Operand} (ho : o.op = .move x ∨ o.op = .assign x) {T : Nat} {eff : Eff} (h : eMove gs o.dst (opd tb σ T x) = some eff) : PureSpec P c F gs σ bm tm a w n o eff := by
 unfold eMove at h
 simp only [Option.map_eq_some_iff] at h
 obtain ⟨st', h1, rfl⟩ := h
 obtain ⟨st, h2, h3⟩ := bind_some' h1
 obtain ⟨h4, h5⟩ := opd_rel hs h2
 refine ⟨st', rfl, under_stG h3, fun g hg => h5 g (under_men h3 hg), fun hg _ => ⟨a.eval x, w, ?_, Below.refl _ _, ?_⟩⟩
 ·rcases ho with ho | ho <;> simp [execOp, ho]
 ·cases st' <;> simp only [relT]
  ·have := under_v h3 h4 hg
   have e := under_stG h3; simp only [stG] at e; subst e
   exact ⟨fun _ => this.1, fun h => absurd hg h⟩
  ·have := under_ptr h3 h4 hg
   have e := under_stG h3; simp only [stG] at e; subst e
   exact ⟨fun _ => this, fun h => absurd hg h⟩
  ·have := under_ro h3 h4 hg
   have e := under_stG h3; simp only [stG] at e; subst e
   exact ⟨fun _ => this, fun h => absurd hg h⟩
  all_goals rcases under_inv h3 with ⟨_, _, _, _, _, h⟩ | ⟨_, _, _, _, _, h⟩ | ⟨_, _, _, _, _, h⟩ <;> cases h
theorem den_mk (env : List D) : ∀ es : List E, (mk es).den env = .agg (es.map (·.den env))
 | [] => rfl
 | e :: r => by simp [mk, E.den, den_mk env r]
theorem den_pack {env : List D} (hΓ : EnvTy tb.tab Γ env) (es : List E) : (pack tb.tab Γ es).den env = .agg (es.map (·.den env)) := by
 unfold pack
 split
 ·rename_i x i r
  split
  ·rename_i us he
   split
   ·rename_i heq
    obtain ⟨heq, hle⟩ := heq
    obtain ⟨l, hl, hlt⟩ := hasV1_agg (E.inf_ok hΓ x _ he)
    have hll := hlt.length
    generalize hn : (E.cell x i :: r).length = n at heq hle
    have key : (E.cell x i :: r).map (·.den env) = (l.drop i).take n := by
     rw [heq]
     refine List.ext_getElem? fun q => ?_
     simp only [List.map_map, List.getElem?_map, List.getElem?_take, List.getElem?_drop]
     by_cases hi : q < n
     ·rw [if_pos hi]
      simp [List.getElem?_range' hi, E.den, hl, List.getD, List.getElem?_eq_getElem (show i + q < l.length by omega)]
     ·rw [if_neg hi, List.getElem?_eq_none (by simp; omega)]; rfl
    split
    ·rename_i h0
     rw [key, hl]
     rw [h0.1, List.drop_zero, List.take_of_length_le (by omega)]
    ·rw [key]; simp [E.den, hl]
   ·exact den_mk env _
  ·exact den_mk env _
 ·exact den_mk env _
theorem Rs.to_agg {M : Addr → Prop} {l : List D} {vs : List Value} (h : Rs w M l vs) : R w M (.agg l) (.agg vs.toArray) := ⟨vs.toArray, rfl, by simpa using h⟩
theorem box_cells {c : SC} {M : Addr → Prop} {id : Nat} {cs : List (K × E)} (h : BoxOk c w M bm tm id cs) : ∃ vs, relCs w M tm c.env cs vs ∧ (∀ j u, vs[j]? = some u → w.cell? ⟨bm id, j, none⟩ = some u) ∧ ∃ T, w.heap[bm id]? = some (.cells vs.toArray T (0, 0)) := by
 obtain ⟨vs, T, h1, h2, h3⟩ := h
 exact ⟨vs, h2, fun j u hu => by rw [cell_of_row w _ j _ T _ h1]; simpa using hu, T, h1⟩
theorem sLoad (hcx : tbOk P tb tb = true) (hs : Sim c F σ bm tm a w) (hΓ : EnvTy tb.tab Γ c.env) {n : Nat} {o : Oper} {x : Operand} {T : Nat} (ho : o.op = .load T x) {ti : TI} (hti : tb.get T = some ti) {eff : Eff}
  (h : eLoad tb.tab Γ gs o.dst σ ti (opd tb σ 0 x) = some eff) : PureSpec P c F gs σ bm tm a w n o eff := by
 unfold eLoad at h
 split at h
 ·rename_i g id off hb
  obtain ⟨st, h2, h3⟩ := bind_some' hb
  obtain ⟨h4, h5⟩ := opd_rel hs h2
  split at h
  ·rename_i cs hbox
   obtain ⟨vs, hvs, hcell, T0, hblk⟩ := box_cells (hs.box id cs hbox)
   split at h
   ·rename_i t hv
    split at h
    ·rename_i k e hk
     simp at h; subst h
     refine ⟨_, rfl, rfl, fun g hg => ?_, fun hg _ => ?_⟩
     ·exact hs.f1 (3 * id + 1) _ (by rw [hbox]; exact ⟨_, List.mem_of_getElem? hk, hg⟩)
     ·obtain ⟨u, hu, hr⟩ := hvs.get hk
      obtain ⟨i, d, hi, _, _, _, hd, hdc⟩ := ty_c hcx hti hv
      have := under_ptr h3 h4 hg
      exact ⟨u, w, by simp [execOp, ho, this, Instr.loadAt, Instr.sureAddr, run_loadVar_c hd hdc (hcell off u hu)], Below.refl _ _, relT_v hg hr⟩
    ·simp at h
   ·rename_i ts hv
    split at h
    ·rename_i hle
     simp only [Option.some.injEq] at h; subst h
     refine ⟨_, rfl, rfl, fun g hg => ?_, fun hg _ => ?_⟩
     ·obtain ⟨q, hq, hx⟩ := K.has_pack (show (packK _).has g from hg)
      simp only [List.mem_map] at hq
      obtain ⟨z, hz, rfl⟩ := hq
      exact hs.f1 (3 * id + 1) _ (by rw [hbox]; exact ⟨z, List.mem_of_mem_drop (List.mem_of_mem_take hz), hx⟩)
     obtain ⟨i, fields, z, hi, hsz, _, _, _, hu, _⟩ := ty_agg hcx hti hv
     have := under_ptr h3 h4 hg
     have hrel := (hvs.drop off).take ts.length
     have hlen : ((vs.drop off).take ts.length).length = i.size := by
      have := hvs.length
      simp [hsz]; omega
     refine ⟨.agg ((vs.drop off).take ts.length).toArray, w, ?_, Below.refl _ _, relT_v hg ?_⟩
     ·have hl := run_loadVar_s (P := P) (w := w) hu hi (b := bm id) (o := off) hlen (fun j u hj => by
       simp only [List.getElem?_take, List.getElem?_drop] at hj
       split at hj
       ·exact hcell _ _ hj
       ·simp at hj)
      simp [execOp, ho, this, Instr.loadAt, Instr.sureAddr, hl]
     ·refine relK.pack ?_ fun j k u hk hu => ?_
      ·rw [den_pack hΓ]
       have := hrel.rs.to_agg
       simpa only [List.map_take, List.map_drop] using this
      ·have hk' : ∃ z, ((cs.drop off).take ts.length)[j]? = some z ∧ z.1 = k := by
        simp only [← List.map_take, ← List.map_drop, List.getElem?_map, Option.map_eq_some_iff] at hk
        exact hk
       obtain ⟨z, hz, rfl⟩ := hk'
       obtain ⟨u', hu', hr'⟩ := hrel.get hz
       rw [hu] at hu'; cases hu'
       exact hr'.kk
    ·simp at h
   ·simp at h
  ·simp at h
 ·rename_i g e off hb
  obtain ⟨st, h2, h3⟩ := bind_some' hb
  obtain ⟨h4, h5⟩ := opd_rel hs h2
  split at h
  ·rename_i us he
   obtain ⟨l, hl, hlt⟩ := hasV1_agg (E.inf_ok hΓ e _ he)
   split at h
   ·rename_i t hv
    split at h
    ·rename_i hoff
     simp at h; subst h
     refine ⟨_, rfl, rfl, fun g hg => by simp [men, K.has] at hg, fun hg _ => ?_⟩
     obtain ⟨b, o', hp, hr⟩ := under_ro h3 h4 hg
     rw [hl, D.toA_agg] at hr
     obtain ⟨i, d, hi, _, _, _, hd, hdc⟩ := ty_c hcx hti hv
     have hlt' : off < l.length := by rw [hlt.length]; exact hoff
     obtain ⟨u, hu, _, hru⟩ := hr.get (i := 0) (d := l[off]) (by simp [List.getElem?_drop, hlt'])
     refine ⟨u, w, by simp [execOp, ho, hp, Instr.loadAt, Instr.sureAddr, run_loadVar_c hd hdc (by simpa using hu)], Below.refl _ _, relT_v hg ?_⟩
     simp only [relK, E.den, hl, D.toA_agg, List.getD, List.getElem?_eq_getElem hlt', Option.getD_some]
     exact hru
    ·simp at h
   ·rename_i ts hv
    obtain ⟨i, fields, z, hi, hsz, _, _, _, hu, _⟩ := ty_agg hcx hti hv
    split at h
    ·rename_i hc
     simp at h; subst h
     refine ⟨_, rfl, rfl, fun g hg => by simp [men, K.has] at hg, fun hg _ => ?_⟩
     obtain ⟨b, o', hp, hr⟩ := under_ro h3 h4 hg
     rw [hl, D.toA_agg, hc.1, List.drop_zero] at hr
     obtain ⟨vs, hvl, hrs, hcs⟩ := hr.cells
     have hll := run_loadVar_s (P := P) (w := w) hu hi (b := b) (o := o') (vs := vs) (by rw [hvl, hlt.length, hsz]; exact hc.2.symm) hcs
     refine ⟨.agg vs.toArray, w, by simp [execOp, ho, hp, Instr.loadAt, Instr.sureAddr, hll], Below.refl _ _, relT_v hg ?_⟩
     simp only [relK, hl]
     exact hrs.to_agg
    ·split at h
     ·rename_i hc
      simp at h; subst h
      refine ⟨_, rfl, rfl, fun g hg => by simp [men, K.has] at hg, fun hg _ => ?_⟩
      obtain ⟨b, o', hp, hr⟩ := under_ro h3 h4 hg
      rw [hl, D.toA_agg] at hr
      obtain ⟨vs, hvl, hrs, hcs⟩ := (hr.take ts.length).cells
      have hll := run_loadVar_s (P := P) (w := w) hu hi (b := b) (o := o') (vs := vs) (by rw [hvl, hsz]; have := hlt.length; simp; omega) hcs
      refine ⟨.agg vs.toArray, w, by simp [execOp, ho, hp, Instr.loadAt, Instr.sureAddr, hll], Below.refl _ _, relT_v hg ?_⟩
      simp only [relK, E.den, hl, D.toA_agg]
      exact hrs.to_agg
     ·simp at h
   ·simp at h
  ·simp at h
 ·simp at h
theorem fieldsOk_get : ∀ {fs : List (Nat × Nat)} {fl : List Field}, fieldsOk tb fs fl = true → ∀ {f fo ft : Nat}, fs[f]? = some (fo, ft) → ∃ x, fl[f]? = some x ∧ x.offset = fo ∧ x.type = ft
 | [], _, _, f, fo, ft, hf => by simp at hf
 | (o', t') :: r, [], h, f, fo, ft, hf => by simp [fieldsOk] at h
 | (o', t') :: r, x :: fl, h, f, fo, ft, hf => by
  simp only [fieldsOk, Bool.and_eq_true, beq_iff_eq] at h
  cases f with
  | zero => simp at hf; obtain ⟨rfl, rfl⟩ := hf; exact ⟨x, rfl, h.1.1.1.symm, h.1.1.2.symm⟩
  | succ f => simp at hf; simpa using fieldsOk_get h.2 hf
theorem sField (hcx : tbOk P tb tb = true) (hs : Sim c F σ bm tm a w) {n : Nat} {o : Oper} {x : Operand} {T f : Nat} (ho : o.op = .fieldAddr T x f) {ti : TI} (hti : tb.get T = some ti) {eff : Eff}
  (h : eField tb Γ gs o.dst ti (opd tb σ 0 x) f = some eff) : PureSpec P c F gs σ bm tm a w n o eff := by
 unfold eField at h
 split at h
 ·rename_i ts fo ft hv hf
  obtain ⟨i, fields, z, hi, hsz, _, _, _, hu, hfo⟩ := ty_agg hcx hti hv
  obtain ⟨fl, hfl, hoff, hty⟩ := fieldsOk_get hfo hf
  split at h
  ·rename_i fi hfi
   split at h
   ·simp at h
   ·rename_i hne
    split at h
    ·simp at h
    ·rename_i v1 hv1
     obtain ⟨j, hj, hjs, _⟩ := ty_one hcx hfi hv1
     have hcl : fi.cells = v1.cells := by simp [TI.cells, hv1]
     have hrun : ∀ (ad : Addr), (Instr.fieldAt T (.pointer (some ad)) f).run P w = .ok (.pointer (some (ad.add fo))) w := fun ad => by
      have hfl' : fields[f]? = some fl := by simpa using hfl
      have hne' : v1.cells ≠ [] := by rw [← hcl]; intro e; simp [e] at hne
      have hsz' : (sizeOf fl.type).run P w = .ok v1.cells.length w := by rw [hty, run_sizeOf hj, hjs]
      simp [Instr.fieldAt, run_underlying hu, hfl', Instr.sureAddr, fieldPlace, hsz', hne', hoff]
     split at h
     ·rename_i g id off hb
      simp at h; subst h
      obtain ⟨st, h2, h3⟩ := bind_some' hb
      obtain ⟨h4, h5⟩ := opd_rel hs h2
      refine ⟨_, rfl, rfl, fun g hg => h5 g (under_men h3 (by simpa [men] using hg)), fun hg _ => ?_⟩
      have := under_ptr h3 h4 hg
      refine ⟨.pointer (some ⟨bm id, off + fo, none⟩), w, by simp [execOp, ho, this, hrun, addr_add], Below.refl _ _, fun _ => rfl, fun h => absurd hg h⟩
     ·rename_i g e off hb
      simp at h; subst h
      obtain ⟨st, h2, h3⟩ := bind_some' hb
      obtain ⟨h4, h5⟩ := opd_rel hs h2
      refine ⟨_, rfl, rfl, fun g hg => by simp [men, K.has] at hg, fun hg _ => ?_⟩
      obtain ⟨b, o', hp, hr⟩ := under_ro h3 h4 hg
      refine ⟨.pointer (some ⟨b, o' + fo, none⟩), w, by simp [execOp, ho, hp, hrun, addr_add], Below.refl _ _, fun _ => ⟨b, o' + fo, rfl, ?_⟩, fun h => absurd hg h⟩
      have := hr.drop fo
      rwa [List.drop_drop] at this
     ·simp at h
  ·simp at h
 ·simp at h
theorem eval_int {M : Addr → Prop} {env : List D} (hΓ : EnvTy tb.tab Γ env) {k : K} {e : E} {v : Value} {kk : IntKind} (h : e.inf tb.tab Γ = some (.one (.c (.int kk)))) (hr : relK w M tm env k e v) : ∃ n, e.den env = .int kk n ∧ v = .int kk n ∧ kk.min ≤ n ∧ n ≤ kk.max := by
 obtain ⟨n, hn⟩ := hasTy_int (E.inf_ok hΓ e _ h)
 have := hr.rd
 rw [hn] at this
 exact ⟨n, hn, this.1, this.2⟩
theorem eval_bool {M : Addr → Prop} {env : List D} (hΓ : EnvTy tb.tab Γ env) {k : K} {e : E} {v : Value} (h : e.inf tb.tab Γ = some (.one (.c .bool))) (hr : relK w M tm env k e v) : ∃ b, e.den env = .bool b ∧ v = .bool b := by
 obtain ⟨n, hn⟩ := hasTy_bool (E.inf_ok hΓ e _ h)
 have := hr.rd
 rw [hn] at this
 exact ⟨n, hn, this⟩
theorem eval_str {M : Addr → Prop} {env : List D} (hΓ : EnvTy tb.tab Γ env) {k : K} {e : E} {v : Value} (h : e.inf tb.tab Γ = some (.one (.c .str))) (hr : relK w M tm env k e v) : ∃ s, e.den env = .str s ∧ v = .string s ∧ s.size ≤ maxLen := by
 obtain ⟨n, hn⟩ := hasTy_str (E.inf_ok hΓ e _ h)
 have := hr.rd
 rw [hn] at this
 exact ⟨n, hn, this.1, this.2⟩
theorem eval_sl {M : Addr → Prop} {env : List D} (hΓ : EnvTy tb.tab Γ env) {k : K} {e : E} {v : Value} {el : Nat} (h : e.inf tb.tab Γ = some (.one (.c (.sl el)))) (hr : relK w M tm env k e v) :
  ∃ rows, e.den env = .sl rows ∧ RowsTy tb.tab (tb.tab el) rows ∧ ∃ ad len cap, v = .slice ad len cap ∧ len = rows.length ∧ len ≤ cap ∧ cap ≤ maxLen ∧ (ad = none → cap = 0) ∧ ∀ b o s, ad = some ⟨b, o, s⟩ → (0 < len → s = none) ∧ Rws w M rows b o := by
 obtain ⟨rows, hn, ht⟩ := hasTy_sl (E.inf_ok hΓ e _ h)
 have := hr.rd
 rw [hn] at this
 exact ⟨rows, hn, ht, this⟩
theorem sIndex (hcx : tbOk P tb tb = true) (hs : Sim c F σ bm tm a w) (hΓ : EnvTy tb.tab Γ c.env) {n : Nat} {o : Oper} {x i : Operand} {T : Nat} (ho : o.op = .indexAddr T x i) {ti : TI} (hti : tb.get T = some ti) {eff : Eff}
  (h : eIndex tb Γ gs o.dst ti (opd tb σ T x) (opd tb σ 0 i) = some eff) : PureSpec P c F gs σ bm tm a w n o eff := by
 unfold eIndex at h
 split at h
 ·rename_i el kx ex ki ei hv hx hi
  split at h
  ·rename_i ei' hei
   split at h
   ·simp at h
   ·rename_i v1 hv1
    split at h
    ·rename_i hc
     simp at h; subst h
     refine ⟨_, rfl, rfl, fun g hg => by simp [men, K.has] at hg, fun hg hr => ?_⟩
     have hin : RqH P c.env n (.cond gs (.inb ex ei)) := hr _ (by simp)
     replace hin := hin hg
     obtain ⟨rows, hrows, hrt, ad, len, cap, hval, hlen, hcap, hmax, hnone, hcells⟩ := eval_sl hΓ (isC_some hc.1) ((val_rel hs hx).1 hg)
     obtain ⟨kk, hkk⟩ := isInt_some hc.2
     obtain ⟨m, hm, hmv, _⟩ := eval_int hΓ hkk ((val_rel hs hi).1 hg)
     simp only [E.den, hrows, hm, D.toI_int, lenD, D.bool.injEq, decide_eq_true_eq] at hin
     obtain ⟨i', d, hti', _, _, _, hd, hdc⟩ := ty_c hcx hti hv
     simp only [DescC] at hdc; subst hdc
     obtain ⟨j, hj, hjs, _⟩ := ty_one hcx hei hv1
     have htab : tb.tab el = v1.cells := by simp [TB.tab, hei, TI.cells, hv1]
     have hlt : m.toNat < rows.length := by omega
     rcases ad with _ | ⟨b, o', s⟩
     ·have := hnone rfl; omega
     ·obtain ⟨hs0, hrw⟩ := hcells b o' s rfl
      have hsn := hs0 (by omega); subst hsn
      refine ⟨.pointer (some ⟨b, o' + m.toNat * v1.cells.length, none⟩), w, ?_, Below.refl _ _, fun _ => ⟨b, _, rfl, ?_⟩, fun h => absurd hg h⟩
      ·have hml : m < (len : Int) := by omega
       simp [execOp, ho, hval, hmv, Instr.indexAt, asIntOf, run_underlying hd, run_sizeOf hj, hjs, hin.1, hml, addr_add]
      ·simp only [E.den, hrows, hm, D.toR_sl, D.toI_int, List.getElem?_eq_getElem hlt, Option.getD_some, D.toA_agg, List.drop_zero]
       exact hrw.get (fun r hr => by rw [hrt.len r hr, htab]) (List.getElem?_eq_getElem hlt)
    ·simp at h
  ·simp at h
 ·simp at h
theorem sNil (hs : Sim c F σ bm tm a w) {n : Nat} {o : Oper} {x : Operand} (ho : o.op = .nilCheck x) {T : Nat} {eff : Eff} (h : eNil gs o.dst (opd tb σ T x) = some eff) : PureSpec P c F gs σ bm tm a w n o eff := by
 unfold eNil at h
 split at h
 ·rename_i g id off hb
  simp at h; subst h
  obtain ⟨st, h2, h3⟩ := bind_some' hb
  obtain ⟨h4, h5⟩ := opd_rel hs h2
  refine ⟨_, rfl, rfl, fun g hg => h5 g (under_men h3 (by simpa [men] using hg)), fun hg _ => ?_⟩
  have := under_ptr h3 h4 hg
  exact ⟨_, w, by simp [execOp, ho, this], Below.refl _ _, fun _ => rfl, fun h => absurd hg h⟩
 ·rename_i g e off hb
  simp at h; subst h
  obtain ⟨st, h2, h3⟩ := bind_some' hb
  obtain ⟨h4, h5⟩ := opd_rel hs h2
  refine ⟨_, rfl, rfl, fun g hg => by simp [men, K.has] at hg, fun hg _ => ?_⟩
  obtain ⟨b, o', hp, hr⟩ := under_ro h3 h4 hg
  exact ⟨_, w, by simp [execOp, ho, hp], Below.refl _ _, fun _ => ⟨b, o', rfl, hr⟩, fun h => absurd hg h⟩
 ·simp at h
theorem sNot (hs : Sim c F σ bm tm a w) (hΓ : EnvTy tb.tab Γ c.env) {n : Nat} {o : Oper} {x : Operand} {T T' : Nat} (ho : o.op = .unOp .not T' x) {eff : Eff} (h : eNot tb.tab Γ gs o.dst (opd tb σ T x) = some eff) : PureSpec P c F gs σ bm tm a w n o eff := by
 unfold eNot at h
 split at h
 ·rename_i k e hx
  split at h
  ·rename_i hc
   simp at h; subst h
   refine ⟨_, rfl, rfl, fun g hg => by simp [men, K.has] at hg, fun hg _ => ?_⟩
   obtain ⟨b, hb, hv⟩ := eval_bool hΓ (isC_some hc) ((val_rel hs hx).1 hg)
   exact ⟨.bool !b, w, by simp [execOp, ho, hv, Op.unary], Below.refl _ _, relT_v hg (by simp [relK, E.den, hb, R])⟩
  ·simp at h
 ·simp at h
theorem sNeg (hs : Sim c F σ bm tm a w) (hΓ : EnvTy tb.tab Γ c.env) {n : Nat} {o : Oper} {x : Operand} {T T' : Nat} (ho : o.op = .unOp .neg T' x) {eff : Eff} (h : eNeg tb.tab Γ gs o.dst (opd tb σ T x) = some eff) : PureSpec P c F gs σ bm tm a w n o eff := by
 unfold eNeg at h
 split at h
 ·rename_i k e hx
  split at h
  ·rename_i kk hk
   simp at h; subst h
   refine ⟨_, rfl, rfl, fun g hg => by simp [men, K.has] at hg, fun hg _ => ?_⟩
   obtain ⟨m, hm, hmv, _⟩ := eval_int hΓ hk ((val_rel hs hx).1 hg)
   refine ⟨.int kk (kk.wrap (0 - m)), w, by simp [execOp, ho, hmv, Op.unary, Op.intArith], Below.refl _ _, relT_v hg ?_⟩
   simp only [relK, E.den, hm, D.toI_int, R, arI]
   exact ⟨trivial, wrap_within _ _⟩
  ·simp at h
 ·simp at h
theorem flat1_c {t : CT} {d : D} {v : Value} {M : Addr → Prop} (ht : HasV1 tb.tab (.c t) d) (hr : R w M d v) : flat1 v = [v] := by
 have ht : HasTy tb.tab t d := ht
 cases t with
 | bool => obtain ⟨b, rfl⟩ := hasTy_bool ht; have : v = .bool b := hr; subst this; rfl
 | int k => obtain ⟨n, rfl⟩ := hasTy_int ht; have : v = .int k n := hr.1; subst this; rfl
 | str => obtain ⟨s, rfl⟩ := hasTy_str ht; have : v = .string s := hr.1; subst this; rfl
 | sl e => obtain ⟨r, rfl, _⟩ := hasTy_sl ht; obtain ⟨ad, len, cap, rfl, _⟩ := hr; rfl
 | mem => obtain ⟨n, rfl⟩ := hasTy_mem ht; obtain ⟨ad, cap, rfl, _⟩ := hr; rfl
 | fn => obtain ⟨f, caps, rfl⟩ := hasTy_fn ht; obtain ⟨ps, rfl, _⟩ := hr; rfl
theorem flat1_len {v1 : V1} {d : D} {v : Value} {M : Addr → Prop} (ht : HasV1 tb.tab v1 d) (hr : R w M d v) : (flat1 v).length = v1.cells.length := by
 cases v1 with
 | c t => rw [flat1_c ht hr]; rfl
 | agg ts =>
  obtain ⟨l, rfl, hlt⟩ := hasV1_agg ht
  obtain ⟨cs, rfl, hrs⟩ := hr
  simp only [flat1, V1.cells]
  rw [hrs.length, hlt.length]
theorem flat_list {M : Addr → Prop} : ∀ {vs : List V1} {l : List D} {us : List Value}, HasVs tb.tab vs l → Rs w M l us → ∀ {i j : Nat} {u x : Value}, i < vs.length → us[i]? = some u → (flat1 u)[j]? = some x → (us.flatMap flat1)[offT vs i + j]? = some x
 | [], _, _, _, _, i, _, _, _, hi, _, _ => by simp at hi
 | v :: vs, [], _, h, _, _, _, _, _, _, _, _ => by simp [HasVs] at h
 | v :: vs, d :: l, us, h, ⟨u0, q, e, h1, h2⟩, i, j, u, x, hi, hu, hx => by
  subst e
  simp only [HasVs] at h
  have hlen := flat1_len h.1 h1
  cases i with
  | zero =>
   simp at hu; subst hu
   have hj : j < (flat1 u0).length := (List.getElem?_eq_some_iff.1 hx).1
   simp only [List.flatMap_cons, offT, Nat.zero_add]
   rw [List.getElem?_append_left hj]; exact hx
  | succ i =>
   simp at hu hi
   have := flat_list h.2 h2 hi hu hx
   simp only [List.flatMap_cons, offT]
   rw [List.getElem?_append_right (by omega), show v.cells.length + offT vs i + j - (flat1 u0).length = offT vs i + j by omega]
   exact this
theorem flat_at {M : Addr → Prop} {vs : List V1} {l : List D} {cs : Array Value} (h : HasVs tb.tab vs l) (hr : Rs w M l cs.toList) {i j : Nat} {u x : Value} (hi : i < vs.length) (hu : cs.toList[i]? = some u) (hx : (flat1 u)[j]? = some x) : (flatV (.tuple cs))[offT vs i + j]? = some x :=
 flat_list h hr hi hu hx
theorem sExtract (hs : Sim c F σ bm tm a w) (hΓ : EnvTy tb.tab Γ c.env) {n : Nat} {o : Oper} {x : Operand} {T i : Nat} (ho : o.op = .extract x i) {eff : Eff} (h : eExtract tb.tab Γ gs o.dst (opd tb σ T x) i = some eff) : PureSpec P c F gs σ bm tm a w n o eff := by
 unfold eExtract at h
 split at h
 ·rename_i k e hx
  split at h
  ·rename_i vs he
   split at h
   ·rename_i hi
    simp at h; subst h
    refine ⟨_, rfl, rfl, fun g hg => (val_rel hs hx).2 g (K.has_sub (show (subK _ _ _).has g from hg)), fun hg _ => ?_⟩
    obtain ⟨l, hl, hlt⟩ := hasVT_tup (E.inf_ok hΓ e _ he)
    have hk0 := (val_rel hs hx).1 hg
    have hr := ((val_rel hs hx).1 hg).rd
    rw [hl] at hr
    obtain ⟨cs, hcs, hrs⟩ := hr
    obtain ⟨d, hd, _⟩ := hlt.get (List.getElem?_eq_getElem hi)
    obtain ⟨u, hu, hru⟩ := hrs.get hd
    have hu' : cs[i]? = some u := by simpa using hu
    have hRu : R w (MM c.M0 bm tm σ) ((E.proj e i).den c.env) u := by simpa [E.den, hl, List.getD, hd] using hru
    refine ⟨u, w, by simp [execOp, ho, hcs, Instr.extract, hu'], Below.refl _ _, relT_v hg ?_⟩
    have hty : HasV1 tb.tab vs[i] ((E.proj e i).den c.env) := by
     obtain ⟨d', hd', ht'⟩ := hlt.get (List.getElem?_eq_getElem hi)
     rw [hd] at hd'; cases hd'
     simpa [E.den, hl, List.getD, hd] using ht'
    rw [hcs] at hk0
    have hfl : ∀ (j : Nat) (x : Value), (flat1 u)[j]? = some x → (flatV (.tuple cs))[offT vs i + j]? = some x := fun j x hx => flat_at hlt hrs hi (by simpa using hu') hx
    rw [List.getElem?_eq_getElem hi]
    cases hv1 : vs[i] with
    | c t =>
     rw [hv1] at hty
     have h1 : flat1 u = [u] := flat1_c hty hRu
     exact relK.ofn hRu (hk0.nth (by have := hfl 0 u (by rw [h1]; rfl); simpa using this))
    | agg ts =>
     rw [hv1] at hty
     obtain ⟨l', hl', hlt'⟩ := hasV1_agg hty
     have hRu' := hRu
     rw [hl'] at hRu'
     obtain ⟨us, rfl, hus⟩ := hRu'
     have : us = us.toList.toArray := by simp
     rw [this] at hRu ⊢
     refine relK.pack hRu fun j k x hk hx => ?_
     simp only [List.getElem?_map, Option.map_eq_some_iff] at hk
     obtain ⟨j', hj', rfl⟩ := hk
     have hj2 : j' = j := by
      rw [List.getElem?_eq_some_iff] at hj'
      obtain ⟨q1, q2⟩ := hj'
      simpa using q2.symm
     subst hj2
     exact hk0.nth (hfl j' x (by simpa [flat1] using hx))
   ·simp at h
  ·simp at h
 ·simp at h
theorem sConv (hcx : tbOk P tb tb = true) (hs : Sim c F σ bm tm a w) (hΓ : EnvTy tb.tab Γ c.env) {n : Nat} {o : Oper} {x : Operand} {S T : Nat} (ho : o.op = .convert S T x) {si ti : TI} (hsi : tb.get S = some si) (hti : tb.get T = some ti) {eff : Eff}
  (h : eConv tb.tab Γ gs o.dst (u8In tb si) si ti (opd tb σ S x) = some eff) : PureSpec P c F gs σ bm tm a w n o eff := by
 unfold eConv at h
 split at h
 ·rename_i k1 k2 kx e hv1 hv2 hx
  split at h
  ·rename_i hc
   simp at h; subst h
   refine ⟨_, rfl, rfl, fun g hg => by simp [men, K.has] at hg, fun hg _ => ?_⟩
   obtain ⟨kk, hkk⟩ := isInt_some hc
   obtain ⟨m, hm, hmv, _⟩ := eval_int hΓ hkk ((val_rel hs hx).1 hg)
   obtain ⟨_, d1, _, _, _, _, hd1, hdc1⟩ := ty_c hcx hsi hv1
   obtain ⟨_, d2, _, _, _, _, hd2, hdc2⟩ := ty_c hcx hti hv2
   simp only [DescC] at hdc1 hdc2; subst hdc1 hdc2
   refine ⟨.int k2 (k2.wrap m), w, by simp [execOp, ho, hmv, convert, run_underlying hd1, run_underlying hd2, Conv.intToInt], Below.refl _ _, relT_v hg ?_⟩
   simp only [relK, E.den, hm, D.toI_int, R]
   exact ⟨trivial, wrap_within _ _⟩
  ·simp at h
 ·rename_i el kx e hv1 hv2 hx
  split at h
  ·rename_i hc
   simp at h; subst h
   refine ⟨_, rfl, rfl, fun g hg => by simp [men, K.has] at hg, fun hg _ => ?_⟩
   obtain ⟨rows, hrows, hrt, ad, len, cap, hval, hlen, hcap, hmax, hnone, hcells⟩ := eval_sl hΓ (isC_some hc.1) ((val_rel hs hx).1 hg)
   obtain ⟨_, d1, _, _, _, _, hd1, hdc1⟩ := ty_c hcx hsi hv1
   obtain ⟨_, d2, _, _, _, _, hd2, hdc2⟩ := ty_c hcx hti hv2
   simp only [DescC] at hdc1 hdc2; subst hdc1 hdc2
   have hel : P.underlying el = some (.int .u8) := by
    have h8 := hc.2.1
    unfold u8In at h8
    rw [hv1] at h8
    simp only at h8
    split at h8
    ·rename_i i hi
     split at h8
     ·rename_i hvi
      obtain ⟨_, d3, _, _, _, _, hd3, hdc3⟩ := ty_c hcx hi hvi
      simp only [DescC] at hdc3; subst hdc3; exact hd3
     ·simp at h8
    ·simp at h8
   rw [hc.2.2] at hrt
   refine ⟨.string (bytesD (.sl rows)), w, ?_, Below.refl _ _, relT_v hg ?_⟩
   ·rcases ad with _ | ⟨b, o', s⟩
    ·have h0 : rows = [] := List.eq_nil_of_length_eq_zero (by have := hnone rfl; omega)
     subst h0
     have := run_convert_bytes_nil (P := P) w S el hd1 hel len cap T hd2
     simp [execOp, ho, hval, this]
     rfl
    ·obtain ⟨hs0, hrw⟩ := hcells b o' s rfl
     have hcs : ∀ i, i < len → w.cell? ⟨b, o' + i, none⟩ = some (.int .u8 ((rows.map fun r => (r.headD .un).toI).getD i 0)) := by
      intro i hi
      have hr := hrw.get (n := 1) (fun r hr => hrt.len r hr) (List.getElem?_eq_getElem (show i < rows.length by omega))
      have hm := hrt.mem _ (List.getElem_mem (show i < rows.length by omega))
      match hri : rows[i], hm with
      | [d], hm =>
       obtain ⟨n, rfl⟩ := hasTy_int hm.1
       rw [hri] at hr
       obtain ⟨⟨v, h1, _, h2⟩, _⟩ := hr
       have : v = .int .u8 n := h2.1
       subst this
       rw [Nat.mul_one] at h1
       rw [h1]
       simp [List.getD, List.getElem?_eq_getElem (show i < rows.length by omega), hri]
     rcases Nat.eq_zero_or_pos len with h0 | h0
     ·subst h0
      have h0' : rows = [] := List.eq_nil_of_length_eq_zero hlen.symm
      subst h0'
      have hrun : (convert S T (.slice (some ⟨b, o', s⟩) 0 cap)).run P w = .ok (.string (strOfNums [])) w := by
       rw [run_convert_bytes_string w S T el _ 0 cap hd1 hel hd2, run_bytesToString w _ 0 cap [] (by simpa using run_loadCells_list (P := P) (w := w) ⟨b, o', s⟩ [] (fun j u h => by simp at h))]
       rfl
      simp [execOp, ho, hval, hrun, bytesD]
     ·have := hs0 h0; subst this
      have hrun := run_convert_bytes_arg (P := P) w S el hd1 hel b o' len cap (rows.map fun r => (r.headD .un).toI) (by simp [hlen]) hcs T hd2
      simp [execOp, ho, hval, hrun, bytesD]
   ·simp only [relK, E.den, hrows, R]
    refine ⟨trivial, ?_⟩
    show (strOfNums _).size ≤ _
    simp [strOfNums, ByteArray.size]
    omega
  ·simp at h
 ·simp at h
theorem size_le_maxLen {n : Nat} (h : n ≤ maxLen) : IntKind.i64.min ≤ (n : Int) ∧ (n : Int) ≤ IntKind.i64.max := by
 unfold maxLen at h
 simp [IntKind.min, IntKind.max, IntKind.signed, IntKind.bits]
 omega
theorem sLen (hcx : tbOk P tb tb = true) (hs : Sim c F σ bm tm a w) (hΓ : EnvTy tb.tab Γ c.env) {n : Nat} {o : Oper} {x : Operand} {T : Nat} {cl : Call} (ho : o.op = .call cl) (hcl : cl.callee = .builtin .len) (har : cl.args.toList = [x]) (hat : cl.argTypes.toList = [T])
  {ti : TI} (hti : tb.get T = some ti) {eff : Eff} (h : eLen tb.tab Γ gs o.dst ti (opd tb σ T x) = some eff) : PureSpec P c F gs σ bm tm a w n o eff := by
 have har' : cl.args = #[x] := by rw [← Array.toList_inj, har]
 have hat' : cl.argTypes = #[T] := by rw [← Array.toList_inj, hat]
 unfold eLen at h
 split at h
 ·rename_i k e hx
  split at h
  ·rename_i hc
   simp at h; subst h
   refine ⟨_, rfl, rfl, fun g hg => by simp [men, K.has] at hg, fun hg _ => ?_⟩
   have hvr := (val_rel hs hx).1 hg
   rcases hc with hc | ⟨hinf, hsl⟩
   rotate_left
   ·obtain ⟨n, hn⟩ := hasTy_mem (E.inf_ok hΓ e _ hinf)
    have hrd := hvr.rd
    rw [hn] at hrd
    obtain ⟨ad, cap, hval, hcap, hmax, _⟩ := hrd
    unfold isSl at hsl
    split at hsl
    ·rename_i el hv
     obtain ⟨_, d1, _, _, _, _, hd1, hdc1⟩ := ty_c hcx hti hv
     simp only [DescC] at hdc1; subst hdc1
     refine ⟨.int .i64 n, w, by simp [execOp, ho, resolve, hcl, invoke, builtin, Builtin.len_, har', hat', hval, run_underlying hd1, goInt], Below.refl _ _, relT_v hg ?_⟩
     simp only [relK, E.den, hn, lenD, R]
     exact ⟨trivial, size_le_maxLen (by omega)⟩
    ·simp at hsl
   obtain ⟨hinf, hseq⟩ := hc
   unfold isSeq at hseq
   split at hseq
   ·rename_i hv
    obtain ⟨_, d1, _, _, _, _, hd1, hdc1⟩ := ty_c hcx hti hv
    simp only [DescC] at hdc1; subst hdc1
    obtain ⟨s, hsd, hsv, hss⟩ := eval_str hΓ (by rw [hinf, hv]) hvr
    refine ⟨.int .i64 s.size, w, by simp [execOp, ho, resolve, hcl, invoke, builtin, Builtin.len_, har', hat', hsv, run_underlying hd1, goInt], Below.refl _ _, relT_v hg ?_⟩
    simp only [relK, E.den, hsd, lenD, R]
    exact ⟨trivial, size_le_maxLen hss⟩
   ·rename_i el hv
    obtain ⟨_, d1, _, _, _, _, hd1, hdc1⟩ := ty_c hcx hti hv
    simp only [DescC] at hdc1; subst hdc1
    obtain ⟨rows, hrows, hrt, ad, len, cap, hval, hlen, hcap, hmax, hnone, hcells⟩ := eval_sl hΓ (by rw [hinf, hv]) hvr
    refine ⟨.int .i64 len, w, by simp [execOp, ho, resolve, hcl, invoke, builtin, Builtin.len_, har', hat', hval, run_underlying hd1, goInt], Below.refl _ _, relT_v hg ?_⟩
    simp only [relK, E.den, hrows, lenD, R, hlen]
    exact ⟨trivial, size_le_maxLen (by omega)⟩
   ·simp at hseq
  ·simp at h
 ·simp at h
theorem sAt (hcx : tbOk P tb tb = true) (hs : Sim c F σ bm tm a w) (hΓ : EnvTy tb.tab Γ c.env) {n : Nat} {o : Oper} {x i : Operand} {T : Nat} (ho : o.op = .index T x i) {ti : TI} (hti : tb.get T = some ti) {eff : Eff}
  (h : eAt tb.tab Γ gs o.dst ti (opd tb σ T x) (opd tb σ 0 i) = some eff) : PureSpec P c F gs σ bm tm a w n o eff := by
 unfold eAt at h
 split at h
 ·rename_i kx ex ki ei hv hx hi
  split at h
  ·rename_i hc
   simp at h; subst h
   refine ⟨_, rfl, rfl, fun g hg => by simp [men, K.has] at hg, fun hg hr => ?_⟩
   have hin : RqH P c.env n (.cond gs (.inb ex ei)) := hr _ (by simp)
   replace hin := hin hg
   obtain ⟨s, hs1, hsv, hss⟩ := eval_str hΓ (isC_some hc.1) ((val_rel hs hx).1 hg)
   obtain ⟨kk, hkk⟩ := isInt_some hc.2
   obtain ⟨m, hm, hmv, _⟩ := eval_int hΓ hkk ((val_rel hs hi).1 hg)
   simp only [E.den, hs1, hm, D.toI_int, lenD, D.bool.injEq, decide_eq_true_eq] at hin
   obtain ⟨_, d1, _, _, _, _, hd1, hdc1⟩ := ty_c hcx hti hv
   simp only [DescC] at hdc1; subst hdc1
   have hlt : m.toNat < s.size := by omega
   refine ⟨.int .u8 (s[m.toNat]'hlt).toNat, w, by simp [execOp, ho, hsv, hmv, Instr.index, asIntOf, run_underlying hd1, hin.1, hlt], Below.refl _ _, relT_v hg ?_⟩
   have h8 := (s[m.toNat]'hlt).toNat_lt
   simp only [relK, E.den, hs1, hm, D.toS_str, D.toI_int, R]
   simp [hlt, IntKind.min, IntKind.max, IntKind.signed, IntKind.bits]
   omega
  ·simp at h
 ·simp at h
theorem hi_repl {tab : Nat → List CT} {n : Nat} {t : CT} {d : D} (h : HasV1 tab (.agg (List.replicate n t)) d) : ∃ l, d = .agg l ∧ l.length = n ∧ RowTy tab (List.replicate n t) l := by
 obtain ⟨l, hl, hlt⟩ := hasV1_agg h
 exact ⟨l, hl, by rw [hlt.length, List.length_replicate], hlt⟩
theorem isAgg_ct {ei : TI} {e : Nat} {t : CT} (hcx : tbOk P tb tb = true) (hei : tb.get e = some ei) (hv : ei.vt = .one (.c t)) : (isAgg e).run P w = .ok false w := by
 obtain ⟨i, d, _, _, _, _, hd, hdc⟩ := ty_c hcx hei hv
 exact run_isAgg_c hd hdc
theorem sGlob (hcx : tbOk P tb tb = true) (hs : Sim c F σ bm tm a w) (hgi : GInv w) (hΓ : EnvTy tb.tab Γ c.env) {o : Oper} {g T : Nat} (ho : o.op = .load T (.global g)) {ti : TI} (hti : tb.get T = some ti) {eff : Eff}
  (h : eGlob tb Γ gs o.dst ti g = some eff) : PureSpec P c F gs σ bm tm a w Γ.length o eff := by
 unfold eGlob at h
 split at h
 ·rename_i n t ha
  simp at h; subst h
  obtain ⟨e, ei, i, hu, hei, hev, hi, hsz⟩ := ty_arr hcx hti ha
  refine ⟨_, rfl, rfl, fun g hg => by simp [men, K.has] at hg, fun hg hr => ?_⟩
  have hq : RqH P c.env Γ.length (.glob g (.one (.agg (List.replicate n t))) none) := hr _ (by simp)
  obtain ⟨hq1, _, l, hl, hll⟩ := hq
  rw [List.length_replicate] at hll
  rw [hl] at hq1
  obtain ⟨cs, t0, f0, h1, h2⟩ := hq1 w hgi
  have h3 := h2 w (MM c.M0 bm tm σ)
  simp only [D.toA_agg] at h3
  have hrun := run_loadVar_a (P := P) (w := w) hu hi (b := g) (o := 0) (vs := cs.toList) (by rw [h3.length, hll, hsz]) (fun j u hj => by
   rw [Nat.zero_add]
   simp only [World.cell?, h1]
   simpa using hj)
  refine ⟨.agg cs, w, ?_, Below.refl _ _, relT_v hg ?_⟩
  ·simp [execOp, ho, Act.eval, Instr.loadAt, Instr.sureAddr, hrun]
  ·show R w _ (c.env.getD Γ.length .un) (.agg cs)
   rw [hl]
   exact ⟨cs, rfl, h3⟩
 ·simp at h
theorem sGIdx (hcx : tbOk P tb tb = true) (hs : Sim c F σ bm tm a w) (hΓ : EnvTy tb.tab Γ c.env) {o : Oper} {g T T' : Nat} {i : Operand} (ho : o.op = .indexAddr T (.global g) i) {ti : TI} (hti : tb.get T = some ti) {eff : Eff}
  (h : eGIdx tb Γ gs o.dst ti g (opd tb σ T' i) = some eff) : PureSpec P c F gs σ bm tm a w Γ.length o eff := by
 unfold eGIdx at h
 split at h
 ·rename_i n t ki ei ha hx
  split at h
  ·rename_i hint
   simp at h; subst h
   obtain ⟨e, ei', i', hu, hei, hev, hi, hsz⟩ := ty_arr hcx hti ha
   refine ⟨_, rfl, rfl, fun g hg => by simp [men] at hg, fun hg hr => ?_⟩
   have hq : RqH P c.env Γ.length (.glob g (.one (.agg (List.replicate n t))) (some (gs, ei, n))) := hr _ (by simp)
   obtain ⟨hq1, hq2, l, hl, hll⟩ := hq
   rw [List.length_replicate] at hll
   obtain ⟨h0, h1⟩ := hq2 hg
   obtain ⟨kk, hkk⟩ := isInt_some hint
   obtain ⟨m, hm, hmv, _⟩ := eval_int hΓ hkk ((val_rel hs hx).1 hg)
   rw [hm] at h0 h1
   simp only [D.toI_int] at h0 h1
   obtain ⟨j, hj, hjs, _⟩ := ty_one hcx hei hev
   refine ⟨.pointer (some ⟨g, m.toNat, none⟩), w, ?_, Below.refl _ _, fun _ => ⟨?_, hq1, ?_⟩, fun h => absurd hg h⟩
   ·have hgv : a.eval (.global g) = .pointer (some ⟨g, 0, none⟩) := rfl
    simp [execOp, ho, hgv, hmv, Instr.indexAt, asIntOf, Instr.sureAddr, run_underlying hu, run_sizeOf hj, hjs, V1.cells, h0, h1, addr_add]
   ·rw [hm]; rfl
   ·show _ < (c.env.getD Γ.length .un).toA.length
    rw [hl, hm]
    simp only [D.toA_agg, D.toI_int, hll]; omega
  ·simp at h
 ·simp at h
theorem sMIndex (hcx : tbOk P tb tb = true) (hs : Sim c F σ bm tm a w) (hΓ : EnvTy tb.tab Γ c.env) {n : Nat} {o : Oper} {x i : Operand} {T T1 T2 : Nat} (ho : o.op = .indexAddr T x i) {ti : TI} (hti : tb.get T = some ti) {g0 : Gd} {g : Nat} {l : E} (hx : opd tb σ T1 x = some (.v g0 (.own g) l)) {eff : Eff}
  (h : eMIndex tb Γ gs o.dst ti g0 g l (opd tb σ T2 i) = some eff) : PureSpec P c F gs σ bm tm a w n o eff := by
 unfold eMIndex at h
 split at h
 ·rename_i el ki ei hv hi
  split at h
  ·rename_i e' he'
   split at h
   ·simp at h
   ·rename_i v1 hv1
    split at h
    ·rename_i hc
     simp at h; subst h
     obtain ⟨h4, h5⟩ := opd_rel hs hx
     refine ⟨_, rfl, rfl, fun x hx => h5 x hx, fun hg hr => ?_⟩
     have hin : RqH P c.env n (.cond gs (.inb l ei)) := hr _ (by simp)
     replace hin := hin hg
     obtain ⟨kk, hkk⟩ := isInt_some hc.2.2
     obtain ⟨m, hm, hmv, _⟩ := eval_int hΓ hkk ((val_rel hs hi).1 hg)
     obtain ⟨hrd, htm⟩ := h4.1 (gsH_sub hc.1 hg)
     obtain ⟨L, hL⟩ := hasTy_mem (E.inf_ok hΓ l _ (isC_some hc.2.1))
     rw [hL] at hrd
     obtain ⟨ad, cap, hval, hcap, hmax, hnone, hsn⟩ := hrd
     simp only [E.den, hm, hL, D.toI_int, lenD, D.bool.injEq, decide_eq_true_eq] at hin
     obtain ⟨i', d, hti', _, _, _, hd, hdc⟩ := ty_c hcx hti hv
     simp only [DescC] at hdc; subst hdc
     obtain ⟨j, hj, hjs, _⟩ := ty_one hcx he' hv1
     have htab : tb.tab el = v1.cells := by simp [TB.tab, he', TI.cells, hv1]
     have hlt : m.toNat < L := by omega
     rcases ad with _ | ⟨b, o', s⟩
     ·have := hnone rfl; omega
     ·obtain rfl := hsn b o' s rfl (by omega)
      refine ⟨.pointer (some ⟨b, o' + m.toNat * v1.cells.length, none⟩), w, ?_, Below.refl _ _, fun _ => ⟨b, o', _, cap, htm.symm.trans hval, ?_, ?_, ?_⟩, fun h => absurd hg h⟩
      ·simp [execOp, ho, hval, hmv, Instr.indexAt, asIntOf, run_underlying hd, run_sizeOf hj, hjs, hin.1, hin.2, addr_add]
      ·rw [hm]; exact hin.1
      ·rw [hm]; exact hlt
      ·rw [hm, htab]; rfl
    ·simp at h
  ·simp at h
 ·simp at h
theorem sMField (hcx : tbOk P tb tb = true) (hs : Sim c F σ bm tm a w) {m : Nat} {o : Oper} {x : Operand} {T T1 f : Nat} (ho : o.op = .fieldAddr T x f) {ti : TI} (hti : tb.get T = some ti) {g0 : Gd} {g n : Nat} {i : E} {off : Nat} (hx : opd tb σ T1 x = some (.mp g0 g n i off)) {eff : Eff}
  (h : eMField tb gs o.dst ti g0 g n i off f = some eff) : PureSpec P c F gs σ bm tm a w m o eff := by
 unfold eMField at h
 split at h
 ·rename_i ts fo ft hv hf
  obtain ⟨i', fields, z, hi, hsz, _, _, _, hu, hfo⟩ := ty_agg hcx hti hv
  obtain ⟨fl, hfl, hoff, hty⟩ := fieldsOk_get hfo hf
  split at h
  ·rename_i fi hfi
   split at h
   ·simp at h
   ·rename_i hne
    simp only [not_or] at hne
    split at h
    ·simp at h
    ·rename_i v1 hv1
     simp at h; subst h
     obtain ⟨j, hj, hjs, _⟩ := ty_one hcx hfi hv1
     have hcl : fi.cells = v1.cells := by simp [TI.cells, hv1]
     have hrun : ∀ (ad : Addr), (Instr.fieldAt T (.pointer (some ad)) f).run P w = .ok (.pointer (some (ad.add fo))) w := fun ad => by
      have hfl' : fields[f]? = some fl := by simpa using hfl
      have hne' : v1.cells ≠ [] := by rw [← hcl]; intro e; simp [e] at hne
      have hsz' : (sizeOf fl.type).run P w = .ok v1.cells.length w := by rw [hty, run_sizeOf hj, hjs]
      simp [Instr.fieldAt, run_underlying hu, hfl', Instr.sureAddr, fieldPlace, hsz', hne', hoff]
     obtain ⟨h4, h5⟩ := opd_rel hs hx
     refine ⟨_, rfl, rfl, fun x hx => h5 x (by simpa [men] using hx), fun hg _ => ?_⟩
     obtain ⟨b, o', len, cap, q1, q2, q3, q4⟩ := h4.1 (gsH_sub (by simpa using hne.2) hg)
     exact ⟨.pointer (some ⟨b, o' + (i.den c.env).toI.toNat * n + off + fo, none⟩), w, by simp [execOp, ho, q4, hrun, addr_add], Below.refl _ _, fun _ => ⟨b, o', len, cap, q1, q2, q3, by rw [Nat.add_assoc _ off fo]⟩, fun h => absurd hg h⟩
  ·simp at h
 ·simp at h
theorem sFld (hcx : tbOk P tb tb = true) (hs : Sim c F σ bm tm a w) {n : Nat} {o : Oper} {x : Operand} {T f : Nat} (ho : o.op = .fieldAddr T x f) {ti : TI} (hti : tb.get T = some ti) {eff : Eff}
  (h : eFld tb Γ gs o.dst ti (opd tb σ 0 x) f = some eff) : PureSpec P c F gs σ bm tm a w n o eff := by
 unfold eFld at h
 split at h
 ·rename_i hx; exact sMField hcx hs ho hti hx h
 ·exact sField hcx hs ho hti h
theorem rows_at {v : Value} {n : Nat} {Q : Nat → Nat → D → Value → Prop} {d : D} (hb : RowsOk w v n Q d) {a : Option Addr} {len cap : Nat} (hv : v = .slice a len cap) {k : Nat} (hk : k < len) :
  ∃ b o rows r, a = some ⟨b, o, none⟩ ∧ d = .sl rows ∧ rows[k]? = some r ∧ r.length = n ∧ (∀ r ∈ rows, r.length = n) ∧ rows.length = len ∧ len ≤ cap ∧ ∀ j d, r[j]? = some d → ∃ u, w.cell? ⟨b, o + k * n + j, none⟩ = some u ∧ Q k j d u := by
 obtain ⟨a', len', cap', rows, h1, h2, h3, h4, h5, h6, h7, h8⟩ := hb
 rw [hv] at h1
 simp only [Value.slice.injEq] at h1
 obtain ⟨rfl, rfl, rfl⟩ := h1
 have hlt : k < rows.length := by omega
 rcases a with _ | ⟨b, o, s⟩
 ·have := h6 rfl; omega
 ·obtain rfl := (h8 b o s rfl).1 (by omega)
  exact ⟨b, o, rows, rows[k], rfl, h2, List.getElem?_eq_getElem hlt, h7 _ (List.getElem_mem hlt), h7, h3.symm, h4, fun j d hj => (h8 b o none rfl).2 k _ (List.getElem?_eq_getElem hlt) j d hj⟩
theorem LvQ.leaf {B : Nat} {n : Nat} {dp : Option (Nat × List Nat)} {off k i j : Nat} {d : D} {u : Value} (hf : flatAt dp off k = true) (h1 : off ≤ j) (h2 : j < off + k) (h : LvQ B w tm n dp i j d u) : Leaf d u := by
 rcases dp with _ | ⟨gv, ms⟩
 ·exact h
 ·refine h.1 ?_
  simp only [flatAt, List.all_eq_true, List.mem_range] at hf
  have := Nat.eq_of_beq_eq_true (hf (j - off) (by omega))
  rwa [show off + (j - off) = j by omega] at this
theorem leaf_cells {b o : Nat} : ∀ {r : List D}, (∀ j d, r[j]? = some d → ∃ u, w.cell? ⟨b, o + j, none⟩ = some u ∧ Leaf d u) → ∃ vs : List Value, vs.length = r.length ∧ (∀ (w' : World) M, Rs w' M r vs) ∧ ∀ j u, vs[j]? = some u → w.cell? ⟨b, o + j, none⟩ = some u := by
 intro r
 induction r generalizing o with
 | nil => intro _; exact ⟨[], rfl, fun _ _ => rfl, fun j u h => by simp at h⟩
 | cons d r ih =>
  intro h
  obtain ⟨u, hu, hl⟩ := h 0 d rfl
  obtain ⟨vs, h1, h2, h3⟩ := ih (o := o + 1) fun j d' hj => by
   have := h (j + 1) d' (by simpa using hj)
   rwa [show o + (j + 1) = o + 1 + j by omega] at this
  refine ⟨u :: vs, by simp [h1], fun w' M => ⟨u, vs, rfl, hl w' M, h2 w' M⟩, fun j u' hj => ?_⟩
  cases j with
  | zero => simp at hj; subst hj; simpa using hu
  | succ j => simp at hj; have := h3 j u' hj; rwa [show o + 1 + j = o + (j + 1) by omega] at this
theorem sMLoad (hcx : tbOk P tb tb = true) (hs : Sim c F σ bm tm a w) (hΓ : EnvTy tb.tab Γ c.env) {m : Nat} {o : Oper} {x : Operand} {T T1 : Nat} (ho : o.op = .load T x) {ti : TI} (hti : tb.get T = some ti) {g0 : Gd} {g n : Nat} {i : E} {off : Nat} (hx : opd tb σ T1 x = some (.mp g0 g n i off)) {eff : Eff}
  (h : eMLoad tb Γ gs o.dst σ ti g0 g n i off = some eff) : PureSpec P c F gs σ bm tm a w m o eff := by
 unfold eMLoad at h
 split at h
 ·rename_i n' e dp hlv
  split at h
  ·rename_i el hinf
   split at h
   ·rename_i hc
    obtain ⟨hgd, rfl, hn⟩ := hc
    obtain ⟨h4, h5⟩ := opd_rel hs hx
    have key : gsH c.env gs → ∃ b p r L cap, tm g = .slice (some ⟨b, p, none⟩) L cap ∧ 0 ≤ (i.den c.env).toI ∧ (i.den c.env).toI.toNat < L ∧ a.eval x = .pointer (some ⟨b, p + (i.den c.env).toI.toNat * n + off, none⟩) ∧ ((e.den c.env).toR[(i.den c.env).toI.toNat]?) = some r ∧ r.length = n ∧ ∀ j d, r[j]? = some d → ∃ u, w.cell? ⟨b, p + (i.den c.env).toI.toNat * n + j, none⟩ = some u ∧ LvQ c.B w tm n dp (i.den c.env).toI.toNat j d u := fun hg => by
     obtain ⟨b, o', len, cap, q1, q2, q3, q4⟩ := h4.1 (gsH_sub hgd hg)
     obtain ⟨b', o2, rows, r, p0, p1, p2, p3, _, _, _, p5⟩ := rows_at ((hs.live g _ hlv).bd e dp rfl) q1 q3
     simp only [Option.some.injEq, Addr.mk.injEq] at p0
     obtain ⟨rfl, rfl, _⟩ := p0
     exact ⟨b, o', r, len, cap, q1, q2, q3, q4, by rw [p1]; exact p2, p3, p5⟩
    split at h
    ·rename_i t hv
     split at h
     ·rename_i ht
      split at h
      ·rename_i hf
       simp at h; subst h
       refine ⟨_, rfl, rfl, fun g hg => by simp [men, K.has] at hg, fun hg _ => ?_⟩
       obtain ⟨b, p, r, L, cap, _, _, _, k1, k2, k3, k4⟩ := key hg
       have hlt : off < r.length := by rw [k3, ← hn]; exact (List.getElem?_eq_some_iff.1 ht).1
       obtain ⟨u, hu, hl⟩ := k4 off _ (List.getElem?_eq_getElem hlt)
       obtain ⟨i', d, hi, _, _, _, hd, hdc⟩ := ty_c hcx hti hv
       refine ⟨u, w, by simp [execOp, ho, k1, Instr.loadAt, Instr.sureAddr, run_loadVar_c hd hdc hu], Below.refl _ _, relT_v hg ?_⟩
       simp only [relK, E.den, k2, Option.getD_some, D.toA_agg, List.getD, List.getElem?_eq_getElem hlt]
       exact hl.leaf hf (Nat.le_refl _) (by omega) _ _
      ·rename_i hf
       split at h
       ·rename_i gv ms
        simp at h; subst h
        refine ⟨_, rfl, rfl, fun y hy => ?_, fun hg _ => ?_⟩
        ·rcases hy with rfl | rfl
         ·exact h5 _ rfl
         ·exact hs.f1 (3 * g + 2) _ (by rw [hlv]; exact ⟨e, ms, rfl⟩)
        obtain ⟨b, p, r, L, cap, q1, q2, q3, k1, k2, k3, k4⟩ := key hg
        have hlt : off < r.length := by rw [k3, ← hn]; exact (List.getElem?_eq_some_iff.1 ht).1
        obtain ⟨u, hu, hl⟩ := k4 off _ (List.getElem?_eq_getElem hlt)
        obtain ⟨i', d, hi, _, _, _, hd, hdc⟩ := ty_c hcx hti hv
        have hne : ms.getD off 0 ≠ 0 := fun h0 => hf (by
         simp only [flatAt, List.all_eq_true, List.mem_range]
         intro j hj
         obtain rfl : j = 0 := by omega
         rw [Nat.add_zero, h0]; rfl)
        obtain ⟨⟨cells, z1, z2⟩, z3, z4⟩ := hl.2 hne
        refine ⟨u, w, by simp [execOp, ho, k1, Instr.loadAt, Instr.sureAddr, run_loadVar_c hd hdc hu], Below.refl _ _, fun _ => ⟨⟨_, L, cap, q1, q2, q3⟩, ⟨cells, z1, z2⟩, ?_⟩, fun h => absurd hg h⟩
        obtain ⟨a', len', cap', rows', y1, y2, y3, y4, y5, y6, y7, y8⟩ := z4
        refine ⟨a', cap', ?_, ?_, y5, y6, fun b o s hh h0 => (y8 b o s hh).1 ?_⟩
        ·rw [y1]
         simp only [E.den, k2, Option.getD_some, D.toA_agg, List.getD, List.getElem?_eq_getElem hlt, y2, lenD, D.toI_int]
         rw [y3]; rfl
        ·simp only [E.den, k2, Option.getD_some, D.toA_agg, List.getD, List.getElem?_eq_getElem hlt, y2, lenD, D.toI_int]
         omega
        ·simp only [E.den, k2, Option.getD_some, D.toA_agg, List.getD, List.getElem?_eq_getElem hlt, y2, lenD, D.toI_int] at h0
         omega
       ·simp at h
     ·simp at h
    ·rename_i ts hv
     split at h
     ·rename_i hle
      obtain ⟨hle, hf⟩ := hle
      simp only [Option.some.injEq] at h; subst h
      refine ⟨_, rfl, rfl, fun g hg => by simp [men, K.has] at hg, fun hg _ => ?_⟩
      obtain ⟨b, p, r, L, cap, _, _, _, k1, k2, k3, k4⟩ := key hg
      obtain ⟨i', fields, z, hi, hsz, _, _, _, hu, _⟩ := ty_agg hcx hti hv
      obtain ⟨vs, v1, v2, v3⟩ := leaf_cells (w := w) (b := b) (o := p + (i.den c.env).toI.toNat * n + off) (r := (r.drop off).take ts.length) fun j d hj => by
       simp only [List.getElem?_take, List.getElem?_drop] at hj
       split at hj
       ·rename_i hjl
        obtain ⟨u, hu, hl⟩ := k4 _ d hj
        rw [← Nat.add_assoc] at hu
        exact ⟨u, hu, hl.leaf hf (by omega) (by omega)⟩
       ·simp at hj
      have hl := run_loadVar_s (P := P) (w := w) hu hi (b := b) (o := p + (i.den c.env).toI.toNat * n + off) (vs := vs) (by rw [v1, hsz]; simp; omega) v3
      refine ⟨.agg vs.toArray, w, by simp [execOp, ho, k1, Instr.loadAt, Instr.sureAddr, hl], Below.refl _ _, relT_v hg ?_⟩
      have hd : (if off = 0 ∧ ts.length = n then E.row (tb.tab el) e i else .sub (.row (tb.tab el) e i) off ts.length).den c.env = .agg ((r.drop off).take ts.length) := by
       split
       ·rename_i h0
        simp only [E.den, k2, Option.getD_some]
        rw [h0.1, List.drop_zero, List.take_of_length_le (by omega)]
       ·simp only [E.den, k2, Option.getD_some, D.toA_agg]
      simp only [relK, hd]
      exact (v2 w _).to_agg
     ·simp at h
    ·simp at h
   ·simp at h
  ·simp at h
 ·simp at h
theorem sIIndex (hcx : tbOk P tb tb = true) (hs : Sim c F σ bm tm a w) (hΓ : EnvTy tb.tab Γ c.env) {q : Nat} {o : Oper} {x y : Operand} {T T1 T2 : Nat} (ho : o.op = .indexAddr T x y) {ti : TI} (hti : tb.get T = some ti) {gd : Gd} {g gv n : Nat} {i : E} {off : Nat} {l : E} (hx : opd tb σ T1 x = some (.iv gd g gv n i off l)) {eff : Eff}
  (h : eIIndex tb Γ gs o.dst ti gd g gv n i off l (opd tb σ T2 y) = some eff) : PureSpec P c F gs σ bm tm a w q o eff := by
 unfold eIIndex at h
 split at h
 ·rename_i el ki ej hv hi
  split at h
  ·rename_i e' he'
   split at h
   ·simp at h
   ·rename_i v1 hv1
    split at h
    ·rename_i hc
     simp at h; subst h
     obtain ⟨h4, h5⟩ := opd_rel hs hx
     refine ⟨_, rfl, rfl, fun x hx => h5 x hx, fun hg hr => ?_⟩
     have hin : RqH P c.env q (.cond gs (.inb (.mem l) ej)) := hr _ (by simp)
     replace hin := hin hg
     obtain ⟨kk, hkk⟩ := isInt_some hc.2
     obtain ⟨m, hm, hmv, _⟩ := eval_int hΓ hkk ((val_rel hs hi).1 hg)
     obtain ⟨z1, ⟨cells, z2, z3⟩, ad, cap, hval, hcap, hmax, hnone, hsn⟩ := h4.1 (gsH_sub hc.1 hg)
     simp only [E.den, hm, D.toI_int, lenD, D.bool.injEq, decide_eq_true_eq] at hin
     obtain ⟨i', d, hti', _, _, _, hd, hdc⟩ := ty_c hcx hti hv
     simp only [DescC] at hdc; subst hdc
     obtain ⟨j, hj, hjs, _⟩ := ty_one hcx he' hv1
     have htab : tb.tab el = v1.cells := by simp [TB.tab, he', TI.cells, hv1]
     generalize (l.den c.env).toI.toNat = L at hval hcap hsn hin
     have hlt : m.toNat < L := by omega
     rcases ad with _ | ⟨b, o', s⟩
     ·have := hnone rfl; omega
     ·obtain rfl := hsn b o' s rfl (by omega)
      refine ⟨.pointer (some ⟨b, o' + m.toNat * v1.cells.length, none⟩), w, ?_, Below.refl _ _, fun _ => ⟨z1, cells, b, o', L, cap, z2, by rw [z3, hval], ?_, ?_, hcap, ?_⟩, fun h => absurd hg h⟩
      ·simp [execOp, ho, hval, hmv, Instr.indexAt, asIntOf, run_underlying hd, run_sizeOf hj, hjs, hin.1, hin.2, addr_add]
      ·rw [hm]; exact hin.1
      ·rw [hm]; exact hlt
      ·rw [hm, htab]; rfl
    ·simp at h
  ·simp at h
 ·simp at h
theorem inner_at (hs : Sim c F σ bm tm a w) {g gv n : Nat} {e : E} {ms : List Nat} (hlv : σ (3 * g + 2) = .live ⟨n, some (e, some (gv, ms))⟩) {ad : Option Addr} {L cap0 k off m : Nat} (ht : tm g = .slice ad L cap0) (hk : k < L) (hoff : off < n) (hm : ms.getD off 0 = m) (hm0 : m ≠ 0) {cells : Array Value} (hc : tm gv = .tuple cells) {u : Value} (hu : cells[k * n + off]? = some u) :
  ∃ b o r d, ad = some ⟨b, o, none⟩ ∧ (e.den c.env).toR[k]? = some r ∧ r.length = n ∧ r[off]? = some d ∧ w.cell? ⟨b, o + k * n + off, none⟩ = some u ∧ SpOk c.B w u m ∧ RowsOk w u m (fun _ _ d u => Leaf d u) d := by
 obtain ⟨b, o, rows, r, p0, p1, p2, p3, _, _, _, p5⟩ := rows_at ((hs.live g _ hlv).bd e _ rfl) ht hk
 have hlt : off < r.length := by rw [p3]; exact hoff
 obtain ⟨u', hu', hl⟩ := p5 off _ (List.getElem?_eq_getElem hlt)
 obtain ⟨⟨cells', z1, z2⟩, z3, z4⟩ := hl.2 (by rw [hm]; exact hm0)
 rw [hc] at z1; cases z1
 rw [hu] at z2; cases z2
 rw [hm] at z3 z4
 exact ⟨b, o, r, r[off], p0, by rw [p1]; exact p2, p3, List.getElem?_eq_getElem hlt, hu', z3, z4⟩
theorem sILoad (hcx : tbOk P tb tb = true) (hs : Sim c F σ bm tm a w) (hΓ : EnvTy tb.tab Γ c.env) {q : Nat} {o : Oper} {x : Operand} {T T1 : Nat} (ho : o.op = .load T x) {ti : TI} (hti : tb.get T = some ti) {gd : Gd} {g gv n : Nat} {i : E} {off : Nat} {j : E} {m o2 : Nat} (hx : opd tb σ T1 x = some (.ip gd g gv n i off j m o2)) {eff : Eff}
  (h : eILoad tb Γ gs o.dst σ ti gd g gv n i off j m o2 = some eff) : PureSpec P c F gs σ bm tm a w q o eff := by
 unfold eILoad at h
 split at h
 ·rename_i n' e gv' ms hlv
  split at h
  ·rename_i el hinf
   split at h
   ·rename_i el' hel
    split at h
    ·rename_i hc
     obtain ⟨hgd, rfl, hn, rfl, hm, hm0, hel'⟩ := hc
     split at h
     ·rename_i t hv
      split at h
      ·rename_i ht
       simp at h; subst h
       obtain ⟨h4, h5⟩ := opd_rel hs hx
       refine ⟨_, rfl, rfl, fun g hg => by simp [men, K.has] at hg, fun hg _ => ?_⟩
       obtain ⟨⟨ad, L, cap0, q1, q2, q3⟩, cells, b, o', len, cap, z1, z2, z3, z4, z5, z6⟩ := h4.1 (gsH_sub hgd hg)
       obtain ⟨b0, o0, r, d, y0, y1, y2, y3, y4, y5, y6⟩ := inner_at hs hlv q1 q3 (by rw [← hn]; exact (List.getElem?_eq_some_iff.1 hel).1) hm hm0 z1 z2
       obtain ⟨b1, o1, rows1, r1, x0, x1, x2, x3, _, _, _, x5⟩ := rows_at y6 rfl z4
       simp only [Option.some.injEq, Addr.mk.injEq] at x0
       obtain ⟨rfl, rfl, _⟩ := x0
       have hlt : o2 < r1.length := by rw [x3, ← hel']; exact (List.getElem?_eq_some_iff.1 ht).1
       obtain ⟨u, hu, hl⟩ := x5 o2 _ (List.getElem?_eq_getElem hlt)
       obtain ⟨i', d', hi, _, _, _, hd, hdc⟩ := ty_c hcx hti hv
       refine ⟨u, w, by simp [execOp, ho, z6, Instr.loadAt, Instr.sureAddr, run_loadVar_c hd hdc hu], Below.refl _ _, relT_v hg ?_⟩
       have e1 : (E.cell (.row (tb.tab el) e i) off).den c.env = .sl rows1 := by simp [E.den, y1, y3, x1]
       simp only [relK]
       show R w _ (((E.row (tb.tab el') (.cell (.row (tb.tab el) e i) off) j).den c.env).toA.getD o2 .un) u
       have e2 : (E.row (tb.tab el') (.cell (.row (tb.tab el) e i) off) j).den c.env = .agg r1 := by
        show D.agg (((((E.cell (.row (tb.tab el) e i) off).den c.env)).toR[(j.den c.env).toI.toNat]?).getD _) = _
        rw [e1]
        simp [x2]
       rw [e2]
       simp only [D.toA_agg, List.getD, List.getElem?_eq_getElem hlt, Option.getD_some]
       exact hl _ _
      ·simp at h
     ·simp at h
    ·simp at h
   ·simp at h
  ·simp at h
 ·simp at h
theorem sLd (hcx : tbOk P tb tb = true) (hs : Sim c F σ bm tm a w) (hgi : GInv w) (hΓ : EnvTy tb.tab Γ c.env) {o : Oper} {x : Operand} {T : Nat} (ho : o.op = .load T x) {ti : TI} (hti : tb.get T = some ti) {eff : Eff}
  (h : eLd tb Γ gs o.dst σ ti x = some eff) : PureSpec P c F gs σ bm tm a w Γ.length o eff := by
 unfold eLd at h
 split at h
 ·rename_i g; exact sGlob hcx hs hgi hΓ ho hti h
 ·split at h
  ·rename_i g0 g y ei hst
   split at h
   ·rename_i t ts hv hy
    split at h
    ·rename_i hc
     simp at h; subst h
     obtain ⟨hgd, hts⟩ := hc
     refine ⟨_, rfl, rfl, fun g hg => by simp [men, K.has] at hg, fun hg hr => ?_⟩
     obtain ⟨h4, _⟩ := opd_rel hs hst
     obtain ⟨hp, hG, hlt2⟩ := h4.1 (gsH_sub hgd hg)
     obtain ⟨cs, t0, f0, q1, q2⟩ := hG w hgi
     have q3 := q2 w (MM c.M0 bm tm σ)
     obtain ⟨u, hu, hru⟩ := q3.get (List.getElem?_eq_getElem hlt2)
     obtain ⟨i, d, hi, _, _, _, hd, hdc⟩ := ty_c hcx hti hv
     have hcell : w.cell? ⟨g, (ei.den c.env).toI.toNat, none⟩ = some u := by
      simp only [World.cell?, q1]
      simpa using hu
     refine ⟨u, w, by simp [execOp, ho, hp, Instr.loadAt, Instr.sureAddr, run_loadVar_c hd hdc hcell], Below.refl _ _, relT_v hg ?_⟩
     simp only [relK, E.den, List.getElem?_eq_getElem hlt2, Option.getD_some]
     exact hru
    ·simp at h
   ·simp at h
  ·rename_i hst; exact sMLoad hcx hs hΓ ho hti hst h
  ·rename_i hst; exact sILoad hcx hs hΓ ho hti hst h
  ·exact sLoad hcx hs hΓ ho hti h
theorem sIdx (hcx : tbOk P tb tb = true) (hs : Sim c F σ bm tm a w) (hΓ : EnvTy tb.tab Γ c.env) {o : Oper} {x i : Operand} {T : Nat} (ho : o.op = .indexAddr T x i) {ti : TI} (hti : tb.get T = some ti) {eff : Eff}
  (h : eIdx tb Γ gs o.dst σ ti T x i = some eff) : PureSpec P c F gs σ bm tm a w Γ.length o eff := by
 unfold eIdx at h
 split at h
 ·rename_i g; exact sGIdx hcx hs hΓ ho hti h
 ·split at h
  ·rename_i g0 g l hst
   cases hm : isC .mem (l.inf tb.tab Γ) with
   | true => rw [hm] at h; exact sMIndex hcx hs hΓ ho hti hst h
   | false => rw [hm] at h; exact sIndex hcx hs hΓ ho hti h
  ·rename_i hst; exact sIIndex hcx hs hΓ ho hti hst h
  ·exact sIndex hcx hs hΓ ho hti h
theorem sSel (hcx : tbOk P tb tb = true) (hs : Sim c F σ bm tm a w) (hΓ : EnvTy tb.tab Γ c.env) {n : Nat} {o : Oper} {x i : Operand} {T : Nat} (ho : o.op = .index T x i) {ti : TI} (hti : tb.get T = some ti) {eff : Eff}
  (h : eSel tb Γ gs o.dst ti (opd tb σ T x) (opd tb σ 0 i) = some eff) : PureSpec P c F gs σ bm tm a w n o eff := by
 unfold eSel at h
 split at h
 ·rename_i m t ha
  split at h
  ·rename_i kx ex ki ei hx hi
   split at h
   ·rename_i hc
    simp at h; subst h
    obtain ⟨hty, hint⟩ := hc
    obtain ⟨e, ei', i', hu, hei, hev, hi', hsz⟩ := ty_arr hcx hti ha
    refine ⟨_, rfl, rfl, fun g hg => by simp [men, K.has] at hg, fun hg hr => ?_⟩
    have hq : RqH P c.env n (.cond gs (.an (.ic .leq (.li .i64 0) ei) (.ic .lss ei (.li .i64 m)))) := hr _ (by simp)
    replace hq := hq hg
    obtain ⟨l, hl, hll, hlt⟩ := hi_repl (E.inf_ok hΓ ex _ hty)
    obtain ⟨kk, hkk⟩ := isInt_some hint
    obtain ⟨z, hz, hzv, _⟩ := eval_int hΓ hkk ((val_rel hs hi).1 hg)
    simp only [E.den, hz, D.toI_int, D.toB_bool, cmpI, D.bool.injEq, Bool.and_eq_true, decide_eq_true_eq] at hq
    have hr0 := ((val_rel hs hx).1 hg).rd
    rw [hl] at hr0
    obtain ⟨cs, hcs, hrs⟩ := hr0
    have hlt2 : z.toNat < l.length := by omega
    obtain ⟨u, hu', hru⟩ := hrs.get (List.getElem?_eq_getElem hlt2)
    obtain ⟨j, hj, hjs, _⟩ := ty_one hcx hei hev
    have hcsu : cs[z.toNat]? = some u := by simpa using hu'
    have hag := isAgg_ct (P := P) (w := w) hcx hei hev
    refine ⟨u, w, ?_, Below.refl _ _, relT_v hg ?_⟩
    ·simp [execOp, ho, hcs, hzv, Instr.index, asIntOf, run_underlying hu, run_sizeOf hj, hjs, V1.cells, hq.1, hq.2, part, hag, hcsu]
    ·simp only [relK, E.den, hl, hz, D.toA_agg, D.toI_int, List.getElem?_eq_getElem hlt2, Option.getD_some]
     exact hru
   ·simp at h
  ·simp at h
 ·exact sAt hcx hs hΓ ho hti h
theorem sPick (hs : Sim c F σ bm tm a w) (hΓ : EnvTy tb.tab Γ c.env) {n : Nat} {o : Oper} {x y z : Operand} {T1 T2 T3 : Nat} (ho : o.op = .pick x y z) {eff : Eff} (h : ePick tb.tab Γ gs o.dst (opd tb σ T1 x) (opd tb σ T2 y) (opd tb σ T3 z) = some eff) : PureSpec P c F gs σ bm tm a w n o eff := by
 unfold ePick at h
 split at h
 ·rename_i kx ex hx
  split at h
  ·rename_i hc
   split at h
   ·rename_i ky ey kz ez hy hz
    simp only [Option.some.injEq] at h; subst h
    refine ⟨_, rfl, rfl, fun g hg => by simp [men, K.has] at hg, fun hg _ => ?_⟩
    obtain ⟨b, hb, hv⟩ := eval_bool hΓ (isC_some hc) ((val_rel hs hx).1 hg)
    have hden : (pickE tb.tab Γ ex ey ez).den c.env = if b = true then ey.den c.env else ez.den c.env := by
     unfold pickE
     split
     ·rename_i h1
      obtain ⟨q, hq⟩ := hasTy_bool (E.inf_ok hΓ ez _ (isC_some h1.2))
      cases b <;> simp [E.den, hb, hq, h1.1]
     ·split
      ·rename_i h1
       obtain ⟨q, hq⟩ := hasTy_bool (E.inf_ok hΓ ey _ (isC_some h1.2))
       cases b <;> simp [E.den, hb, hq, h1.1]
      ·cases b <;> simp [E.den, hb]
    cases b with
    | true =>
     have := ((val_rel hs hy).1 (gsH_snoc.2 ⟨hg, hb⟩)).rd
     exact ⟨a.eval y, w, by simp [execOp, ho, hv, asBool], Below.refl _ _, relT_v hg (by simp only [relK]; rw [hden]; exact this)⟩
    | false =>
     have := ((val_rel hs hz).1 (gsH_snoc.2 ⟨hg, hb⟩)).rd
     exact ⟨a.eval z, w, by simp [execOp, ho, hv, asBool], Below.refl _ _, relT_v hg (by simp only [relK]; rw [hden]; exact this)⟩
   ·simp at h
  ·simp at h
 ·simp at h
end
end Go.Proofs.YtimickglpboilaaGreat
