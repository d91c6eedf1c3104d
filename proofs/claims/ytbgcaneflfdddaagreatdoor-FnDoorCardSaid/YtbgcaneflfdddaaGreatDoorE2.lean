/- Each operation does to a world what the executor says it does: operations that compute or read. No program in sight. -/
import Derived.Test.YtbgcaneflfdddaaGreatDoorE1
set_option linter.unusedVariables false
set_option linter.unusedSimpArgs false
set_option linter.unusedSectionVars false
namespace Go.Proofs.YtbgcaneflfdddaaGreatDoor
open Go.RowKit
variable [GC]
theorem hasTy_mem {tab : Nat → List CT} {d : D} (h : HasTy tab .mem d) : ∃ n, d = .mem n := by
 cases d <;> simp [HasTy] at h; exact ⟨_, rfl⟩
def callable (P : Program) (f : FuncId) : Bool :=
 match P.funcs[f]? with
 | some fn => !(fn.name == "runtime.NumGoroutine") && fn.body.isSome
 | none => false
def Fun (P : Program) (f : FuncId) (bx : Option (List D)) (ds : List D) (r : D) (bx' : List D) : Prop :=
 callable P f = true ∧ ∀ (w : World) (M : Addr → Prop) (g : Nat) (vs : List Value), Rdy w M → Rs w M ds vs →
  (∀ cs, bx = some cs → ∃ us T, w.heap[g]? = some (.cells us.toArray T (0, 0)) ∧ Rs w M cs us ∧ NG ≤ g ∧ ∀ p, p.block = g → M p) →
  Calls P f (match bx with | none => vs | some _ => .pointer (some ⟨g, 0, none⟩) :: vs).toArray w fun e w' =>
   ∃ v, e = .returned v ∧ R w' M r v ∧ Fr w.heap.size (bx.map fun _ => g) w w' ∧ (bx.isSome = true → ∃ us T, w'.heap[g]? = some (.cells us.toArray T (0, 0)) ∧ Rs w' M bx' us)
def LiveAt (B : Nat) (w : World) (u : Value) (n : Nat) : Prop :=
 ∀ b o s len cap, u = .slice (some ⟨b, o, s⟩) len cap → 0 < cap → s = none ∧ B ≤ b ∧ ∃ cells T, w.heap[b]? = some (.cells cells T (0, 0)) ∧ o + cap * n ≤ cells.size
def Apart (u u' : Value) : Prop := ∀ b o s len cap b' o' s' len' cap', u = .slice (some ⟨b, o, s⟩) len cap → 0 < cap → u' = .slice (some ⟨b', o', s'⟩) len' cap' → 0 < cap' → b ≠ b'
def rtV (v : Value) (x : Nat × Nat) : Value := (flatV v).getD x.1 undef
def RtOk (B : Nat) (w : World) (v : Value) (rt : List (Nat × Nat)) : Prop :=
 (∀ x ∈ rt, LiveAt B w (rtV v x) x.2) ∧ ∀ (i j : Nat) (x y : Nat × Nat), rt[i]? = some x → rt[j]? = some y → i ≠ j → Apart (rtV v x) (rtV v y)
def RtM (v : Value) (rt : List (Nat × Nat)) : Addr → Prop := fun p => ∃ x ∈ rt, spareIn (rtV v x) x.2 p
def FunR (P : Program) (f : FuncId) (bx : Option (List D)) (ds : List D) (r : D) (bx' : List D) (rt : List (Nat × Nat)) : Prop :=
 callable P f = true ∧ ∀ (w : World) (M : Addr → Prop) (g : Nat) (vs : List Value), Rdy w M → Rs w M ds vs →
  (∀ cs, bx = some cs → ∃ us T, w.heap[g]? = some (.cells us.toArray T (0, 0)) ∧ Rs w M cs us ∧ NG ≤ g ∧ ∀ p, p.block = g → M p) →
  Calls P f (match bx with | none => vs | some _ => .pointer (some ⟨g, 0, none⟩) :: vs).toArray w fun e w' =>
   ∃ v, e = .returned v ∧ R w' (fun p => M p ∨ RtM v rt p) r v ∧ Fr w.heap.size (bx.map fun _ => g) w w' ∧ RtOk w.heap.size w' v rt ∧ (bx.isSome = true → ∃ us T, w'.heap[g]? = some (.cells us.toArray T (0, 0)) ∧ Rs w' (fun p => M p ∨ RtM v rt p) bx' us)
theorem Fun.ofR {P : Program} {f : FuncId} {bx : Option (List D)} {ds : List D} {r : D} {bx' : List D} {rt : List (Nat × Nat)} (h : FunR P f bx ds r bx' rt) : Fun P f bx ds r bx' := by
 refine ⟨h.1, fun w M g vs h1 h2 h3 => (h.2 w M g vs h1 h2 h3).mono ?_⟩
 have hk : ∀ w' v, Keeps w' (fun p => M p ∨ RtM v rt p) w' M := fun w' v p u hp hn => ⟨hp, fun h => hn (.inl h)⟩
 rintro e w' ⟨v, q1, q2, q3, q4, q5⟩
 refine ⟨v, q1, R.keep (hk w' v) _ _ q2, q3, fun hb => ?_⟩
 obtain ⟨us, T, u1, u2⟩ := q5 hb
 exact ⟨us, T, u1, Rs.keep (hk w' v) _ _ u2⟩
def FunN (P : Program) (f : FuncId) (ds : List D) (cs : List D) : Prop :=
 callable P f = true ∧ ∀ (w : World) (M : Addr → Prop) (vs : List Value), Rdy w M → Rs w M ds vs →
  Calls P f vs.toArray w fun e w' => ∃ g us T, e = .returned (.pointer (some ⟨g, 0, none⟩)) ∧ w.heap.size ≤ g ∧ w'.heap[g]? = some (.cells us.toArray T (0, 0)) ∧ Rs w' (fun p => M p ∨ p.block = g) cs us ∧ Below w.heap.size w w'
def FunC (P : Program) (f : FuncId) (ds : List D) (caps : List (List D)) (r : D) : Prop :=
 callable P f = true ∧ ∀ (w : World) (M : Addr → Prop) (vs ps : List Value), Rdy w M → Rs w M ds vs → Rps w M caps ps →
  Calls P f (vs ++ ps).toArray w fun e w' => ∃ v, e = .returned v ∧ R w' M r v ∧ Below w.heap.size w w'
def FunV (P : Program) (x : D) (ds : List D) (r : D) : Prop := ∃ f caps, x = .fn f caps ∧ FunC P f ds caps r
def D.one : D → Prop
 | .agg _ | .tup _ | .un => False
 | _ => True
def ShapeOk : VT → D → Prop
 | .one (.c _), d => d.one
 | _, _ => True
theorem ShapeOk.of {tab : Nat → List CT} {vt : VT} {d : D} (h : HasVT tab vt d) : ShapeOk vt d := by
 rcases vt with (t | ts) | vs
 ·have h : HasTy tab t d := h
  cases t with
  | bool => obtain ⟨b, rfl⟩ := hasTy_bool h; trivial
  | int k => obtain ⟨n, rfl⟩ := hasTy_int h; trivial
  | str => obtain ⟨s, rfl⟩ := hasTy_str h; trivial
  | sl e => obtain ⟨r, rfl, _⟩ := hasTy_sl h; trivial
  | mem => obtain ⟨n, rfl⟩ := hasTy_mem h; trivial
  | fn => obtain ⟨f, caps, rfl⟩ := hasTy_fn h; trivial
 ·trivial
 ·trivial
theorem D.one_flat {w : World} {M : Addr → Prop} {d : D} {v : Value} (h : d.one) (hr : R w M d v) : flatV v = [v] := by
 cases d with
 | bool b => have : v = .bool b := hr; subst this; rfl
 | int k n => have : v = .int k n := hr.1; subst this; rfl
 | str s => have : v = .string s := hr.1; subst this; rfl
 | sl rows => obtain ⟨ad, len, cap, rfl, _⟩ := hr; rfl
 | mem n => obtain ⟨ad, cap, rfl, _⟩ := hr; rfl
 | fn f caps => obtain ⟨ps, rfl, _⟩ := hr; rfl
 | _ => exact h.elim
def AggOk : VT → D → Prop
 | .one (.agg ts), d => ∃ l, d = .agg l ∧ l.length = ts.length
 | _, _ => True
def RqH (P : Program) (env : List D) (n : Nat) : Rq → Prop
 | .cond gs c => gsH env gs → c.den env = .bool true
 | .call gs f bx args _ nb => gsH env gs → Fun P f (bx.map (·.map (·.den env))) (args.map (·.den env)) (env.getD n .un) ((List.range nb.length).map fun j => env.getD (n + 1 + j) .un)
 | .callR f bx args vt nb rt => ShapeOk vt (env.getD n .un) ∧ FunR P f (bx.map (·.map (·.den env))) (args.map (·.den env)) (env.getD n .un) ((List.range nb.length).map fun j => env.getD (n + 1 + j) .un) rt
 | .new f args nb => FunN P f (args.map (·.den env)) ((List.range nb.length).map fun j => env.getD (n + j) .un)
 | .callV gs e args _ => gsH env gs → FunV P (e.den env) (args.map (·.den env)) (env.getD n .un)
 | .glob g vt ix => GlobIs g (env.getD n .un) ∧ IxOk env ix ∧ AggOk vt (env.getD n .un)
def stG (gs : Gd) : ST → Prop
 | .v g _ _ => g = gs
 | .ptr g _ _ => g = gs
 | .ro g _ _ => g = gs
 | .gp g _ _ _ => g = gs
 | .mp g _ _ _ _ => g = gs
 | .iv g _ _ _ _ _ _ => g = gs
 | .ip g _ _ _ _ _ _ _ _ => g = gs
 | _ => False
theorem relT_undef {w : World} {M : Addr → Prop} {bm : Nat → Nat} {tm : Nat → Value} {env : List D} {gs : Gd} {st : ST} (h : stG gs st) (hg : ¬ gsH env gs) : relT w M bm tm env st undef := by
 cases st <;> simp only [stG] at h <;> first | (subst h; exact ⟨fun h => absurd h hg, fun _ => rfl⟩) | exact h.elim
section
variable {P : Program} {c : SC} {F : Nat → Prop} {σ : Nat → ST} {bm : Nat → Nat} {tm : Nat → Value} {a : Act} {w : World} {tb : TB} {Γ : List VT} {gs : Gd}
theorem opd_rel (hs : Sim c F σ bm tm a w) {T : Nat} {x : Operand} {st : ST} (h : opd tb σ T x = some st) : relT w (MM c.M0 bm tm σ) bm tm c.env st (a.eval x) ∧ ∀ g, men st g → F g := by
 cases x with
 | tmp t => simp only [opd, Option.some.injEq] at h; subst h; exact ⟨hs.tmps t, fun g hg => hs.f1 _ g hg⟩
 | const v =>
  simp only [opd] at h
  simp only [Act.eval]
  unfold constST at h
  split at h
  ·simp at h; subst h; exact ⟨⟨fun _ => rfl, fun h => absurd (gsH_nil _) h⟩, fun g hg => hg.elim⟩
  ·split at h
   ·rename_i hr; simp at h; subst h; exact ⟨⟨fun _ => ⟨rfl, hr⟩, fun h => absurd (gsH_nil _) h⟩, fun g hg => hg.elim⟩
   ·simp at h
  ·split at h
   ·rename_i hr; simp at h; subst h; exact ⟨⟨fun _ => ⟨rfl, hr⟩, fun h => absurd (gsH_nil _) h⟩, fun g hg => hg.elim⟩
   ·simp at h
  ·split at h
   ·simp at h; subst h
    exact ⟨⟨fun _ => ⟨⟨none, 0, 0, rfl, rfl, Nat.le_refl _, by decide, fun _ => rfl, fun b o s h => by cases h⟩, none, rfl⟩, fun h => absurd (gsH_nil _) h⟩, fun g hg => hg.elim⟩
   ·simp at h
  ·simp at h
 | global g => simp [opd] at h
 | func f => simp [opd] at h
theorem under_inv {st st' : ST} (h : under gs st = some st') : (∃ g k e, st = .v g k e ∧ gdIn g gs = true ∧ st' = .v gs k e) ∨ (∃ g id off, st = .ptr g id off ∧ gdIn g gs = true ∧ st' = .ptr gs id off) ∨ (∃ g e off, st = .ro g e off ∧ gdIn g gs = true ∧ st' = .ro gs e off) := by
 cases st with
 | un => simp [under] at h
 | box cs => simp [under] at h
 | live n => simp [under] at h
 | gp _ _ _ _ => simp [under] at h
 | mp _ _ _ _ _ => simp [under] at h
 | iv _ _ _ _ _ _ _ => simp [under] at h
 | ip _ _ _ _ _ _ _ _ _ => simp [under] at h
 | v g k e =>
  simp only [under] at h
  cases hi : gdIn g gs <;> rw [hi] at h <;> simp at h
  exact .inl ⟨g, k, e, rfl, hi, h.symm⟩
 | ptr g id off =>
  simp only [under] at h
  cases hi : gdIn g gs <;> rw [hi] at h <;> simp at h
  exact .inr (.inl ⟨g, id, off, rfl, hi, h.symm⟩)
 | ro g e off =>
  simp only [under] at h
  cases hi : gdIn g gs <;> rw [hi] at h <;> simp at h
  exact .inr (.inr ⟨g, e, off, rfl, hi, h.symm⟩)
theorem under_v {st : ST} {v : Value} {M : Addr → Prop} {g : Gd} {k : K} {e : E} {env : List D} (h : under gs st = some (.v g k e)) (hr : relT w M bm tm env st v) (hg : gsH env gs) : relK w M tm env k e v ∧ (∀ x, k.has x → men st x) := by
 rcases under_inv h with ⟨g', k', e', rfl, hi, h⟩ | ⟨_, _, _, _, _, h⟩ | ⟨_, _, _, _, _, h⟩ <;> cases h
 exact ⟨hr.1 (gsH_sub hi hg), fun x hx => hx⟩
theorem under_ptr {st : ST} {v : Value} {M : Addr → Prop} {g : Gd} {id off : Nat} {env : List D} (h : under gs st = some (.ptr g id off)) (hr : relT w M bm tm env st v) (hg : gsH env gs) : v = .pointer (some ⟨bm id, off, none⟩) := by
 rcases under_inv h with ⟨_, _, _, _, _, h⟩ | ⟨g', i', o', rfl, hi, h⟩ | ⟨_, _, _, _, _, h⟩ <;> cases h
 exact hr.1 (gsH_sub hi hg)
theorem under_ro {st : ST} {v : Value} {M : Addr → Prop} {g : Gd} {e : E} {off : Nat} {env : List D} (h : under gs st = some (.ro g e off)) (hr : relT w M bm tm env st v) (hg : gsH env gs) : ∃ b o, v = .pointer (some ⟨b, o, none⟩) ∧ Rw w M ((e.den env).toA.drop off) b o := by
 rcases under_inv h with ⟨_, _, _, _, _, h⟩ | ⟨_, _, _, _, _, h⟩ | ⟨g', i', o', rfl, hi, h⟩ <;> cases h
 exact hr.1 (gsH_sub hi hg)
theorem under_men {st st' : ST} {x : Nat} (h : under gs st = some st') (hm : men st' x) : men st x := by
 rcases under_inv h with ⟨g', k', e', rfl, hi, rfl⟩ | ⟨g', i', o', rfl, hi, rfl⟩ | ⟨g', i', o', rfl, hi, rfl⟩
 ·exact hm
 ·exact hm
 ·exact hm
theorem under_stG {st st' : ST} (h : under gs st = some st') : stG gs st' := by
 rcases under_inv h with ⟨g', k', e', rfl, hi, rfl⟩ | ⟨g', i', o', rfl, hi, rfl⟩ | ⟨g', i', o', rfl, hi, rfl⟩ <;> rfl
theorem bind_some' {s : Option ST} {st' : ST} (h : s.bind (under gs) = some st') : ∃ st, s = some st ∧ under gs st = some st' := by
 cases s with
 | none => simp at h
 | some st => exact ⟨st, rfl, by simpa using h⟩
theorem undV_some {s : Option ST} {k : K} {e : E} (h : undV gs s = some (k, e)) : ∃ st g, s = some st ∧ under gs st = some (.v g k e) := by
 unfold undV at h
 split at h
 ·rename_i g k' e' hb
  simp at h; obtain ⟨rfl, rfl⟩ := h
  obtain ⟨st, h1, h2⟩ := bind_some' hb
  exact ⟨st, g, h1, h2⟩
 ·simp at h
theorem val_rel (hs : Sim c F σ bm tm a w) {T : Nat} {x : Operand} {k : K} {e : E} (h : undV gs (opd tb σ T x) = some (k, e)) : (gsH c.env gs → relK w (MM c.M0 bm tm σ) tm c.env k e (a.eval x)) ∧ ∀ g, k.has g → F g := by
 obtain ⟨st, g, h1, h2⟩ := undV_some h
 obtain ⟨h3, h4⟩ := opd_rel hs h1
 exact ⟨fun hg => (under_v h2 h3 hg).1, fun x hx => h4 x (under_men h2 hx)⟩
def PureSpec (P : Program) (c : SC) (F : Nat → Prop) (gs : Gd) (σ : Nat → ST) (bm : Nat → Nat) (tm : Nat → Value) (a : Act) (w : World) (n : Nat) (o : Oper) (eff : Eff) : Prop :=
 ∃ st, eff.wr = wv o.dst st ∧ stG gs st ∧ (∀ g, men st g → F g) ∧
  (gsH c.env gs → (∀ r ∈ eff.rq, RqH P c.env n r) → ∃ v w', (execOp a.eval o).run P w = .ok (.value v) w' ∧ Below w.heap.size w w' ∧ relT w' (MM c.M0 bm tm σ) bm tm c.env st v)
theorem relT_v {M : Addr → Prop} {k : K} {e : E} {v : Value} {env : List D} (hg : gsH env gs) (h : relK w M tm env k e v) : relT w M bm tm env (.v gs k e) v := ⟨fun _ => h, fun h => absurd hg h⟩
theorem sMove (hs : Sim c F σ bm tm a w) {n : Nat} {o : Oper} {x : Operand} (ho : o.op = .move x ∨ o.op = .assign x) {T : Nat} {eff : Eff} (h : eMove gs o.dst (opd tb σ T x) = some eff) : PureSpec P c F gs σ bm tm a w n o eff := by
 unfold eMove at h
 simp only [Option.map_eq_some_iff] at h
 obtain ⟨st', h1, rfl⟩ := h
 obtain ⟨st, h2, h3⟩ := bind_some' h1
 obtain ⟨h4, h5⟩ := opd_rel hs h2
 refine ⟨st', rfl, under_stG h3, fun g hg => h5 g (under_men h3 hg), fun hg _ => ⟨a.eval x, w, ?_, Below.refl _ _, ?_⟩⟩
 ·rcases ho with ho | ho <;> simp [execOp, ho]
 ·cases st' <;> simp only [relT]
  ·have := under_v h3 h4 hg
   have e := under_stG h3; simp only [stG] at e; subst e
   exact ⟨fun _ => this.1, fun h => absurd hg h⟩
  ·have := under_ptr h3 h4 hg
   have e := under_stG h3; simp only [stG] at e; subst e
   exact ⟨fun _ => this, fun h => absurd hg h⟩
  ·have := under_ro h3 h4 hg
   have e := under_stG h3; simp only [stG] at e; subst e
   exact ⟨fun _ => this, fun h => absurd hg h⟩
  all_goals rcases under_inv h3 with ⟨_, _, _, _, _, h⟩ | ⟨_, _, _, _, _, h⟩ | ⟨_, _, _, _, _, h⟩ <;> cases h
theorem den_mk (env : List D) : ∀ es : List E, (mk es).den env = .agg (es.map (·.den env))
 | [] => rfl
 | e :: r => by simp [mk, E.den, den_mk env r]
theorem den_pack {env : List D} (hΓ : EnvTy tb.tab Γ env) (es : List E) : (pack tb.tab Γ es).den env = .agg (es.map (·.den env)) := by
 unfold pack
 split
 ·rename_i x i r
  split
  ·rename_i us he
   split
   ·rename_i heq
    obtain ⟨heq, hle⟩ := heq
    obtain ⟨l, hl, hlt⟩ := hasV1_agg (E.inf_ok hΓ x _ he)
    have hll := hlt.length
    generalize hn : (E.cell x i :: r).length = n at heq hle
    have key : (E.cell x i :: r).map (·.den env) = (l.drop i).take n := by
     rw [heq]
     refine List.ext_getElem? fun q => ?_
     simp only [List.map_map, List.getElem?_map, List.getElem?_take, List.getElem?_drop]
     by_cases hi : q < n
     ·rw [if_pos hi]
      simp [List.getElem?_range' hi, E.den, hl, List.getD, List.getElem?_eq_getElem (show i + q < l.length by omega)]
     ·rw [if_neg hi, List.getElem?_eq_none (by simp; omega)]; rfl
    split
    ·rename_i h0
     rw [key, hl]
     rw [h0.1, List.drop_zero, List.take_of_length_le (by omega)]
    ·rw [key]; simp [E.den, hl]
   ·exact den_mk env _
  ·exact den_mk env _
 ·exact den_mk env _
theorem Rs.to_agg {M : Addr → Prop} {l : List D} {vs : List Value} (h : Rs w M l vs) : R w M (.agg l) (.agg vs.toArray) := ⟨vs.toArray, rfl, by simpa using h⟩
theorem box_cells {c : SC} {M : Addr → Prop} {id : Nat} {cs : List (K × E)} (h : BoxOk c w M bm tm id cs) : ∃ vs, relCs w M tm c.env cs vs ∧ (∀ j u, vs[j]? = some u → w.cell? ⟨bm id, j, none⟩ = some u) ∧ ∃ T, w.heap[bm id]? = some (.cells vs.toArray T (0, 0)) := by
 obtain ⟨vs, T, h1, h2, h3⟩ := h
 exact ⟨vs, h2, fun j u hu => by rw [cell_of_row w _ j _ T _ h1]; simpa using hu, T, h1⟩
theorem sLoad (hcx : tbOk P tb tb = true) (hs : Sim c F σ bm tm a w) (hΓ : EnvTy tb.tab Γ c.env) {n : Nat} {o : Oper} {x : Operand} {T : Nat} (ho : o.op = .load T x) {ti : TI} (hti : tb.get T = some ti) {eff : Eff}
  (h : eLoad tb.tab Γ gs o.dst σ ti (opd tb σ 0 x) = some eff) : PureSpec P c F gs σ bm tm a w n o eff := by
 unfold eLoad at h
 split at h
 ·rename_i g id off hb
  obtain ⟨st, h2, h3⟩ := bind_some' hb
  obtain ⟨h4, h5⟩ := opd_rel hs h2
  split at h
  ·rename_i cs hbox
   obtain ⟨vs, hvs, hcell, T0, hblk⟩ := box_cells (hs.box id cs hbox)
   split at h
   ·rename_i t hv
    split at h
    ·rename_i k e hk
     simp at h; subst h
     refine ⟨_, rfl, rfl, fun g hg => ?_, fun hg _ => ?_⟩
     ·exact hs.f1 (3 * id + 1) _ (by rw [hbox]; exact ⟨_, List.mem_of_getElem? hk, hg⟩)
     ·obtain ⟨u, hu, hr⟩ := hvs.get hk
      obtain ⟨i, d, hi, _, _, _, hd, hdc⟩ := ty_c hcx hti hv
      have := under_ptr h3 h4 hg
      exact ⟨u, w, by simp [execOp, ho, this, Instr.loadAt, Instr.sureAddr, run_loadVar_c hd hdc (hcell off u hu)], Below.refl _ _, relT_v hg hr⟩
    ·simp at h
   ·rename_i ts hv
    split at h
    ·rename_i hle
     simp only [Option.some.injEq] at h; subst h
     refine ⟨_, rfl, rfl, fun g hg => ?_, fun hg _ => ?_⟩
     ·obtain ⟨q, hq, hx⟩ := K.has_pack (show (packK _).has g from hg)
      simp only [List.mem_map] at hq
      obtain ⟨z, hz, rfl⟩ := hq
      exact hs.f1 (3 * id + 1) _ (by rw [hbox]; exact ⟨z, List.mem_of_mem_drop (List.mem_of_mem_take hz), hx⟩)
     obtain ⟨i, fields, z, hi, hsz, _, _, _, hu, _⟩ := ty_agg hcx hti hv
     have := under_ptr h3 h4 hg
     have hrel := (hvs.drop off).take ts.length
     have hlen : ((vs.drop off).take ts.length).length = i.size := by
      have := hvs.length
      simp [hsz]; omega
     refine ⟨.agg ((vs.drop off).take ts.length).toArray, w, ?_, Below.refl _ _, relT_v hg ?_⟩
     ·have hl := run_loadVar_s (P := P) (w := w) hu hi (b := bm id) (o := off) hlen (fun j u hj => by
       simp only [List.getElem?_take, List.getElem?_drop] at hj
       split at hj
       ·exact hcell _ _ hj
       ·simp at hj)
      simp [execOp, ho, this, Instr.loadAt, Instr.sureAddr, hl]
     ·refine relK.pack ?_ fun j k u hk hu => ?_
      ·rw [den_pack hΓ]
       have := hrel.rs.to_agg
       simpa only [List.map_take, List.map_drop] using this
      ·have hk' : ∃ z, ((cs.drop off).take ts.length)[j]? = some z ∧ z.1 = k := by
        simp only [← List.map_take, ← List.map_drop, List.getElem?_map, Option.map_eq_some_iff] at hk
        exact hk
       obtain ⟨z, hz, rfl⟩ := hk'
       obtain ⟨u', hu', hr'⟩ := hrel.get hz
       rw [hu] at hu'; cases hu'
       exact hr'.kk
    ·simp at h
   ·simp at h
  ·simp at h
 ·rename_i g e off hb
  obtain ⟨st, h2, h3⟩ := bind_some' hb
  obtain ⟨h4, h5⟩ := opd_rel hs h2
  split at h
  ·rename_i us he
   obtain ⟨l, hl, hlt⟩ := hasV1_agg (E.inf_ok hΓ e _ he)
   split at h
   ·rename_i t hv
    split at h
    ·rename_i hoff
     simp at h; subst h
     refine ⟨_, rfl, rfl, fun g hg => by simp [men, K.has] at hg, fun hg _ => ?_⟩
     obtain ⟨b, o', hp, hr⟩ := under_ro h3 h4 hg
     rw [hl, D.toA_agg] at hr
     obtain ⟨i, d, hi, _, _, _, hd, hdc⟩ := ty_c hcx hti hv
     have hlt' : off < l.length := by rw [hlt.length]; exact hoff
     obtain ⟨u, hu, _, hru⟩ := hr.get (i := 0) (d := l[off]) (by simp [List.getElem?_drop, hlt'])
     refine ⟨u, w, by simp [execOp, ho, hp, Instr.loadAt, Instr.sureAddr, run_loadVar_c hd hdc (by simpa using hu)], Below.refl _ _, relT_v hg ?_⟩
     simp only [relK, E.den, hl, D.toA_agg, List.getD, List.getElem?_eq_getElem hlt', Option.getD_some]
     exact hru
    ·simp at h
   ·rename_i ts hv
    obtain ⟨i, fields, z, hi, hsz, _, _, _, hu, _⟩ := ty_agg hcx hti hv
    split at h
    ·rename_i hc
     simp at h; subst h
     refine ⟨_, rfl, rfl, fun g hg => by simp [men, K.has] at hg, fun hg _ => ?_⟩
     obtain ⟨b, o', hp, hr⟩ := under_ro h3 h4 hg
     rw [hl, D.toA_agg, hc.1, List.drop_zero] at hr
     obtain ⟨vs, hvl, hrs, hcs⟩ := hr.cells
     have hll := run_loadVar_s (P := P) (w := w) hu hi (b := b) (o := o') (vs := vs) (by rw [hvl, hlt.length, hsz]; exact hc.2.symm) hcs
     refine ⟨.agg vs.toArray, w, by simp [execOp, ho, hp, Instr.loadAt, Instr.sureAddr, hll], Below.refl _ _, relT_v hg ?_⟩
     simp only [relK, hl]
     exact hrs.to_agg
    ·split at h
     ·rename_i hc
      simp at h; subst h
      refine ⟨_, rfl, rfl, fun g hg => by simp [men, K.has] at hg, fun hg _ => ?_⟩
      obtain ⟨b, o', hp, hr⟩ := under_ro h3 h4 hg
      rw [hl, D.toA_agg] at hr
      obtain ⟨vs, hvl, hrs, hcs⟩ := (hr.take ts.length).cells
      have hll := run_loadVar_s (P := P) (w := w) hu hi (b := b) (o := o') (vs := vs) (by rw [hvl, hsz]; have := hlt.length; simp; omega) hcs
      refine ⟨.agg vs.toArray, w, by simp [execOp, ho, hp, Instr.loadAt, Instr.sureAddr, hll], Below.refl _ _, relT_v hg ?_⟩
      simp only [relK, E.den, hl, D.toA_agg]
      exact hrs.to_agg
     ·simp at h
   ·simp at h
  ·simp at h
 ·simp at h
theorem fieldsOk_get : ∀ {fs : List (Nat × Nat)} {fl : List Field}, fieldsOk tb fs fl = true → ∀ {f fo ft : Nat}, fs[f]? = some (fo, ft) → ∃ x, fl[f]? = some x ∧ x.offset = fo ∧ x.type = ft
 | [], _, _, f, fo, ft, hf => by simp at hf
 | (o', t') :: r, [], h, f, fo, ft, hf => by simp [fieldsOk] at h
 | (o', t') :: r, x :: fl, h, f, fo, ft, hf => by
  simp only [fieldsOk, Bool.and_eq_true, beq_iff_eq] at h
  cases f with
  | zero => simp at hf; obtain ⟨rfl, rfl⟩ := hf; exact ⟨x, rfl, h.1.1.1.symm, h.1.1.2.symm⟩
  | succ f => simp at hf; simpa using fieldsOk_get h.2 hf
theorem sField (hcx : tbOk P tb tb = true) (hs : Sim c F σ bm tm a w) {n : Nat} {o : Oper} {x : Operand} {T f : Nat} (ho : o.op = .fieldAddr T x f) {ti : TI} (hti : tb.get T = some ti) {eff : Eff}
  (h : eField tb Γ gs o.dst ti (opd tb σ 0 x) f = some eff) : PureSpec P c F gs σ bm tm a w n o eff := by
 unfold eField at h
 split at h
 ·rename_i ts fo ft hv hf
  obtain ⟨i, fields, z, hi, hsz, _, _, _, hu, hfo⟩ := ty_agg hcx hti hv
  obtain ⟨fl, hfl, hoff, hty⟩ := fieldsOk_get hfo hf
  split at h
  ·rename_i fi hfi
   split at h
   ·simp at h
   ·rename_i hne
    split at h
    ·simp at h
    ·rename_i v1 hv1
     obtain ⟨j, hj, hjs, _⟩ := ty_one hcx hfi hv1
     have hcl : fi.cells = v1.cells := by simp [TI.cells, hv1]
     have hrun : ∀ (ad : Addr), (Instr.fieldAt T (.pointer (some ad)) f).run P w = .ok (.pointer (some (ad.add fo))) w := fun ad => by
      have hfl' : fields[f]? = some fl := by simpa using hfl
      have hne' : v1.cells ≠ [] := by rw [← hcl]; intro e; simp [e] at hne
      have hsz' : (sizeOf fl.type).run P w = .ok v1.cells.length w := by rw [hty, run_sizeOf hj, hjs]
      simp [Instr.fieldAt, run_underlying hu, hfl', Instr.sureAddr, fieldPlace, hsz', hne', hoff]
     split at h
     ·rename_i g id off hb
      simp at h; subst h
      obtain ⟨st, h2, h3⟩ := bind_some' hb
      obtain ⟨h4, h5⟩ := opd_rel hs h2
      refine ⟨_, rfl, rfl, fun g hg => h5 g (under_men h3 (by simpa [men] using hg)), fun hg _ => ?_⟩
      have := under_ptr h3 h4 hg
      refine ⟨.pointer (some ⟨bm id, off + fo, none⟩), w, by simp [execOp, ho, this, hrun, addr_add], Below.refl _ _, fun _ => rfl, fun h => absurd hg h⟩
     ·rename_i g e off hb
      simp at h; subst h
      obtain ⟨st, h2, h3⟩ := bind_some' hb
      obtain ⟨h4, h5⟩ := opd_rel hs h2
      refine ⟨_, rfl, rfl, fun g hg => by simp [men, K.has] at hg, fun hg _ => ?_⟩
      obtain ⟨b, o', hp, hr⟩ := under_ro h3 h4 hg
      refine ⟨.pointer (some ⟨b, o' + fo, none⟩), w, by simp [execOp, ho, hp, hrun, addr_add], Below.refl _ _, fun _ => ⟨b, o' + fo, rfl, ?_⟩, fun h => absurd hg h⟩
      have := hr.drop fo
      rwa [List.drop_drop] at this
     ·simp at h
  ·simp at h
 ·simp at h
theorem eval_int {M : Addr → Prop} {env : List D} (hΓ : EnvTy tb.tab Γ env) {k : K} {e : E} {v : Value} {kk : IntKind} (h : e.inf tb.tab Γ = some (.one (.c (.int kk)))) (hr : relK w M tm env k e v) : ∃ n, e.den env = .int kk n ∧ v = .int kk n ∧ kk.min ≤ n ∧ n ≤ kk.max := by
 obtain ⟨n, hn⟩ := hasTy_int (E.inf_ok hΓ e _ h)
 have := hr.rd
 rw [hn] at this
 exact ⟨n, hn, this.1, this.2⟩
theorem eval_bool {M : Addr → Prop} {env : List D} (hΓ : EnvTy tb.tab Γ env) {k : K} {e : E} {v : Value} (h : e.inf tb.tab Γ = some (.one (.c .bool))) (hr : relK w M tm env k e v) : ∃ b, e.den env = .bool b ∧ v = .bool b := by
 obtain ⟨n, hn⟩ := hasTy_bool (E.inf_ok hΓ e _ h)
 have := hr.rd
 rw [hn] at this
 exact ⟨n, hn, this⟩
theorem eval_str {M : Addr → Prop} {env : List D} (hΓ : EnvTy tb.tab Γ env) {k : K} {e : E} {v : Value} (h : e.inf tb.tab Γ = some (.one (.c .str))) (hr : relK w M tm env k e v) : ∃ s, e.den env = .str s ∧ v = .string s ∧ s.size ≤ maxLen := by
 obtain ⟨n, hn⟩ := hasTy_str (E.inf_ok hΓ e _ h)
 have := hr.rd
 rw [hn] at this
 exact ⟨n, hn, this.1, this.2⟩
theorem eval_sl {M : Addr → Prop} {env : List D} (hΓ : EnvTy tb.tab Γ env) {k : K} {e : E} {v : Value} {el : Nat} (h : e.inf tb.tab Γ = some (.one (.c (.sl el)))) (hr : relK w M tm env k e v) :
  ∃ rows, e.den env = .sl rows ∧ RowsTy tb.tab (tb.tab el) rows ∧ ∃ ad len cap, v = .slice ad len cap ∧ len = rows.length ∧ len ≤ cap ∧ cap ≤ maxLen ∧ (ad = none → cap = 0) ∧ ∀ b o s, ad = some ⟨b, o, s⟩ → (0 < len → s = none) ∧ Rws w M rows b o := by
 obtain ⟨rows, hn, ht⟩ := hasTy_sl (E.inf_ok hΓ e _ h)
 have := hr.rd
 rw [hn] at this
 exact ⟨rows, hn, ht, this⟩
theorem sIndex (hcx : tbOk P tb tb = true) (hs : Sim c F σ bm tm a w) (hΓ : EnvTy tb.tab Γ c.env) {n : Nat} {o : Oper} {x i : Operand} {T : Nat} (ho : o.op = .indexAddr T x i) {ti : TI} (hti : tb.get T = some ti) {eff : Eff}
  (h : eIndex tb Γ gs o.dst ti (opd tb σ T x) (opd tb σ 0 i) = some eff) : PureSpec P c F gs σ bm tm a w n o eff := by
 unfold eIndex at h
 split at h
 ·rename_i el kx ex ki ei hv hx hi
  split at h
  ·rename_i ei' hei
   split at h
   ·simp at h
   ·rename_i v1 hv1
    split at h
    ·rename_i hc
     simp at h; subst h
     refine ⟨_, rfl, rfl, fun g hg => by simp [men, K.has] at hg, fun hg hr => ?_⟩
     have hin : RqH P c.env n (.cond gs (.inb ex ei)) := hr _ (by simp)
     replace hin := hin hg
     obtain ⟨rows, hrows, hrt, ad, len, cap, hval, hlen, hcap, hmax, hnone, hcells⟩ := eval_sl hΓ (isC_some hc.1) ((val_rel hs hx).1 hg)
     obtain ⟨kk, hkk⟩ := isInt_some hc.2
     obtain ⟨m, hm, hmv, _⟩ := eval_int hΓ hkk ((val_rel hs hi).1 hg)
     simp only [E.den, hrows, hm, D.toI_int, lenD, D.bool.injEq, decide_eq_true_eq] at hin
     obtain ⟨i', d, hti', _, _, _, hd, hdc⟩ := ty_c hcx hti hv
     simp only [DescC] at hdc; subst hdc
     obtain ⟨j, hj, hjs, _⟩ := ty_one hcx hei hv1
     have htab : tb.tab el = v1.cells := by simp [TB.tab, hei, TI.cells, hv1]
     have hlt : m.toNat < rows.length := by omega
     rcases ad with _ | ⟨b, o', s⟩
     ·have := hnone rfl; omega
     ·obtain ⟨hs0, hrw⟩ := hcells b o' s rfl
      have hsn := hs0 (by omega); subst hsn
      refine ⟨.pointer (some ⟨b, o' + m.toNat * v1.cells.length, none⟩), w, ?_, Below.refl _ _, fun _ => ⟨b, _, rfl, ?_⟩, fun h => absurd hg h⟩
      ·have hml : m < (len : Int) := by omega
       simp [execOp, ho, hval, hmv, Instr.indexAt, asIntOf, run_underlying hd, run_sizeOf hj, hjs, hin.1, hml, addr_add]
      ·simp only [E.den, hrows, hm, D.toR_sl, D.toI_int, List.getElem?_eq_getElem hlt, Option.getD_some, D.toA_agg, List.drop_zero]
       exact hrw.get (fun r hr => by rw [hrt.len r hr, htab]) (List.getElem?_eq_getElem hlt)
    ·simp at h
  ·simp at h
 ·simp at h
theorem sNil (hs : Sim c F σ bm tm a w) {n : Nat} {o : Oper} {x : Operand} (ho : o.op = .nilCheck x) {T : Nat} {eff : Eff} (h : eNil gs o.dst (opd tb σ T x) = some eff) : PureSpec P c F gs σ bm tm a w n o eff := by
 unfold eNil at h
 split at h
 ·rename_i g id off hb
  simp at h; subst h
  obtain ⟨st, h2, h3⟩ := bind_some' hb
  obtain ⟨h4, h5⟩ := opd_rel hs h2
  refine ⟨_, rfl, rfl, fun g hg => h5 g (under_men h3 (by simpa [men] using hg)), fun hg _ => ?_⟩
  have := under_ptr h3 h4 hg
  exact ⟨_, w, by simp [execOp, ho, this], Below.refl _ _, fun _ => rfl, fun h => absurd hg h⟩
 ·rename_i g e off hb
  simp at h; subst h
  obtain ⟨st, h2, h3⟩ := bind_some' hb
  obtain ⟨h4, h5⟩ := opd_rel hs h2
  refine ⟨_, rfl, rfl, fun g hg => by simp [men, K.has] at hg, fun hg _ => ?_⟩
  obtain ⟨b, o', hp, hr⟩ := under_ro h3 h4 hg
  exact ⟨_, w, by simp [execOp, ho, hp], Below.refl _ _, fun _ => ⟨b, o', rfl, hr⟩, fun h => absurd hg h⟩
 ·simp at h
theorem sNot (hs : Sim c F σ bm tm a w) (hΓ : EnvTy tb.tab Γ c.env) {n : Nat} {o : Oper} {x : Operand} {T T' : Nat} (ho : o.op = .unOp .not T' x) {eff : Eff} (h : eNot tb.tab Γ gs o.dst (opd tb σ T x) = some eff) : PureSpec P c F gs σ bm tm a w n o eff := by
 unfold eNot at h
 split at h
 ·rename_i k e hx
  split at h
  ·rename_i hc
   simp at h; subst h
   refine ⟨_, rfl, rfl, fun g hg => by simp [men, K.has] at hg, fun hg _ => ?_⟩
   obtain ⟨b, hb, hv⟩ := eval_bool hΓ (isC_some hc) ((val_rel hs hx).1 hg)
   exact ⟨.bool !b, w, by simp [execOp, ho, hv, Op.unary], Below.refl _ _, relT_v hg (by simp [relK, E.den, hb, R])⟩
  ·simp at h
 ·simp at h
theorem sNeg (hs : Sim c F σ bm tm a w) (hΓ : EnvTy tb.tab Γ c.env) {n : Nat} {o : Oper} {x : Operand} {T T' : Nat} (ho : o.op = .unOp .neg T' x) {eff : Eff} (h : eNeg tb.tab Γ gs o.dst (opd tb σ T x) = some eff) : PureSpec P c F gs σ bm tm a w n o eff := by
 unfold eNeg at h
 split at h
 ·rename_i k e hx
  split at h
  ·rename_i kk hk
   simp at h; subst h
   refine ⟨_, rfl, rfl, fun g hg => by simp [men, K.has] at hg, fun hg _ => ?_⟩
   obtain ⟨m, hm, hmv, _⟩ := eval_int hΓ hk ((val_rel hs hx).1 hg)
   refine ⟨.int kk (kk.wrap (0 - m)), w, by simp [execOp, ho, hmv, Op.unary, Op.intArith], Below.refl _ _, relT_v hg ?_⟩
   simp only [relK, E.den, hm, D.toI_int, R, arI]
   exact ⟨trivial, wrap_within _ _⟩
  ·simp at h
 ·simp at h
theorem flat1_c {t : CT} {d : D} {v : Value} {M : Addr → Prop} (ht : HasV1 tb.tab (.c t) d) (hr : R w M d v) : flat1 v = [v] := by
 have ht : HasTy tb.tab t d := ht
 cases t with
 | bool => obtain ⟨b, rfl⟩ := hasTy_bool ht; have : v = .bool b := hr; subst this; rfl
 | int k => obtain ⟨n, rfl⟩ := hasTy_int ht; have : v = .int k n := hr.1; subst this; rfl
 | str => obtain ⟨s, rfl⟩ := hasTy_str ht; have : v = .string s := hr.1; subst this; rfl
 | sl e => obtain ⟨r, rfl, _⟩ := hasTy_sl ht; obtain ⟨ad, len, cap, rfl, _⟩ := hr; rfl
 | mem => obtain ⟨n, rfl⟩ := hasTy_mem ht; obtain ⟨ad, cap, rfl, _⟩ := hr; rfl
 | fn => obtain ⟨f, caps, rfl⟩ := hasTy_fn ht; obtain ⟨ps, rfl, _⟩ := hr; rfl
theorem flat1_len {v1 : V1} {d : D} {v : Value} {M : Addr → Prop} (ht : HasV1 tb.tab v1 d) (hr : R w M d v) : (flat1 v).length = v1.cells.length := by
 cases v1 with
 | c t => rw [flat1_c ht hr]; rfl
 | agg ts =>
  obtain ⟨l, rfl, hlt⟩ := hasV1_agg ht
  obtain ⟨cs, rfl, hrs⟩ := hr
  simp only [flat1, V1.cells]
  rw [hrs.length, hlt.length]
theorem flat_list {M : Addr → Prop} : ∀ {vs : List V1} {l : List D} {us : List Value}, HasVs tb.tab vs l → Rs w M l us → ∀ {i j : Nat} {u x : Value}, i < vs.length → us[i]? = some u → (flat1 u)[j]? = some x → (us.flatMap flat1)[offT vs i + j]? = some x
 | [], _, _, _, _, i, _, _, _, hi, _, _ => by simp at hi
 | v :: vs, [], _, h, _, _, _, _, _, _, _, _ => by simp [HasVs] at h
 | v :: vs, d :: l, us, h, ⟨u0, q, e, h1, h2⟩, i, j, u, x, hi, hu, hx => by
  subst e
  simp only [HasVs] at h
  have hlen := flat1_len h.1 h1
  cases i with
  | zero =>
   simp at hu; subst hu
   have hj : j < (flat1 u0).length := (List.getElem?_eq_some_iff.1 hx).1
   simp only [List.flatMap_cons, offT, Nat.zero_add]
   rw [List.getElem?_append_left hj]; exact hx
  | succ i =>
   simp at hu hi
   have := flat_list h.2 h2 hi hu hx
   simp only [List.flatMap_cons, offT]
   rw [List.getElem?_append_right (by omega), show v.cells.length + offT vs i + j - (flat1 u0).length = offT vs i + j by omega]
   exact this
theorem flat_at {M : Addr → Prop} {vs : List V1} {l : List D} {cs : Array Value} (h : HasVs tb.tab vs l) (hr : Rs w M l cs.toList) {i j : Nat} {u x : Value} (hi : i < vs.length) (hu : cs.toList[i]? = some u) (hx : (flat1 u)[j]? = some x) : (flatV (.tuple cs))[offT vs i + j]? = some x :=
 flat_list h hr hi hu hx
theorem sExtract (hs : Sim c F σ bm tm a w) (hΓ : EnvTy tb.tab Γ c.env) {n : Nat} {o : Oper} {x : Operand} {T i : Nat} (ho : o.op = .extract x i) {eff : Eff} (h : eExtract tb.tab Γ gs o.dst (opd tb σ T x) i = some eff) : PureSpec P c F gs σ bm tm a w n o eff := by
 unfold eExtract at h
 split at h
 ·rename_i k e hx
  split at h
  ·rename_i vs he
   split at h
   ·rename_i hi
    simp at h; subst h
    refine ⟨_, rfl, rfl, fun g hg => (val_rel hs hx).2 g (K.has_sub (show (subK _ _ _).has g from hg)), fun hg _ => ?_⟩
    obtain ⟨l, hl, hlt⟩ := hasVT_tup (E.inf_ok hΓ e _ he)
    have hk0 := (val_rel hs hx).1 hg
    have hr := ((val_rel hs hx).1 hg).rd
    rw [hl] at hr
    obtain ⟨cs, hcs, hrs⟩ := hr
    obtain ⟨d, hd, _⟩ := hlt.get (List.getElem?_eq_getElem hi)
    obtain ⟨u, hu, hru⟩ := hrs.get hd
    have hu' : cs[i]? = some u := by simpa using hu
    have hRu : R w (MM c.M0 bm tm σ) ((E.proj e i).den c.env) u := by simpa [E.den, hl, List.getD, hd] using hru
    refine ⟨u, w, by simp [execOp, ho, hcs, Instr.extract, hu'], Below.refl _ _, relT_v hg ?_⟩
    have hty : HasV1 tb.tab vs[i] ((E.proj e i).den c.env) := by
     obtain ⟨d', hd', ht'⟩ := hlt.get (List.getElem?_eq_getElem hi)
     rw [hd] at hd'; cases hd'
     simpa [E.den, hl, List.getD, hd] using ht'
    rw [hcs] at hk0
    have hfl : ∀ (j : Nat) (x : Value), (flat1 u)[j]? = some x → (flatV (.tuple cs))[offT vs i + j]? = some x := fun j x hx => flat_at hlt hrs hi (by simpa using hu') hx
    rw [List.getElem?_eq_getElem hi]
    cases hv1 : vs[i] with
    | c t =>
     rw [hv1] at hty
     have h1 : flat1 u = [u] := flat1_c hty hRu
     exact relK.ofn hRu (hk0.nth (by have := hfl 0 u (by rw [h1]; rfl); simpa using this))
    | agg ts =>
     rw [hv1] at hty
     obtain ⟨l', hl', hlt'⟩ := hasV1_agg hty
     have hRu' := hRu
     rw [hl'] at hRu'
     obtain ⟨us, rfl, hus⟩ := hRu'
     have : us = us.toList.toArray := by simp
     rw [this] at hRu ⊢
     refine relK.pack hRu fun j k x hk hx => ?_
     simp only [List.getElem?_map, Option.map_eq_some_iff] at hk
     obtain ⟨j', hj', rfl⟩ := hk
     have hj2 : j' = j := by
      rw [List.getElem?_eq_some_iff] at hj'
      obtain ⟨q1, q2⟩ := hj'
      simpa using q2.symm
     subst hj2
     exact hk0.nth (hfl j' x (by simpa [flat1] using hx))
   ·simp at h
  ·simp at h
 ·simp at h
theorem sConv (hcx : tbOk P tb tb = true) (hs : Sim c F σ bm tm a w) (hΓ : EnvTy tb.tab Γ c.env) {n : Nat} {o : Oper} {x : Operand} {S T : Nat} (ho : o.op = .convert S T x) {si ti : TI} (hsi : tb.get S = some si) (hti : tb.get T = some ti) {eff : Eff}
  (h : eConv tb.tab Γ gs o.dst (u8In tb si) si ti (opd tb σ S x) = some eff) : PureSpec P c F gs σ bm tm a w n o eff := by
 unfold eConv at h
 split at h
 ·rename_i k1 k2 kx e hv1 hv2 hx
  split at h
  ·rename_i hc
   simp at h; subst h
   refine ⟨_, rfl, rfl, fun g hg => by simp [men, K.has] at hg, fun hg _ => ?_⟩
   obtain ⟨kk, hkk⟩ := isInt_some hc
   obtain ⟨m, hm, hmv, _⟩ := eval_int hΓ hkk ((val_rel hs hx).1 hg)
   obtain ⟨_, d1, _, _, _, _, hd1, hdc1⟩ := ty_c hcx hsi hv1
   obtain ⟨_, d2, _, _, _, _, hd2, hdc2⟩ := ty_c hcx hti hv2
   simp only [DescC] at hdc1 hdc2; subst hdc1 hdc2
   refine ⟨.int k2 (k2.wrap m), w, by simp [execOp, ho, hmv, convert, run_underlying hd1, run_underlying hd2, Conv.intToInt], Below.refl _ _, relT_v hg ?_⟩
   simp only [relK, E.den, hm, D.toI_int, R]
   exact ⟨trivial, wrap_within _ _⟩
  ·simp at h
 ·rename_i el kx e hv1 hv2 hx
  split at h
  ·rename_i hc
   simp at h; subst h
   refine ⟨_, rfl, rfl, fun g hg => by simp [men, K.has] at hg, fun hg _ => ?_⟩
   obtain ⟨rows, hrows, hrt, ad, len, cap, hval, hlen, hcap, hmax, hnone, hcells⟩ := eval_sl hΓ (isC_some hc.1) ((val_rel hs hx).1 hg)
   obtain ⟨_, d1, _, _, _, _, hd1, hdc1⟩ := ty_c hcx hsi hv1
   obtain ⟨_, d2, _, _, _, _, hd2, hdc2⟩ := ty_c hcx hti hv2
   simp only [DescC] at hdc1 hdc2; subst hdc1 hdc2
   have hel : P.underlying el = some (.int .u8) := by
    have h8 := hc.2.1
    unfold u8In at h8
    rw [hv1] at h8
    simp only at h8
    split at h8
    ·rename_i i hi
     split at h8
     ·rename_i hvi
      obtain ⟨_, d3, _, _, _, _, hd3, hdc3⟩ := ty_c hcx hi hvi
      simp only [DescC] at hdc3; subst hdc3; exact hd3
     ·simp at h8
    ·simp at h8
   rw [hc.2.2] at hrt
   refine ⟨.string (bytesD (.sl rows)), w, ?_, Below.refl _ _, relT_v hg ?_⟩
   ·rcases ad with _ | ⟨b, o', s⟩
    ·have h0 : rows = [] := List.eq_nil_of_length_eq_zero (by have := hnone rfl; omega)
     subst h0
     have := run_convert_bytes_nil (P := P) w S el hd1 hel len cap T hd2
     simp [execOp, ho, hval, this]
     rfl
    ·obtain ⟨hs0, hrw⟩ := hcells b o' s rfl
     have hcs : ∀ i, i < len → w.cell? ⟨b, o' + i, none⟩ = some (.int .u8 ((rows.map fun r => (r.headD .un).toI).getD i 0)) := by
      intro i hi
      have hr := hrw.get (n := 1) (fun r hr => hrt.len r hr) (List.getElem?_eq_getElem (show i < rows.length by omega))
      have hm := hrt.mem _ (List.getElem_mem (show i < rows.length by omega))
      match hri : rows[i], hm with
      | [d], hm =>
       obtain ⟨n, rfl⟩ := hasTy_int hm.1
       rw [hri] at hr
       obtain ⟨⟨v, h1, _, h2⟩, _⟩ := hr
       have : v = .int .u8 n := h2.1
       subst this
       rw [Nat.mul_one] at h1
       rw [h1]
       simp [List.getD, List.getElem?_eq_getElem (show i < rows.length by omega), hri]
     rcases Nat.eq_zero_or_pos len with h0 | h0
     ·subst h0
      have h0' : rows = [] := List.eq_nil_of_length_eq_zero hlen.symm
      subst h0'
      have hrun : (convert S T (.slice (some ⟨b, o', s⟩) 0 cap)).run P w = .ok (.string (strOfNums [])) w := by
       rw [run_convert_bytes_string w S T el _ 0 cap hd1 hel hd2, run_bytesToString w _ 0 cap [] (by simpa using run_loadCells_list (P := P) (w := w) ⟨b, o', s⟩ [] (fun j u h => by simp at h))]
       rfl
      simp [execOp, ho, hval, hrun, bytesD]
     ·have := hs0 h0; subst this
      have hrun := run_convert_bytes_arg (P := P) w S el hd1 hel b o' len cap (rows.map fun r => (r.headD .un).toI) (by simp [hlen]) hcs T hd2
      simp [execOp, ho, hval, hrun, bytesD]
   ·simp only [relK, E.den, hrows, R]
    refine ⟨trivial, ?_⟩
    show (strOfNums _).size ≤ _
    simp [strOfNums, ByteArray.size]
    omega
  ·simp at h
 ·simp at h
theorem size_le_maxLen {n : Nat} (h : n ≤ maxLen) : IntKind.i64.min ≤ (n : Int) ∧ (n : Int) ≤ IntKind.i64.max := by
 unfold maxLen at h
 simp [IntKind.min, IntKind.max, IntKind.signed, IntKind.bits]
 omega
theorem sLen (hcx : tbOk P tb tb = true) (hs : Sim c F σ bm tm a w) (hΓ : EnvTy tb.tab Γ c.env) {n : Nat} {o : Oper} {x : Operand} {T : Nat} {cl : Call} (ho : o.op = .call cl) (hcl : cl.callee = .builtin .len) (har : cl.args.toList = [x]) (hat : cl.argTypes.toList = [T])
  {ti : TI} (hti : tb.get T = some ti) {eff : Eff} (h : eLen tb.tab Γ gs o.dst ti (opd tb σ T x) = some eff) : PureSpec P c F gs σ bm tm a w n o eff := by
 have har' : cl.args = #[x] := by rw [← Array.toList_inj, har]
 have hat' : cl.argTypes = #[T] := by rw [← Array.toList_inj, hat]
 unfold eLen at h
 split at h
 ·rename_i k e hx
  split at h
  ·rename_i hc
   simp at h; subst h
   refine ⟨_, rfl, rfl, fun g hg => by simp [men, K.has] at hg, fun hg _ => ?_⟩
   have hvr := (val_rel hs hx).1 hg
   rcases hc with hc | ⟨hinf, hsl⟩
   rotate_left
   ·obtain ⟨n, hn⟩ := hasTy_mem (E.inf_ok hΓ e _ hinf)
    have hrd := hvr.rd
    rw [hn] at hrd
    obtain ⟨ad, cap, hval, hcap, hmax, _⟩ := hrd
    unfold isSl at hsl
    split at hsl
    ·rename_i el hv
     obtain ⟨_, d1, _, _, _, _, hd1, hdc1⟩ := ty_c hcx hti hv
     simp only [DescC] at hdc1; subst hdc1
     refine ⟨.int .i64 n, w, by simp [execOp, ho, resolve, hcl, invoke, builtin, Builtin.len_, har', hat', hval, run_underlying hd1, goInt], Below.refl _ _, relT_v hg ?_⟩
     simp only [relK, E.den, hn, lenD, R]
     exact ⟨trivial, size_le_maxLen (by omega)⟩
    ·simp at hsl
   obtain ⟨hinf, hseq⟩ := hc
   unfold isSeq at hseq
   split at hseq
   ·rename_i hv
    obtain ⟨_, d1, _, _, _, _, hd1, hdc1⟩ := ty_c hcx hti hv
    simp only [DescC] at hdc1; subst hdc1
    obtain ⟨s, hsd, hsv, hss⟩ := eval_str hΓ (by rw [hinf, hv]) hvr
    refine ⟨.int .i64 s.size, w, by simp [execOp, ho, resolve, hcl, invoke, builtin, Builtin.len_, har', hat', hsv, run_underlying hd1, goInt], Below.refl _ _, relT_v hg ?_⟩
    simp only [relK, E.den, hsd, lenD, R]
    exact ⟨trivial, size_le_maxLen hss⟩
   ·rename_i el hv
    obtain ⟨_, d1, _, _, _, _, hd1, hdc1⟩ := ty_c hcx hti hv
    simp only [DescC] at hdc1; subst hdc1
    obtain ⟨rows, hrows, hrt, ad, len, cap, hval, hlen, hcap, hmax, hnone, hcells⟩ := eval_sl hΓ (by rw [hinf, hv]) hvr
    refine ⟨.int .i64 len, w, by simp [execOp, ho, resolve, hcl, invoke, builtin, Builtin.len_, har', hat', hval, run_underlying hd1, goInt], Below.refl _ _, relT_v hg ?_⟩
    simp only [relK, E.den, hrows, lenD, R, hlen]
    exact ⟨trivial, size_le_maxLen (by omega)⟩
   ·simp at hseq
  ·simp at h
 ·simp at h
theorem sAt (hcx : tbOk P tb tb = true) (hs : Sim c F σ bm tm a w) (hΓ : EnvTy tb.tab Γ c.env) {n : Nat} {o : Oper} {x i : Operand} {T : Nat} (ho : o.op = .index T x i) {ti : TI} (hti : tb.get T = some ti) {eff : Eff}
  (h : eAt tb.tab Γ gs o.dst ti (opd tb σ T x) (opd tb σ 0 i) = some eff) : PureSpec P c F gs σ bm tm a w n o eff := by
 unfold eAt at h
 split at h
 ·rename_i kx ex ki ei hv hx hi
  split at h
  ·rename_i hc
   simp at h; subst h
   refine ⟨_, rfl, rfl, fun g hg => by simp [men, K.has] at hg, fun hg hr => ?_⟩
   have hin : RqH P c.env n (.cond gs (.inb ex ei)) := hr _ (by simp)
   replace hin := hin hg
   obtain ⟨s, hs1, hsv, hss⟩ := eval_str hΓ (isC_some hc.1) ((val_rel hs hx).1 hg)
   obtain ⟨kk, hkk⟩ := isInt_some hc.2
   obtain ⟨m, hm, hmv, _⟩ := eval_int hΓ hkk ((val_rel hs hi).1 hg)
   simp only [E.den, hs1, hm, D.toI_int, lenD, D.bool.injEq, decide_eq_true_eq] at hin
   obtain ⟨_, d1, _, _, _, _, hd1, hdc1⟩ := ty_c hcx hti hv
   simp only [DescC] at hdc1; subst hdc1
   have hlt : m.toNat < s.size := by omega
   refine ⟨.int .u8 (s[m.toNat]'hlt).toNat, w, by simp [execOp, ho, hsv, hmv, Instr.index, asIntOf, run_underlying hd1, hin.1, hlt], Below.refl _ _, relT_v hg ?_⟩
   have h8 := (s[m.toNat]'hlt).toNat_lt
   simp only [relK, E.den, hs1, hm, D.toS_str, D.toI_int, R]
   simp [hlt, IntKind.min, IntKind.max, IntKind.signed, IntKind.bits]
   omega
  ·simp at h
 ·simp at h
theorem hi_repl {tab : Nat → List CT} {n : Nat} {t : CT} {d : D} (h : HasV1 tab (.agg (List.replicate n t)) d) : ∃ l, d = .agg l ∧ l.length = n ∧ RowTy tab (List.replicate n t) l := by
 obtain ⟨l, hl, hlt⟩ := hasV1_agg h
 exact ⟨l, hl, by rw [hlt.length, List.length_replicate], hlt⟩
theorem isAgg_ct {ei : TI} {e : Nat} {t : CT} (hcx : tbOk P tb tb = true) (hei : tb.get e = some ei) (hv : ei.vt = .one (.c t)) : (isAgg e).run P w = .ok false w := by
 obtain ⟨i, d, _, _, _, _, hd, hdc⟩ := ty_c hcx hei hv
 exact run_isAgg_c hd hdc
theorem sGlob (hcx : tbOk P tb tb = true) (hs : Sim c F σ bm tm a w) (hgi : GInv w) (hΓ : EnvTy tb.tab Γ c.env) {o : Oper} {g T : Nat} (ho : o.op = .load T (.global g)) {ti : TI} (hti : tb.get T = some ti) {eff : Eff}
  (h : eGlob tb Γ gs o.dst ti g = some eff) : PureSpec P c F gs σ bm tm a w Γ.length o eff := by
 unfold eGlob at h
 split at h
 ·rename_i n t ha
  simp at h; subst h
  obtain ⟨e, ei, i, hu, hei, hev, hi, hsz⟩ := ty_arr hcx hti ha
  refine ⟨_, rfl, rfl, fun g hg => by simp [men, K.has] at hg, fun hg hr => ?_⟩
  have hq : RqH P c.env Γ.length (.glob g (.one (.agg (List.replicate n t))) none) := hr _ (by simp)
  obtain ⟨hq1, _, l, hl, hll⟩ := hq
  rw [List.length_replicate] at hll
  rw [hl] at hq1
  obtain ⟨cs, t0, f0, h1, h2⟩ := hq1 w hgi
  have h3 := h2 w (MM c.M0 bm tm σ)
  simp only [D.toA_agg] at h3
  have hrun := run_loadVar_a (P := P) (w := w) hu hi (b := g) (o := 0) (vs := cs.toList) (by rw [h3.length, hll, hsz]) (fun j u hj => by
   rw [Nat.zero_add]
   simp only [World.cell?, h1]
   simpa using hj)
  refine ⟨.agg cs, w, ?_, Below.refl _ _, relT_v hg ?_⟩
  ·simp [execOp, ho, Act.eval, Instr.loadAt, Instr.sureAddr, hrun]
  ·show R w _ (c.env.getD Γ.length .un) (.agg cs)
   rw [hl]
   exact ⟨cs, rfl, h3⟩
 ·simp at h
theorem sGIdx (hcx : tbOk P tb tb = true) (hs : Sim c F σ bm tm a w) (hΓ : EnvTy tb.tab Γ c.env) {o : Oper} {g T T' : Nat} {i : Operand} (ho : o.op = .indexAddr T (.global g) i) {ti : TI} (hti : tb.get T = some ti) {eff : Eff}
  (h : eGIdx tb Γ gs o.dst ti g (opd tb σ T' i) = some eff) : PureSpec P c F gs σ bm tm a w Γ.length o eff := by
 unfold eGIdx at h
 split at h
 ·rename_i n t ki ei ha hx
  split at h
  ·rename_i hint
   simp at h; subst h
   obtain ⟨e, ei', i', hu, hei, hev, hi, hsz⟩ := ty_arr hcx hti ha
   refine ⟨_, rfl, rfl, fun g hg => by simp [men] at hg, fun hg hr => ?_⟩
   have hq : RqH P c.env Γ.length (.glob g (.one (.agg (List.replicate n t))) (some (gs, ei, n))) := hr _ (by simp)
   obtain ⟨hq1, hq2, l, hl, hll⟩ := hq
   rw [List.length_replicate] at hll
   obtain ⟨h0, h1⟩ := hq2 hg
   obtain ⟨kk, hkk⟩ := isInt_some hint
   obtain ⟨m, hm, hmv, _⟩ := eval_int hΓ hkk ((val_rel hs hx).1 hg)
   rw [hm] at h0 h1
   simp only [D.toI_int] at h0 h1
   obtain ⟨j, hj, hjs, _⟩ := ty_one hcx hei hev
   refine ⟨.pointer (some ⟨g, m.toNat, none⟩), w, ?_, Below.refl _ _, fun _ => ⟨?_, hq1, ?_⟩, fun h => absurd hg h⟩
   ·have hgv : a.eval (.global g) = .pointer (some ⟨g, 0, none⟩) := rfl
    simp [execOp, ho, hgv, hmv, Instr.indexAt, asIntOf, Instr.sureAddr, run_underlying hu, run_sizeOf hj, hjs, V1.cells, h0, h1, addr_add]
   ·rw [hm]; rfl
   ·show _ < (c.env.getD Γ.length .un).toA.length
    rw [hl, hm]
    simp only [D.toA_agg, D.toI_int, hll]; omega
  ·simp at h
 ·simp at h
theorem sFld (hcx : tbOk P tb tb = true) (hs : Sim c F σ bm tm a w) {n : Nat} {o : Oper} {x : Operand} {T f : Nat} (ho : o.op = .fieldAddr T x f) {ti : TI} (hti : tb.get T = some ti) {eff : Eff}
  (h : eFld tb Γ gs o.dst ti (opd tb σ 0 x) f = some eff) : PureSpec P c F gs σ bm tm a w n o eff := by
 unfold eFld at h
 split at h
 ·rename_i hx; exact (by simp [eMField] at h)
 ·exact sField hcx hs ho hti h
theorem sLd (hcx : tbOk P tb tb = true) (hs : Sim c F σ bm tm a w) (hgi : GInv w) (hΓ : EnvTy tb.tab Γ c.env) {o : Oper} {x : Operand} {T : Nat} (ho : o.op = .load T x) {ti : TI} (hti : tb.get T = some ti) {eff : Eff}
  (h : eLd tb Γ gs o.dst σ ti x = some eff) : PureSpec P c F gs σ bm tm a w Γ.length o eff := by
 unfold eLd at h
 split at h
 ·rename_i g; exact sGlob hcx hs hgi hΓ ho hti h
 ·split at h
  ·rename_i g0 g y ei hst
   split at h
   ·rename_i t ts hv hy
    split at h
    ·rename_i hc
     simp at h; subst h
     obtain ⟨hgd, hts⟩ := hc
     refine ⟨_, rfl, rfl, fun g hg => by simp [men, K.has] at hg, fun hg hr => ?_⟩
     obtain ⟨h4, _⟩ := opd_rel hs hst
     obtain ⟨hp, hG, hlt2⟩ := h4.1 (gsH_sub hgd hg)
     obtain ⟨cs, t0, f0, q1, q2⟩ := hG w hgi
     have q3 := q2 w (MM c.M0 bm tm σ)
     obtain ⟨u, hu, hru⟩ := q3.get (List.getElem?_eq_getElem hlt2)
     obtain ⟨i, d, hi, _, _, _, hd, hdc⟩ := ty_c hcx hti hv
     have hcell : w.cell? ⟨g, (ei.den c.env).toI.toNat, none⟩ = some u := by
      simp only [World.cell?, q1]
      simpa using hu
     refine ⟨u, w, by simp [execOp, ho, hp, Instr.loadAt, Instr.sureAddr, run_loadVar_c hd hdc hcell], Below.refl _ _, relT_v hg ?_⟩
     simp only [relK, E.den, List.getElem?_eq_getElem hlt2, Option.getD_some]
     exact hru
    ·simp at h
   ·simp at h
  ·rename_i hst; exact (by simp [eMLoad] at h)
  ·rename_i hst; exact (by simp [eILoad] at h)
  ·exact sLoad hcx hs hΓ ho hti h
theorem sIdx (hcx : tbOk P tb tb = true) (hs : Sim c F σ bm tm a w) (hΓ : EnvTy tb.tab Γ c.env) {o : Oper} {x i : Operand} {T : Nat} (ho : o.op = .indexAddr T x i) {ti : TI} (hti : tb.get T = some ti) {eff : Eff}
  (h : eIdx tb Γ gs o.dst σ ti T x i = some eff) : PureSpec P c F gs σ bm tm a w Γ.length o eff := by
 unfold eIdx at h
 split at h
 ·rename_i g; exact sGIdx hcx hs hΓ ho hti h
 ·split at h
  ·rename_i g0 g l hst
   cases hm : isC .mem (l.inf tb.tab Γ) with
   | true => rw [hm] at h; exact (by simp [eMIndex] at h)
   | false => rw [hm] at h; exact sIndex hcx hs hΓ ho hti h
  ·rename_i hst; exact (by simp [eIIndex] at h)
  ·exact sIndex hcx hs hΓ ho hti h
theorem sSel (hcx : tbOk P tb tb = true) (hs : Sim c F σ bm tm a w) (hΓ : EnvTy tb.tab Γ c.env) {n : Nat} {o : Oper} {x i : Operand} {T : Nat} (ho : o.op = .index T x i) {ti : TI} (hti : tb.get T = some ti) {eff : Eff}
  (h : eSel tb Γ gs o.dst ti (opd tb σ T x) (opd tb σ 0 i) = some eff) : PureSpec P c F gs σ bm tm a w n o eff := by
 unfold eSel at h
 split at h
 ·rename_i m t ha
  split at h
  ·rename_i kx ex ki ei hx hi
   split at h
   ·rename_i hc
    simp at h; subst h
    obtain ⟨hty, hint⟩ := hc
    obtain ⟨e, ei', i', hu, hei, hev, hi', hsz⟩ := ty_arr hcx hti ha
    refine ⟨_, rfl, rfl, fun g hg => by simp [men, K.has] at hg, fun hg hr => ?_⟩
    have hq : RqH P c.env n (.cond gs (.an (.ic .leq (.li .i64 0) ei) (.ic .lss ei (.li .i64 m)))) := hr _ (by simp)
    replace hq := hq hg
    obtain ⟨l, hl, hll, hlt⟩ := hi_repl (E.inf_ok hΓ ex _ hty)
    obtain ⟨kk, hkk⟩ := isInt_some hint
    obtain ⟨z, hz, hzv, _⟩ := eval_int hΓ hkk ((val_rel hs hi).1 hg)
    simp only [E.den, hz, D.toI_int, D.toB_bool, cmpI, D.bool.injEq, Bool.and_eq_true, decide_eq_true_eq] at hq
    have hr0 := ((val_rel hs hx).1 hg).rd
    rw [hl] at hr0
    obtain ⟨cs, hcs, hrs⟩ := hr0
    have hlt2 : z.toNat < l.length := by omega
    obtain ⟨u, hu', hru⟩ := hrs.get (List.getElem?_eq_getElem hlt2)
    obtain ⟨j, hj, hjs, _⟩ := ty_one hcx hei hev
    have hcsu : cs[z.toNat]? = some u := by simpa using hu'
    have hag := isAgg_ct (P := P) (w := w) hcx hei hev
    refine ⟨u, w, ?_, Below.refl _ _, relT_v hg ?_⟩
    ·simp [execOp, ho, hcs, hzv, Instr.index, asIntOf, run_underlying hu, run_sizeOf hj, hjs, V1.cells, hq.1, hq.2, part, hag, hcsu]
    ·simp only [relK, E.den, hl, hz, D.toA_agg, D.toI_int, List.getElem?_eq_getElem hlt2, Option.getD_some]
     exact hru
   ·simp at h
  ·simp at h
 ·exact sAt hcx hs hΓ ho hti h
theorem sPick (hs : Sim c F σ bm tm a w) (hΓ : EnvTy tb.tab Γ c.env) {n : Nat} {o : Oper} {x y z : Operand} {T1 T2 T3 : Nat} (ho : o.op = .pick x y z) {eff : Eff} (h : ePick tb.tab Γ gs o.dst (opd tb σ T1 x) (opd tb σ T2 y) (opd tb σ T3 z) = some eff) : PureSpec P c F gs σ bm tm a w n o eff := by
 unfold ePick at h
 split at h
 ·rename_i kx ex hx
  split at h
  ·rename_i hc
   split at h
   ·rename_i ky ey kz ez hy hz
    simp only [Option.some.injEq] at h; subst h
    refine ⟨_, rfl, rfl, fun g hg => by simp [men, K.has] at hg, fun hg _ => ?_⟩
    obtain ⟨b, hb, hv⟩ := eval_bool hΓ (isC_some hc) ((val_rel hs hx).1 hg)
    have hden : (pickE tb.tab Γ ex ey ez).den c.env = if b = true then ey.den c.env else ez.den c.env := by
     unfold pickE
     split
     ·rename_i h1
      obtain ⟨q, hq⟩ := hasTy_bool (E.inf_ok hΓ ez _ (isC_some h1.2))
      cases b <;> simp [E.den, hb, hq, h1.1]
     ·split
      ·rename_i h1
       obtain ⟨q, hq⟩ := hasTy_bool (E.inf_ok hΓ ey _ (isC_some h1.2))
       cases b <;> simp [E.den, hb, hq, h1.1]
      ·cases b <;> simp [E.den, hb]
    cases b with
    | true =>
     have := ((val_rel hs hy).1 (gsH_snoc.2 ⟨hg, hb⟩)).rd
     exact ⟨a.eval y, w, by simp [execOp, ho, hv, asBool], Below.refl _ _, relT_v hg (by simp only [relK]; rw [hden]; exact this)⟩
    | false =>
     have := ((val_rel hs hz).1 (gsH_snoc.2 ⟨hg, hb⟩)).rd
     exact ⟨a.eval z, w, by simp [execOp, ho, hv, asBool], Below.refl _ _, relT_v hg (by simp only [relK]; rw [hden]; exact this)⟩
   ·simp at h
  ·simp at h
 ·simp at h
end
end Go.Proofs.YtbgcaneflfdddaaGreatDoor
/- Each operation does to a world what the executor says it does: arithmetic, slices, structs built, calls. No program in sight. -/
namespace Go.Proofs.YtbgcaneflfdddaaGreatDoor
open Go.RowKit
variable [GC]
theorem tmod_in {k : IntKind} {a b : Int} (h1 : k.min ≤ a) (h2 : a ≤ k.max) : k.min ≤ a.tmod b ∧ a.tmod b ≤ k.max := by
 have hk : k.min ≤ 0 ∧ 0 ≤ k.max := by cases k <;> simp [IntKind.min, IntKind.max, IntKind.signed, IntKind.bits]
 have hn : (a.tmod b).natAbs ≤ a.natAbs := by rw [Int.natAbs_tmod]; exact Nat.mod_le _ _
 by_cases h0 : 0 ≤ a
 ·have := Int.tmod_nonneg b h0; omega
 ·have h3 := Int.tmod_nonneg b (show 0 ≤ -a by omega)
  rw [Int.neg_tmod] at h3
  omega
theorem fdiv_in {k : IntKind} {a : Int} (n : Nat) (h1 : k.min ≤ a) (h2 : a ≤ k.max) : k.min ≤ a.fdiv (2 ^ n) ∧ a.fdiv (2 ^ n) ≤ k.max := by
 have hk : k.min ≤ 0 ∧ 0 ≤ k.max := by cases k <;> simp [IntKind.min, IntKind.max, IntKind.signed, IntKind.bits]
 have hp : (0 : Int) < 2 ^ n := Int.pow_pos (by decide)
 rw [Int.fdiv_eq_ediv_of_nonneg _ (Int.le_of_lt hp)]
 by_cases h0 : 0 ≤ a
 ·have h3 := Int.ediv_nonneg h0 (Int.le_of_lt hp)
  have h4 := Int.ediv_le_self (2 ^ n) h0
  omega
 ·have h3 : a ≤ a / 2 ^ n := by
   rw [Int.le_ediv_iff_mul_le hp]
   have := Int.mul_le_mul_of_nonpos_left (show a ≤ 0 by omega) (show (1 : Int) ≤ 2 ^ n by omega)
   omega
  have h4 : a / 2 ^ n < 0 := Int.ediv_neg_of_neg_of_pos (by omega) hp
  omega
section
variable {P : Program} {c : SC} {F : Nat → Prop} {σ : Nat → ST} {bm : Nat → Nat} {tm : Nat → Value} {a : Act} {w : World} {tb : TB} {Γ : List VT} {gs : Gd}
theorem run_eqGuard_i {op : BinOp} {T : Nat} {x y : Operand} {k k' : IntKind} {m n : Int} : (eqGuard op T x y (.int k m) (.int k' n)).run P w = .ok () w := by
 cases op <;> simp [eqGuard]
theorem run_eqGuard_s {op : BinOp} {T : Nat} {x y : Operand} {s t : ByteArray} : (eqGuard op T x y (.string s) (.string t)).run P w = .ok () w := by
 cases op <;> simp [eqGuard]
theorem eqvL_append : ∀ {a b a' b' : List D}, a.length = b.length → eqvL (a ++ a') (b ++ b') = (eqvL a b && eqvL a' b')
 | [], [], _, _, _ => by simp [eqvL]
 | x :: a, y :: b, a', b', h => by simp only [List.cons_append, eqvL, eqvL_append (a := a) (b := b) (by simpa using h), Bool.and_assoc]
 | [], _ :: _, _, _, h => by simp at h
 | _ :: _, [], _, _, h => by simp at h
theorem run_part_c {t : Nat} {d : TypeDesc} {ct : CT} (h : P.underlying t = some d) (hd : DescC ct d) {cs : Array Value} {off : Nat} {v : Value} (hv : cs[off]? = some v) : (part t cs off).run P w = .ok v w := by
 simp [part, run_isAgg_c h hd, hv]
theorem run_part_s {t : Nat} {f : Array Field} (h : P.underlying t = some (.struct f)) {i : TypeInfo} (hi : P.info? t = some i) {cs : Array Value} {off : Nat} : (part t cs off).run P w = .ok (.agg (cs.extract off (off + i.size))) w := by
 simp [part, run_isAgg_s h, run_sizeOf hi]
theorem run_eq (hcx : tbOk P tb tb = true) {M : Addr → Prop} : ∀ (d T : Nat) (ti : TI) (v : V1), eqTy P tb d T = true → tb.get T = some ti → ti.vt = .one v → ∀ (dx dy : D) (x y : Value), HasV1 tb.tab v dx → HasV1 tb.tab v dy → R w M dx x → R w M dy y → ∀ e, d ≤ e →
  (Op.equalIn e T x y).run P w = .ok (match v with | .c _ => eqvD dx dy | .agg _ => eqvL dx.toA dy.toA) w
 | 0, T, ti, v, h, _, _, _, _, _, _, _, _, _, _, _, _ => by simp [eqTy] at h
 | d + 1, T, ti, v, h, hti, hv, dx, dy, x, y, hx, hy, rx, ry, e, he => by
  obtain ⟨e, rfl⟩ : ∃ e', e = e' + 1 := ⟨e - 1, by omega⟩
  simp only [eqTy, hti, hv] at h
  cases v with
  | c t =>
   obtain ⟨_, d1, _, _, _, _, hd1, hdc1⟩ := ty_c hcx hti hv
   cases t with
   | mem => exact hdc1.elim
   | fn => exact hdc1.elim
   | sl el => simp at h
   | bool =>
    obtain ⟨a, rfl⟩ := hasTy_bool hx
    obtain ⟨b, rfl⟩ := hasTy_bool hy
    simp only [R] at rx ry; subst rx ry
    simp only [DescC] at hdc1; subst hdc1
    rw [run_equalIn_bool' w e T a b hd1]; rfl
   | int k =>
    obtain ⟨a, rfl⟩ := hasTy_int hx
    obtain ⟨b, rfl⟩ := hasTy_int hy
    obtain ⟨rfl, _⟩ := rx
    obtain ⟨rfl, _⟩ := ry
    simp only [DescC] at hdc1; subst hdc1
    rw [run_equalIn_int w e T k k a b hd1]; rfl
   | str =>
    obtain ⟨a, rfl⟩ := hasTy_str hx
    obtain ⟨b, rfl⟩ := hasTy_str hy
    obtain ⟨rfl, _⟩ := rx
    obtain ⟨rfl, _⟩ := ry
    simp only [DescC] at hdc1; subst hdc1
    rw [run_equalIn_string w e T a b hd1]; rfl
  | agg ts =>
   simp only [Bool.and_eq_true, Bool.not_eq_true', List.all_eq_true] at h
   obtain ⟨⟨⟨h1, h2⟩, h3⟩, h4⟩ := h
   obtain ⟨i, fields, z, hi, hsz, _, _, _, hu, hfo⟩ := ty_agg hcx hti hv
   obtain ⟨l, rfl, hl⟩ := hasV1_agg hx
   obtain ⟨m, rfl, hm⟩ := hasV1_agg hy
   obtain ⟨xs, rfl, hxs⟩ := rx
   obtain ⟨ys, rfl, hys⟩ := ry
   have hfd : P.fieldsOf T = fields := by simp [Program.fieldsOf, hu]
   rw [run_equalIn_struct w e T xs ys (by rw [hfd]; exact hu) h1, hfd]
   rw [hfd] at h2
   have key : ∀ (fs : List (Nat × Nat)) (fl : List Field) (o : Nat), fieldsOk tb fs fl = true → (∀ f ∈ fl, (f.name == "_") = false) → (∀ q ∈ fs, eqTy P tb d q.2 = true) → contig tb o (ts.drop o) fs = true → (Op.eqFields e xs ys fl).run P w = .ok (eqvL (l.drop o) (m.drop o)) w := by
    have hll := hl.length
    have hml := hm.length
    intro fs
    induction fs with
    | nil =>
     intro fl o hfo' _ _ hco
     cases fl with
     | nil =>
      simp only [contig, List.isEmpty_iff] at hco
      have : ts.length ≤ o := by simpa using hco
      rw [List.drop_eq_nil_of_le (by omega), List.drop_eq_nil_of_le (by omega)]
      simp [Op.eqFields, eqvL]
     | cons _ _ => simp [fieldsOk] at hfo'
    | cons q r ih =>
     intro fl o hfo' hnm heq hco
     obtain ⟨o', ft⟩ := q
     cases fl with
     | nil => simp [fieldsOk] at hfo'
     | cons f fl =>
      simp only [fieldsOk, Bool.and_eq_true, beq_iff_eq] at hfo'
      obtain ⟨⟨⟨q1, q2⟩, q3⟩, q4⟩ := hfo'
      simp only [contig, Bool.and_eq_true] at hco
      obtain ⟨hb, hco⟩ := hco
      have : o = o' := Nat.eq_of_beq_eq_true hb
      subst this
      split at hco
      ·rename_i fi hfi
       simp only [Bool.and_eq_true, decide_eq_true_eq] at hco
       obtain ⟨htk, hco⟩ := hco
       rw [List.drop_drop] at hco
       have hrest := ih fl (o + fi.cells.length) q4 (fun f' hf' => hnm f' (by simp [hf'])) (fun q hq => heq q (by simp [hq])) hco
       rw [hfi] at q3
       simp only at q3
       split at q3
       ·rename_i v1 hv1
        have hcl : fi.cells = v1.cells := by simp [TI.cells, hv1]
        rw [hcl] at hrest htk
        have hle : o + v1.cells.length ≤ ts.length ∨ v1.cells.length = 0 := by
         have := congrArg List.length htk
         simp at this; omega
        have hne : f.name ≠ "_" := fun e' => by have := hnm f (by simp); rw [e'] at this; simp at this
        have heq1 := heq (o, ft) (by simp)
        have hsplit : eqvL (l.drop o) (m.drop o) = (eqvL ((l.drop o).take v1.cells.length) ((m.drop o).take v1.cells.length) && eqvL (l.drop (o + v1.cells.length)) (m.drop (o + v1.cells.length))) := by
         rw [← eqvL_append (by simp; omega)]
         rw [← List.drop_drop, ← List.drop_drop, List.take_append_drop, List.take_append_drop]
        have hlx := (hl.drop o).take v1.cells.length
        have hly := (hm.drop o).take v1.cells.length
        rw [htk] at hlx hly
        have hrx := (hxs.drop o).take v1.cells.length
        have hry := (hys.drop o).take v1.cells.length
        obtain ⟨j, hj, hjs, _⟩ := ty_one hcx hfi hv1
        have hpart : ∃ (px py : Value), (part f.type xs f.offset).run P w = .ok px w ∧ (part f.type ys f.offset).run P w = .ok py w ∧ (Op.equalIn e ft px py).run P w = .ok (eqvL ((l.drop o).take v1.cells.length) ((m.drop o).take v1.cells.length)) w := by
         rw [← q1, ← q2]
         cases v1 with
         | c t =>
          obtain ⟨_, d1, _, _, _, _, hd1, hdc1⟩ := ty_c hcx hfi hv1
          simp only [V1.cells] at hlx hly hrx hry ⊢
          generalize (l.drop o).take [t].length = la at hlx hrx ⊢
          generalize (m.drop o).take [t].length = lb at hly hry ⊢
          cases la with
          | nil => simp [RowTy] at hlx
          | cons ea ra =>
           cases lb with
           | nil => simp [RowTy] at hly
           | cons eb rb =>
            simp only [RowTy] at hlx hly
            have hra : ra = [] := by cases ra with | nil => rfl | cons _ _ => simp [RowTy] at hlx
            have hrb : rb = [] := by cases rb with | nil => rfl | cons _ _ => simp [RowTy] at hly
            subst hra hrb
            obtain ⟨px, qx, hpx, hrpx, _⟩ := hrx
            obtain ⟨py, qy, hpy, hrpy, _⟩ := hry
            have hx0 : xs[o]? = some px := by
             have := congrArg (fun l => l[0]?) hpx
             simpa using this
            have hy0 : ys[o]? = some py := by
             have := congrArg (fun l => l[0]?) hpy
             simpa using this
            refine ⟨px, py, run_part_c hd1 hdc1 hx0, run_part_c hd1 hdc1 hy0, ?_⟩
            have := run_eq hcx d ft fi (.c t) heq1 hfi hv1 ea eb px py hlx.1 hly.1 hrpx hrpy e (by omega)
            simpa [eqvL] using this
         | agg us =>
          obtain ⟨i', f', z', hi', hsz', _, _, _, hu', _⟩ := ty_agg hcx hfi hv1
          simp only [V1.cells] at hlx hly hrx hry hle ⊢
          have ex : ∀ zs : Array Value, (zs.extract o (o + i'.size)).toList = (zs.toList.drop o).take us.length := fun zs => by simp [hsz', List.extract_eq_take_drop]
          refine ⟨.agg (xs.extract o (o + i'.size)), .agg (ys.extract o (o + i'.size)), run_part_s hu' hi', run_part_s hu' hi', ?_⟩
          exact run_eq hcx d ft fi (.agg us) heq1 hfi hv1 (.agg _) (.agg _) _ _ hlx hly ⟨_, rfl, by rw [ex]; exact hrx⟩ ⟨_, rfl, by rw [ex]; exact hry⟩ e (by omega)
        obtain ⟨px, py, e1, e2, e4⟩ := hpart
        simp only [Op.eqFields, if_pos hne, Sem.run_bind, e1, e2, Result.andThen_ok]
        rw [← q2, e4]
        simp only [Result.andThen_ok, hsplit]
        cases eqvL ((l.drop o).take v1.cells.length) ((m.drop o).take v1.cells.length) with
        | true => simp [hrest]
        | false => simp
       ·simp at q3
      ·simp at hco
   have := key ti.fs fields.toList 0 hfo (fun f hf => by simpa using h2 f hf) h3 (by simpa using h4)
   simpa using this
theorem eq_ty (hcx : tbOk P tb tb = true) {T : Nat} {ti : TI} (hti : tb.get T = some ti) {ts : List CT} (hv : ti.vt = .one (.agg ts)) (he : ti.eq = true) : eqTy P tb 8 T = true ∧ P.eqGuardType P.depth T = false := by
 have h := tb_get_ok hcx hti
 simp only [tiOk, hv] at h
 split at h
 ·simp at h
 ·simp only [Bool.and_eq_true, Bool.or_eq_true, Bool.not_eq_true'] at h
  have h5 := h.2
  rw [he] at h5
  simpa using h5
theorem sBin (hcx : tbOk P tb tb = true) (hs : Sim c F σ bm tm a w) (hΓ : EnvTy tb.tab Γ c.env) {n : Nat} {o : Oper} {x y : Operand} {T T' : Nat} {op : BinOp} (ho : o.op = .binOp op T x y T') {eff : Eff}
  (h : eBin tb.tab Γ gs o.dst op (tb.get T) (opd tb σ T x) (opd tb σ T y) = some eff) : PureSpec P c F gs σ bm tm a w n o eff := by
 unfold eBin at h
 split at h
 ·rename_i kx ea ky eb hx hy
  split at h
  ·rename_i k k' hka hkb
   split at h
   ·rename_i hop
    simp only [Option.some.injEq] at h; subst h
    refine ⟨_, rfl, rfl, fun g hg => by simp [men, K.has] at hg, fun hg hr => ?_⟩
    have hin : RqH P c.env n (.cond gs (.ic .geq eb (.li k' 0))) := hr _ (by simp)
    replace hin := hin hg
    obtain ⟨m, hm, hmv, hm1, hm2⟩ := eval_int hΓ hka ((val_rel hs hx).1 hg)
    obtain ⟨q, hq, hqv, hq1, hq2⟩ := eval_int hΓ hkb ((val_rel hs hy).1 hg)
    simp [E.den, hq, cmpI] at hin
    have hnl : ¬ q < 0 := by omega
    rcases hop with rfl | rfl
    ·refine ⟨.int k (arI .shl k m q), w, ?_, Below.refl _ _, relT_v hg ?_⟩
     ·simp [execOp, ho, hmv, hqv, run_eqGuard_i, binOp, Op.shift, hnl, arI]
     ·simp only [relK, E.den, hm, hq, D.toI_int, R]; exact ⟨trivial, wrap_within _ _⟩
    ·refine ⟨.int k (arI .shr k m q), w, ?_, Below.refl _ _, relT_v hg ?_⟩
     ·simp [execOp, ho, hmv, hqv, run_eqGuard_i, binOp, Op.shift, hnl, arI]
     ·simp only [relK, E.den, hm, hq, D.toI_int, R]; exact ⟨trivial, fdiv_in _ hm1 hm2⟩
   ·rename_i hns
    split at h
    ·simp at h
    ·rename_i hkk
     have hkk : k = k' := by simpa using hkk
     subst hkk
     split at h
     ·rename_i hop
      simp only [Option.some.injEq] at h; subst h
      refine ⟨_, rfl, rfl, fun g hg => by simp [men, K.has] at hg, fun hg _ => ?_⟩
      obtain ⟨m, hm, hmv, hm1, hm2⟩ := eval_int hΓ hka ((val_rel hs hx).1 hg)
      obtain ⟨q, hq, hqv, hq1, hq2⟩ := eval_int hΓ hkb ((val_rel hs hy).1 hg)
      refine ⟨.int k (arI op k m q), w, ?_, Below.refl _ _, relT_v hg ?_⟩
      ·cases op <;> simp [isAr] at hop <;> simp [execOp, ho, hmv, hqv, run_eqGuard_i, binOp, Op.intArith, Op.intBits, arI]
      ·simp only [relK, E.den, hm, hq, D.toI_int, R]
       refine ⟨trivial, ?_⟩
       cases op <;> simp [isAr] at hop <;> exact wrap_within _ _
     ·split at h
      ·rename_i hop
       simp only [Option.some.injEq] at h; subst h
       refine ⟨_, rfl, rfl, fun g hg => by simp [men, K.has] at hg, fun hg _ => ?_⟩
       obtain ⟨m, hm, hmv, hm1, hm2⟩ := eval_int hΓ hka ((val_rel hs hx).1 hg)
       obtain ⟨q, hq, hqv, hq1, hq2⟩ := eval_int hΓ hkb ((val_rel hs hy).1 hg)
       refine ⟨.bool (cmpI op m q), w, ?_, Below.refl _ _, relT_v hg ?_⟩
       ·cases op <;> simp [isCmp] at hop <;> simp [execOp, ho, hmv, hqv, run_eqGuard_i, binOp, Op.intCmp, cmpI]
       ·simp only [relK, E.den, hm, hq, D.toI_int, R]
      ·split at h
       ·rename_i hop
        simp only [Option.some.injEq] at h; subst h
        refine ⟨_, rfl, rfl, fun g hg => by simp [men, K.has] at hg, fun hg hr => ?_⟩
        have hin : RqH P c.env n (.cond gs (.ic .neq eb (.li k 0))) := hr _ (by simp)
        replace hin := hin hg
        obtain ⟨m, hm, hmv, hm1, hm2⟩ := eval_int hΓ hka ((val_rel hs hx).1 hg)
        obtain ⟨q, hq, hqv, hq1, hq2⟩ := eval_int hΓ hkb ((val_rel hs hy).1 hg)
        simp [E.den, hq, cmpI] at hin
        rcases hop with rfl | rfl
        ·refine ⟨.int k (arI .quo k m q), w, ?_, Below.refl _ _, relT_v hg ?_⟩
         ·simp [execOp, ho, hmv, hqv, run_eqGuard_i, binOp, Op.intDiv, hin, arI]
         ·simp only [relK, E.den, hm, hq, D.toI_int, R]; exact ⟨trivial, wrap_within _ _⟩
        ·refine ⟨.int k (arI .rem k m q), w, ?_, Below.refl _ _, relT_v hg ?_⟩
         ·simp [execOp, ho, hmv, hqv, run_eqGuard_i, binOp, Op.intDiv, hin, arI]
         ·simp only [relK, E.den, hm, hq, D.toI_int, R]; exact ⟨trivial, tmod_in hm1 hm2⟩
       ·simp at h
  ·rename_i hka hkb
   split at h
   ·rename_i hop
    simp only [Option.some.injEq] at h; subst h
    refine ⟨_, rfl, rfl, fun g hg => by simp [men, K.has] at hg, fun hg _ => ?_⟩
    obtain ⟨m, hm, hmv, hm1⟩ := eval_str hΓ hka ((val_rel hs hx).1 hg)
    obtain ⟨q, hq, hqv, hq1⟩ := eval_str hΓ hkb ((val_rel hs hy).1 hg)
    refine ⟨.bool (cmpS op m q), w, ?_, Below.refl _ _, relT_v hg ?_⟩
    ·cases op <;> simp [isCmp] at hop <;> simp [execOp, ho, hmv, hqv, run_eqGuard_s, binOp, Op.stringOp, cmpS]
    ·simp only [relK, E.den, hm, hq, D.toS_str, R]
   ·split at h
    ·rename_i hop
     subst hop
     simp only [Option.some.injEq] at h; subst h
     refine ⟨_, rfl, rfl, fun g hg => by simp [men, K.has] at hg, fun hg hr => ?_⟩
     have hin : RqH P c.env n (.cond gs (.sok ea eb)) := hr _ (by simp)
     replace hin := hin hg
     obtain ⟨m, hm, hmv, hm1⟩ := eval_str hΓ hka ((val_rel hs hx).1 hg)
     obtain ⟨q, hq, hqv, hq1⟩ := eval_str hΓ hkb ((val_rel hs hy).1 hg)
     simp [E.den, hm, hq] at hin
     have h63 : ¬ (IntKind.i64.max < (m.size : Int) + (q.size : Int)) := by
      have := size_le_maxLen hin
      omega
     refine ⟨.string (m ++ q), w, ?_, Below.refl _ _, relT_v hg ?_⟩
     ·simp [execOp, ho, hmv, hqv, run_eqGuard_s, binOp, Op.stringOp, h63]
      unfold maxLen at hin; omega
     ·simp only [relK, E.den, hm, hq, D.toS_str, R, ByteArray.size_append]; exact ⟨trivial, hin⟩
    ·simp at h
  ·rename_i ts us hka hkb
   split at h
   ·rename_i i hti
    split at h
    ·rename_i hc
     obtain ⟨hce, hcv, hcu⟩ := hc
     obtain ⟨heq, hgd⟩ := eq_ty hcx hti hcv hce
     have hgo : gsH c.env gs → ∃ xs ys, a.eval x = .agg xs ∧ a.eval y = .agg ys ∧ ∃ q, (E.ae ea eb).den c.env = .bool q ∧ (Op.equalIn 10000 T (.agg xs) (.agg ys)).run P w = .ok q w := by
      intro hg
      obtain ⟨l, hl, hlt⟩ := hasV1_agg (E.inf_ok hΓ ea _ hka)
      obtain ⟨m, hm, hmt⟩ := hasV1_agg (E.inf_ok hΓ eb _ hkb)
      have hus : us = ts := by rw [hcv] at hcu; simpa using hcu.symm
      subst hus
      have rx := ((val_rel hs hx).1 hg).rd
      have ry := ((val_rel hs hy).1 hg).rd
      rw [hl] at rx; rw [hm] at ry
      have := run_eq hcx 8 T i (.agg us) heq hti hcv (.agg l) (.agg m) _ _ hlt hmt rx ry 10000 (by omega)
      obtain ⟨xs, hxs, _⟩ := rx
      obtain ⟨ys, hys, _⟩ := ry
      rw [hxs, hys] at this
      exact ⟨xs, ys, hxs, hys, _, by simp [E.den, hl, hm], this⟩
     split at h
     ·rename_i hop
      subst hop
      simp only [Option.some.injEq] at h; subst h
      refine ⟨_, rfl, rfl, fun g hg => by simp [men, K.has] at hg, fun hg _ => ?_⟩
      obtain ⟨xs, ys, e1, e2, q, e3, e4⟩ := hgo hg
      refine ⟨.bool q, w, ?_, Below.refl _ _, relT_v hg ?_⟩
      ·simp [execOp, ho, e1, e2, run_eqGuard_agg w .eql T x y xs ys hgd, run_eql_struct, e4]
      ·simp only [relK, e3, R]
     ·split at h
      ·rename_i hop
       subst hop
       simp only [Option.some.injEq] at h; subst h
       refine ⟨_, rfl, rfl, fun g hg => by simp [men, K.has] at hg, fun hg _ => ?_⟩
       obtain ⟨xs, ys, e1, e2, q, e3, e4⟩ := hgo hg
       refine ⟨.bool (!q), w, ?_, Below.refl _ _, relT_v hg ?_⟩
       ·simp [execOp, ho, e1, e2, run_eqGuard_agg w .neq T x y xs ys hgd, run_neq_struct, e4]
       ·simp only [E.den, D.bool.injEq] at e3
        simp only [relK, E.den, e3, D.toB_bool, R]
      ·simp at h
    ·simp at h
   ·simp at h
  ·rename_i hka hkb
   split at h
   ·rename_i i hti
    split at h
    ·rename_i hv
     obtain ⟨_, d1, _, _, _, _, hd1, hdc1⟩ := ty_c hcx hti hv
     simp only [DescC] at hdc1; subst hdc1
     split at h
     ·rename_i hop
      subst hop
      simp only [Option.some.injEq] at h; subst h
      refine ⟨_, rfl, rfl, fun g hg => by simp [men, K.has] at hg, fun hg _ => ?_⟩
      obtain ⟨m, hm, hmv⟩ := eval_bool hΓ hka ((val_rel hs hx).1 hg)
      obtain ⟨q, hq, hqv⟩ := eval_bool hΓ hkb ((val_rel hs hy).1 hg)
      refine ⟨.bool (m == q), w, ?_, Below.refl _ _, relT_v hg ?_⟩
      ·simp [execOp, ho, hmv, hqv, eqGuard, binOp, Op.equal, Op.maxDepth, run_equalIn_bool' w 9999 T m q hd1]
      ·simp only [relK, E.den, hm, hq, D.toB_bool, R]
     ·split at h
      ·rename_i hop
       subst hop
       simp only [Option.some.injEq] at h; subst h
       refine ⟨_, rfl, rfl, fun g hg => by simp [men, K.has] at hg, fun hg _ => ?_⟩
       obtain ⟨m, hm, hmv⟩ := eval_bool hΓ hka ((val_rel hs hx).1 hg)
       obtain ⟨q, hq, hqv⟩ := eval_bool hΓ hkb ((val_rel hs hy).1 hg)
       refine ⟨.bool (!(m == q)), w, ?_, Below.refl _ _, relT_v hg ?_⟩
       ·simp [execOp, ho, hmv, hqv, eqGuard, binOp, Op.equal, Op.maxDepth, run_equalIn_bool' w 9999 T m q hd1]
       ·simp only [relK, E.den, hm, hq, D.toB_bool, R]
      ·simp at h
    ·simp at h
   ·simp at h
  ·simp at h
 ·simp at h
theorem Rws.cut {M : Addr → Prop} {m : Nat} {rows : List (List D)} {b o : Nat} (h : Rws w M rows b o) (hn : ∀ r ∈ rows, r.length = m) (l k : Nat) : Rws w M ((rows.drop l).take k) b (o + l * m) := by
 refine Rws.of (n := m) (fun r hr => hn r (List.mem_of_mem_drop (List.mem_of_mem_take hr))) fun i r hr => ?_
 simp only [List.getElem?_take, List.getElem?_drop] at hr
 split at hr
 ·have := h.get hn hr
  rwa [show o + (l + i) * m = o + l * m + i * m by rw [Nat.add_mul]; omega] at this
 ·simp at hr
theorem run_sliceBound {v : Value} {k : IntKind} {i : Int} (hv : v = .int k i) {y : Nat} {code : BoundsCode} (h0 : 0 ≤ i) (h1 : i ≤ y) : (Instr.sliceBound v y code).run P w = .ok i.toNat w := by
 subst hv; simp [Instr.sliceBound, asIntOf, h0, h1]
theorem bounds_run {isS : Bool} {len cap : Nat} {lo hi : Option Value} {l h : Int} (hl : (lo = none ∧ l = 0) ∨ ∃ k, lo = some (.int k l)) (hh : (hi = none ∧ h = len) ∨ ∃ k, hi = some (.int k h)) (h1 : 0 ≤ l) (h2 : l ≤ h) (h3 : h ≤ len) (h4 : len ≤ cap) :
  (Instr.sliceBounds isS len cap lo hi none).run P w = .ok (l.toNat, h.toNat, cap) w := by
 have hhc : h ≤ (cap : Int) := by omega
 have h0 : 0 ≤ h := by omega
 have e2 : ((h.toNat : Nat) : Int) = h := by omega
 rcases hl with ⟨rfl, rfl⟩ | ⟨k, rfl⟩ <;> rcases hh with ⟨rfl, rfl⟩ | ⟨k', rfl⟩
 ·simp [Instr.sliceBounds]
 ·simp [Instr.sliceBounds, run_sliceBound rfl h0 hhc]
 ·simp [Instr.sliceBounds, run_sliceBound (P := P) (w := w) (v := .int k l) (y := len) (code := .sliceB) rfl h1 (by omega)]
 ·simp [Instr.sliceBounds, run_sliceBound (P := P) (w := w) (v := .int k' h) (y := cap) (code := if isS = true then .sliceAcap else .sliceAlen) rfl h0 hhc, run_sliceBound (P := P) (w := w) (v := .int k l) (y := h.toNat) (code := .sliceB) rfl h1 (by omega)]
theorem sSlice (hcx : tbOk P tb tb = true) (hs : Sim c F σ bm tm a w) (hΓ : EnvTy tb.tab Γ c.env) {n : Nat} {o : Oper} {x : Operand} {lo hi : Option Operand} {T : Nat} (ho : o.op = .slice T x lo hi none) {ti : TI} (hti : tb.get T = some ti) {eff : Eff}
  (h : eSlice tb Γ gs o.dst ti (opd tb σ T x) (lo.map (opd tb σ 0)) (hi.map (opd tb σ 0)) = some eff) : PureSpec P c F gs σ bm tm a w n o eff := by
 unfold eSlice at h
 split at h
 ·rename_i kx ex kl el hx hlo
  split at h
  ·rename_i kh eh hhi
   split at h
   ·rename_i hc
    simp only [Option.some.injEq] at h; subst h
    obtain ⟨hinf, hil, hih, hseq, hsle⟩ := hc
    refine ⟨_, rfl, rfl, fun g hg => by simp [men, K.has] at hg, fun hg hr => ?_⟩
    have hin : RqH P c.env n (.cond gs (.inc ex el eh)) := hr _ (by simp)
    replace hin := hin hg
    have hvr := (val_rel hs hx).1 hg
    have hL : ∃ l : Int, (el.den c.env).toI = l ∧ ((lo.map a.eval = none ∧ l = 0) ∨ ∃ k, lo.map a.eval = some (.int k l)) := by
     cases lo with
     | none => simp at hlo; obtain ⟨_, rfl⟩ := hlo; exact ⟨0, rfl, .inl ⟨rfl, rfl⟩⟩
     | some y =>
      simp only [Option.map_some] at hlo
      obtain ⟨kk, hkk⟩ := isInt_some hil
      obtain ⟨m, hm, hmv, _⟩ := eval_int hΓ hkk ((val_rel hs hlo).1 hg)
      exact ⟨m, by simp [hm], .inr ⟨kk, by simp [hmv]⟩⟩
    have hH : ∃ l : Int, (eh.den c.env).toI = l ∧ ((hi.map a.eval = none ∧ l = lenD (ex.den c.env)) ∨ ∃ k, hi.map a.eval = some (.int k l)) := by
     cases hi with
     | none => simp at hhi; obtain ⟨_, rfl⟩ := hhi; exact ⟨_, rfl, .inl ⟨rfl, by simp [E.den]⟩⟩
     | some y =>
      simp only [Option.map_some] at hhi
      obtain ⟨kk, hkk⟩ := isInt_some hih
      obtain ⟨m, hm, hmv, _⟩ := eval_int hΓ hkk ((val_rel hs hhi).1 hg)
      exact ⟨m, by simp [hm], .inr ⟨kk, by simp [hmv]⟩⟩
    obtain ⟨l, hl, hL⟩ := hL
    obtain ⟨u, hu, hH⟩ := hH
    simp only [E.den, hl, hu, D.bool.injEq, decide_eq_true_eq] at hin
    obtain ⟨hin1, hin2, hin3⟩ := hin
    unfold isSeq at hseq
    split at hseq
    ·rename_i hv
     obtain ⟨_, d1, _, _, _, _, hd1, hdc1⟩ := ty_c hcx hti hv
     simp only [DescC] at hdc1; subst hdc1
     obtain ⟨s, hsd, hsv, hss⟩ := eval_str hΓ (by rw [hinf, hv]) hvr
     simp only [hsd, lenD] at hin3 hH
     refine ⟨.string (s.extract l.toNat u.toNat), w, ?_, Below.refl _ _, relT_v hg ?_⟩
     ·simp [execOp, ho, hsv, Instr.sliceAt, Instr.slice, run_underlying hd1, bounds_run hL hH hin1 hin2 hin3 (Nat.le_refl _)]
     ·simp only [relK, E.den, hsd, hl, hu, cutD, R]
      refine ⟨trivial, ?_⟩
      rw [ByteArray.size_extract]; omega
    ·rename_i el' hv
     obtain ⟨_, d1, _, _, _, _, hd1, hdc1⟩ := ty_c hcx hti hv
     simp only [DescC] at hdc1; subst hdc1
     obtain ⟨rows, hrows, hrt, ad, len, cap, hval, hlen, hcap, hmax, hnone, hcells⟩ := eval_sl hΓ (by rw [hinf, hv]) hvr
     simp only [hrows, lenD] at hin3 hH
     rw [← hlen] at hin3 hH
     rw [hv] at hsle
     simp only [slElem] at hsle
     split at hsle
     ·rename_i ei hei
      split at hsle
      ·rename_i v1 hv1
       obtain ⟨j, hj, hjs, _⟩ := ty_one hcx hei hv1
       have htab : tb.tab el' = v1.cells := by simp [TB.tab, hei, TI.cells, hv1]
       refine ⟨.slice (if cap = l.toNat then ad else ad.map (·.add (l.toNat * v1.cells.length))) (u.toNat - l.toNat) (cap - l.toNat), w, ?_, Below.refl _ _, relT_v hg ?_⟩
       ·simp [execOp, ho, hval, Instr.sliceAt, Instr.slice, run_underlying hd1, bounds_run hL hH hin1 hin2 hin3 hcap, run_sizeOf hj, hjs]
       ·simp only [relK, E.den, hrows, hl, hu, cutD, R]
        refine ⟨_, _, _, rfl, by simp; omega, by omega, by omega, fun hn => ?_, fun b o' s he => ?_⟩
        ·rcases ad with _ | ad
         ·have := hnone rfl; omega
         ·split at hn
          ·cases hn
          ·simp at hn
        ·by_cases hz : u.toNat - l.toNat = 0
         ·rw [hz, List.take_zero]; exact ⟨fun h => absurd h (by omega), trivial⟩
         ·have hne : cap ≠ l.toNat := by omega
          rw [if_neg hne] at he
          rcases ad with _ | ⟨b1, o1, s1⟩
          ·simp at he
          ·obtain ⟨hs1, hrw⟩ := hcells b1 o1 s1 rfl
           have := hs1 (by omega); subst this
           simp only [Option.map_some, addr_add, Option.some.injEq, Addr.mk.injEq] at he
           obtain ⟨rfl, rfl, rfl⟩ := he
           exact ⟨fun _ => rfl, hrw.cut (fun r hr => by rw [hrt.len r hr, htab]) _ _⟩
      ·simp at hsle
     ·simp at hsle
    ·simp at hseq
   ·simp at h
  ·simp at h
 ·simp at h
end
end Go.Proofs.YtbgcaneflfdddaaGreatDoor
