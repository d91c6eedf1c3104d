/- Regions whose order is left open: in whatever order their edges allow they do what they do in the order of the text. No program in sight. -/
import Derived.Test.YtgaeigomhhbkfaaGreatAReg
namespace Go.Proofs.YtgaeigomhhbkfaaGreat
open Go.RowKit
set_option linter.unusedVariables false
set_option linter.unusedSimpArgs false
set_option linter.unusedSectionVars false
variable [GC]

section
variable {tb : TB} {Γ : List VT} {gs : Gd} {σ σ' : Nat → ST} {ops : Array Oper}
theorem opd_congr {T : Nat} {x : Operand} (h : ∀ t, x = .tmp t → σ' (3 * t) = σ (3 * t)) : opd tb σ' T x = opd tb σ T x := by
  cases x with
  | tmp t => simp only [opd, h t rfl]
  | _ => rfl
theorem opd_ptr {T : Nat} {x : Operand} {g : Gd} {id off : Nat} (h : opd tb σ T x = some (.ptr g id off)) : ∃ t, x = .tmp t ∧ σ (3 * t) = .ptr g id off := by
  cases x with
  | tmp t => simp only [opd, Option.some.injEq] at h; exact ⟨t, rfl, h⟩
  | const v =>
    simp only [opd] at h
    unfold constST at h
    (repeat' split at h) <;> simp at h
  | _ => simp [opd] at h
theorem opd_mp {T : Nat} {x : Operand} {g0 : Gd} {g n : Nat} {i : E} {off : Nat} (h : opd tb σ T x = some (.mp g0 g n i off)) : ∃ t, x = .tmp t ∧ σ (3 * t) = .mp g0 g n i off := by
  cases x with
  | tmp t => simp only [opd, Option.some.injEq] at h; exact ⟨t, rfl, h⟩
  | const v =>
    simp only [opd] at h
    unfold constST at h
    (repeat' split at h) <;> simp at h
  | _ => simp [opd] at h
theorem opd_ip {T : Nat} {x : Operand} {gd : Gd} {g gv n : Nat} {i : E} {off : Nat} {j : E} {m o2 : Nat} (h : opd tb σ T x = some (.ip gd g gv n i off j m o2)) : ∃ t, x = .tmp t ∧ σ (3 * t) = .ip gd g gv n i off j m o2 := by
  cases x with
  | tmp t => simp only [opd, Option.some.injEq] at h; exact ⟨t, rfl, h⟩
  | const v =>
    simp only [opd] at h
    unfold constST at h
    (repeat' split at h) <;> simp at h
  | _ => simp [opd] at h
theorem opd_iv {T : Nat} {x : Operand} {gd : Gd} {g gv n : Nat} {i : E} {off : Nat} {l : E} (h : opd tb σ T x = some (.iv gd g gv n i off l)) : ∃ t, x = .tmp t ∧ σ (3 * t) = .iv gd g gv n i off l := by
  cases x with
  | tmp t => simp only [opd, Option.some.injEq] at h; exact ⟨t, rfl, h⟩
  | const v =>
    simp only [opd] at h
    unfold constST at h
    (repeat' split at h) <;> simp at h
  | _ => simp [opd] at h
theorem opd_own {T : Nat} {x : Operand} {gs : Gd} {g : Nat} {e : E} (h : opd tb σ T x = some (.v gs (.own g) e)) : ∃ t, x = .tmp t ∧ σ (3 * t) = .v gs (.own g) e := by
  cases x with
  | tmp t => simp only [opd, Option.some.injEq] at h; exact ⟨t, rfl, h⟩
  | const v =>
    simp only [opd] at h
    unfold constST at h
    (repeat' split at h) <;> simp at h
  | _ => simp [opd] at h
/-- Two states look alike where an operation looks. -/
structure Alike (ops : Array Oper) (o : Oper) (σ σ' : Nat → ST) : Prop where
  t : ∀ t ∈ tmpsOf ops o, σ' (3 * t) = σ (3 * t)
  p : looks o.op = true → ∀ t ∈ tmpsOf ops o, ∀ g id off, σ (3 * t) = .ptr g id off → σ' (3 * id + 1) = σ (3 * id + 1)
  r : looks o.op = true → ∀ t ∈ tmpsOf ops o, ∀ gs g e, σ (3 * t) = .v gs (.own g) e → σ' (3 * g + 2) = σ (3 * g + 2)
  ip : looks o.op = true → ∀ t ∈ tmpsOf ops o, ∀ gd g gv n i off j m o2, σ (3 * t) = .ip gd g gv n i off j m o2 → σ' (3 * g + 2) = σ (3 * g + 2)
  iv : looks o.op = true → ∀ t ∈ tmpsOf ops o, ∀ gd g gv n i off l, σ (3 * t) = .iv gd g gv n i off l → σ' (3 * g + 2) = σ (3 * g + 2)
  m : looks o.op = true → ∀ t ∈ tmpsOf ops o, ∀ g0 g n i off, σ (3 * t) = .mp g0 g n i off → σ' (3 * g + 2) = σ (3 * g + 2)
theorem dynOf_ip : ∀ {l : List Nat} {t : Nat}, t ∈ l → ∀ {gd : Gd} {g gv n : Nat} {i : E} {off : Nat} {j : E} {m o2 : Nat}, σ (3 * t) = .ip gd g gv n i off j m o2 → 3 * g + 2 ∈ dynOf σ l
  | [], t, h, _, _, _, _, _, _, _, _, _, _ => by simp at h
  | x :: r, t, h, gd, g, gv, n, i, off, j, m, o2, he => by
    unfold dynOf
    rcases List.mem_cons.1 h with rfl | h
    · rw [he]; simp
    · have := dynOf_ip h he
      split <;> simp [this]
theorem dynOf_iv : ∀ {l : List Nat} {t : Nat}, t ∈ l → ∀ {gd : Gd} {g gv n : Nat} {i : E} {off : Nat} {le : E}, σ (3 * t) = .iv gd g gv n i off le → 3 * g + 2 ∈ dynOf σ l
  | [], t, h, _, _, _, _, _, _, _, _ => by simp at h
  | x :: r, t, h, gd, g, gv, n, i, off, le, he => by
    unfold dynOf
    rcases List.mem_cons.1 h with rfl | h
    · rw [he]; simp
    · have := dynOf_iv h he
      split <;> simp [this]
theorem dynOf_mp : ∀ {l : List Nat} {t : Nat}, t ∈ l → ∀ {g0 : Gd} {g n : Nat} {i : E} {off : Nat}, σ (3 * t) = .mp g0 g n i off → 3 * g + 2 ∈ dynOf σ l
  | [], t, h, _, _, _, _, _, _ => by simp at h
  | x :: r, t, h, g0, g, n, i, off, he => by
    unfold dynOf
    rcases List.mem_cons.1 h with rfl | h
    · rw [he]; simp
    · have := dynOf_mp h he
      split <;> simp [this]
theorem dynOf_ptr : ∀ {l : List Nat} {t : Nat}, t ∈ l → ∀ {g : Gd} {id off : Nat}, σ (3 * t) = .ptr g id off → 3 * id + 1 ∈ dynOf σ l
  | [], t, h, _, _, _, _ => by simp at h
  | x :: r, t, h, g, id, off, he => by
    unfold dynOf
    rcases List.mem_cons.1 h with rfl | h
    · rw [he]; simp
    · have := dynOf_ptr h he
      split <;> simp [this]
theorem dynOf_own : ∀ {l : List Nat} {t : Nat}, t ∈ l → ∀ {gs : Gd} {g : Nat} {e : E}, σ (3 * t) = .v gs (.own g) e → 3 * g + 2 ∈ dynOf σ l
  | [], t, h, _, _, _, _ => by simp at h
  | x :: r, t, h, gs, g, e, he => by
    unfold dynOf
    rcases List.mem_cons.1 h with rfl | h
    · rw [he]; simp
    · have := dynOf_own h he
      split <;> simp [this]
theorem Alike.of {o : Oper} (h : ∀ l ∈ readsOf ops σ o, σ' l = σ l) : Alike ops o σ σ' where
  t := fun t ht => h _ (by unfold readsOf; simp only [List.mem_append, List.mem_map]; exact .inl ⟨t, ht, rfl⟩)
  p := fun hl t ht g id off he => h _ (by unfold readsOf; rw [hl]; simp only [List.mem_append, cond_true]; exact .inr (dynOf_ptr ht he))
  r := fun hl t ht gs g e he => h _ (by unfold readsOf; rw [hl]; simp only [List.mem_append, cond_true]; exact .inr (dynOf_own ht he))
  ip := fun hl t ht gd g gv n i off j m o2 he => h _ (by unfold readsOf; rw [hl]; simp only [List.mem_append, cond_true]; exact .inr (dynOf_ip ht he))
  iv := fun hl t ht gd g gv n i off l he => h _ (by unfold readsOf; rw [hl]; simp only [List.mem_append, cond_true]; exact .inr (dynOf_iv ht he))
  m := fun hl t ht g0 g n i off he => h _ (by unfold readsOf; rw [hl]; simp only [List.mem_append, cond_true]; exact .inr (dynOf_mp ht he))
theorem mem_tmpsOf {o : Oper} {x : Operand} {t : Nat} (hx : x ∈ o.op.operands.toList) (e : x = .tmp t) : t ∈ tmpsOf ops o := by
  unfold tmpsOf
  simp only [List.mem_append, List.mem_filterMap]
  exact .inl ⟨x, hx, by rw [e]⟩
theorem gsOf_congr {tab : Nat → List CT} {o : Oper} (h : Alike ops o σ σ') : gsOf tab Γ ops σ' o = gsOf tab Γ ops σ o := by
  unfold gsOf
  cases hg : o.guard with
  | none => rfl
  | some jb =>
    obtain ⟨j, b⟩ := jb
    simp only
    cases hd : (ops[j]?).bind (·.dst) with
    | none => rfl
    | some d =>
      simp only
      rw [h.t d (by unfold tmpsOf; simp only [List.mem_append, hg]; exact .inr (by simp [hd]))]
theorem eLoad_congr {tab : Nat → List CT} {dst : Option Nat} {ti : TI} {s : Option ST} (h : ∀ g id off, s = some (.ptr g id off) → σ' (3 * id + 1) = σ (3 * id + 1)) : eLoad tab Γ gs dst σ' ti s = eLoad tab Γ gs dst σ ti s := by
  unfold eLoad
  cases hb : s.bind (under gs) with
  | none => rfl
  | some st =>
    cases st with
    | ptr g id off =>
      simp only
      obtain ⟨st0, h1, h2⟩ := bind_some' hb
      rcases under_inv h2 with ⟨_, _, _, _, _, h3⟩ | ⟨g', i', o', rfl, _, h3⟩ | ⟨_, _, _, _, _, h3⟩ <;> cases h3
      rw [h _ _ _ h1]
    | _ => rfl
theorem eLd_congr {dst : Option Nat} {ti : TI} {x : Operand} (h1 : opd tb σ' 0 x = opd tb σ 0 x) (h : ∀ g id off, opd tb σ 0 x = some (.ptr g id off) → σ' (3 * id + 1) = σ (3 * id + 1)) (hm : ∀ g0 g n i off, opd tb σ 0 x = some (.mp g0 g n i off) → σ' (3 * g + 2) = σ (3 * g + 2)) (hp : ∀ gd g gv n i off j m o2, opd tb σ 0 x = some (.ip gd g gv n i off j m o2) → σ' (3 * g + 2) = σ (3 * g + 2)) : eLd tb Γ gs dst σ' ti x = eLd tb Γ gs dst σ ti x := by
  have hl := eLoad_congr (tab := tb.tab) (Γ := Γ) (gs := gs) (dst := dst) (ti := ti) h
  cases x with
  | global g => rfl
  | _ =>
    simp only [eLd]
    rw [h1]
    revert hl hm hp
    generalize opd tb σ 0 _ = s
    intro hm hp hl
    split
    · rfl
    · rename_i g0 g n i off
      unfold eMLoad
      rw [hm _ _ _ _ _ rfl]
    · unfold eILoad
      rw [hp _ _ _ _ _ _ _ _ _ rfl]
    · exact hl
theorem eStore_congr {tab : Nat → List CT} {dst : Option Nat} {ti : TI} {s x : Option ST} (h : ∀ g id off, s = some (.ptr g id off) → σ' (3 * id + 1) = σ (3 * id + 1)) : eStore tab Γ gs dst σ' ti s x = eStore tab Γ gs dst σ ti s x := by
  unfold eStore
  cases gs with
  | cons _ _ => rfl
  | nil =>
    cases dst with
    | some _ => rfl
    | none =>
      cases hb : s.bind (under []) with
      | none => rfl
      | some st =>
        cases st with
        | ptr g id off =>
          obtain ⟨st0, h1, h2⟩ := bind_some' hb
          rcases under_inv h2 with ⟨_, _, _, _, _, h3⟩ | ⟨g', i', o', rfl, _, h3⟩ | ⟨_, _, _, _, _, h3⟩ <;> cases h3
          cases hx : undV [] x with
          | none => rfl
          | some ke =>
            obtain ⟨k, e⟩ := ke
            simp only
            rw [h _ _ _ h1]
        | _ => cases hx : undV [] x <;> rfl
theorem eSt_congr {dst : Option Nat} {g0 : Nat} {ti : TI} {s x : Option ST} (hm : ∀ g0 g n i off, s = some (.mp g0 g n i off) → σ' (3 * g + 2) = σ (3 * g + 2)) (hp : ∀ gd g gv n i off j m o2, s = some (.ip gd g gv n i off j m o2) → σ' (3 * g + 2) = σ (3 * g + 2))
    (ho : ∀ gs g e, x = some (.v gs (.own g) e) → σ' (3 * g + 2) = σ (3 * g + 2)) (he : eStore tb.tab Γ gs dst σ' ti s x = eStore tb.tab Γ gs dst σ ti s x) : eSt tb Γ gs dst σ' g0 ti s x = eSt tb Γ gs dst σ g0 ti s x := by
  unfold eSt
  split
  · rename_i g n i off
    unfold eMStore
    rw [hm _ _ _ _ _ rfl]
    cases hst : σ (3 * g + 2) with
    | live m =>
      obtain ⟨n', _ | ⟨e0, dp⟩⟩ := m
      · rfl
      cases hu : undV [] x with
      | none => rfl
      | some ke =>
        obtain ⟨k, e⟩ := ke
        obtain ⟨st, g', h1, h2⟩ := undV_some hu
        have hk : ∀ h', k = .own h' → σ' (3 * h' + 2) = σ (3 * h' + 2) := by
          rintro h' rfl
          rcases under_inv h2 with ⟨g2, k2, e2, rfl, _, h3⟩ | ⟨_, _, _, _, _, h3⟩ | ⟨_, _, _, _, _, h3⟩ <;> cases h3
          exact ho _ _ _ h1
        cases k with
        | own h' =>
          rcases dp with _ | ⟨gv, ms⟩
          · rfl
          · simp only [hk h' rfl]
        | _ => rfl
    | _ => rfl
  · unfold eIStore
    rw [hp _ _ _ _ _ _ _ _ _ rfl]
  · exact he
theorem eParts_congr {fs : List (Nat × Nat)} : ∀ {parts : List (Nat × Operand)} {cs : List (K × E)}, (∀ p ∈ parts, ∀ t, p.2 = .tmp t → σ' (3 * t) = σ (3 * t)) → eParts tb Γ gs σ' fs parts cs = eParts tb Γ gs σ fs parts cs
  | [], cs, _ => rfl
  | (f, x) :: r, cs, h => by
    unfold eParts
    cases fs[f]? with
    | none => rfl
    | some p =>
      obtain ⟨fo, ft⟩ := p
      simp only
      rw [opd_congr (fun t ht => h (f, x) (by simp) t ht)]
      have ih : ∀ cs, eParts tb Γ gs σ' fs r cs = eParts tb Γ gs σ fs r cs := fun cs => eParts_congr fun p hp => h p (by simp [hp])
      simp only [ih]
theorem eRows_congr {el : Nat} : ∀ {parts : List (Nat × Operand)} {n : Nat} {acc : E}, (∀ p ∈ parts, ∀ t, p.2 = .tmp t → σ' (3 * t) = σ (3 * t)) → eRows tb Γ gs σ' el n parts acc = eRows tb Γ gs σ el n parts acc
  | [], n, acc, _ => rfl
  | (f, x) :: r, n, acc, h => by
    unfold eRows
    rw [opd_congr (fun t ht => h (f, x) (by simp) t ht)]
    have ih : ∀ n acc, eRows tb Γ gs σ' el n r acc = eRows tb Γ gs σ el n r acc := fun n acc => eRows_congr fun p hp => h p (by simp [hp])
    simp only [ih]
theorem eArgs_congr : ∀ {xs : List Operand} {Ts : List Nat}, (∀ x ∈ xs, ∀ t, x = .tmp t → σ' (3 * t) = σ (3 * t)) → eArgs tb Γ gs σ' xs Ts = eArgs tb Γ gs σ xs Ts
  | [], [], _ => rfl
  | [], _ :: _, _ => rfl
  | _ :: _, [], _ => rfl
  | x :: xs, T :: Ts, h => by
    unfold eArgs
    rw [opd_congr (fun t ht => h x (by simp) t ht), eArgs_congr fun y hy => h y (by simp [hy])]
theorem eCall_congr {dst : Option Nat} {g : Nat} {rt : List (Nat × Nat)} {ti : TI} {f : Nat} {args : List Operand} {Ts : List Nat} (h : ∀ x ∈ args, ∀ t, x = .tmp t → σ' (3 * t) = σ (3 * t)) (hp : ∀ x ∈ args, ∀ t, x = .tmp t → ∀ g id off, σ (3 * t) = .ptr g id off → σ' (3 * id + 1) = σ (3 * id + 1)) :
    eCall tb Γ gs dst σ' g rt ti f args Ts = eCall tb Γ gs dst σ g rt ti f args Ts := by
  unfold eCall
  cases args with
  | nil => cases Ts <;> rfl
  | cons x xs =>
    cases Ts with
    | nil => rfl
    | cons T Ts =>
      simp only
      rw [opd_congr (fun t ht => h x (by simp) t ht)]
      cases hi : isPtr (opd tb σ T x) with
      | none => simp only; rw [eArgs_congr h]
      | some gi =>
        obtain ⟨g, id⟩ := gi
        simp only
        have hx : σ' (3 * id + 1) = σ (3 * id + 1) := by
          unfold isPtr at hi
          split at hi
          · rename_i g2 id2 hst
            simp only [Option.some.injEq, Prod.mk.injEq] at hi
            obtain ⟨rfl, rfl⟩ := hi
            obtain ⟨t, ht, hs⟩ := opd_ptr hst
            exact hp x (by simp) t ht _ _ _ hs
          · simp at hi
        rw [hx]
        have e : eArgs tb Γ [] σ' xs Ts = eArgs tb Γ [] σ xs Ts := eArgs_congr fun y hy => h y (by simp [hy])
        rw [e]
theorem eAppend_congr {dst : Option Nat} {g : Nat} {ti ui : TI} {s x : Option ST} (h : ∀ gs g e, s = some (.v gs (.own g) e) → σ' (3 * g + 2) = σ (3 * g + 2)) : eAppend tb Γ gs dst σ' g ti ui s x = eAppend tb Γ gs dst σ g ti ui s x := by
  unfold eAppend
  cases gs with
  | cons _ _ => rfl
  | nil =>
    cases hu : undV [] s with
    | none => rfl
    | some ke =>
      obtain ⟨k, e⟩ := ke
      obtain ⟨st, g', h1, h2⟩ := undV_some hu
      have hk : ∀ h', k = .own h' → σ' (3 * h' + 2) = σ (3 * h' + 2) := by
        rintro h' rfl
        rcases under_inv h2 with ⟨g2, k2, e2, rfl, _, h3⟩ | ⟨_, _, _, _, _, h3⟩ | ⟨_, _, _, _, _, h3⟩ <;> cases h3
        exact h _ _ _ h1
      rcases ti.vt with (⟨_ | _ | _ | el⟩ | _) | _ <;> try rfl
      rcases ui.vt with (⟨_ | _ | _ | el'⟩ | _) | _ <;> try rfl
      simp only
      cases undV [] x with
      | none => rfl
      | some ke' =>
        obtain ⟨k', e'⟩ := ke'
        cases tb.get el with
        | none => rfl
        | some ei =>
          simp only
          cases k with
          | own h' => simp only [hk h' rfl]
          | _ => rfl
theorem eApp_congr {dst : Option Nat} {g : Nat} {ti ui : TI} {s x : Option ST} (h : ∀ gs g e, s = some (.v gs (.own g) e) → σ' (3 * g + 2) = σ (3 * g + 2)) (hi : ∀ gd g gv n i off l, x = some (.iv gd g gv n i off l) → σ' (3 * g + 2) = σ (3 * g + 2)) : eApp tb Γ gs dst σ' g ti ui s x = eApp tb Γ gs dst σ g ti ui s x := by
  unfold eApp
  split
  · unfold eAppI
    rw [hi _ _ _ _ _ _ _ rfl]
  · exact eAppend_congr h
theorem eSl_congr {dst : Option Nat} {g : Nat} {ti : TI} {x : Option ST} {lo hi : Option (Option ST)} (h : ∀ gs g e, x = some (.v gs (.own g) e) → σ' (3 * g + 2) = σ (3 * g + 2)) : eSl tb Γ gs dst σ' g ti x lo hi = eSl tb Γ gs dst σ g ti x lo hi := by
  unfold eSl
  split
  · unfold eCutOwn
    rw [h _ _ _ rfl]
  · rfl
theorem eCaps_congr {tab : Nat → List CT} : ∀ {xs : List Operand} {ids : List Nat} {e : E}, (∀ x ∈ xs, ∀ t, x = .tmp t → σ' (3 * t) = σ (3 * t)) → (∀ x ∈ xs, ∀ t, x = .tmp t → ∀ gd id off, σ (3 * t) = .ptr gd id off → σ' (3 * id + 1) = σ (3 * id + 1)) → eCaps tab Γ σ' xs ids e = eCaps tab Γ σ xs ids e
  | [], _, _, _, _ => rfl
  | .tmp t :: r, ids, e, h, hp => by
    simp only [eCaps]
    rw [h (.tmp t) (by simp) t rfl]
    split
    · rename_i id hs
      rw [hp (.tmp t) (by simp) t rfl _ _ _ hs]
      split
      · split
        · exact eCaps_congr (fun x hx => h x (by simp [hx])) fun x hx => hp x (by simp [hx])
        · rfl
      · rfl
    · rfl
  | .const _ :: _, _, _, _, _ => rfl
  | .global _ :: _, _, _, _, _ => rfl
  | .func _ :: _, _, _, _, _ => rfl
theorem eMakeFn_congr {tab : Nat → List CT} {dst : Option Nat} {f : Nat} {first xs : List Operand} (h : ∀ x ∈ xs, ∀ t, x = .tmp t → σ' (3 * t) = σ (3 * t)) (hp : ∀ x ∈ xs, ∀ t, x = .tmp t → ∀ gd id off, σ (3 * t) = .ptr gd id off → σ' (3 * id + 1) = σ (3 * id + 1)) : eMakeFn tab Γ gs dst σ' f first xs = eMakeFn tab Γ gs dst σ f first xs := by
  unfold eMakeFn
  rw [eCaps_congr h hp]
theorem opEff_congr {cx : Cx} {g : Nat} {o : Oper} (h : Alike ops o σ σ') : opEff cx ops Γ g o σ' = opEff cx ops Γ g o σ := by
  have hop : ∀ (T : Nat) (x : Operand), x ∈ o.op.operands.toList → opd cx.tb σ' T x = opd cx.tb σ T x := fun T x hx => opd_congr fun t ht => h.t t (mem_tmpsOf hx ht)
  have hpt : looks o.op = true → ∀ (T : Nat) (x : Operand), x ∈ o.op.operands.toList → ∀ g id off, opd cx.tb σ T x = some (.ptr g id off) → σ' (3 * id + 1) = σ (3 * id + 1) := fun hl T x hx g id off he => by
    obtain ⟨t, ht, hs⟩ := opd_ptr he
    exact h.p hl t (mem_tmpsOf hx ht) _ _ _ hs
  have hiv : looks o.op = true → ∀ (T : Nat) (x : Operand), x ∈ o.op.operands.toList → ∀ gd g gv n i off l, opd cx.tb σ T x = some (.iv gd g gv n i off l) → σ' (3 * g + 2) = σ (3 * g + 2) := fun hl T x hx gd g gv n i off l he => by
    obtain ⟨t, ht, hs⟩ := opd_iv he
    exact h.iv hl t (mem_tmpsOf hx ht) _ _ _ _ _ _ _ hs
  have hip : looks o.op = true → ∀ (T : Nat) (x : Operand), x ∈ o.op.operands.toList → ∀ gd g gv n i off j m o2, opd cx.tb σ T x = some (.ip gd g gv n i off j m o2) → σ' (3 * g + 2) = σ (3 * g + 2) := fun hl T x hx gd g gv n i off j m o2 he => by
    obtain ⟨t, ht, hs⟩ := opd_ip he
    exact h.ip hl t (mem_tmpsOf hx ht) _ _ _ _ _ _ _ _ _ hs
  have hmp : looks o.op = true → ∀ (T : Nat) (x : Operand), x ∈ o.op.operands.toList → ∀ g0 g n i off, opd cx.tb σ T x = some (.mp g0 g n i off) → σ' (3 * g + 2) = σ (3 * g + 2) := fun hl T x hx g0 g n i off he => by
    obtain ⟨t, ht, hs⟩ := opd_mp he
    exact h.m hl t (mem_tmpsOf hx ht) _ _ _ _ _ hs
  have how : looks o.op = true → ∀ (T : Nat) (x : Operand), x ∈ o.op.operands.toList → ∀ gs g e, opd cx.tb σ T x = some (.v gs (.own g) e) → σ' (3 * g + 2) = σ (3 * g + 2) := fun hl T x hx gs g e he => by
    obtain ⟨t, ht, hs⟩ := opd_own he
    exact h.r hl t (mem_tmpsOf hx ht) _ _ _ hs
  unfold opEff
  rw [gsOf_congr h]
  cases hgs : gsOf cx.tb.tab Γ ops σ o with
  | none => rfl
  | some gs =>
    simp only
    congr 1
    cases ho : o.op with
    | move x => simp only; rw [hop _ x (by simp [ho, Op.operands])]
    | assign x => simp only; rw [hop _ x (by simp [ho, Op.operands])]
    | load T x =>
      simp only
      cases cx.tb.get T with
      | none => rfl
      | some ti => simp only; exact eLd_congr (hop _ x (by simp [ho, Op.operands])) (fun g id off he => hpt (by rw [ho]; rfl) 0 x (by simp [ho, Op.operands]) g id off he) (fun g0 g n i off he => hmp (by rw [ho]; rfl) 0 x (by simp [ho, Op.operands]) g0 g n i off he) fun gd g gv n i off j m o2 he => hip (by rw [ho]; rfl) 0 x (by simp [ho, Op.operands]) gd g gv n i off j m o2 he
    | store T y x =>
      simp only
      rw [hop _ y (by simp [ho, Op.operands]), hop _ x (by simp [ho, Op.operands])]
      cases cx.tb.get T with
      | none => rfl
      | some ti => simp only; exact eSt_congr (fun g0 g n i off he => hmp (by rw [ho]; rfl) 0 y (by simp [ho, Op.operands]) g0 g n i off he) (fun gd g gv n i off j m o2 he => hip (by rw [ho]; rfl) 0 y (by simp [ho, Op.operands]) gd g gv n i off j m o2 he) (fun gs g e he => how (by rw [ho]; rfl) T x (by simp [ho, Op.operands]) gs g e he) (eStore_congr fun g id off he => hpt (by rw [ho]; rfl) 0 y (by simp [ho, Op.operands]) g id off he)
    | fieldAddr T x f => simp only; rw [hop _ x (by simp [ho, Op.operands])]
    | indexAddr T x i =>
      have hx := hop T x (by simp [ho, Op.operands])
      have hi := hop 0 i (by simp [ho, Op.operands])
      have hq : ∀ ti, eIdx cx.tb Γ gs o.dst σ' ti T x i = eIdx cx.tb Γ gs o.dst σ ti T x i := by
        intro ti
        cases x <;> simp only [eIdx, hx, hi]
      simp only [hq]
    | index T x i => simp only; rw [hop _ x (by simp [ho, Op.operands]), hop _ i (by simp [ho, Op.operands])]
    | box T x => simp only; rw [hop _ x (by simp [ho, Op.operands])]
    | makeSlice T l cc => simp only; rw [hop _ l (by simp [ho, Op.operands]), hop _ cc (by simp [ho, Op.operands])]
    | build T parts =>
      simp only
      cases cx.tb.get T with
      | none => rfl
      | some ti =>
        simp only
        unfold eBuild
        cases ti.vt with
        | tup _ => rfl
        | one v =>
          cases v with
          | c _ => rfl
          | agg ts => simp only; rw [eParts_congr fun p hp t ht => h.t t (mem_tmpsOf (x := p.2) (by simp only [ho, Op.operands, List.mem_map]; exact ⟨p, hp, rfl⟩) ht)]
    | buildSlice T len parts =>
      simp only
      cases cx.tb.get T with
      | none => rfl
      | some ti =>
        simp only
        have hrw : ∀ gs' el, eRows cx.tb Γ gs' σ' el 0 parts.toList (.nilS el) = eRows cx.tb Γ gs' σ el 0 parts.toList (.nilS el) := fun gs' el =>
          eRows_congr fun p hp t ht => h.t t (mem_tmpsOf (x := p.2) (by simp only [ho, Op.operands, List.mem_map]; exact ⟨p, hp, rfl⟩) ht)
        unfold eBuildSlice eBuildOwn
        simp only [hrw]
    | slice T x lo hi mx =>
      cases mx with
      | some _ => rfl
      | none =>
        simp only
        rw [hop _ x (by simp [ho, Op.operands])]
        have e1 : lo.map (opd cx.tb σ' 0) = lo.map (opd cx.tb σ 0) := by
          cases lo with
          | none => rfl
          | some y => simp only [Option.map_some]; rw [hop _ y (by simp [ho, Op.operands])]
        have e2 : hi.map (opd cx.tb σ' 0) = hi.map (opd cx.tb σ 0) := by
          cases hi with
          | none => rfl
          | some y => simp only [Option.map_some]; rw [hop _ y (by simp [ho, Op.operands])]
        rw [e1, e2]
        cases cx.tb.get T with
        | none => rfl
        | some ti => exact eSl_congr fun gs g e he => how (by rw [ho]; rfl) T x (by simp [ho, Op.operands]) gs g e he
    | convert S T x => simp only; rw [hop _ x (by simp [ho, Op.operands])]
    | extract x i => simp only; rw [hop _ x (by simp [ho, Op.operands])]
    | unOp op T x =>
      cases op <;> first | rfl | (simp only; rw [hop _ x (by simp [ho, Op.operands])])
    | pick x y z => simp only; rw [hop _ x (by simp [ho, Op.operands]), hop _ y (by simp [ho, Op.operands]), hop _ z (by simp [ho, Op.operands])]
    | makeFunc fn first caps =>
      cases fn with
      | func f =>
        simp only
        have hc : ∀ x ∈ caps.toList, x ∈ o.op.operands.toList := fun x hx => by rw [ho]; simp only [Op.operands, Array.toList_append, List.mem_append]; exact .inr hx
        exact eMakeFn_congr (fun x hx t ht => h.t t (mem_tmpsOf (hc x hx) ht)) fun x hx t ht g id off he => h.p (by rw [ho]; rfl) t (mem_tmpsOf (hc x hx) ht) _ _ _ he
      | _ => rfl
    | nilCheck x => simp only; rw [hop _ x (by simp [ho, Op.operands])]
    | binOp op T x y T' => simp only; rw [hop _ x (by simp [ho, Op.operands]), hop _ y (by simp [ho, Op.operands])]
    | call cl =>
      have hargs : ∀ x ∈ cl.args.toList, x ∈ o.op.operands.toList := fun x hx => by
        rw [ho]
        simp only [Op.operands, Call.operands]
        cases cl.callee <;> simp <;> first | exact .inr (by simpa using hx) | (simpa using hx)
      simp only
      cases hcl : cl.callee with
      | invoke r m => rfl
      | value f =>
        cases f with
        | func f =>
          simp only
          cases cx.tb.get o.type with
          | none => rfl
          | some ti =>
            simp only
            cases isNew ti with
            | some nb => simp only; unfold eNew; rw [eArgs_congr fun x hx t ht => h.t t (mem_tmpsOf (hargs x hx) ht)]
            | none => exact eCall_congr (fun x hx t ht => h.t t (mem_tmpsOf (hargs x hx) ht)) (fun x hx t ht g id off he => h.p (by rw [ho]; rfl) t (mem_tmpsOf (hargs x hx) ht) _ _ _ he)
        | tmp t =>
          simp only
          have hx : opd cx.tb σ' 0 (.tmp t) = opd cx.tb σ 0 (.tmp t) := hop 0 (.tmp t) (by simp [ho, Op.operands, Call.operands, hcl])
          rw [hx]
          cases cx.tb.get o.type with
          | none => rfl
          | some ti => simp only; unfold eCallV; rw [eArgs_congr fun x hx t ht => h.t t (mem_tmpsOf (hargs x hx) ht)]
        | _ => rfl
      | builtin b =>
        cases b with
        | len =>
          simp only
          split
          · rename_i x T har hat
            rw [hop _ x (hargs x (by rw [har]; simp))]
          · rfl
        | append =>
          simp only
          split
          · rename_i x y T U har hat
            rw [hop _ x (hargs x (by rw [har]; simp)), hop _ y (hargs y (by rw [har]; simp))]
            split
            · exact eApp_congr (fun gs g e he => how (by rw [ho]; rfl) T x (hargs x (by rw [har]; simp)) gs g e he) fun gd g gv n i off l he => hiv (by rw [ho]; rfl) U y (hargs y (by rw [har]; simp)) gd g gv n i off l he
            · rfl
          · rfl
        | _ => rfl
    | _ => rfl
end
end Go.Proofs.YtgaeigomhhbkfaaGreat
