/- Regions whose order is left open: in whatever order their edges allow they do what they do in the order of the text. No program in sight. -/
import Derived.Test.YtimickglpboilaaGreatN5
import Derived.Deep.LoopGhost
set_option linter.unusedVariables false
set_option linter.unusedSimpArgs false
set_option linter.unusedSectionVars false
namespace Go.Proofs.YtimickglpboilaaGreat
open Go.RowKit
variable [GC]
section
variable {tb : TB} {Γ : List VT} {gs : Gd} {σ σ' : Nat → ST} {ops : Array Oper}
theorem opd_congr {T : Nat} {x : Operand} (h : ∀ t, x = .tmp t → σ' (3 * t) = σ (3 * t)) : opd tb σ' T x = opd tb σ T x := by
 cases x with
 | tmp t => simp only [opd, h t rfl]
 | _ => rfl
theorem opd_ptr {T : Nat} {x : Operand} {g : Gd} {id off : Nat} (h : opd tb σ T x = some (.ptr g id off)) : ∃ t, x = .tmp t ∧ σ (3 * t) = .ptr g id off := by
 cases x with
 | tmp t => simp only [opd, Option.some.injEq] at h; exact ⟨t, rfl, h⟩
 | const v =>
  simp only [opd] at h
  unfold constST at h
  (repeat' split at h) <;> simp at h
 | _ => simp [opd] at h
theorem opd_mp {T : Nat} {x : Operand} {g0 : Gd} {g n : Nat} {i : E} {off : Nat} (h : opd tb σ T x = some (.mp g0 g n i off)) : ∃ t, x = .tmp t ∧ σ (3 * t) = .mp g0 g n i off := by
 cases x with
 | tmp t => simp only [opd, Option.some.injEq] at h; exact ⟨t, rfl, h⟩
 | const v =>
  simp only [opd] at h
  unfold constST at h
  (repeat' split at h) <;> simp at h
 | _ => simp [opd] at h
theorem opd_ip {T : Nat} {x : Operand} {gd : Gd} {g gv n : Nat} {i : E} {off : Nat} {j : E} {m o2 : Nat} (h : opd tb σ T x = some (.ip gd g gv n i off j m o2)) : ∃ t, x = .tmp t ∧ σ (3 * t) = .ip gd g gv n i off j m o2 := by
 cases x with
 | tmp t => simp only [opd, Option.some.injEq] at h; exact ⟨t, rfl, h⟩
 | const v =>
  simp only [opd] at h
  unfold constST at h
  (repeat' split at h) <;> simp at h
 | _ => simp [opd] at h
theorem opd_iv {T : Nat} {x : Operand} {gd : Gd} {g gv n : Nat} {i : E} {off : Nat} {l : E} (h : opd tb σ T x = some (.iv gd g gv n i off l)) : ∃ t, x = .tmp t ∧ σ (3 * t) = .iv gd g gv n i off l := by
 cases x with
 | tmp t => simp only [opd, Option.some.injEq] at h; exact ⟨t, rfl, h⟩
 | const v =>
  simp only [opd] at h
  unfold constST at h
  (repeat' split at h) <;> simp at h
 | _ => simp [opd] at h
theorem opd_own {T : Nat} {x : Operand} {gs : Gd} {g : Nat} {e : E} (h : opd tb σ T x = some (.v gs (.own g) e)) : ∃ t, x = .tmp t ∧ σ (3 * t) = .v gs (.own g) e := by
 cases x with
 | tmp t => simp only [opd, Option.some.injEq] at h; exact ⟨t, rfl, h⟩
 | const v =>
  simp only [opd] at h
  unfold constST at h
  (repeat' split at h) <;> simp at h
 | _ => simp [opd] at h
structure Alike (ops : Array Oper) (o : Oper) (σ σ' : Nat → ST) : Prop where
 t : ∀ t ∈ tmpsOf ops o, σ' (3 * t) = σ (3 * t)
 p : looks o.op = true → ∀ t ∈ tmpsOf ops o, ∀ g id off, σ (3 * t) = .ptr g id off → σ' (3 * id + 1) = σ (3 * id + 1)
 r : looks o.op = true → ∀ t ∈ tmpsOf ops o, ∀ gs g e, σ (3 * t) = .v gs (.own g) e → σ' (3 * g + 2) = σ (3 * g + 2)
 ip : looks o.op = true → ∀ t ∈ tmpsOf ops o, ∀ gd g gv n i off j m o2, σ (3 * t) = .ip gd g gv n i off j m o2 → σ' (3 * g + 2) = σ (3 * g + 2)
 iv : looks o.op = true → ∀ t ∈ tmpsOf ops o, ∀ gd g gv n i off l, σ (3 * t) = .iv gd g gv n i off l → σ' (3 * g + 2) = σ (3 * g + 2)
 m : looks o.op = true → ∀ t ∈ tmpsOf ops o, ∀ g0 g n i off, σ (3 * t) = .mp g0 g n i off → σ' (3 * g + 2) = σ (3 * g + 2)
theorem dynOf_ip : ∀ {l : List Nat} {t : Nat}, t ∈ l → ∀ {gd : Gd} {g gv n : Nat} {i : E} {off : Nat} {j : E} {m o2 : Nat}, σ (3 * t) = .ip gd g gv n i off j m o2 → 3 * g + 2 ∈ dynOf σ l
 | [], t, h, _, _, _, _, _, _, _, _, _, _ => by simp at h
 | x :: r, t, h, gd, g, gv, n, i, off, j, m, o2, he => by
  unfold dynOf
  rcases List.mem_cons.1 h with rfl | h
  ·rw [he]; simp
  ·have := dynOf_ip h he
   split <;> simp [this]
theorem dynOf_iv : ∀ {l : List Nat} {t : Nat}, t ∈ l → ∀ {gd : Gd} {g gv n : Nat} {i : E} {off : Nat} {le : E}, σ (3 * t) = .iv gd g gv n i off le → 3 * g + 2 ∈ dynOf σ l
 | [], t, h, _, _, _, _, _, _, _, _ => by simp at h
 | x :: r, t, h, gd, g, gv, n, i, off, le, he => by
  unfold dynOf
  rcases List.mem_cons.1 h with rfl | h
  ·rw [he]; simp
  ·have := dynOf_iv h he
   split <;> simp [this]
theorem dynOf_mp : ∀ {l : List Nat} {t : Nat}, t ∈ l → ∀ {g0 : Gd} {g n : Nat} {i : E} {off : Nat}, σ (3 * t) = .mp g0 g n i off → 3 * g + 2 ∈ dynOf σ l
 | [], t, h, _, _, _, _, _, _ => by simp at h
 | x :: r, t, h, g0, g, n, i, off, he => by
  unfold dynOf
  rcases List.mem_cons.1 h with rfl | h
  ·rw [he]; simp
  ·have := dynOf_mp h he
   split <;> simp [this]
theorem dynOf_ptr : ∀ {l : List Nat} {t : Nat}, t ∈ l → ∀ {g : Gd} {id off : Nat}, σ (3 * t) = .ptr g id off → 3 * id + 1 ∈ dynOf σ l
 | [], t, h, _, _, _, _ => by simp at h
 | x :: r, t, h, g, id, off, he => by
  unfold dynOf
  rcases List.mem_cons.1 h with rfl | h
  ·rw [he]; simp
  ·have := dynOf_ptr h he
   split <;> simp [this]
theorem dynOf_own : ∀ {l : List Nat} {t : Nat}, t ∈ l → ∀ {gs : Gd} {g : Nat} {e : E}, σ (3 * t) = .v gs (.own g) e → 3 * g + 2 ∈ dynOf σ l
 | [], t, h, _, _, _, _ => by simp at h
 | x :: r, t, h, gs, g, e, he => by
  unfold dynOf
  rcases List.mem_cons.1 h with rfl | h
  ·rw [he]; simp
  ·have := dynOf_own h he
   split <;> simp [this]
theorem Alike.of {o : Oper} (h : ∀ l ∈ readsOf ops σ o, σ' l = σ l) : Alike ops o σ σ' where
 t := fun t ht => h _ (by unfold readsOf; simp only [List.mem_append, List.mem_map]; exact .inl ⟨t, ht, rfl⟩)
 p := fun hl t ht g id off he => h _ (by unfold readsOf; rw [hl]; simp only [List.mem_append, cond_true]; exact .inr (dynOf_ptr ht he))
 r := fun hl t ht gs g e he => h _ (by unfold readsOf; rw [hl]; simp only [List.mem_append, cond_true]; exact .inr (dynOf_own ht he))
 ip := fun hl t ht gd g gv n i off j m o2 he => h _ (by unfold readsOf; rw [hl]; simp only [List.mem_append, cond_true]; exact .inr (dynOf_ip ht he))
 iv := fun hl t ht gd g gv n i off l he => h _ (by unfold readsOf; rw [hl]; simp only [List.mem_append, cond_true]; exact .inr (dynOf_iv ht he))
 m := fun hl t ht g0 g n i off he => h _ (by unfold readsOf; rw [hl]; simp only [List.mem_append, cond_true]; exact .inr (dynOf_mp ht he))
theorem mem_tmpsOf {o : Oper} {x : Operand} {t : Nat} (hx : x ∈ o.op.operands.toList) (e : x = .tmp t) : t ∈ tmpsOf ops o := by
 unfold tmpsOf
 simp only [List.mem_append, List.mem_filterMap]
 exact .inl ⟨x, hx, by rw [e]⟩
theorem gsOf_congr {tab : Nat → List CT} {o : Oper} (h : Alike ops o σ σ') : gsOf tab Γ ops σ' o = gsOf tab Γ ops σ o := by
 unfold gsOf
 cases hg : o.guard with
 | none => rfl
 | some jb =>
  obtain ⟨j, b⟩ := jb
  simp only
  cases hd : (ops[j]?).bind (·.dst) with
  | none => rfl
  | some d =>
   simp only
   rw [h.t d (by unfold tmpsOf; simp only [List.mem_append, hg]; exact .inr (by simp [hd]))]
theorem eLoad_congr {tab : Nat → List CT} {dst : Option Nat} {ti : TI} {s : Option ST} (h : ∀ g id off, s = some (.ptr g id off) → σ' (3 * id + 1) = σ (3 * id + 1)) : eLoad tab Γ gs dst σ' ti s = eLoad tab Γ gs dst σ ti s := by
 unfold eLoad
 cases hb : s.bind (under gs) with
 | none => rfl
 | some st =>
  cases st with
  | ptr g id off =>
   simp only
   obtain ⟨st0, h1, h2⟩ := bind_some' hb
   rcases under_inv h2 with ⟨_, _, _, _, _, h3⟩ | ⟨g', i', o', rfl, _, h3⟩ | ⟨_, _, _, _, _, h3⟩ <;> cases h3
   rw [h _ _ _ h1]
  | _ => rfl
theorem eLd_congr {dst : Option Nat} {ti : TI} {x : Operand} (h1 : opd tb σ' 0 x = opd tb σ 0 x) (h : ∀ g id off, opd tb σ 0 x = some (.ptr g id off) → σ' (3 * id + 1) = σ (3 * id + 1)) (hm : ∀ g0 g n i off, opd tb σ 0 x = some (.mp g0 g n i off) → σ' (3 * g + 2) = σ (3 * g + 2)) (hp : ∀ gd g gv n i off j m o2, opd tb σ 0 x = some (.ip gd g gv n i off j m o2) → σ' (3 * g + 2) = σ (3 * g + 2)) : eLd tb Γ gs dst σ' ti x = eLd tb Γ gs dst σ ti x := by
 have hl := eLoad_congr (tab := tb.tab) (Γ := Γ) (gs := gs) (dst := dst) (ti := ti) h
 cases x with
 | global g => rfl
 | _ =>
  simp only [eLd]
  rw [h1]
  revert hl hm hp
  generalize opd tb σ 0 _ = s
  intro hm hp hl
  split
  ·rfl
  ·rename_i g0 g n i off
   unfold eMLoad
   rw [hm _ _ _ _ _ rfl]
  ·unfold eILoad
   rw [hp _ _ _ _ _ _ _ _ _ rfl]
  ·exact hl
theorem eStore_congr {tab : Nat → List CT} {dst : Option Nat} {ti : TI} {s x : Option ST} (h : ∀ g id off, s = some (.ptr g id off) → σ' (3 * id + 1) = σ (3 * id + 1)) : eStore tab Γ gs dst σ' ti s x = eStore tab Γ gs dst σ ti s x := by
 unfold eStore
 cases gs with
 | cons _ _ => rfl
 | nil =>
  cases dst with
  | some _ => rfl
  | none =>
   cases hb : s.bind (under []) with
   | none => rfl
   | some st =>
    cases st with
    | ptr g id off =>
     obtain ⟨st0, h1, h2⟩ := bind_some' hb
     rcases under_inv h2 with ⟨_, _, _, _, _, h3⟩ | ⟨g', i', o', rfl, _, h3⟩ | ⟨_, _, _, _, _, h3⟩ <;> cases h3
     cases hx : undV [] x with
     | none => rfl
     | some ke =>
      obtain ⟨k, e⟩ := ke
      simp only
      rw [h _ _ _ h1]
    | _ => cases hx : undV [] x <;> rfl
theorem eSt_congr {dst : Option Nat} {g0 : Nat} {ti : TI} {s x : Option ST} (hm : ∀ g0 g n i off, s = some (.mp g0 g n i off) → σ' (3 * g + 2) = σ (3 * g + 2)) (hp : ∀ gd g gv n i off j m o2, s = some (.ip gd g gv n i off j m o2) → σ' (3 * g + 2) = σ (3 * g + 2))
  (ho : ∀ gs g e, x = some (.v gs (.own g) e) → σ' (3 * g + 2) = σ (3 * g + 2)) (he : eStore tb.tab Γ gs dst σ' ti s x = eStore tb.tab Γ gs dst σ ti s x) : eSt tb Γ gs dst σ' g0 ti s x = eSt tb Γ gs dst σ g0 ti s x := by
 unfold eSt
 split
 ·rename_i g n i off
  unfold eMStore
  rw [hm _ _ _ _ _ rfl]
  cases hst : σ (3 * g + 2) with
  | live m =>
   obtain ⟨n', _ | ⟨e0, dp⟩⟩ := m
   ·rfl
   cases hu : undV [] x with
   | none => rfl
   | some ke =>
    obtain ⟨k, e⟩ := ke
    obtain ⟨st, g', h1, h2⟩ := undV_some hu
    have hk : ∀ h', k = .own h' → σ' (3 * h' + 2) = σ (3 * h' + 2) := by
     rintro h' rfl
     rcases under_inv h2 with ⟨g2, k2, e2, rfl, _, h3⟩ | ⟨_, _, _, _, _, h3⟩ | ⟨_, _, _, _, _, h3⟩ <;> cases h3
     exact ho _ _ _ h1
    cases k with
    | own h' =>
     rcases dp with _ | ⟨gv, ms⟩
     ·rfl
     ·simp only [hk h' rfl]
    | _ => rfl
  | _ => rfl
 ·unfold eIStore
  rw [hp _ _ _ _ _ _ _ _ _ rfl]
 ·exact he
theorem eParts_congr {fs : List (Nat × Nat)} : ∀ {parts : List (Nat × Operand)} {cs : List (K × E)}, (∀ p ∈ parts, ∀ t, p.2 = .tmp t → σ' (3 * t) = σ (3 * t)) → eParts tb Γ gs σ' fs parts cs = eParts tb Γ gs σ fs parts cs
 | [], cs, _ => rfl
 | (f, x) :: r, cs, h => by
  unfold eParts
  cases fs[f]? with
  | none => rfl
  | some p =>
   obtain ⟨fo, ft⟩ := p
   simp only
   rw [opd_congr (fun t ht => h (f, x) (by simp) t ht)]
   have ih : ∀ cs, eParts tb Γ gs σ' fs r cs = eParts tb Γ gs σ fs r cs := fun cs => eParts_congr fun p hp => h p (by simp [hp])
   simp only [ih]
theorem eRows_congr {el : Nat} : ∀ {parts : List (Nat × Operand)} {n : Nat} {acc : E}, (∀ p ∈ parts, ∀ t, p.2 = .tmp t → σ' (3 * t) = σ (3 * t)) → eRows tb Γ gs σ' el n parts acc = eRows tb Γ gs σ el n parts acc
 | [], n, acc, _ => rfl
 | (f, x) :: r, n, acc, h => by
  unfold eRows
  rw [opd_congr (fun t ht => h (f, x) (by simp) t ht)]
  have ih : ∀ n acc, eRows tb Γ gs σ' el n r acc = eRows tb Γ gs σ el n r acc := fun n acc => eRows_congr fun p hp => h p (by simp [hp])
  simp only [ih]
theorem eArgs_congr : ∀ {xs : List Operand} {Ts : List Nat}, (∀ x ∈ xs, ∀ t, x = .tmp t → σ' (3 * t) = σ (3 * t)) → eArgs tb Γ gs σ' xs Ts = eArgs tb Γ gs σ xs Ts
 | [], [], _ => rfl
 | [], _ :: _, _ => rfl
 | _ :: _, [], _ => rfl
 | x :: xs, T :: Ts, h => by
  unfold eArgs
  rw [opd_congr (fun t ht => h x (by simp) t ht), eArgs_congr fun y hy => h y (by simp [hy])]
theorem eCall_congr {dst : Option Nat} {g : Nat} {rt : List (Nat × Nat)} {ti : TI} {f : Nat} {args : List Operand} {Ts : List Nat} (h : ∀ x ∈ args, ∀ t, x = .tmp t → σ' (3 * t) = σ (3 * t)) (hp : ∀ x ∈ args, ∀ t, x = .tmp t → ∀ g id off, σ (3 * t) = .ptr g id off → σ' (3 * id + 1) = σ (3 * id + 1)) :
  eCall tb Γ gs dst σ' g rt ti f args Ts = eCall tb Γ gs dst σ g rt ti f args Ts := by
 unfold eCall
 cases args with
 | nil => cases Ts <;> rfl
 | cons x xs =>
  cases Ts with
  | nil => rfl
  | cons T Ts =>
   simp only
   rw [opd_congr (fun t ht => h x (by simp) t ht)]
   cases hi : isPtr (opd tb σ T x) with
   | none => simp only; rw [eArgs_congr h]
   | some gi =>
    obtain ⟨g, id⟩ := gi
    simp only
    have hx : σ' (3 * id + 1) = σ (3 * id + 1) := by
     unfold isPtr at hi
     split at hi
     ·rename_i g2 id2 hst
      simp only [Option.some.injEq, Prod.mk.injEq] at hi
      obtain ⟨rfl, rfl⟩ := hi
      obtain ⟨t, ht, hs⟩ := opd_ptr hst
      exact hp x (by simp) t ht _ _ _ hs
     ·simp at hi
    have e2 : eArgs tb Γ gs σ' xs Ts = eArgs tb Γ gs σ xs Ts := eArgs_congr fun y hy => h y (by simp [hy])
    have e3 : eCallG tb Γ gs dst σ' rt ti f xs Ts g id = eCallG tb Γ gs dst σ rt ti f xs Ts g id := by unfold eCallG; rw [hx, e2]
    rw [hx, e3]
    have e : eArgs tb Γ [] σ' xs Ts = eArgs tb Γ [] σ xs Ts := eArgs_congr fun y hy => h y (by simp [hy])
    rw [e]
theorem eAppend_congr {dst : Option Nat} {g : Nat} {ti ui : TI} {s x : Option ST} (h : ∀ gs g e, s = some (.v gs (.own g) e) → σ' (3 * g + 2) = σ (3 * g + 2)) : eAppend tb Γ gs dst σ' g ti ui s x = eAppend tb Γ gs dst σ g ti ui s x := by
 unfold eAppend
 cases gs with
 | cons _ _ => rfl
 | nil =>
  cases hu : undV [] s with
  | none => rfl
  | some ke =>
   obtain ⟨k, e⟩ := ke
   obtain ⟨st, g', h1, h2⟩ := undV_some hu
   have hk : ∀ h', k = .own h' → σ' (3 * h' + 2) = σ (3 * h' + 2) := by
    rintro h' rfl
    rcases under_inv h2 with ⟨g2, k2, e2, rfl, _, h3⟩ | ⟨_, _, _, _, _, h3⟩ | ⟨_, _, _, _, _, h3⟩ <;> cases h3
    exact h _ _ _ h1
   rcases ti.vt with (⟨_ | _ | _ | el⟩ | _) | _ <;> try rfl
   rcases ui.vt with (⟨_ | _ | _ | el'⟩ | _) | _ <;> try rfl
   simp only
   cases undV [] x with
   | none => rfl
   | some ke' =>
    obtain ⟨k', e'⟩ := ke'
    cases tb.get el with
    | none => rfl
    | some ei =>
     simp only
     cases k with
     | own h' => simp only [hk h' rfl]
     | _ => rfl
theorem eApp_congr {dst : Option Nat} {g : Nat} {ti ui : TI} {s x : Option ST} (h : ∀ gs g e, s = some (.v gs (.own g) e) → σ' (3 * g + 2) = σ (3 * g + 2)) (hi : ∀ gd g gv n i off l, x = some (.iv gd g gv n i off l) → σ' (3 * g + 2) = σ (3 * g + 2)) : eApp tb Γ gs dst σ' g ti ui s x = eApp tb Γ gs dst σ g ti ui s x := by
 unfold eApp
 split
 ·unfold eAppI
  rw [hi _ _ _ _ _ _ _ rfl]
 ·exact eAppend_congr h
theorem eSl_congr {dst : Option Nat} {g : Nat} {ti : TI} {x : Option ST} {lo hi : Option (Option ST)} (h : ∀ gs g e, x = some (.v gs (.own g) e) → σ' (3 * g + 2) = σ (3 * g + 2)) : eSl tb Γ gs dst σ' g ti x lo hi = eSl tb Γ gs dst σ g ti x lo hi := by
 unfold eSl
 split
 ·unfold eCutOwn
  rw [h _ _ _ rfl]
 ·rfl
theorem eCaps_congr {tab : Nat → List CT} : ∀ {xs : List Operand} {ids : List Nat} {e : E}, (∀ x ∈ xs, ∀ t, x = .tmp t → σ' (3 * t) = σ (3 * t)) → (∀ x ∈ xs, ∀ t, x = .tmp t → ∀ gd id off, σ (3 * t) = .ptr gd id off → σ' (3 * id + 1) = σ (3 * id + 1)) → eCaps tab Γ σ' xs ids e = eCaps tab Γ σ xs ids e
 | [], _, _, _, _ => rfl
 | .tmp t :: r, ids, e, h, hp => by
  simp only [eCaps]
  rw [h (.tmp t) (by simp) t rfl]
  split
  ·rename_i id hs
   rw [hp (.tmp t) (by simp) t rfl _ _ _ hs]
   split
   ·split
    ·exact eCaps_congr (fun x hx => h x (by simp [hx])) fun x hx => hp x (by simp [hx])
    ·rfl
   ·rfl
  ·rfl
 | .const _ :: _, _, _, _, _ => rfl
 | .global _ :: _, _, _, _, _ => rfl
 | .func _ :: _, _, _, _, _ => rfl
theorem eMakeFn_congr {tab : Nat → List CT} {dst : Option Nat} {f : Nat} {first xs : List Operand} (h : ∀ x ∈ xs, ∀ t, x = .tmp t → σ' (3 * t) = σ (3 * t)) (hp : ∀ x ∈ xs, ∀ t, x = .tmp t → ∀ gd id off, σ (3 * t) = .ptr gd id off → σ' (3 * id + 1) = σ (3 * id + 1)) : eMakeFn tab Γ gs dst σ' f first xs = eMakeFn tab Γ gs dst σ f first xs := by
 unfold eMakeFn
 rw [eCaps_congr h hp]
theorem opEff_congr {cx : Cx} {g : Nat} {o : Oper} (h : Alike ops o σ σ') : opEff cx ops Γ g o σ' = opEff cx ops Γ g o σ := by
 have hop : ∀ (T : Nat) (x : Operand), x ∈ o.op.operands.toList → opd cx.tb σ' T x = opd cx.tb σ T x := fun T x hx => opd_congr fun t ht => h.t t (mem_tmpsOf hx ht)
 have hpt : looks o.op = true → ∀ (T : Nat) (x : Operand), x ∈ o.op.operands.toList → ∀ g id off, opd cx.tb σ T x = some (.ptr g id off) → σ' (3 * id + 1) = σ (3 * id + 1) := fun hl T x hx g id off he => by
  obtain ⟨t, ht, hs⟩ := opd_ptr he
  exact h.p hl t (mem_tmpsOf hx ht) _ _ _ hs
 have hiv : looks o.op = true → ∀ (T : Nat) (x : Operand), x ∈ o.op.operands.toList → ∀ gd g gv n i off l, opd cx.tb σ T x = some (.iv gd g gv n i off l) → σ' (3 * g + 2) = σ (3 * g + 2) := fun hl T x hx gd g gv n i off l he => by
  obtain ⟨t, ht, hs⟩ := opd_iv he
  exact h.iv hl t (mem_tmpsOf hx ht) _ _ _ _ _ _ _ hs
 have hip : looks o.op = true → ∀ (T : Nat) (x : Operand), x ∈ o.op.operands.toList → ∀ gd g gv n i off j m o2, opd cx.tb σ T x = some (.ip gd g gv n i off j m o2) → σ' (3 * g + 2) = σ (3 * g + 2) := fun hl T x hx gd g gv n i off j m o2 he => by
  obtain ⟨t, ht, hs⟩ := opd_ip he
  exact h.ip hl t (mem_tmpsOf hx ht) _ _ _ _ _ _ _ _ _ hs
 have hmp : looks o.op = true → ∀ (T : Nat) (x : Operand), x ∈ o.op.operands.toList → ∀ g0 g n i off, opd cx.tb σ T x = some (.mp g0 g n i off) → σ' (3 * g + 2) = σ (3 * g + 2) := fun hl T x hx g0 g n i off he => by
  obtain ⟨t, ht, hs⟩ := opd_mp he
  exact h.m hl t (mem_tmpsOf hx ht) _ _ _ _ _ hs
 have how : looks o.op = true → ∀ (T : Nat) (x : Operand), x ∈ o.op.operands.toList → ∀ gs g e, opd cx.tb σ T x = some (.v gs (.own g) e) → σ' (3 * g + 2) = σ (3 * g + 2) := fun hl T x hx gs g e he => by
  obtain ⟨t, ht, hs⟩ := opd_own he
  exact h.r hl t (mem_tmpsOf hx ht) _ _ _ hs
 unfold opEff
 rw [gsOf_congr h]
 cases hgs : gsOf cx.tb.tab Γ ops σ o with
 | none => rfl
 | some gs =>
  simp only
  congr 1
  cases ho : o.op with
  | move x => simp only; rw [hop _ x (by simp [ho, Op.operands])]
  | assign x => simp only; rw [hop _ x (by simp [ho, Op.operands])]
  | load T x =>
   simp only
   cases cx.tb.get T with
   | none => rfl
   | some ti => simp only; exact eLd_congr (hop _ x (by simp [ho, Op.operands])) (fun g id off he => hpt (by rw [ho]; rfl) 0 x (by simp [ho, Op.operands]) g id off he) (fun g0 g n i off he => hmp (by rw [ho]; rfl) 0 x (by simp [ho, Op.operands]) g0 g n i off he) fun gd g gv n i off j m o2 he => hip (by rw [ho]; rfl) 0 x (by simp [ho, Op.operands]) gd g gv n i off j m o2 he
  | store T y x =>
   simp only
   rw [hop _ y (by simp [ho, Op.operands]), hop _ x (by simp [ho, Op.operands])]
   cases cx.tb.get T with
   | none => rfl
   | some ti => simp only; exact eSt_congr (fun g0 g n i off he => hmp (by rw [ho]; rfl) 0 y (by simp [ho, Op.operands]) g0 g n i off he) (fun gd g gv n i off j m o2 he => hip (by rw [ho]; rfl) 0 y (by simp [ho, Op.operands]) gd g gv n i off j m o2 he) (fun gs g e he => how (by rw [ho]; rfl) T x (by simp [ho, Op.operands]) gs g e he) (eStore_congr fun g id off he => hpt (by rw [ho]; rfl) 0 y (by simp [ho, Op.operands]) g id off he)
  | fieldAddr T x f => simp only; rw [hop _ x (by simp [ho, Op.operands])]
  | indexAddr T x i =>
   have hx := hop T x (by simp [ho, Op.operands])
   have hi := hop 0 i (by simp [ho, Op.operands])
   have hq : ∀ ti, eIdx cx.tb Γ gs o.dst σ' ti T x i = eIdx cx.tb Γ gs o.dst σ ti T x i := by
    intro ti
    cases x <;> simp only [eIdx, hx, hi]
   simp only [hq]
  | index T x i => simp only; rw [hop _ x (by simp [ho, Op.operands]), hop _ i (by simp [ho, Op.operands])]
  | box T x => simp only; rw [hop _ x (by simp [ho, Op.operands])]
  | makeSlice T l cc => simp only; rw [hop _ l (by simp [ho, Op.operands]), hop _ cc (by simp [ho, Op.operands])]
  | build T parts =>
   simp only
   cases cx.tb.get T with
   | none => rfl
   | some ti =>
    simp only
    unfold eBuild
    cases ti.vt with
    | tup _ => rfl
    | one v =>
     cases v with
     | c _ => rfl
     | agg ts => simp only; rw [eParts_congr fun p hp t ht => h.t t (mem_tmpsOf (x := p.2) (by simp only [ho, Op.operands, List.mem_map]; exact ⟨p, hp, rfl⟩) ht)]
  | buildSlice T len parts =>
   simp only
   cases cx.tb.get T with
   | none => rfl
   | some ti =>
    simp only
    have hrw : ∀ gs' el, eRows cx.tb Γ gs' σ' el 0 parts.toList (.nilS el) = eRows cx.tb Γ gs' σ el 0 parts.toList (.nilS el) := fun gs' el =>
     eRows_congr fun p hp t ht => h.t t (mem_tmpsOf (x := p.2) (by simp only [ho, Op.operands, List.mem_map]; exact ⟨p, hp, rfl⟩) ht)
    unfold eBuildSlice eBuildOwn
    simp only [hrw]
  | slice T x lo hi mx =>
   cases mx with
   | some _ => rfl
   | none =>
    simp only
    rw [hop _ x (by simp [ho, Op.operands])]
    have e1 : lo.map (opd cx.tb σ' 0) = lo.map (opd cx.tb σ 0) := by
     cases lo with
     | none => rfl
     | some y => simp only [Option.map_some]; rw [hop _ y (by simp [ho, Op.operands])]
    have e2 : hi.map (opd cx.tb σ' 0) = hi.map (opd cx.tb σ 0) := by
     cases hi with
     | none => rfl
     | some y => simp only [Option.map_some]; rw [hop _ y (by simp [ho, Op.operands])]
    rw [e1, e2]
    cases cx.tb.get T with
    | none => rfl
    | some ti => exact eSl_congr fun gs g e he => how (by rw [ho]; rfl) T x (by simp [ho, Op.operands]) gs g e he
  | convert S T x => simp only; rw [hop _ x (by simp [ho, Op.operands])]
  | extract x i => simp only; rw [hop _ x (by simp [ho, Op.operands])]
  | unOp op T x =>
   cases op <;> first | rfl | (simp only; rw [hop _ x (by simp [ho, Op.operands])])
  | pick x y z => simp only; rw [hop _ x (by simp [ho, Op.operands]), hop _ y (by simp [ho, Op.operands]), hop _ z (by simp [ho, Op.operands])]
  | makeFunc fn first caps =>
   cases fn with
   | func f =>
    simp only
    have hc : ∀ x ∈ caps.toList, x ∈ o.op.operands.toList := fun x hx => by rw [ho]; simp only [Op.operands, Array.toList_append, List.mem_append]; exact .inr hx
    exact eMakeFn_congr (fun x hx t ht => h.t t (mem_tmpsOf (hc x hx) ht)) fun x hx t ht g id off he => h.p (by rw [ho]; rfl) t (mem_tmpsOf (hc x hx) ht) _ _ _ he
   | _ => rfl
  | nilCheck x => simp only; rw [hop _ x (by simp [ho, Op.operands])]
  | binOp op T x y T' => simp only; rw [hop _ x (by simp [ho, Op.operands]), hop _ y (by simp [ho, Op.operands])]
  | call cl =>
   have hargs : ∀ x ∈ cl.args.toList, x ∈ o.op.operands.toList := fun x hx => by
    rw [ho]
    simp only [Op.operands, Call.operands]
    cases cl.callee <;> simp <;> first | exact .inr (by simpa using hx) | (simpa using hx)
   simp only
   cases hcl : cl.callee with
   | invoke r m => rfl
   | value f =>
    cases f with
    | func f =>
     simp only
     cases cx.tb.get o.type with
     | none => rfl
     | some ti =>
      simp only
      cases isNew ti with
      | some nb => simp only; unfold eNew; rw [eArgs_congr fun x hx t ht => h.t t (mem_tmpsOf (hargs x hx) ht)]
      | none => exact eCall_congr (fun x hx t ht => h.t t (mem_tmpsOf (hargs x hx) ht)) (fun x hx t ht g id off he => h.p (by rw [ho]; rfl) t (mem_tmpsOf (hargs x hx) ht) _ _ _ he)
    | tmp t =>
     simp only
     have hx : opd cx.tb σ' 0 (.tmp t) = opd cx.tb σ 0 (.tmp t) := hop 0 (.tmp t) (by simp [ho, Op.operands, Call.operands, hcl])
     rw [hx]
     cases cx.tb.get o.type with
     | none => rfl
     | some ti => simp only; unfold eCallV; rw [eArgs_congr fun x hx t ht => h.t t (mem_tmpsOf (hargs x hx) ht)]
    | _ => rfl
   | builtin b =>
    cases b with
    | len =>
     simp only
     split
     ·rename_i x T har hat
      rw [hop _ x (hargs x (by rw [har]; simp))]
     ·rfl
    | append =>
     simp only
     split
     ·rename_i x y T U har hat
      rw [hop _ x (hargs x (by rw [har]; simp)), hop _ y (hargs y (by rw [har]; simp))]
      split
      ·exact eApp_congr (fun gs g e he => how (by rw [ho]; rfl) T x (hargs x (by rw [har]; simp)) gs g e he) fun gd g gv n i off l he => hiv (by rw [ho]; rfl) U y (hargs y (by rw [har]; simp)) gd g gv n i off l he
      ·rfl
     ·rfl
    | _ => rfl
  | _ => rfl
end
end Go.Proofs.YtimickglpboilaaGreat
/- Regions whose order is left open: in whatever order their edges allow they do what they do in the order of the text (the induction). No program in sight. -/
namespace Go.Proofs.YtimickglpboilaaGreat
open Go.RowKit
variable [GC]
def dirs (o : Oper) : List Nat := (o.after.toList.filter (Region.binds .any ·)).map (·.on)
def befs : List Oper → List (List Nat) → List (List Nat)
 | [], acc => acc
 | o :: r, acc => befs r (acc ++ [(dirs o).flatMap fun m => m :: acc.getD m []])
def edgesOk (l : List Oper) (B : List (List Nat)) : Bool :=
 (List.range l.length).all fun j => match l[j]? with
  | some o => (dirs o).all (fun m => Nat.blt m j) && (B.getD j []).all fun i => (dirs o).contains i || (dirs o).any fun m => (B.getD m []).contains i
  | none => true
def infos (ops : Array Oper) : List Oper → List Eff → SS → List (List Nat × List Nat)
 | o :: r, e :: es, ss => (readsOf ops ss.σ.get o, e.wr.map (·.1)) :: infos ops r es (ss.step e)
 | _, _, _ => []
def disj (a b : List Nat) : Bool := a.all fun x => !b.contains x
def pairsOk (B : List (List Nat)) (I : List (List Nat × List Nat)) : Bool :=
 (List.range I.length).all fun j => (List.range j).all fun i => (B.getD j []).contains i ||
  (disj (I.getD i ([], [])).2 (I.getD j ([], [])).1 && disj (I.getD i ([], [])).1 (I.getD j ([], [])).2 && disj (I.getD i ([], [])).2 (I.getD j ([], [])).2)
def drawOk (ops : Array Oper) (es : List Eff) (ss : SS) : Bool :=
 edgesOk ops.toList (befs ops.toList []) && pairsOk (befs ops.toList []) (infos ops ops.toList es ss)
def appl (S : Nat → Prop) [DecidablePred S] : Nat → List Eff → (Nat → ST) → Nat → ST
 | _, [], σ => σ
 | k, e :: r, σ => appl S (k + 1) r (if S k then updL σ e.wr else σ)
def wrs (e : Eff) : List Nat := e.wr.map (·.1)
theorem updL_out : ∀ {wr : List (Nat × ST)} {σ : Nat → ST} {x : Nat}, x ∉ wr.map (·.1) → updL σ wr x = σ x
 | [], _, _, _ => rfl
 | (l, s) :: r, σ, x, h => by
  simp only [List.map_cons, List.mem_cons, not_or] at h
  show updL (upd σ l s) r x = _
  rw [updL_out h.2, upd_ne _ _ h.1]
theorem updL_in : ∀ {wr : List (Nat × ST)} {σ σ' : Nat → ST} {x : Nat}, x ∈ wr.map (·.1) → updL σ wr x = updL σ' wr x
 | [], _, _, _, h => by simp at h
 | (l, s) :: r, σ, σ', x, h => by
  show updL (upd σ l s) r x = updL (upd σ' l s) r x
  by_cases hr : x ∈ r.map (·.1)
  ·exact updL_in hr
  ·rw [updL_out hr, updL_out hr]
   simp only [List.map_cons, List.mem_cons] at h
   have : x = l := h.resolve_right hr
   subst this; rw [upd_same, upd_same]
theorem appl_agree {S T : Nat → Prop} [DecidablePred S] [DecidablePred T] {x : Nat} : ∀ {es : List Eff} {k : Nat} {σ σ' : Nat → ST}, (∀ i e, es[i]? = some e → x ∈ wrs e → (S (k + i) ↔ T (k + i))) → σ x = σ' x → appl S k es σ x = appl T k es σ' x
 | [], k, σ, σ', _, h => h
 | e :: r, k, σ, σ', h, hx => by
  unfold appl
  refine appl_agree (fun i e' he hw => by have := h (i + 1) e' (by simpa using he) hw; rwa [show k + (i + 1) = k + 1 + i by omega] at this) ?_
  by_cases hw : x ∈ wrs e
  ·have h0 := h 0 e rfl hw
   rw [Nat.add_zero] at h0
   by_cases hs : S k
   ·rw [if_pos hs, if_pos (h0.1 hs)]; exact updL_in hw
   ·rw [if_neg hs, if_neg (fun t => hs (h0.2 t))]; exact hx
  ·have e1 : (if S k then updL σ e.wr else σ) x = σ x := by split <;> first | exact updL_out hw | rfl
   have e2 : (if T k then updL σ' e.wr else σ') x = σ' x := by split <;> first | exact updL_out hw | rfl
   rw [e1, e2, hx]
theorem appl_none {S : Nat → Prop} [DecidablePred S] : ∀ {es : List Eff} {k : Nat} {σ : Nat → ST}, (∀ i, k ≤ i → ¬ S i) → appl S k es σ = σ
 | [], _, _, _ => rfl
 | e :: r, k, σ, h => by unfold appl; rw [if_neg (h k (Nat.le_refl _))]; exact appl_none fun i hi => h i (by omega)
theorem appl_last {S : Nat → Prop} [DecidablePred S] {x : Nat} : ∀ {es : List Eff} {k j : Nat} {σ : Nat → ST} {e : Eff}, es[j]? = some e → S (k + j) → x ∈ wrs e → (∀ i e', es[i]? = some e' → j < i → x ∈ wrs e' → ¬ S (k + i)) → ∀ τ, appl S k es σ x = updL τ e.wr x
 | [], k, j, σ, e, h, _, _, _, _ => by simp at h
 | e0 :: r, k, 0, σ, e, h, hS, hx, hl, τ => by
  simp at h; subst h
  unfold appl
  rw [if_pos (by simpa using hS)]
  have : appl S (k + 1) r (updL σ e0.wr) x = appl (fun _ => False) (k + 1) r (updL σ e0.wr) x := appl_agree (fun i e' he hw => by
   have := hl (i + 1) e' (by simpa using he) (by omega) hw
   rw [show k + (i + 1) = k + 1 + i by omega] at this
   exact ⟨fun h => this h, fun h => h.elim⟩) rfl
  rw [this, appl_none (fun _ _ h => h)]
  exact updL_in hx
 | e0 :: r, k, j + 1, σ, e, h, hS, hx, hl, τ => by
  unfold appl
  exact appl_last (k := k + 1) (j := j) (by simpa using h) (by rwa [show k + 1 + j = k + (j + 1) by omega]) hx (fun i e' he hi hw => by
   have := hl (i + 1) e' (by simpa using he) (by omega) hw
   rwa [show k + (i + 1) = k + 1 + i by omega] at this) τ
theorem disj_not {a b : List Nat} (h : disj a b = true) {x : Nat} (ha : x ∈ a) (hb : x ∈ b) : False := by
 have := List.all_eq_true.1 h x ha
 simp at this
 exact this hb
section
variable {P : Program} {c : SC} {cx : Cx} {ops : Array Oper}
theorem regRun_at {S0 : Nat} : ∀ {l : List Oper} {ss : SS} {es : List Eff} {s : SS} {k : Nat}, regRun cx ops l ss = some (es, s) → EnvTy cx.tb.tab s.Γ c.env → RqsH P c.env ss.Γ.length es → es.length = l.length ∧ s.σ.get = appl (fun _ => True) k es ss.σ.get ∧ (infos ops l es ss).length = l.length ∧
  ∀ j o, l[j]? = some o → ∃ Γj e, es[j]? = some e ∧ EnvTy cx.tb.tab Γj c.env ∧ opEff cx ops Γj (ss.nt + stride * j) o (appl (fun i => i < k + j) k es ss.σ.get) = some e ∧ (∀ q ∈ e.rq, RqH P c.env Γj.length q) ∧
   (infos ops l es ss)[j]? = some (readsOf ops (appl (fun i => i < k + j) k es ss.σ.get) o, wrs e)
 | [], ss, es, s, k, h, hΓ, hr => by
  simp [regRun] at h; obtain ⟨rfl, rfl⟩ := h
  exact ⟨rfl, rfl, rfl, fun j o ho => by simp at ho⟩
 | o :: r, ss, es, s, k, h, hΓ, hr => by
  simp only [regRun] at h
  split at h
  ·simp at h
  ·rename_i e he
   split at h
   ·simp at h
   ·rename_i es' s' hrec
    simp only [Option.some.injEq, Prod.mk.injEq] at h
    obtain ⟨rfl, rfl⟩ := h
    obtain ⟨Δ, h1, h2, _⟩ := regRun_Γ hrec
    have hΓ' : EnvTy cx.tb.tab ss.Γ c.env := by
     rw [h1] at hΓ
     simp only [SS.step, List.append_assoc] at hΓ
     exact hΓ.firsts
    obtain ⟨i1, i2, i3, i4⟩ := regRun_at (S0 := S0) (k := k + 1) hrec hΓ (by simpa [SS.step] using hr.2)
    refine ⟨by simp [i1], ?_, by simp [infos, i3], fun j o' ho => ?_⟩
    ·rw [i2, step_get]
     show _ = appl (fun _ => True) (k + 1) es' (if True then updL ss.σ.get e.wr else ss.σ.get)
     rw [if_pos trivial]
    ·cases j with
     | zero =>
      simp at ho; subst ho
      have h0 : appl (fun i => i < k + 0) k (e :: es') ss.σ.get = ss.σ.get := appl_none fun i hi => by omega
      refine ⟨ss.Γ, e, rfl, hΓ', by rw [h0]; exact he, hr.1, by rw [h0]; rfl⟩
     | succ j =>
      simp at ho
      obtain ⟨Γj, ej, j1, j2, j3, j4, j5⟩ := i4 j o' ho
      have h0 : appl (fun i => i < k + (j + 1)) k (e :: es') ss.σ.get = appl (fun i => i < k + 1 + j) (k + 1) es' (ss.step e).σ.get := by
       rw [step_get]
       show appl (fun i => i < k + (j + 1)) (k + 1) es' (if k < k + (j + 1) then updL ss.σ.get e.wr else ss.σ.get) = _
       rw [if_pos (by omega)]
       have : (fun i => i < k + (j + 1)) = fun i => i < k + 1 + j := by funext i; apply propext; omega
       congr 1
      refine ⟨Γj, ej, by simpa using j1, j2, ?_, j4, ?_⟩
      ·rw [h0]
       have : ss.nt + stride * (j + 1) = (ss.step e).nt + stride * j := by simp only [SS.step, Nat.mul_add]; omega
       rw [this]; exact j3
      ·rw [h0]; simpa [infos] using j5
theorem ready_iff {j : Nat} {listed : Array Bool} (hsz : listed.size = ops.size) : j ∈ Region.ready .any ops listed ↔ listed.getD j true = false ∧ ∃ o, ops[j]? = some o ∧ ∀ m ∈ dirs o, listed.getD m false = true := by
 unfold Region.ready dirs
 simp only [List.mem_filter, List.mem_range, Bool.and_eq_true, Bool.not_eq_true']
 constructor
 ·rintro ⟨h1, h2, h3⟩
  refine ⟨h2, ops[j], by simp [h1], fun m hm => ?_⟩
  simp only [Array.getElem?_eq_getElem h1, Option.map_some, Option.getD_some, Array.all_eq_true_iff_forall_mem] at h3
  simp only [List.mem_map, List.mem_filter] at hm
  obtain ⟨e, ⟨he, hb⟩, rfl⟩ := hm
  have := h3 e (by simpa using he)
  rw [hb] at this
  simpa using this
 ·rintro ⟨h1, o, h2, h3⟩
  have hlt : j < ops.size := (Array.getElem?_eq_some_iff.1 h2).1
  refine ⟨hlt, h1, ?_⟩
  simp only [h2, Option.map_some, Option.getD_some, Array.all_eq_true_iff_forall_mem]
  intro e he
  cases hb : Region.binds .any e with
  | false => simp
  | true =>
   have := h3 e.on (by simp only [List.mem_map, List.mem_filter]; exact ⟨e, ⟨by simpa using he, hb⟩, rfl⟩)
   simp [this]
def left (listed : Array Bool) : Nat → Nat
 | 0 => 0
 | n + 1 => left listed n + if listed.getD n true = false then 1 else 0
theorem left_zero {listed : Array Bool} : ∀ {n : Nat}, left listed n = 0 → ∀ j, j < n → listed.getD j true = true
 | 0, _, j, hj => absurd hj (by omega)
 | n + 1, h, j, hj => by
  simp only [left] at h
  by_cases e : j = n
  ·subst e
   cases hb : listed.getD j true with
   | true => rfl
   | false => rw [hb] at h; simp at h
  ·exact left_zero (n := n) (by omega) j (by omega)
theorem getD_set {listed : Array Bool} {i j : Nat} {d : Bool} (hi : i < listed.size) : (listed.setIfInBounds i true).getD j d = if j = i then true else listed.getD j d := by
 simp only [Array.getD_eq_getD_getElem?, Array.getElem?_setIfInBounds]
 by_cases h : j = i
 ·subst h; simp [hi]
 ·simp [h, Ne.symm h]
theorem left_set {listed : Array Bool} {i : Nat} (hi : i < listed.size) (hf : listed.getD i true = false) : ∀ {n : Nat}, left (listed.setIfInBounds i true) n + (if i < n then 1 else 0) = left listed n
 | 0 => rfl
 | n + 1 => by
  have ih := left_set hi hf (n := n)
  simp only [left, getD_set hi]
  by_cases e : n = i
  ·subst e
   simp only [hf, if_true]
   simp at ih
   simp [ih]
  ·have hh : (if i < n then 1 else 0) = (if i < n + 1 then 1 else 0 : Nat) := by
    by_cases h : i < n
    ·rw [if_pos h, if_pos (show i < n + 1 by omega)]
    ·rw [if_neg h, if_neg (show ¬ i < n + 1 by omega)]
   simp only [if_neg e]
   rw [← hh]
   omega
def dn (listed : Array Bool) : Nat → Prop := fun i => listed.getD i false = true
instance (listed : Array Bool) : DecidablePred (dn listed) := fun i => inferInstanceAs (Decidable (_ = _))
def tagsOf (nt : Nat) (listed : Array Bool) : Nat → Prop := fun x => x < nt ∨ ∃ j, dn listed j ∧ NewT (nt + stride * j) x
theorem bef_in {l : List Oper} {B : List (List Nat)} (hE : edgesOk l B = true) {S : Nat → Prop} (hc : ∀ j o, S j → l[j]? = some o → ∀ m ∈ dirs o, S m) : ∀ (n j : Nat), j < n → S j → ∀ i ∈ B.getD j [], j < l.length → S i
 | 0, j, h, _, _, _, _ => absurd h (by omega)
 | n + 1, j, hj, hS, i, hi, hl => by
  unfold edgesOk at hE
  have h1 := List.all_eq_true.1 hE j (by simpa using hl)
  have hlo : l[j]? = some l[j] := List.getElem?_eq_getElem hl
  rw [hlo] at h1
  simp only [Bool.and_eq_true, List.all_eq_true, Bool.or_eq_true, List.any_eq_true] at h1
  have hd : ∀ m ∈ dirs l[j], S m ∧ m < j := fun m hm => ⟨hc j _ hS hlo m hm, Nat.le_of_ble_eq_true (h1.1 m hm)⟩
  rcases h1.2 i hi with h | ⟨m, hm, hmi⟩
  ·exact (hd i (by simpa using h)).1
  ·exact bef_in (by unfold edgesOk; exact hE) hc n m (by have := (hd m hm).2; omega) (hd m hm).1 i (by simpa using hmi) (by have := (hd m hm).2; omega)
theorem bef_ready {l : List Oper} {B : List (List Nat)} (hE : edgesOk l B = true) {S : Nat → Prop} (hc : ∀ j o, S j → l[j]? = some o → ∀ m ∈ dirs o, S m) {j : Nat} {o : Oper} (ho : l[j]? = some o) (hr : ∀ m ∈ dirs o, S m) : ∀ i ∈ B.getD j [], S i := by
 intro i hi
 have hl : j < l.length := (List.getElem?_eq_some_iff.1 ho).1
 have hE' := hE
 unfold edgesOk at hE
 have h1 := List.all_eq_true.1 hE j (by simpa using hl)
 rw [ho] at h1
 simp only [Bool.and_eq_true, List.all_eq_true, Bool.or_eq_true, List.any_eq_true] at h1
 rcases h1.2 i hi with h | ⟨m, hm, hmi⟩
 ·exact hr i (by simpa using h)
 ·have hmj : m < j := Nat.le_of_ble_eq_true (h1.1 m hm)
  exact bef_in hE' hc (m + 1) m (by omega) (hr m hm) i (by simpa using hmi) (by omega)
theorem region_draw (hcx : tbOk P cx.tb cx.tb = true) (hnt : c.nt = cx.nt) (hm : P.follows .mixedOrders = true) {Q : Exit → Act → World → Prop} {id : Nat} {ss s : SS} {es : List Eff} (h : regRun cx ops ops.toList ss = some (es, s)) (hok : drawOk ops es ss = true) (hΓ : EnvTy cx.tb.tab s.Γ c.env) (hr : RqsH P c.env ss.Γ.length es)
  {bm : Nat → Nat} {tm : Nat → Value} {a : Act} {w : World} (hQ : ∀ bm' tm' a' w', Sim c (below s.nt) s.σ.get bm' tm' a' w' → Q .normal a' w') (hs : Sim c (below ss.nt) ss.σ.get bm tm a w) : (Code.region id ops true).wp P Q a w := by
 unfold drawOk at hok
 simp only [Bool.and_eq_true] at hok
 obtain ⟨hE, hPr⟩ := hok
 generalize hB : befs ops.toList [] = B at hE hPr
 obtain ⟨hlen, hall, hinf, hat⟩ := regRun_at (S0 := 0) (k := 0) h hΓ hr
 obtain ⟨_, _, hnts, _⟩ := regRun_Γ h
 have hpair : ∀ i j, i < j → j < ops.size → i ∉ B.getD j [] → ∀ a b, (infos ops ops.toList es ss)[i]? = some a → (infos ops ops.toList es ss)[j]? = some b → disj a.2 b.1 = true ∧ disj a.1 b.2 = true ∧ disj a.2 b.2 = true := by
  intro i j hij hj hn x y hx hy
  unfold pairsOk at hPr
  have h1 := List.all_eq_true.1 hPr j (by simpa [hinf] using hj)
  have h2 := List.all_eq_true.1 h1 i (by simpa using hij)
  simp only [Bool.or_eq_true, Bool.and_eq_true, List.getD, hx, hy, Option.getD_some] at h2
  rcases h2 with h2 | h2
  ·exact absurd (by simpa [List.getD] using h2) hn
  ·exact ⟨h2.1.1, h2.1.2, h2.2⟩
 refine wp_region_any hm ?_
 have key : ∀ (fuel : Nat) (listed : Array Bool) (bm : Nat → Nat) (tm : Nat → Value) (a : Act) (w : World), listed.size = ops.size → (∀ j o, dn listed j → ops[j]? = some o → ∀ m ∈ dirs o, dn listed m) → left listed ops.size ≤ fuel →
   Sim c (tagsOf ss.nt listed) (appl (dn listed) 0 es ss.σ.get) bm tm a w → wpAny P .any ops Q fuel listed a w := by
  have hdone : ∀ (listed : Array Bool) (bm : Nat → Nat) (tm : Nat → Value) (a : Act) (w : World), listed.size = ops.size → (∀ j, j < ops.size → listed.getD j true = true) → Sim c (tagsOf ss.nt listed) (appl (dn listed) 0 es ss.σ.get) bm tm a w → Q .normal a w := by
   intro listed bm tm a w hsz hl hS
   have hd : ∀ j, dn listed j ↔ j < ops.size := fun j => by
    unfold dn
    constructor
    ·intro h
     rcases Nat.lt_or_ge j ops.size with h' | h'
     ·exact h'
     ·simp [Array.getD_eq_getD_getElem?, Array.getElem?_eq_none (show listed.size ≤ j by omega)] at h
    ·intro h
     have := hl j h
     simp only [Array.getD_eq_getD_getElem?, Array.getElem?_eq_getElem (show j < listed.size by omega), Option.getD_some] at this ⊢
     exact this
   refine hQ bm tm a w ?_
   have he : appl (dn listed) 0 es ss.σ.get = s.σ.get := by
    rw [hall]
    funext x
    refine appl_agree (fun i e hi _ => ?_) rfl
    have : i < es.length := (List.getElem?_eq_some_iff.1 hi).1
    rw [hlen, Array.length_toList] at this
    rw [Nat.zero_add]
    exact ⟨fun _ => trivial, fun _ => (hd i).2 this⟩
   rw [← he]
   refine hS.mono fun x hx => ?_
   unfold below
   rw [hnts, Array.length_toList]
   rcases hx with hx | ⟨j, hj, hx⟩
   ·omega
   ·have := (hd j).1 hj; have := hx.2; simp only [stride] at *; omega
  have hready : ∀ (listed : Array Bool), listed.size = ops.size → Region.ready .any ops listed = [] → ∀ j, j < ops.size → listed.getD j true = true := by
   intro listed hsz hnil j
   induction j using Nat.strongRecOn with
   | _ j ih =>
    intro hj
    cases hb : listed.getD j true with
    | true => rfl
    | false =>
     exfalso
     have hlo : ops[j]? = some ops[j] := Array.getElem?_eq_getElem hj
     have : j ∈ Region.ready .any ops listed := (ready_iff hsz).2 ⟨hb, ops[j], hlo, fun m hm => by
      unfold edgesOk at hE
      have h1 := List.all_eq_true.1 hE j (by simpa using hj)
      have hlo' : ops.toList[j]? = some ops[j] := by simp [hlo]
      rw [hlo'] at h1
      simp only [Bool.and_eq_true, List.all_eq_true] at h1
      have hmj : m < j := Nat.le_of_ble_eq_true (h1.1 m hm)
      have := ih m hmj (by omega)
      simp only [Array.getD_eq_getD_getElem?, Array.getElem?_eq_getElem (show m < listed.size by omega), Option.getD_some] at this ⊢
      exact this⟩
     rw [hnil] at this
     simp at this
  intro fuel
  induction fuel with
  | zero =>
   intro listed bm tm a w hsz hcl hlf hS
   have hl := left_zero (Nat.le_zero.1 hlf)
   refine ⟨?_, hdone listed bm tm a w hsz hl hS⟩
   cases hr : Region.ready .any ops listed with
   | nil => rfl
   | cons j _ =>
    have hj : j ∈ Region.ready .any ops listed := by rw [hr]; simp
    obtain ⟨h1, o, h2, _⟩ := (ready_iff hsz).1 hj
    have := hl j (Array.getElem?_eq_some_iff.1 h2).1
    rw [h1] at this; cases this
  | succ fuel ih =>
   intro listed bm tm a w hsz hcl hlf hS
   refine ⟨fun hnil => hdone listed bm tm a w hsz (hready listed hsz hnil) hS, fun j hj => ?_⟩
   obtain ⟨hf, o, ho, hdir⟩ := (ready_iff hsz).1 hj
   have hjlt : j < ops.size := (Array.getElem?_eq_some_iff.1 ho).1
   have hndn : ¬ dn listed j := fun h => by
    unfold dn at h
    simp only [Array.getD_eq_getD_getElem?, Array.getElem?_eq_getElem (show j < listed.size by omega), Option.getD_some] at h hf
    rw [h] at hf; cases hf
   have ho' : ops.toList[j]? = some o := by simp [ho]
   obtain ⟨Γj, e, he, hΓj, heff, hrq, hinfj⟩ := hat j o ho'
   have hcl' : ∀ i o, dn listed i → ops.toList[i]? = some o → ∀ m ∈ dirs o, dn listed m := fun i o hi hio => hcl i o hi (by simpa using hio)
   have hbef : ∀ i ∈ B.getD j [], dn listed i := bef_ready hE hcl' ho' hdir
   have hnbef : ∀ i, dn listed i → i < ops.size → j ∉ B.getD i [] := fun i hi hlt hin => hndn (bef_in hE hcl' (i + 1) i (by omega) hi j hin (by simpa using hlt))
   have hesj : ∀ i e', es[i]? = some e' → i < ops.size := fun i e' hi => by
    have : i < es.length := (List.getElem?_eq_some_iff.1 hi).1
    rwa [hlen, Array.length_toList] at this
   have hinfi : ∀ i e', es[i]? = some e' → ∃ rd, (infos ops ops.toList es ss)[i]? = some (rd, wrs e') := fun i e' hi => by
    have hlt := hesj i e' hi
    obtain ⟨_, e2, h2, _, _, _, h5⟩ := hat i ops[i] (by simp [hlt])
    rw [h2] at hi; simp at hi; subst hi
    exact ⟨_, h5⟩
   have hal : Alike ops o (appl (fun i => i < 0 + j) 0 es ss.σ.get) (appl (dn listed) 0 es ss.σ.get) := Alike.of fun x hx => by
    refine appl_agree (fun i e' hi hw => ?_) rfl
    have hlt := hesj i e' hi
    obtain ⟨rd, hri⟩ := hinfi i e' hi
    simp only [Nat.zero_add]
    constructor
    ·intro hd
     rcases Nat.lt_trichotomy i j with h | h | h
     ·exact h
     ·subst h; exact absurd hd hndn
     ·obtain ⟨_, q, _⟩ := hpair j i h hlt (hnbef i hd hlt) _ _ hinfj hri
      exact absurd hw (fun hw => disj_not q hx hw)
    ·intro hd
     by_cases hb : i ∈ B.getD j []
     ·exact hbef i hb
     ·obtain ⟨q, _, _⟩ := hpair i j hd hjlt hb _ _ hri hinfj
      exact (disj_not q hw hx).elim
   have heff' : opEff cx ops Γj (ss.nt + stride * j) o (appl (dn listed) 0 es ss.σ.get) = some e := by rw [opEff_congr hal]; exact heff
   have hjl : j < listed.size := by omega
   refine wpOp_sound hcx hnt hS hΓj (g := ss.nt + stride * j) ?_ ho heff' hrq fun bm' tm' a' w' hS' => ?_
   ·rintro x hxn (h | ⟨i, hi, h⟩)
    ·have := hxn.1; omega
    ·have : i = j := by
      have q1 := hxn.1; have q2 := hxn.2; have q3 := h.1; have q4 := h.2
      simp only [stride] at *; omega
     subst this; exact hndn hi
   ·refine ih (listed.setIfInBounds j true) bm' tm' a' w' (by simpa using hsz) ?_ ?_ ?_
    ·intro i o' hi hio m hmd
     unfold dn at *
     rw [getD_set hjl] at hi ⊢
     split at hi
     ·rename_i e'; subst e'
      rw [ho] at hio; simp at hio; subst hio
      have := hdir m hmd
      split
      ·rfl
      ·exact this
     ·have := hcl i o' hi hio m hmd
      split
      ·rfl
      ·exact this
    ·have := left_set hjl hf (n := ops.size)
     rw [if_pos hjlt] at this
     omega
    ·have hdn : ∀ i, dn (listed.setIfInBounds j true) i ↔ (i = j ∨ dn listed i) := fun i => by
      unfold dn
      rw [getD_set hjl]
      split
      ·rename_i e'; exact ⟨fun _ => .inl e', fun _ => rfl⟩
      ·rename_i e'; exact ⟨.inr, fun h => h.resolve_left e'⟩
     have hst : appl (dn (listed.setIfInBounds j true)) 0 es ss.σ.get = updL (appl (dn listed) 0 es ss.σ.get) e.wr := by
      funext x
      by_cases hx : x ∈ wrs e
      ·refine appl_last (j := j) he (by rw [Nat.zero_add]; exact (hdn j).2 (.inl rfl)) hx (fun i e' hi hji hw hd => ?_) _
       rw [Nat.zero_add] at hd
       have hlt := hesj i e' hi
       obtain ⟨rd, hri⟩ := hinfi i e' hi
       have hd' := ((hdn i).1 hd).resolve_left (by omega)
       obtain ⟨_, _, q⟩ := hpair j i hji hlt (hnbef i hd' hlt) _ _ hinfj hri
       exact disj_not q hx hw
      ·rw [updL_out hx]
       refine appl_agree (fun i e' hi hw => ?_) rfl
       rw [Nat.zero_add]
       constructor
       ·intro h
        refine ((hdn i).1 h).resolve_left ?_
        rintro rfl
        rw [he] at hi; simp at hi; subst hi
        exact hx hw
       ·exact fun h => (hdn i).2 (.inr h)
     rw [hst]
     refine hS'.mono fun x hx => ?_
     rcases hx with (hx | ⟨i, hi, hx⟩) | hx
     ·exact .inl hx
     ·exact .inr ⟨i, (hdn i).2 (.inr hi), hx⟩
     ·exact .inr ⟨j, (hdn j).2 (.inl rfl), hx⟩
 have h0 : ∀ j, ¬ dn (Array.replicate ops.size false) j := fun j h => by
  unfold dn at h
  simp only [Array.getD_eq_getD_getElem?, Array.getElem?_replicate] at h
  split at h <;> simp at h
 refine key ops.size (Array.replicate ops.size false) bm tm a _ (by simp) (fun j o hj => absurd hj (h0 j)) ?_ ?_
 ·have : ∀ n, left (Array.replicate ops.size false) n ≤ n := fun n => by
   induction n with
   | zero => exact Nat.le_refl _
   | succ n ih => simp only [left]; split <;> omega
  exact this _
 ·have e0 : appl (dn (Array.replicate ops.size false)) 0 es ss.σ.get = ss.σ.get := appl_none fun i _ => h0 i
  rw [e0]
  refine Sim.mono (F := below ss.nt) ?_ fun x hx => .inl hx
  exact hs.grow ((Below.refl _ _).drew)
end
end Go.Proofs.YtimickglpboilaaGreat
/- Code: the executor over sequences, tests, blocks, loops; what is left to be shown; and that it suffices. No program in sight. -/
namespace Go.Proofs.YtimickglpboilaaGreat
open Go.RowKit
variable [GC]
def E.bel (n : Nat) : E → Bool
 | .var i => Nat.blt i n
 | .lb _ | .li _ _ | .ls _ | .nilS _ | .ag0 | .tp0 | .fn0 _ => true
 | .ar _ _ x y | .ic _ x y | .sc _ x y | .scat x y | .sok x y | .bc x y | .ae x y | .an x y | .or x y | .row _ x y | .at x y | .cat x y | .tp1 x y | .app x y | .put x y | .inb x y | .few x y | .sel _ x y | .fnC x y => x.bel n && y.bel n
 | .no x | .conv _ x | .len x | .bstr x | .cell x _ | .sub x _ _ | .proj x _ | .ag1 x | .mem x | .rep _ _ x => x.bel n
 | .ite x y z | .cut x y z | .inc x y z | .upd x y z _ => x.bel n && y.bel n && z.bel n
theorem E.den_bel {env more : List D} {n : Nat} (hn : n ≤ env.length) : ∀ (e : E), e.bel n = true → e.den (env ++ more) = e.den env := by
 intro e
 induction e <;> intro h <;> simp only [E.bel, Bool.and_eq_true] at h <;> simp only [E.den]
 case var i =>
  have : i < env.length := Nat.lt_of_lt_of_le (Nat.le_of_ble_eq_true h) hn
  simp [List.getD, List.getElem?_append_left this]
 all_goals simp_all
def gdBel (n : Nat) (gs : Gd) : Bool := gs.all fun x => x.1.bel n
def stBel (n : Nat) : ST → Bool
 | .v gs _ e => gdBel n gs && e.bel n
 | .ptr gs _ _ => gdBel n gs
 | .ro gs e _ => gdBel n gs && e.bel n
 | .gp gs _ x i => gdBel n gs && x.bel n && i.bel n
 | .mp gs _ _ i _ => gdBel n gs && i.bel n
 | .iv gs _ _ _ i _ l => gdBel n gs && i.bel n && l.bel n
 | .ip gs _ _ _ i _ j _ _ => gdBel n gs && i.bel n && j.bel n
 | .box cs => cs.all fun x => x.2.bel n
 | .live m => (match m.body with | some (e, _) => e.bel n | none => true)
 | _ => true
def kTag (n : Nat) : K → Bool
 | .own g => Nat.blt g n
 | .ag ks => ks.all fun k => match k with | .own g => Nat.blt g n | _ => true
 | _ => true
def stTag (n : Nat) : ST → Bool
 | .v _ k _ => kTag n k
 | .ptr _ id _ => Nat.blt id n
 | .mp _ g _ _ _ => Nat.blt g n
 | .iv _ g gv _ _ _ _ => Nat.blt g n && Nat.blt gv n
 | .ip _ g gv _ _ _ _ _ _ => Nat.blt g n && Nat.blt gv n
 | .live m => (match m.body with | some (_, some (gv, _)) => Nat.blt gv n | _ => true)
 | .box cs => cs.all fun x => kTag n x.1
 | _ => true
inductive Slot where
 | t (t : Nat) | b (id j : Nat) | m (g : Nat)
 deriving DecidableEq
def slotGet (σ : Nat → ST) : Slot → Option (K × E)
 | .t t => match σ (3 * t) with | .v [] k e => some (k, e) | _ => none
 | .b id j => match σ (3 * id + 1) with | .box cs => cs[j]? | _ => none
 | .m g => match σ (3 * g + 2) with | .live ⟨_, some (e, _)⟩ => some (.d, e) | _ => none
structure Head where
 slots : List Slot
 ks : List K
 tys : List VT
 hd : SS
def kOk (tab : Nat → List CT) (σ : Nat → ST) (ty : VT) : K → K → Bool
 | .d, _ => true
 | .own _, .full => (match ty with | .one (.c (.sl _)) => true | _ => false)
 | .own _, .own g => (match ty with | .one (.c (.sl el)) => decide (σ (3 * g + 2) = .live ⟨(tab el).length, none⟩) | _ => false)
 | _, _ => false
def slotVals (tab : Nat → List CT) (Γ : List VT) (σ : Nat → ST) : List Slot → List K → List VT → Option (List (K × E))
 | [], [], [] => some []
 | s :: ss, k :: ks, ty :: tys => match slotGet σ s, slotVals tab Γ σ ss ks tys with
  | some (k', e'), some r => bif decide (e'.inf tab Γ = some ty) && kOk tab σ ty k k' then some ((k', e') :: r) else none
  | _, _ => none
 | _, _, _ => none
def usedTags : List K → List (K × E) → List Nat
 | .own _ :: ks, (.own g, _) :: r => g :: usedTags ks r
 | _ :: ks, _ :: r => usedTags ks r
 | _, _ => []
def nodupB : List Nat → Bool
 | [] => true
 | x :: r => !r.contains x && nodupB r
def ksOk (nt : Nat) : Nat → List K → Bool
 | _, [] => true
 | i, .d :: r => ksOk nt (i + 1) r
 | i, .own g :: r => Nat.beq g (nt + i) && ksOk nt (i + 1) r
 | _, _ :: _ => false
def plainOk (n nt : Nat) (σ : Nat → ST) (l : Nat) (h : ST) : Bool := decide (σ l = h) && stBel n h && stTag nt h
def dpOk (k : Nat) : Option (Nat × List Nat) → Option (Nat × List Nat) → Bool
 | none, none => true
 | some (gv, ms), some (_, ms') => Nat.beq gv k && decide (ms = ms')
 | _, _ => false
def mOk (n nt : Nat) (H : Head) (σ : Nat → ST) (l : Nat) (m : LV) : Bool :=
 match m.body, σ l with
 | some (.var v, dp), .live ⟨n', some (_, dp')⟩ => Nat.ble n v && decide (H.slots[v - n]? = some (.m (l / 3))) && Nat.beq n' m.n && dpOk (nt + (v - n)) dp dp'
 | _, _ => false
def entryOk (tab : Nat → List CT) (n nt : Nat) (H : Head) (σ : Nat → ST) (used : List Nat) (l : Nat) (h : ST) : Bool :=
 match h with
 | .un => true
 | .v [] k (.var v) => (Nat.ble n v && Nat.beq (l % 3) 0 && decide (H.slots[v - n]? = some (.t (l / 3))) && decide (H.ks[v - n]? = some k)) || plainOk n nt σ l h
 | .box cs => Nat.beq (l % 3) 1 && Nat.blt (l / 3) nt && (((match σ l with | .box cs' => Nat.beq cs'.length cs.length | _ => false) && cs.zipIdx.all fun x => match x.1.2 with
   | .var v => Nat.ble n v && decide (H.slots[v - n]? = some (.b (l / 3) x.2)) && decide (H.ks[v - n]? = some x.1.1)
   | _ => false) || plainOk n nt σ l h)
 | .live m => Nat.beq (l % 3) 2 && ((m.body.isNone && Nat.ble nt (l / 3) && decide (H.ks[l / 3 - nt]? = some (.own (l / 3))) && (match H.tys[l / 3 - nt]? with | some (.one (.c (.sl el))) => Nat.beq m.n (tab el).length | _ => false))
   || (Nat.blt (l / 3) nt && !used.contains (l / 3) && (plainOk n nt σ l h || mOk n nt H σ l m)))
 | _ => plainOk n nt σ l h
def back (tab : Nat → List CT) (n nt : Nat) (H : Head) (s : SS) : Option (List E) :=
 match slotVals tab s.Γ s.σ.get H.slots H.ks H.tys with
 | some vs => bif nodupB (usedTags H.ks vs) && ksOk nt 0 H.ks && Nat.beq H.hd.nt (nt + H.slots.length) && Nat.ble nt s.nt && Nat.blt 0 nt && H.hd.σ.all (fun x => entryOk tab n nt H s.σ.get (usedTags H.ks vs) x.1 (H.hd.σ.get x.1)) then some (vs.map (·.2)) else none
 | none => none
def retB : Code → Bool
 | .ret => true
 | .seq a b => plainB a && retB b
 | .cond _ a b => retB a && retB b
 | _ => false
where plainB : Code → Bool
 | .region _ _ _ | .skip => true
 | .seq a b => plainB a && plainB b
 | .cond _ a b => (plainB a || retB a) && (plainB b || retB b)
 | .ret => true
 | _ => false
def opsOf : Code → List Oper
 | .region _ ops _ => ops.toList
 | .seq a b => bif retB (.seq a b) then [] else opsOf a ++ opsOf b
 | .cond _ a b => opsOf a ++ opsOf b
 | .block _ c | .loop c => opsOf c
 | _ => []
def memN (x : Nat) : List Nat → Bool
 | [] => false
 | y :: r => Nat.beq x y || memN x r
def asgOf (l : List Oper) : List Nat := l.filterMap (·.dst)
def rootOf (l : List Oper) (asg : List Nat) (σ : Nat → ST) : Nat → Nat → Option Nat
 | 0, _ => none
 | f + 1, t => bif memN t asg then
   match l.find? (fun o => decide (o.dst = some t)) with
   | some o => match o.op with
    | .fieldAddr _ (.tmp u) _ | .move (.tmp u) | .assign (.tmp u) | .nilCheck (.tmp u) => rootOf l asg σ f u
    | _ => none
   | none => none
  else match σ (3 * t) with
   | .ptr _ id _ => some id
   | _ => none
def boxesOf (l : List Oper) (asg : List Nat) (σ : Nat → ST) : List Oper → List Nat
 | [] => []
 | o :: r =>
  let more := boxesOf l asg σ r
  let one (t : Nat) := match rootOf l asg σ 20 t with | some id => bif memN id more then more else id :: more | none => more
  match o.op with
  | .store _ (.tmp t) _ => one t
  | .call c => match c.callee, c.args.toList with
   | .value (.func _), .tmp t :: _ => one t
   | _, _ => more
  | _ => more
def dedup : List Nat → List Nat
 | [] => []
 | x :: r => bif memN x r then dedup r else x :: dedup r
def slotsT (σ : Nat → ST) : List Nat → List Slot
 | [] => []
 | t :: r => match σ (3 * t) with
  | .v [] _ _ => .t t :: slotsT σ r
  | _ => slotsT σ r
def slotsB (σ : Nat → ST) : List Nat → List Slot
 | [] => []
 | id :: r => match σ (3 * id + 1) with
  | .box cs => (List.range cs.length).map (.b id) ++ slotsB σ r
  | _ => slotsB σ r
def headKs (nt : Nat) : Nat → List (K × E) → List K
 | _, [] => []
 | i, (.d, _) :: r => .d :: headKs nt (i + 1) r
 | i, (.ag _, _) :: r => .d :: headKs nt (i + 1) r
 | i, (_, _) :: r => .own (nt + i) :: headKs nt (i + 1) r
def headTys (tab : Nat → List CT) (Γ : List VT) : List (K × E) → List VT
 | [] => []
 | (_, e) :: r => (e.inf tab Γ).getD (.tup []) :: headTys tab Γ r
def headBoxes (n : Nat) (slots : List Slot) (ks : List K) (σ : Nat → ST) : List Nat → Sg
 | [] => []
 | id :: r => match σ (3 * id + 1) with
  | .box cs => (3 * id + 1, .box ((List.range cs.length).map fun j => match slots.idxOf? (.b id j) with
    | some i => (ks.getD i .d, .var (n + i))
    | none => (.d, .ag0))) :: headBoxes n slots ks σ r
  | _ => headBoxes n slots ks σ r
def headTmps (n : Nat) (slots : List Slot) (ks : List K) : List Nat → Sg
 | [] => []
 | t :: r => (3 * t, match slots.idxOf? (.t t) with | some i => .v [] (ks.getD i .d) (.var (n + i)) | none => .un) :: headTmps n slots ks r
def headLive (tab : Nat → List CT) : List K → List VT → Sg
 | .own g :: ks, .one (.c (.sl el)) :: tys => (3 * g + 2, .live ⟨(tab el).length, none⟩) :: headLive tab ks tys
 | _ :: ks, _ :: tys => headLive tab ks tys
 | _, _ => []
def storesM (l : List Oper) (asg : List Nat) (σ : Nat → ST) : List Oper → Bool
 | [] => false
 | o :: r => (match o.op with | .store _ (.tmp t) _ => (rootOf l asg σ 20 t).isNone | _ => false) || storesM l asg σ r
def mutTags (σ : Sg) : List Nat := dedup ((σ.filter fun x => Nat.beq (x.1 % 3) 2 && (match σ.get x.1 with | .live ⟨_, some _⟩ => true | _ => false)).map fun x => x.1 / 3)
def headM (n nt : Nat) (slots : List Slot) (σ : Nat → ST) : List Nat → Sg
 | [] => []
 | g :: r => match slots.idxOf? (.m g), σ (3 * g + 2) with
  | some i, .live ⟨k, some (_, dp)⟩ => (3 * g + 2, .live ⟨k, some (.var (n + i), dp.map fun x => (nt + i, x.2))⟩) :: headM n nt slots σ r
  | _, _ => headM n nt slots σ r
def headDead : List (K × E) → Sg
 | [] => []
 | (.own g, _) :: r => (3 * g + 2, .un) :: headDead r
 | _ :: r => headDead r
def mkHead (tab : Nat → List CT) (c : Code) (ss : SS) : Head :=
 let l := opsOf c
 let asg := dedup (asgOf l)
 let bs := dedup (boxesOf l asg ss.σ.get l)
 let ms := bif storesM l asg ss.σ.get l then mutTags ss.σ else []
 let slots := slotsT ss.σ.get asg ++ slotsB ss.σ.get bs ++ ms.map .m
 let vs := slots.filterMap (slotGet ss.σ.get)
 let ks := headKs ss.nt 0 vs
 let tys := headTys tab ss.Γ vs
 let n := ss.Γ.length
 { slots, ks, tys, hd := { Γ := ss.Γ ++ tys, nt := ss.nt + slots.length, lv := ss.lv + 1, σ := headTmps n slots ks asg ++ headBoxes n slots ks ss.σ.get bs ++ headM n ss.nt slots ss.σ.get ms ++ headLive tab ks tys ++ headDead vs ++ ss.σ } }
def paramsSg : Nat → Nat → List VT → Sg
 | _, _, [] => []
 | k, j, _ :: r => (3 * k, .v [] .d (.var j)) :: paramsSg (k + 1) (j + 1) r
def vtP : VT → VT
 | .tup [.c .fn] => .one (.c .fn)
 | vt => vt
def allVT (tb : TB) : List Nat → Option (List VT)
 | [] => some []
 | T :: r => match tb.get T, allVT tb r with
  | some i, some l => some (vtP i.vt :: l)
  | _, _ => none
def initSS (tb : TB) (params : List Nat) (bx : Option (List CT)) : Option SS :=
 match bx, params with
 | none, ps => match allVT tb ps with
  | some Γ => some { Γ, nt := 0, lv := 0, σ := paramsSg 0 0 Γ }
  | none => none
 | some cs, _ :: ps => match allVT tb ps with
  | some Γ => some { Γ := Γ ++ cs.map (fun t => .one (.c t)), nt := 1, lv := 0, σ := (0, .ptr [] 0 0) :: (1, .box (vars Γ.length cs)) :: paramsSg 1 0 Γ }
  | none => none
 | some _, [] => none
structure Fx where
 cx : Cx
 res : List ResultVar
 bx : Bool
 rt : List (Nat × Nat) := []
def frzS (σ : Nat → ST) : Nat → ST := fun l => match σ l with | .live m => .live ⟨m.n, none⟩ | st => st
def bodyOf (σ : Nat → ST) (g : Nat) : Option E := match σ (3 * g + 2) with | .live ⟨_, some (b, _)⟩ => some b | _ => none
def kkBody (σ : Nat → ST) : KK → Option E
 | .own g => bodyOf σ g
 | _ => none
def frz (tab : Nat → List CT) (Γ : List VT) (σ : Nat → ST) : K → E → E
 | .own g, e => (bodyOf σ g).getD e
 | .ag ks, e => bif (ks.any fun kk => (kkBody σ kk).isSome) && (match e.inf tab Γ with | some (.one (.agg us)) => Nat.beq us.length ks.length | _ => false) then mk ((List.range ks.length).map fun j => (kkBody σ (ks.getD j .d)).getD (.cell e j)) else e
 | _, e => e
def retE (tb : TB) (ss : SS) : ResultVar → Option (K × E)
 | .tmp t => match ss.σ.get (3 * t) with | .v [] k e => some (k, frz tb.tab ss.Γ ss.σ.get k e) | _ => none
 | .cell t T => match ss.σ.get (3 * t), tb.get T with
  | .ptr [] id 0, some ti => match ss.σ.get (3 * id + 1), ti.vt with
   | .box cs, .one (.agg ts) => bif Nat.beq ts.length cs.length then some (packK (cs.map (·.1)), pack tb.tab ss.Γ (cs.map fun x => frz tb.tab ss.Γ ss.σ.get x.1 x.2)) else none
   | .box [(k, e)], .one (.c _) => some (k, e)
   | _, _ => none
  | _, _ => none
def retEs (tb : TB) (ss : SS) : List ResultVar → Option (List (K × E))
 | [] => some []
 | r :: rs => match retE tb ss r, retEs tb ss rs with
  | some e, some es => some (e :: es)
  | _, _ => none
def cellsK (tab : Nat → List CT) (Γ : List VT) : List (K × E) → Option (List KK)
 | [] => some []
 | (k, e) :: r => match e.inf tab Γ, cellsK tab Γ r with
  | some (.one (.c _)), some l => some (k.kk :: l)
  | some (.one (.agg ts)), some l => some ((List.range ts.length).map (fun j => (k.nth j).kk) ++ l)
  | _, _ => none
def rtTags (σ : Nat → ST) (l : List KK) : List (Nat × Nat) → Option (List Nat)
 | [] => some []
 | (p, m) :: r => match l[p]?, rtTags σ l r with
  | some .full, some q => some q
  | some (.own g), some q => if σ (3 * g + 2) = .live ⟨m, none⟩ ∧ memN g q = false then some (g :: q) else none
  | _, _ => none
def rtChk (tab : Nat → List CT) (Γ : List VT) (σ : Nat → ST) (es : List (K × E)) : List (Nat × Nat) → Bool
 | [] => true
 | rt => match cellsK tab Γ es with | some l => (rtTags σ l rt).isSome | none => false
def tups : List E → E → E
 | [], acc => acc
 | e :: r, acc => tups r (.tp1 acc e)
def oneE : List E → E
 | [e] => e
 | es => tups es .tp0
def retVC (fx : Fx) (ss : SS) : VC :=
 match retEs fx.cx.tb ss fx.res with
 | some es =>
  bif rtChk fx.cx.tb.tab ss.Γ (frzS ss.σ.get) es fx.rt then
   bif fx.bx then match ss.σ.get 1 with
    | .box cs => .ret (oneE (es.map (·.2))) (cs.map (·.2))
    | _ => .fail 1
   else .ret (oneE (es.map (·.2))) []
  else .fail 10
 | none => .fail 0
def lookupE (id : Nat) : List (Nat × (SS → VC)) → Option (SS → VC)
 | [] => none
 | (i, k) :: r => bif Nat.beq i id then some k else lookupE id r
def againVC (tab : Nat → List CT) (n nt lv : Nat) (H : Head) (s : SS) : VC :=
 match back tab n nt H s with
 | some es => bif Nat.blt lv s.lv then .again (s.lv - lv - 1) es else .fail 2
 | none => .fail 3
def rqBel (n : Nat) : Rq → Bool
 | .cond gs c => gdBel n gs && c.bel n
 | .callR _ bx args _ _ _ => (match bx with | none => true | some l => l.all (·.bel n)) && args.all (·.bel n)
 | .call gs _ bx args _ _ => gdBel n gs && (match bx with | none => true | some l => l.all (·.bel n)) && args.all (·.bel n)
 | .new _ args _ => args.all (·.bel n)
 | .callV gs e args _ => gdBel n gs && e.bel n && args.all (·.bel n)
 | .glob _ _ ix => (match ix with | none => true | some (gs, e, _) => gdBel n gs && e.bel n)
def effsBel : Nat → List Eff → Bool
 | _, [] => true
 | n, e :: r => e.rq.all (rqBel n) && effsBel (n + (rqTys e.rq).length) r
def oneRq (es : List Eff) : Bool := es.all fun e => Nat.ble e.rq.length 1
def isRet : List Eff → Bool
 | [] => true
 | e :: r => (match e.rq with | [] => true | _ => false) && isRet r
def fOp (j d : Nat) (v : Bool) (o : Oper) : Option Oper :=
 match o.guard with
 | some (i, b) => bif Nat.beq i j then (bif b == v then some { o with guard := none } else none) else some o
 | none => match o.op with
  | .pick (.tmp t) x y => bif Nat.beq t d then some { o with op := .move (bif v then x else y) } else some o
  | _ => some o
def fEff (cx : Cx) (ops : Array Oper) (j d : Nat) (v : Bool) (Γ : List VT) (g : Nat) (o : Oper) (σ : Nat → ST) : Option Eff :=
 match fOp j d v o with
 | some o' => opEff cx ops Γ g o' σ
 | none => bif dstOk cx.nt o.dst then some ⟨wv o.dst .un, []⟩ else none
def holdsAt (σ : Nat → ST) (d : Nat) (c : E) : Bool := match σ (3 * d) with
 | .v [] _ e => decide (e = c)
 | _ => false
def runF (cx : Cx) (ops : Array Oper) (j d : Nat) (v : Bool) (c : E) : List Oper → SS → Option (List Eff × SS)
 | [], ss => some ([], ss)
 | o :: r, ss => bif holdsAt ss.σ.get d c then match fEff cx ops j d v ss.Γ ss.nt o ss.σ.get with
   | none => none
   | some e => match runF cx ops j d v c r (ss.step e) with
    | none => none
    | some (es, s) => some (e :: es, s)
  else none
def spanG : List Oper → List Oper × List Oper
 | [] => ([], [])
 | o :: r => match o.guard with
  | none => (o :: (spanG r).1, (spanG r).2)
  | some _ => ([], o :: r)
def okEs (ss : SS) (es : List Eff) : Bool := (isRet es || ss.σ.all fun x => stBel ss.Γ.length (ss.σ.get x.1)) && effsBel ss.Γ.length es && oneRq es
def forkK (cx : Cx) (ops : Array Oper) (j d : Nat) (c : E) (l : List Oper) (s : SS) (n : Nat) (k : SS → VC) (v : Bool) : VC :=
 match runF cx ops j d v c l s with
 | some (es, s') => bif okEs s es then rqs es (k s') else .fail n
 | none => .fail n
def regFork (cx : Cx) (ops : Array Oper) (ss : SS) (n : Nat) (k : SS → VC) : VC :=
 match (spanG ops.toList).2 with
 | [] => .fail n
 | o :: r => match o.guard with
  | none => .fail n
  | some (j, _) => match (ops[j]?).bind (·.dst) with
   | none => .fail n
   | some d => match regRun cx ops (spanG ops.toList).1 ss with
    | none => .fail n
    | some (es, s) => match s.σ.get (3 * d) with
     | .v [] _ c => bif okEs ss es && isC .bool (c.inf cx.tb.tab s.Γ) && c.bel s.Γ.length then rqs es (.ite c (forkK cx ops j d c (o :: r) s n k true) (forkK cx ops j d c (o :: r) s n k false)) else .fail n
     | _ => .fail n
def sx (fx : Fx) : Code → SS → List (Nat × (SS → VC)) → (SS → VC) → VC
 | .skip, ss, _, k => k ss
 | .region id ops draw, ss, _, k => match regRun fx.cx ops ops.toList ss with
  | some (es, s) => bif (!draw || drawOk ops es ss) && (isRet es || ss.σ.all fun x => stBel ss.Γ.length (ss.σ.get x.1)) && effsBel ss.Γ.length es && oneRq es then rqs es (k s) else .fail (1000 + id)
  | none => bif draw then .fail (2000 + id) else regFork fx.cx ops ss (2000 + id) k
 | .seq a b, ss, ex, k => sx fx a ss ex fun s => sx fx b s ex k
 | .cond x a b, ss, ex, k => match undV [] (opd fx.cx.tb ss.σ.get 0 x) with
  | some (_, e) => bif isC .bool (e.inf fx.cx.tb.tab ss.Γ) then .ite e (sx fx a ss ex k) (sx fx b ss ex k) else .fail 4
  | none => .fail 5
 | .block id c, ss, ex, k => sx fx c ss ((id, k) :: ex) k
 | .exit id, ss, ex, _ => match lookupE id ex with
  | some k => k ss
  | none => .fail 6
 | .loop c, ss, ex, _ =>
  let H := mkHead fx.cx.tb.tab c ss
  match back fx.cx.tb.tab ss.Γ.length ss.nt H ss with
  | some es => bif Nat.beq H.hd.lv (ss.lv + 1) && decide (H.hd.Γ = ss.Γ ++ H.tys) && Nat.beq H.slots.length H.tys.length then .loop H.tys es (sx fx c H.hd ex (againVC fx.cx.tb.tab ss.Γ.length ss.nt ss.lv H)) else .fail 7
  | none => .fail 8
 | .ret, ss, _, _ => retVC fx ss
 | _, _, _, _ => .fail 9
def HasTys (tab : Nat → List CT) : List VT → List D → Prop
 | [], [] => True
 | t :: ts, d :: ds => HasVT tab t d ∧ HasTys tab ts ds
 | _, _ => False
def VC.den (P : Program) (tab : Nat → List CT) : VC → List D → (D → List D → Prop) → List (List D → Prop) → Prop
 | .fail _, _, _, _ => False
 | .ret e bs, env, Q, _ => Q (e.den env) (bs.map (·.den env))
 | .rq (.cond gs c) k, env, Q, L => (gsH env gs → c.den env = .bool true) ∧ k.den P tab env Q L
 | .rq (.call gs f bx args vt nb) k, env, Q, L => ∃ d cs, HasVT tab vt d ∧ RowTy tab nb cs ∧ (gsH env gs → Fun P f (bx.map (·.map (·.den env))) (args.map (·.den env)) d cs) ∧ k.den P tab (env ++ d :: cs) Q L
 | .rq (.callR f bx args vt nb rt) k, env, Q, L => ∃ d cs, HasVT tab vt d ∧ RowTy tab nb cs ∧ FunR P f (bx.map (·.map (·.den env))) (args.map (·.den env)) d cs rt ∧ k.den P tab (env ++ d :: cs) Q L
 | .rq (.new f args nb) k, env, Q, L => ∃ cs, RowTy tab nb cs ∧ FunN P f (args.map (·.den env)) cs ∧ k.den P tab (env ++ cs) Q L
 | .rq (.callV gs e args vt) k, env, Q, L => ∃ d, HasVT tab vt d ∧ (gsH env gs → FunV P (e.den env) (args.map (·.den env)) d) ∧ k.den P tab (env ++ [d]) Q L
 | .rq (.glob g vt ix) k, env, Q, L => ∃ d, HasVT tab vt d ∧ GlobIs g d ∧ IxOk env ix ∧ k.den P tab (env ++ [d]) Q L
 | .ite c a b, env, Q, L => ((c.den env).toB = true → a.den P tab env Q L) ∧ ((c.den env).toB = false → b.den P tab env Q L)
 | .loop tys inits body, env, Q, L => ∃ (I : List D → Prop) (μ : List D → Nat), I (inits.map (·.den env)) ∧
   ∀ xs, HasTys tab tys xs → FitsL xs → I xs → body.den P tab (env ++ xs) Q ((fun ys => I ys ∧ μ ys < μ xs) :: L)
 | .again d es, env, _, L => match L[d]? with
  | some p => p (es.map (·.den env))
  | none => False
end Go.Proofs.YtimickglpboilaaGreat
