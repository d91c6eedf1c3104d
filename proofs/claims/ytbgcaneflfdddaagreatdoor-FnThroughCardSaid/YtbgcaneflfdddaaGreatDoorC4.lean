/- Each operation does to a world what the executor says it does: append; and all operations together. No program in sight. -/
import Derived.Test.YtbgcaneflfdddaaGreatDoorC3
import Derived.Orders
set_option linter.unusedVariables false
set_option linter.unusedSimpArgs false
set_option linter.unusedSectionVars false
namespace Go.Proofs.YtbgcaneflfdddaaGreatDoor
open Go.RowKit
variable [GC]
section
variable {w : World} {M : Addr → Prop}
theorem Rws.cells : ∀ {rows : List (List D)} {b o : Nat}, Rws w M rows b o → ∃ vs : List Value, vs.length = rows.flatten.length ∧ Rs w M rows.flatten vs ∧ ∀ i u, vs[i]? = some u → w.cell? ⟨b, o + i, none⟩ = some u
 | [], _, _, _ => ⟨[], rfl, rfl, fun i u h => by simp at h⟩
 | r :: l, b, o, ⟨h1, h2⟩ => by
  obtain ⟨vs, e1, r1, c1⟩ := h1.cells
  obtain ⟨us, e2, r2, c2⟩ := Rws.cells h2
  refine ⟨vs ++ us, by simp [e1, e2], by simpa using r1.append r2, fun i u hu => ?_⟩
  rw [List.getElem?_append] at hu
  split at hu
  ·exact c1 i u hu
  ·have := c2 _ _ hu
   rwa [show o + r.length + (i - vs.length) = o + i by omega] at this
theorem flat_len {n : Nat} : ∀ {rows : List (List D)}, (∀ r ∈ rows, r.length = n) → rows.flatten.length = rows.length * n
 | [], _ => by simp
 | r :: l, h => by
  have ih := flat_len (rows := l) (fun x hx => h x (by simp [hx]))
  have hr := h r (by simp)
  simp only [List.flatten_cons, List.length_append, List.length_cons, ih, hr, Nat.add_mul, Nat.one_mul]
  omega
theorem one_flat {tab : Nat → List CT} {ts : List CT} : ∀ {rows : List (List D)} {vs : List Value}, RowsTy tab ts rows → Rs w M rows.flatten vs → ∀ v ∈ vs, v.oneCell' = true
 | [], vs, _, h, v, hv => by simp [Rs] at h; subst h; simp at hv
 | r :: l, vs, ht, h, v, hv => by
  simp only [RowsTy] at ht
  simp only [List.flatten_cons] at h
  have h1 := h.take r.length
  have h2 := h.drop r.length
  rw [List.take_left' rfl] at h1
  rw [List.drop_left' rfl] at h2
  rw [← List.take_append_drop r.length vs] at hv
  rcases List.mem_append.1 hv with hv | hv
  ·exact cells_one ht.1 h1 v hv
  ·exact one_flat ht.2 h2 v hv
theorem Rws.append : ∀ {rows r2 : List (List D)} {b o : Nat}, Rws w M rows b o → Rws w M r2 b (o + rows.flatten.length) → Rws w M (rows ++ r2) b o
 | [], _, _, _, _, h => by simpa using h
 | r :: l, r2, b, o, ⟨h1, h2⟩, h => ⟨h1, Rws.append h2 (by simpa [Nat.add_assoc] using h)⟩
theorem growBy_le (n : Nat) : ∀ (r c : Nat), Builtin.growBy n r c + 768 ≤ (c + 768) * 2 ^ r
 | 0, c => by simp [Builtin.growBy]
 | r + 1, c => by
  have hp : 0 < 2 ^ r := Nat.two_pow_pos r
  simp only [Builtin.growBy]
  split
  ·rw [Nat.pow_succ]
   have : (c + 768) * 1 ≤ (c + 768) * (2 ^ r * 2) := Nat.mul_le_mul_left _ (by omega)
   rwa [Nat.mul_one] at this
  ·refine Nat.le_trans (growBy_le n r _) ?_
   rw [Nat.pow_succ, show (c + 768) * (2 ^ r * 2) = ((c + 768) * 2) * 2 ^ r by rw [Nat.mul_assoc, Nat.mul_comm 2]]
   exact Nat.mul_le_mul_right _ (by omega)
theorem growBy_le4 (n c : Nat) : Builtin.growBy n 4 c ≤ 16 * (c + 768) := by
 have h := growBy_le n 4 c
 have e2 : (2 : Nat) ^ 4 = 16 := by decide
 have e : (c + 768) * 2 ^ 4 = 16 * (c + 768) := by rw [e2, Nat.mul_comm]
 rw [e] at h
 exact Nat.le_trans (Nat.le_add_right _ _) h
theorem nextcap_le {need cap : Nat} (h : cap < need) (h' : need ≤ 4294967296) : Builtin.nextslicecap need cap ≤ 16 * (4294967296 + 768) := by
 unfold Builtin.nextslicecap
 by_cases h1 : need > 2 * cap
 ·rw [if_pos h1]; omega
 ·rw [if_neg h1]
  by_cases h2 : cap < 256
  ·rw [if_pos h2]; omega
  ·rw [if_neg h2]
   exact Nat.le_trans (growBy_le4 need cap) (Nat.mul_le_mul_left _ (by omega))
end
section
variable {P : Program} {c : SC} {F : Nat → Prop} {σ : Nat → ST} {bm : Nat → Nat} {tm : Nat → Value} {a : Act} {w w' : World} {tb : TB} {Γ : List VT} {gs : Gd}
theorem Sim.append (hs : Sim c F σ bm tm a w) {g n : Nat} (hg : ¬ F g) (oh : Option Nat) (hoh : ∀ h, oh = some h → σ (3 * h + 2) = .live ⟨n, none⟩) (v' : Value) (blk : Option Nat)
  (hfr : Fr c.B c.X w w') (hk : Keeps w (MM c.M0 bm tm σ) w' (MM c.M0 bm (upd tm g v') (upd (dropR σ oh) (3 * g + 2) (.live ⟨n, none⟩))))
  (hob : ∀ k, k < w.heap.size → some k ≠ blk → w'.heap[k]? = w.heap[k]?)
  (hblk : ∀ b, blk = some b → ∃ h o s len cap, oh = some h ∧ tm h = .slice (some ⟨b, o, s⟩) len cap ∧ 0 < cap)
  (hlive : LiveOk c w' (upd tm g v') g ⟨n, none⟩) (hv' : ∀ b o s len cap, v' = .slice (some ⟨b, o, s⟩) len cap → 0 < cap → w.heap.size ≤ b ∨ blk = some b) :
  Sim c (fun x => F x ∨ x = g) (upd (dropR σ oh) (3 * g + 2) (.live ⟨n, none⟩)) bm (upd tm g v') a w' := by
 have htm : ∀ x, F x → upd tm g v' x = tm x := fun x hx => upd_ne _ _ (fun e => hg (e ▸ hx))
 have htv : ∀ x m, σ (3 * x + 2) = .live m → upd tm g v' x = tm x ∧ ∀ y, men (.live m) y → upd tm g v' y = tm y := fun x m h => ⟨htm x (hs.f3 x m h), fun y hy => htm y (hs.f1 (3 * x + 2) y (by rw [h]; exact hy))⟩
 have hbn : ∀ id cs, σ (3 * id + 1) = .box cs → some (bm id) ≠ blk := fun id cs hc e => by
  obtain ⟨h, o, s, len, cap, h1, h2, h3⟩ := hblk _ e.symm
  exact hs.dbl id cs h ⟨n, none⟩ _ hc (hoh h h1) (.inl ⟨o, s, len, cap, h2, h3⟩) rfl
 have hln : ∀ x m b, σ (3 * x + 2) = .live m → oh ≠ some x → Blk tm x m b → some b ≠ blk := fun x m b hx hne hb e => by
  obtain ⟨h, o', s', len', cap', h1, h2, h3⟩ := hblk _ e.symm
  exact hs.dll x m h ⟨n, none⟩ b b hx (hoh h h1) (fun e => hne (e ▸ h1)) hb (.inl ⟨o', s', len', cap', h2, h3⟩) rfl
 have hnw : ∀ b, Blk (upd tm g v') g ⟨n, none⟩ b → w.heap.size ≤ b ∨ blk = some b := fun b hb => by
  obtain ⟨o, s, len, cap, h1, h2⟩ := Blk_none hb
  rw [upd_same] at h1
  exact hv' b o s len cap h1 h2
 refine hs.turn (fun t => by rw [upd_r_t, dropR_t]) (fun x hx => ⟨rfl, htm x hx⟩) (fun _ h => .inl h) hfr hk ?_ ?_ ?_ ?_ ?_ ?_ ?_ ?_
 ·intro id cs h
  rw [upd_r_box, dropR_box] at h
  refine (hs.box id cs h).keep hk rfl (hob _ (hs.box id cs h).lt (hbn id cs h)) fun x hx => htm x ?_
  exact hs.f1 (3 * id + 1) x (by rw [h]; exact hx)
 ·intro x m h
  by_cases e : x = g
  ·subst e; rw [upd_same] at h; simp at h; subst h; exact hlive
  ·rw [upd_r_live _ e] at h
   obtain ⟨h1, h2⟩ := dropR_live h
   exact (hs.live x m h1).keep (fun b hb => hob _ ((hs.live x m h1).lt hb) (hln x m b h1 h2 hb)) (htv x m h1).1 (htv x m h1).2
 ·intro id id' cs cs' h h'
  rw [upd_r_box, dropR_box] at h h'
  exact hs.dbb id id' cs cs' h h'
 ·intro id cs x m b h hx hb
  rw [upd_r_box, dropR_box] at h
  by_cases e : x = g
  ·subst e; rw [upd_same] at hx; simp at hx; subst hx
   rcases hnw b hb with h1 | h1
   ·have := (hs.box id cs h).lt; omega
   ·exact fun e => hbn id cs h (by rw [e, h1])
  ·rw [upd_r_live _ e] at hx
   obtain ⟨h1, h2⟩ := dropR_live hx
   exact hs.dbl id cs x m b h h1 ((Blk.congr (htv x m h1).1 (htv x m h1).2).1 hb)
 ·intro x m y m' b b' hx hy hne hb hb'
  by_cases e : x = g <;> by_cases e' : y = g
  ·exact absurd (e.trans e'.symm) hne
  ·subst e; rw [upd_same] at hx; simp at hx; subst hx; rw [upd_r_live _ e'] at hy
   obtain ⟨h1, h2⟩ := dropR_live hy
   have hb' := (Blk.congr (htv y m' h1).1 (htv y m' h1).2).1 hb'
   rcases hnw b hb with h3 | h3
   ·have := (hs.live y m' h1).lt hb'; omega
   ·exact fun q => hln y m' b' h1 h2 hb' (by rw [← q, h3])
  ·subst e'; rw [upd_same] at hy; simp at hy; subst hy; rw [upd_r_live _ e] at hx
   obtain ⟨h1, h2⟩ := dropR_live hx
   have hb := (Blk.congr (htv x m h1).1 (htv x m h1).2).1 hb
   rcases hnw b' hb' with h3 | h3
   ·have := (hs.live x m h1).lt hb; omega
   ·exact fun q => hln x m b h1 h2 hb (by rw [q, h3])
  ·rw [upd_r_live _ e] at hx; rw [upd_r_live _ e'] at hy
   obtain ⟨h1, h2⟩ := dropR_live hx
   obtain ⟨h3, h4⟩ := dropR_live hy
   exact hs.dll x m y m' b b' h1 h3 hne ((Blk.congr (htv x m h1).1 (htv x m h1).2).1 hb) ((Blk.congr (htv y m' h3).1 (htv y m' h3).2).1 hb')
 ·intro l x h
  by_cases e : l = 3 * g + 2
  ·subst e; rw [upd_same] at h; obtain ⟨_, _, h⟩ := h; cases h
  ·rw [upd_ne _ _ e] at h; exact .inl (hs.f1 l x (dropR_men h))
 ·intro id cs h; rw [upd_r_box, dropR_box] at h; exact .inl (hs.f2 id cs h)
 ·intro x m h
  by_cases e : x = g
  ·exact .inr e
  ·rw [upd_r_live _ e] at h; exact .inl (hs.f3 x m (dropR_live h).1)
theorem MM_drop {oh : Option Nat} {p : Addr} {g n : Nat} {v' : Value} (hs : Sim c F σ bm tm a w) (hg : ¬ F g) (h : MM c.M0 bm (upd tm g v') (upd (dropR σ oh) (3 * g + 2) (.live ⟨n, none⟩)) p) :
  (MM c.M0 bm tm (dropR σ oh) p) ∨ spareIn v' n p := by
 rcases h with h | ⟨id, cs, h1, h2⟩ | ⟨x, m, h1, h2⟩
 ·exact .inl (.inl h)
 ·rw [upd_r_box] at h1; exact .inl (.inr (.inl ⟨id, cs, h1, h2⟩))
 ·by_cases e : x = g
  ·subst e; rw [upd_same] at h1; simp at h1; subst h1
   have := ownA_none h2
   rw [upd_same] at this
   exact .inr this
  ·rw [upd_r_live _ e] at h1
   obtain ⟨h3, _⟩ := dropR_live h1
   refine .inl (.inr (.inr ⟨x, m, h1, ownA.congr (upd_ne _ _ e) (fun y hy => upd_ne _ _ fun e' => ?_) h2⟩))
   subst e'
   exact hg (hs.f1 (3 * x + 2) _ (by rw [h3]; exact hy))
theorem MM_drop_sub {oh : Option Nat} {p : Addr} (h : MM c.M0 bm tm (dropR σ oh) p) : MM c.M0 bm tm σ p := by
 rcases h with h | ⟨id, cs, h1, h2⟩ | ⟨x, m, h1, h2⟩
 ·exact .inl h
 ·rw [dropR_box] at h1; exact .inr (.inl ⟨id, cs, h1, h2⟩)
 ·exact .inr (.inr ⟨x, m, (dropR_live h1).1, h2⟩)
theorem setAllA_out : ∀ (l : List Value) (C : Array Value) (o i : Nat), i < o ∨ o + l.length ≤ i → (setAllA C o l)[i]? = C[i]?
 | [], _, _, _, _ => rfl
 | x :: r, C, o, i, h => by
  simp only [List.length_cons] at h
  unfold setAllA
  rw [setAllA_out r _ _ _ (by omega)]
  simp [Array.getElem?_setIfInBounds]; omega
theorem setAllA_in : ∀ (l : List Value) (C : Array Value) (o j : Nat) (u : Value), o + l.length ≤ C.size → l[j]? = some u → (setAllA C o l)[o + j]? = some u
 | [], _, _, _, _, _, h => by simp at h
 | v :: r, C, o, 0, u, hs, h => by
  simp only [List.length_cons] at hs
  simp at h; subst h
  unfold setAllA
  rw [setAllA_out r _ _ _ (by omega)]
  simp [Array.getElem?_setIfInBounds]; omega
 | v :: r, C, o, j + 1, u, hs, h => by
  simp only [List.length_cons] at hs
  simp at h
  unfold setAllA
  have := setAllA_in r (C.setIfInBounds o v) (o + 1) j u (by simp; omega) h
  rwa [show o + (j + 1) = o + 1 + j by omega]
def SlF (w : World) (M : Addr → Prop) (rows : List (List D)) (ad : Option Addr) (len cap : Nat) : Prop :=
 len = rows.length ∧ len ≤ cap ∧ cap ≤ maxLen ∧ (ad = none → cap = 0) ∧ ∀ b o s, ad = some ⟨b, o, s⟩ → (0 < len → s = none) ∧ Rws w M rows b o
theorem first_cells {M : Addr → Prop} {rows : List (List D)} {ad : Option Addr} {len cap n : Nat} (h : SlF w M rows ad len cap) (hn : ∀ r ∈ rows, r.length = n) :
  ∃ vs : List Value, vs.length = len * n ∧ Rs w M rows.flatten vs ∧ ∀ w1 : World, w1.heap = w.heap → (Builtin.firstCells n len (.slice ad len cap)).run P w1 = .ok vs.toArray w1 := by
 obtain ⟨h1, h2, h3, h4, h5⟩ := h
 rcases ad with _ | ⟨b, o, s⟩
 ·have : rows = [] := List.eq_nil_of_length_eq_zero (by have := h4 rfl; omega)
  subst this
  exact ⟨[], by simp at h1; simp [h1], rfl, fun w1 _ => by simp [Builtin.firstCells]⟩
 ·obtain ⟨vs, e, hr, hc⟩ := (h5 b o s rfl).2.cells
  have hlen : vs.length = len * n := by rw [e, flat_len hn, h1]
  refine ⟨vs, hlen, hr, fun w1 hw1 => ?_⟩
  by_cases h0 : len = 0
  ·subst h0
   have : vs = [] := List.eq_nil_of_length_eq_zero (by simpa using hlen)
   subst this
   simp [Builtin.firstCells, loadCells, loadCellsFrom]
  ·have hsn := (h5 b o s rfl).1 (by omega); subst hsn
   have := run_loadCells_list (P := P) (w := w1) ⟨b, o, none⟩ vs (fun j u hu => by
    rw [addr_add, World.cell?_of_block (w := w) (by rw [hw1])]; exact hc j u hu)
   rw [hlen] at this
   simpa [Builtin.firstCells] using this
theorem sAppend (hcx : tbOk P tb tb = true) (hs : Sim c F σ bm tm a w) (hΓ : EnvTy tb.tab Γ c.env) {g n : Nat} (hgF : ¬ F g) {o : Oper} {x y : Operand} {T U : Nat} {cl : Call} (ho : o.op = .call cl) (hcl : cl.callee = .builtin .append) (har : cl.args.toList = [x, y]) (hat : cl.argTypes.toList = [T, U])
  (hd : ∀ d, o.dst = some d → d < c.nt) {ti ui : TI} (hti : tb.get T = some ti) (hui : tb.get U = some ui) {eff : Eff}
  (h : eAppend tb Γ gs o.dst σ g ti ui (opd tb σ T x) (opd tb σ U y) = some eff) : OpOk P c F σ bm tm a w g gs n o eff := by
 have har' : cl.args = #[x, y] := by rw [← Array.toList_inj, har]
 have hat' : cl.argTypes = #[T, U] := by rw [← Array.toList_inj, hat]
 unfold eAppend at h
 split at h
 ·rename_i el el' hv hv'
  split at h
  ·rename_i k ex ky ey ei hx hy hei
   split at h
   ·rename_i hc
    obtain ⟨hcx1, hcy1, hby, hby0, hsz0⟩ := hc
    split at h
    ·simp at h
    ·rename_i v1 hv1
     obtain ⟨j, hj, hjs, hjb⟩ := ty_one hcx hei hv1
     have hcl1 : ei.cells = v1.cells := by simp [TI.cells, hv1]
     have htab : tb.tab el = v1.cells := by simp [TB.tab, hei, hcl1]
     rw [hcl1] at h hsz0
     obtain ⟨z0, hz0, hz1⟩ : ∃ z, j.zero = some z ∧ z.cells.size = v1.cells.length := by
      cases v1 with
      | c t =>
       obtain ⟨i', d', hi', _, _, ⟨z, hz, hzv⟩, _⟩ := ty_c hcx hei hv1
       rw [hj] at hi'; simp at hi'; subst hi'
       refine ⟨z, hz, ?_⟩
       cases t <;> cases z <;> simp [zeroV] at hzv <;> rfl
      | agg ts =>
       obtain ⟨i', f', cs', hi', _, _, hz, hzv, _⟩ := ty_agg hcx hei hv1
       rw [hj] at hi'; simp at hi'; subst hi'
       refine ⟨_, hz, ?_⟩
       have := (zeros_rel (w := w) (M := fun _ => False) (tm := tm) (c := c) hzv).1.length
       simpa [Value.cells, V1.cells] using this
     obtain ⟨_, d1, _, _, _, _, hd1, hdc1⟩ := ty_c hcx hti hv
     simp only [DescC] at hdc1; subst hdc1
     obtain ⟨_, d2, _, _, _, _, hd2, hdc2⟩ := ty_c hcx hui hv'
     simp only [DescC] at hdc2; subst hdc2
     have hvrx := (val_rel hs hx).1 (gsH_nil _)
     have hvry := (val_rel hs hy).1 (gsH_nil _)
     obtain ⟨rows, hrows, hrt, ad, len, cap, hval, hF⟩ := eval_sl hΓ (isC_some hcx1) hvrx
     obtain ⟨rowy, hrowy, hrty, ady, leny, capy, hvaly, hFy⟩ := eval_sl hΓ (isC_some hcy1) hvry
     have hFx' : SlF w (MM c.M0 bm tm σ) rows ad len cap := hF
     have hFy' : SlF w (MM c.M0 bm tm σ) rowy ady leny capy := hFy
     have hnx : ∀ r ∈ rows, r.length = v1.cells.length := fun r hr => by rw [hrt.len r hr, htab]
     have hny : ∀ r ∈ rowy, r.length = v1.cells.length := fun r hr => by rw [hrty.len r hr, htab]
     obtain ⟨vx, hvxl, hvxr, hvxrun⟩ := first_cells (P := P) hFx' hnx
     obtain ⟨vy, hvyl, hvyr, hvyrun⟩ := first_cells (P := P) hFy' hny
     have hone := one_flat hrty hvyr
     have hden : (E.app ex ey).den c.env = .sl (rows ++ rowy) := by simp [E.den, hrows, hrowy]
     have hflat : (rows ++ rowy).flatten = rows.flatten ++ rowy.flatten := by simp
     obtain ⟨hl1, hl2, hl3, hl4, hl5⟩ := hF
     obtain ⟨hm1, hm2, hm3, hm4, hm5⟩ := hFy
     generalize hsz : v1.cells.length = sz at *
     have hrun1 : len + leny ≤ cap → (leny = 0 ∨ ∃ b o' cells T0, ad = some ⟨b, o', none⟩ ∧ w.heap[b]? = some (.cells cells T0 (0, 0)) ∧ o' + len * sz + leny * sz ≤ cells.size) →
       ∃ w', (execOp a.eval o).run P w = .ok (.value (.slice ad (len + leny) cap)) w' ∧ ((leny = 0 ∧ w' = w) ∨ ∃ b o' cells T0, ad = some ⟨b, o', none⟩ ∧ w.heap[b]? = some (.cells cells T0 (0, 0)) ∧ w'.heap[b]? = some (.cells (setAllA cells (o' + len * sz) vy) T0 (0, 0)) ∧ OneBlock w w' b ∧ o' + len * sz + leny * sz ≤ cells.size) := by
      intro hle hroom
      rcases hroom with h0 | ⟨b, o', cells, T0, rfl, hblk, hrm⟩
      ·subst h0
       have hvy0 : vy = [] := List.eq_nil_of_length_eq_zero (by simpa using hvyl)
       subst hvy0
       refine ⟨w, ?_, .inl ⟨rfl, rfl⟩⟩
       rcases ad with _ | ad
       ·simp [execOp, ho, resolve, hcl, invoke, builtin, Builtin.append_, har', hat', hval, hvaly, run_underlying hd1, run_underlying hd2, run_sizeOf hj, hjs, Builtin.lenOf, hl2, hvyrun w rfl, show len ≤ cap from hl2]
       ·simp [execOp, ho, resolve, hcl, invoke, builtin, Builtin.append_, har', hat', hval, hvaly, run_underlying hd1, run_underlying hd2, run_sizeOf hj, hjs, Builtin.lenOf, hl2, hvyrun w rfl, show len ≤ cap from hl2, storeCells]
      ·obtain ⟨w', h1, h2, h3⟩ := run_storeCells (P := P) b T0 vy w cells (o' + len * sz) 0 hblk hone (by rw [hvyl]; omega)
       refine ⟨w', ?_, .inr ⟨b, o', cells, T0, rfl, hblk, by simpa using h2, h3, hrm⟩⟩
       simp [execOp, ho, resolve, hcl, invoke, builtin, Builtin.append_, har', hat', hval, hvaly, run_underlying hd1, run_underlying hd2, run_sizeOf hj, hjs, Builtin.lenOf, hle, hvyrun w rfl, addr_add, h1]
     have hrun2 : cap < len + leny → len + leny ≤ 4294967296 → ∃ (cells : Array Value) (nc : Nat), (execOp a.eval o).run P w = .ok (.value (.slice (some ⟨w.heap.size, 0, none⟩) (len + leny) nc)) (w.drew.alloc (.cells cells el)) ∧ len + leny ≤ nc ∧ nc ≤ maxLen ∧ cells.size = nc * sz ∧ ∀ (i : Nat) (u : Value), (vx ++ vy)[i]? = some u → cells[i]? = some u := by
      intro hgt hfew
      have hq : ¬ (Builtin.nextslicecap (len + leny) cap * j.bytes > 2 ^ 48) := by
       have h1 := nextcap_le hgt hfew
       have h2 : Builtin.nextslicecap (len + leny) cap * j.bytes ≤ (16 * (4294967296 + 768)) * 1024 := Nat.mul_le_mul h1 (by omega)
       omega
      have hby1 : ¬ (j.bytes = 0) := by omega
      have hnl : ¬ (len + leny ≤ cap) := by omega
      refine ⟨vx.toArray ++ vy.toArray ++ Builtin.zeroCells z0.cells ((len + leny + w.tape w.drawn (.appendCap (len + leny) cap el) % (2 ^ 63 - (len + leny))) - (len + leny)), len + leny + w.tape w.drawn (.appendCap (len + leny) cap el) % (2 ^ 63 - (len + leny)), ?_, by omega, ?_, ?_, ?_⟩
      ·have hdrew : (w.drew).heap.size = w.heap.size := rfl
       simp [execOp, ho, resolve, hcl, invoke, builtin, Builtin.append_, har', hat', hval, hvaly, run_underlying hd1, run_underlying hd2, run_sizeOf hj, run_typeInfo hj, hjs, Builtin.lenOf, hnl, hby1, Nat.not_lt.2 (Nat.not_lt.1 hq), Question.forced, Question.cut, zeroValue, hz0, newRow, hvxrun w.drew rfl, hvyrun w.drew rfl]
       rw [← List.append_toArray, Array.append_assoc]
      ·have := Nat.mod_lt (w.tape w.drawn (.appendCap (len + leny) cap el)) (show 0 < 2 ^ 63 - (len + leny) by omega)
       unfold maxLen; omega
      ·simp [Builtin.zeroCells, hvxl, hvyl, hz1]
       rw [← Nat.add_mul, ← Nat.add_mul]
      ·intro i u hu
       have hi : i < (vx ++ vy).length := (List.getElem?_eq_some_iff.1 hu).1
       rw [Array.getElem?_append_left (by simpa using hi)]
       rw [List.append_toArray]; simpa using hu
     have main : ∀ oh : Option Nat, (∀ h, oh = some h → σ (3 * h + 2) = .live ⟨sz, none⟩ ∧ tm h = .slice ad len cap) → (oh = none → cap = 0) → len + leny ≤ 4294967296 → ∀ (K : Act → World → Prop) (Q : Exit → Act → World → Prop),
       (∀ bm' tm' a' w', Sim c (fun x => F x ∨ NewT g x) (updL (upd (dropR σ oh) (3 * g + 2) (.live ⟨sz, none⟩)) (wv o.dst (.v [] (.own g) (.app ex ey)))) bm' tm' a' w' → K a' w') → o.wp P a w K Q := by
      intro oh hoh hohn hfew K Q hK
      have hohl : ∀ h, oh = some h → σ (3 * h + 2) = .live ⟨sz, none⟩ := fun h e => (hoh h e).1
      have fin : ∀ (v' : Value) (w' : World) (blk : Option Nat), (execOp a.eval o).run P w = .ok (.value v') w' → Fr c.B c.X w w' →
        Keeps w (MM c.M0 bm tm σ) w' (MM c.M0 bm (upd tm g v') (upd (dropR σ oh) (3 * g + 2) (.live ⟨sz, none⟩))) →
        (∀ k, k < w.heap.size → some k ≠ blk → w'.heap[k]? = w.heap[k]?) →
        (∀ b, blk = some b → ∃ h o s len cap, oh = some h ∧ tm h = .slice (some ⟨b, o, s⟩) len cap ∧ 0 < cap) →
        LiveOk c w' (upd tm g v') g ⟨sz, none⟩ → (∀ b o s len cap, v' = .slice (some ⟨b, o, s⟩) len cap → 0 < cap → w.heap.size ≤ b ∨ blk = some b) →
        R w' (MM c.M0 bm (upd tm g v') (upd (dropR σ oh) (3 * g + 2) (.live ⟨sz, none⟩))) (.sl (rows ++ rowy)) v' → o.wp P a w K Q := by
       intro v' w' blk hrun hfr hk hob hblk hlive hv'' hR
       unfold Oper.wp
       rw [hrun]
       refine hK _ _ _ _ (Sim.tag ((hs.append hgF oh hohl v' blk hfr hk hob hblk hlive hv'').putO hd (relT_v (gsH_nil _) ⟨?_, ?_⟩) fun x hx => ?_))
       ·rw [hden]; exact hR
       ·rw [upd_same]
       ·exact .inr hx
      by_cases hle : len + leny ≤ cap
      · -- in place
       by_cases h0 : leny = 0
       ·subst h0
        obtain ⟨w', hrun, hcase⟩ := hrun1 hle (.inl rfl)
        have hw : w' = w := by
         rcases hcase with ⟨_, h⟩ | ⟨b, o', cells, T0, h1, h2, h3, h4, h5⟩
         ·exact h
         ·have hvy0 : vy = [] := List.eq_nil_of_length_eq_zero (by simpa using hvyl)
          subst hvy0
          obtain ⟨w2, hrun2', hc2⟩ := hrun1 hle (.inl rfl)
          have e1 := hrun.symm.trans hrun2'
          simp only [Result.ok.injEq, true_and] at e1
          have : (execOp a.eval o).run P w = .ok (.value (.slice ad (len + 0) cap)) w := by
           rcases ad with _ | ad
           ·simp [execOp, ho, resolve, hcl, invoke, builtin, Builtin.append_, har', hat', hval, hvaly, run_underlying hd1, run_underlying hd2, run_sizeOf hj, hjs, Builtin.lenOf, hl2, hvyrun w rfl]
           ·simp [execOp, ho, resolve, hcl, invoke, builtin, Builtin.append_, har', hat', hval, hvaly, run_underlying hd1, run_underlying hd2, run_sizeOf hj, hjs, Builtin.lenOf, hl2, hvyrun w rfl, storeCells]
          have e2 := hrun.symm.trans this
          simp only [Result.ok.injEq, true_and] at e2
          exact e2
        subst hw
        have hry : rowy = [] := List.eq_nil_of_length_eq_zero (by omega)
        subst hry
        simp only [Nat.add_zero] at hrun
        by_cases hlc : 0 < cap
        ·obtain ⟨h', rfl⟩ : ∃ h', oh = some h' := by
          cases oh with
          | none => have := hohn rfl; omega
          | some h' => exact ⟨h', rfl⟩
         obtain ⟨hl', ht'⟩ := hoh h' rfl
         rcases ad with _ | ⟨b, o', s⟩
         ·have := hl4 rfl; omega
         refine fin _ _ (some b) hrun (Fr.refl _ _ _) (fun p v hp hn => ⟨hp, fun hm => ?_⟩) (fun _ _ _ => rfl) (fun b' hb' => ⟨h', o', s, len, cap, rfl, by simp at hb'; subst hb'; exact ht', hlc⟩) ?_ (fun b' o2 s2 l2 c2 he _ => .inr (by simp at he; rw [he.1.1])) ?_
         ·rcases MM_drop hs hgF hm with h | h
          ·exact hn (MM_drop_sub h)
          ·exact hn (.inr (.inr ⟨h', ⟨sz, none⟩, hl', ownA_of (by rw [ht']; exact h)⟩))
         ·refine ⟨fun b' o2 s2 l2 c2 he hlt => ?_, (fun e dp he => by cases he), (fun e gv ms he => by cases he)⟩
          rw [upd_same] at he
          exact (hs.live h' ⟨sz, none⟩ hl').sp b' o2 s2 l2 c2 (by rw [ht', he]) hlt
         ·rw [List.append_nil, ← hrows, ← hval]
          refine R.keep (fun p v hp hn => ⟨hp, fun hm => ?_⟩) _ _ hvrx.rd
          rw [hval] at hm
          rcases MM_drop hs hgF hm with h | h
          ·exact hn (MM_drop_sub h)
          ·exact hn (.inr (.inr ⟨h', ⟨sz, none⟩, hl', ownA_of (by rw [ht']; exact h)⟩))
        ·have hnsp : ∀ p, ¬ spareIn (.slice ad len cap) sz p := by
          rintro p ⟨b, o', s, l2, c2, he, _, h1, h2⟩
          simp only [Value.slice.injEq] at he
          obtain ⟨_, rfl, rfl⟩ := he
          have e1 : cap = 0 := by omega
          rw [e1] at h2; omega
         have hkk : Keeps w' (MM c.M0 bm tm σ) w' (MM c.M0 bm (upd tm g (.slice ad len cap)) (upd (dropR σ oh) (3 * g + 2) (.live ⟨sz, none⟩))) := fun p v hp hn => ⟨hp, fun hm => by
          rcases MM_drop hs hgF hm with h | h
          ·exact hn (MM_drop_sub h)
          ·exact hnsp p h⟩
         refine fin _ _ none hrun (Fr.refl _ _ _) hkk (fun _ _ _ => rfl) (fun b' hb' => by cases hb') ?_ (fun b' o2 s2 l2 c2 he hlt => by simp only [Value.slice.injEq] at he; omega) ?_
         ·refine ⟨fun b' o2 s2 l2 c2 he hlt => ?_, (fun e dp he => by cases he), (fun e gv ms he => by cases he)⟩
          rw [upd_same] at he; simp only [Value.slice.injEq] at he; omega
         ·rw [List.append_nil, ← hrows]
          have := R.keep hkk _ _ hvrx.rd
          rwa [hval] at this
       · -- cells of the room behind are written
        have hlc : 0 < cap := by omega
        obtain ⟨h', rfl⟩ : ∃ h', oh = some h' := by
         cases oh with
         | none => have := hohn rfl; omega
         | some h' => exact ⟨h', rfl⟩
        obtain ⟨hl', ht'⟩ := hoh h' rfl
        rcases ad with _ | ⟨b, o', s⟩
        ·have := hl4 rfl; omega
        obtain ⟨hsn, hBb, cells, T0, hblk, hroom⟩ := (hs.live h' ⟨sz, none⟩ hl').sp b o' s len cap ht' hlc
        subst hsn
        replace hroom : o' + cap * sz ≤ cells.size := hroom
        have hmul : len * sz + leny * sz ≤ cap * sz := by rw [← Nat.add_mul]; exact Nat.mul_le_mul_right _ hle
        obtain ⟨w', hrun, hcase⟩ := hrun1 hle (.inr ⟨b, o', cells, T0, rfl, hblk, by omega⟩)
        rcases hcase with ⟨h, _⟩ | ⟨b1, o1, cells1, T1, h1, h2, h3, h4, h5⟩
        ·exact absurd h h0
        simp only [Option.some.injEq, Addr.mk.injEq, and_true] at h1
        obtain ⟨rfl, rfl⟩ := h1
        rw [hblk] at h2
        simp only [Option.some.injEq, Obj.cells.injEq] at h2
        obtain ⟨rfl, rfl, _⟩ := h2
        have hspare : ∀ i, len * sz ≤ i → i < cap * sz → MM c.M0 bm tm σ ⟨b, o' + i, none⟩ := fun i hi1 hi2 =>
         .inr (.inr ⟨h', ⟨sz, none⟩, hl', ownA_of ⟨b, o', none, len, cap, ht', rfl, by show o' + len * sz ≤ o' + i; omega, by show o' + i < o' + cap * sz; omega⟩⟩)
        have hcell' : ∀ i, w'.cell? ⟨b, i, none⟩ = (setAllA cells (o' + len * sz) vy)[i]? := fun i => cell_of_row w' b i _ _ _ h3
        have hcell0 : ∀ i, w.cell? ⟨b, i, none⟩ = cells[i]? := fun i => cell_of_row w b i _ _ _ hblk
        have hMd : ∀ p, p.block = b → ¬ MM c.M0 bm tm (dropR σ (some h')) p := by
         rintro p hpb (h | ⟨id, cs, q1, q2⟩ | ⟨x, m, q1, q2⟩)
         ·have := hs.m0.1 p h; omega
         ·rw [dropR_box] at q1
          exact hs.dbl id cs h' ⟨sz, none⟩ b q1 hl' (.inl ⟨o', none, len, cap, ht', hlc⟩) (by rw [← q2, hpb])
         ·obtain ⟨q6, q7⟩ := dropR_live q1
          exact hs.dll x m h' ⟨sz, none⟩ p.block b q6 hl' (fun e => q7 (by rw [e])) (ownA_blk q2) (.inl ⟨o', none, len, cap, ht', hlc⟩) hpb
        have hkk : Keeps w (MM c.M0 bm tm σ) w' (MM c.M0 bm (upd tm g (.slice (some ⟨b, o', none⟩) (len + leny) cap)) (upd (dropR σ (some h')) (3 * g + 2) (.live ⟨sz, none⟩))) := by
         intro p v hp hn
         constructor
         ·by_cases hpb : p.block = b
          ·have hsp := World.cell?_spot hp
           obtain ⟨pb, po, ps⟩ := p
           simp only at hpb hsp; subst hpb hsp
           rw [hcell', setAllA_out]
           ·rw [← hcell0]; exact hp
           ·rcases Nat.lt_or_ge po (o' + len * sz) with h | h
            ·exact .inl h
            ·refine .inr ?_
             rcases Nat.lt_or_ge po (o' + len * sz + vy.length) with h6 | h6
             ·refine absurd (hspare (po - o') (by omega) (by omega)) ?_
              rwa [show o' + (po - o') = po by omega]
             ·exact h6
          ·rw [← hp]; exact World.cell?_of_block (h4.block _ hpb)
         ·intro hm
          rcases MM_drop hs hgF hm with h | ⟨b2, o2, s2, l2, c2, q1, q2, q3, q4⟩
          ·exact hn (MM_drop_sub h)
          ·simp only [Value.slice.injEq, Option.some.injEq, Addr.mk.injEq] at q1
           obtain ⟨⟨rfl, rfl, rfl⟩, rfl, rfl⟩ := q1
           rw [Nat.add_mul] at q3
           exact hn (.inr (.inr ⟨h', ⟨sz, none⟩, hl', ownA_of ⟨b, o', none, len, cap, ht', q2, (by show o' + len * sz ≤ _; omega), q4⟩⟩))
        refine fin _ _ (some b) hrun (Fr.of_one h4 (.inl hBb)) hkk (fun k _ hk => h4.block k (fun e => hk (by rw [e]))) (fun b' hb' => ⟨h', o', none, len, cap, rfl, by simp at hb'; subst hb'; exact ht', hlc⟩) ?_ (fun b' o2 s2 l2 c2 he _ => .inr (by simp at he; rw [he.1.1])) ?_
        ·refine ⟨fun b' o2 s2 l2 c2 he hlt => ?_, (fun e dp he => by cases he), (fun e gv ms he => by cases he)⟩
         rw [upd_same] at he
         simp only [Value.slice.injEq, Option.some.injEq, Addr.mk.injEq] at he
         obtain ⟨⟨rfl, rfl, rfl⟩, rfl, rfl⟩ := he
         exact ⟨rfl, hBb, _, T0, h3, by rw [size_setAllA]; exact hroom⟩
        ·refine ⟨_, _, _, rfl, by simp; omega, hle, hl3, (fun h => by cases h), fun b2 o2 s2 he => ?_⟩
         simp only [Option.some.injEq, Addr.mk.injEq] at he
         obtain ⟨rfl, rfl, rfl⟩ := he
         refine ⟨fun _ => rfl, Rws.append (Rws.keep hkk _ _ _ (hl5 b o' none rfl).2) ?_⟩
         rw [flat_len hnx, ← hl1]
         refine Rws.of_flat hvyr hkk fun i u hu => ?_
         have hi : i < vy.length := (List.getElem?_eq_some_iff.1 hu).1
         refine ⟨by rw [hcell']; exact setAllA_in vy cells _ i u (by omega) hu, fun hm => ?_⟩
         rcases MM_drop hs hgF hm with h | ⟨b2, o2, s2, l2, c2, q1, q2, q3, q4⟩
         ·exact hMd _ rfl h
         ·simp only [Value.slice.injEq, Option.some.injEq, Addr.mk.injEq] at q1
          obtain ⟨⟨rfl, rfl, rfl⟩, rfl, rfl⟩ := q1
          simp only at q3
          rw [Nat.add_mul] at q3
          omega
      · -- a new array
       obtain ⟨cells, nc, hrun, hn1, hn2, hn3, hn4⟩ := hrun2 (by omega) hfew
       have hb : Below w.heap.size w (w.drew.alloc (.cells cells el)) := ((Below.refl _ _).drew).alloc (Nat.le_refl _) _
       have hcell' : ∀ i, (w.drew.alloc (.cells cells el)).cell? ⟨w.heap.size, i, none⟩ = cells[i]? := fun i => by
        have := World.cell?_alloc_new (w := w.drew) cells el i
        exact this
       have hkk : Keeps w (MM c.M0 bm tm σ) (w.drew.alloc (.cells cells el)) (MM c.M0 bm (upd tm g (.slice (some ⟨w.heap.size, 0, none⟩) (len + leny) nc)) (upd (dropR σ oh) (3 * g + 2) (.live ⟨sz, none⟩))) := by
        refine Keeps.below hb fun p hp hm => ?_
        rcases MM_drop hs hgF hm with h | ⟨b2, o2, s2, l2, c2, q1, q2, q3, q4⟩
        ·exact MM_drop_sub h
        ·simp only [Value.slice.injEq, Option.some.injEq, Addr.mk.injEq] at q1
         omega
       refine fin _ _ none hrun (Fr.of_below hb hs.hB) hkk (fun k hk _ => hb.block k hk) (fun b' hb' => by cases hb') ?_ (fun b' o2 s2 l2 c2 he _ => .inl (by simp at he; omega)) ?_
       ·refine ⟨fun b' o2 s2 l2 c2 he hlt => ?_, (fun e dp he => by cases he), (fun e gv ms he => by cases he)⟩
        rw [upd_same] at he
        simp only [Value.slice.injEq, Option.some.injEq, Addr.mk.injEq] at he
        obtain ⟨⟨rfl, rfl, rfl⟩, rfl, rfl⟩ := he
        exact ⟨rfl, hs.hB, cells, el, heap_alloc_new w.drew _, by show 0 + nc * sz ≤ _; rw [hn3]; omega⟩
       ·refine ⟨_, _, _, rfl, by simp; omega, hn1, hn2, (fun h => by cases h), fun b2 o2 s2 he => ?_⟩
        simp only [Option.some.injEq, Addr.mk.injEq] at he
        obtain ⟨rfl, rfl, rfl⟩ := he
        refine ⟨fun _ => rfl, Rws.of_flat (by rw [hflat]; exact hvxr.append hvyr) hkk fun i u hu => ?_⟩
        have hi : i < (vx ++ vy).length := (List.getElem?_eq_some_iff.1 hu).1
        rw [Nat.zero_add]
        refine ⟨by rw [hcell']; exact hn4 i u hu, fun hm => ?_⟩
        rcases MM_drop hs hgF hm with h | ⟨b2, o2, s2, l2, c2, q1, q2, q3, q4⟩
        ·have := hs.M_lt _ (MM_drop_sub h)
         simp at this
        ·simp only [Value.slice.injEq, Option.some.injEq, Addr.mk.injEq] at q1
         obtain ⟨⟨rfl, rfl, rfl⟩, rfl, rfl⟩ := q1
         simp only [Nat.zero_add, Nat.add_mul] at q3
         simp only [List.length_append] at hi
         omega
     have hfewR : (∀ r ∈ eff.rq, RqH P c.env n r) → (Rq.cond [] (.few ex ey)) ∈ eff.rq → len + leny ≤ 4294967296 := fun hr hin => by
      have := hr _ hin (gsH_nil _)
      simp [E.den, hrows, hrowy] at this
      omega
     cases k with
     | d => simp at h
     | full =>
      simp only [Option.some.injEq] at h; subst h
      refine ⟨fun _ hr K Q hK => main none (by simp) (fun _ => ?_) (hfewR hr (by simp)) K Q fun bm' tm' a' w' hS => hK bm' tm' a' w' ?_, fun hn => absurd (gsH_nil _) hn⟩
      ·obtain ⟨_, a2, he⟩ := hvrx
       rw [hval] at he
       simp only [Value.slice.injEq] at he
       omega
      ·rw [updL_ups (by intro p hp d; simp at hp; subst hp; simp; omega)]
       exact hS
     | ag _ => simp at h
     | own h' =>
      simp only at h
      split at h
      ·rename_i m hm
       split at h
       ·rename_i hmsz
        subst hmsz
        simp only [Option.some.injEq] at h; subst h
        refine ⟨fun _ hr K Q hK => main (some h') (fun q hq => ?_) (by simp) (hfewR hr (by simp)) K Q fun bm' tm' a' w' hS => hK bm' tm' a' w' ?_, fun hn => absurd (gsH_nil _) hn⟩
        ·simp only [Option.some.injEq] at hq; subst hq
         exact ⟨hm, by rw [← hval]; exact hvrx.2.symm⟩
        ·rw [updL_ups (by intro p hp d; simp at hp; rcases hp with rfl | rfl <;> simp <;> omega)]
         exact hS
       ·simp at h
      ·simp at h
   ·simp at h
  ·simp at h
 ·simp at h
theorem sBuildOwn (hcx : tbOk P tb tb = true) (hs : Sim c F σ bm tm a w) (hΓ : EnvTy tb.tab Γ c.env) {g n : Nat} (hgF : ¬ F g) {o : Oper} {T len : Nat} {parts : Array (Nat × Operand)} (ho : o.op = .buildSlice T len parts) (hd : ∀ d, o.dst = some d → d < c.nt) {ti : TI} (hti : tb.get T = some ti) {eff : Eff}
  (h : eBuildOwn tb Γ gs o.dst σ g ti len parts.toList = some eff) : OpOk P c F σ bm tm a w g gs n o eff := by
 unfold eBuildOwn at h
 split at h
 ·rename_i el hv
  split at h
  ·rename_i hcnd
   obtain ⟨hlen, hok⟩ := hcnd
   simp only [Option.map_eq_some_iff] at h
   obtain ⟨e, he, rfl⟩ := h
   refine ⟨fun _ _ K Q hK => ?_, fun hn => absurd (gsH_nil _) hn⟩
   obtain ⟨w', cells, h1, h2, h3, h3', h4⟩ := run_buildSlice hcx hs hΓ ho hti hv hlen hok he (gsH_nil _)
   have hMd : ∀ p, MM c.M0 bm (upd tm g (.slice (some ⟨w.heap.size, 0, none⟩) len len)) (upd (dropR σ none) (3 * g + 2) (.live ⟨(tb.tab el).length, none⟩)) p → MM c.M0 bm tm σ p := fun p hp => by
    rcases MM_drop hs hgF hp with h | ⟨b2, o2, s2, l2, c2, q1, q2, q3, q4⟩
    ·exact MM_drop_sub h
    ·simp only [Value.slice.injEq] at q1
     obtain ⟨_, rfl, rfl⟩ := q1
     omega
   unfold Oper.wp
   rw [h1]
   refine hK bm (upd tm g (.slice (some ⟨w.heap.size, 0, none⟩) len len)) _ _ ?_
   rw [updL_ups (by intro p hp d; simp at hp; subst hp; simp; omega)]
   refine Sim.tag ((hs.append hgF none (by simp) _ none (Fr.of_below h2 hs.hB) (Keeps.below h2 fun p _ h => hMd p h) (fun k hk _ => h2.block k hk) (fun b hb => by cases hb) ?_ (fun b' o2 s2 l2 c2 he _ => .inl (by simp at he; omega))).putO hd (relT_v (gsH_nil _) ⟨h4 _ hMd, ?_⟩) fun x hx => ?_)
   ·refine ⟨fun b' o2 s2 l2 c2 he hlt => ?_, (fun e dp he => by cases he), (fun e gv ms he => by cases he)⟩
    rw [upd_same] at he
    simp only [Value.slice.injEq, Option.some.injEq, Addr.mk.injEq] at he
    obtain ⟨⟨rfl, rfl, rfl⟩, rfl, rfl⟩ := he
    exact ⟨rfl, hs.hB, cells, el, h3, by show 0 + len * (tb.tab el).length ≤ _; omega⟩
   ·rw [upd_same]
   ·exact .inr hx
  ·simp at h
 ·simp at h
theorem sApp (hcx : tbOk P tb tb = true) (hs : Sim c F σ bm tm a w) (hΓ : EnvTy tb.tab Γ c.env) {g n : Nat} (hgN : ∀ x, NewT g x → ¬ F x) {o : Oper} {x y : Operand} {T U : Nat} {cl : Call} (ho : o.op = .call cl) (hcl : cl.callee = .builtin .append) (har : cl.args.toList = [x, y]) (hat : cl.argTypes.toList = [T, U])
  (hd : ∀ d, o.dst = some d → d < c.nt) {ti ui : TI} (hti : tb.get T = some ti) (hui : tb.get U = some ui) {eff : Eff}
  (h : eApp tb Γ gs o.dst σ g ti ui (opd tb σ T x) (opd tb σ U y) = some eff) : OpOk P c F σ bm tm a w g gs n o eff := by
 unfold eApp at h
 split at h
 ·rename_i hy; exact (by simp [eAppI] at h)
 ·exact sAppend hcx hs hΓ (hgN g (NewT.self g)) ho hcl har hat hd hti hui h
theorem sSl (hcx : tbOk P tb tb = true) (hs : Sim c F σ bm tm a w) (hΓ : EnvTy tb.tab Γ c.env) {g n : Nat} (hgF : ¬ F g) {o : Oper} {x : Operand} {lo hi : Option Operand} {T : Nat} (ho : o.op = .slice T x lo hi none) (hd : ∀ d, o.dst = some d → d < c.nt) {ti : TI} (hti : tb.get T = some ti) {eff : Eff}
  (h : eSl tb Γ gs o.dst σ g ti (opd tb σ T x) (lo.map (opd tb σ 0)) (hi.map (opd tb σ 0)) = some eff) : OpOk P c F σ bm tm a w g gs n o eff := by
 unfold eSl at h
 split at h
 ·rename_i h' ex l hx hlo hhi
  split at h
  ·rename_i e he
   simp only [Option.some.injEq] at h; subst h
   cases lo with
   | none => simp at hlo
   | some y =>
    cases hi with
    | some z => simp at hhi
    | none =>
     simp only [Option.map_some, Option.some.injEq] at hlo
     subst hlo
     exact (by simp [eCutOwn] at he)
  ·exact OpOk.of_pure hs hd (sSlice hcx hs hΓ ho hti h)
 ·exact OpOk.of_pure hs hd (sSlice hcx hs hΓ ho hti h)
end
end Go.Proofs.YtbgcaneflfdddaaGreatDoor
/- All operations together; regions in the order of the text and in any order. No program in sight. -/
namespace Go.Proofs.YtbgcaneflfdddaaGreatDoor
open Go.RowKit
variable [GC]
section
variable {P : Program} {c : SC} {F : Nat → Prop} {σ : Nat → ST} {bm : Nat → Nat} {tm : Nat → Value} {a : Act} {w : World} {cx : Cx} {Γ : List VT} {gs : Gd} {ops : Array Oper}
theorem wanted_iff (hs : Sim c F σ bm tm a w) (hΓ : EnvTy cx.tb.tab Γ c.env) {o : Oper} (h : gsOf cx.tb.tab Γ ops σ o = some gs) : Region.wanted o (yielded ops a.tmps) = true ↔ gsH c.env gs := by
 unfold gsOf at h
 unfold Region.wanted
 split at h
 ·rename_i hg
  simp only [Option.some.injEq] at h; subst h
  simp [hg, gsH_nil]
 ·rename_i j b hg
  rw [hg]
  simp only
  split at h
  ·rename_i d hd
   split at h
   ·rename_i g' k e hσ
    cases hb : isC .bool (e.inf cx.tb.tab Γ) <;> rw [hb] at h <;> simp at h
    subst h
    have hr := hs.tmps d
    rw [hσ] at hr
    rw [gsH_snoc]
    unfold yielded
    rw [hd]
    simp only [Option.bind_some]
    by_cases hg' : gsH c.env g'
    ·obtain ⟨x, hx, hv⟩ := eval_bool hΓ (isC_some hb) (hr.1 hg')
     have hv' : a.tmps[d]? = some (.bool x) := by
      simp only [Array.getD_eq_getD_getElem?] at hv
      cases hq : a.tmps[d]? with
      | none => rw [hq] at hv; simp [undef] at hv
      | some z => rw [hq] at hv; simp at hv; rw [hv]
     rw [hv', hx]
     simp [hg']
    ·have hv := hr.2 hg'
     simp only [Array.getD_eq_getD_getElem?] at hv
     have hv' : a.tmps[d]? = none ∨ a.tmps[d]? = some (.tuple #[]) := by
      cases hq : a.tmps[d]? with
      | none => exact .inl rfl
      | some z => rw [hq] at hv; simp [undef] at hv; exact .inr (by rw [hv])
     rcases hv' with hv' | hv' <;> rw [hv'] <;> simp [hg']
   ·simp at h
  ·simp at h
theorem op_sound (hcx : tbOk P cx.tb cx.tb = true) (hnt : c.nt = cx.nt) (hs : Sim c F σ bm tm a w) (hΓ : EnvTy cx.tb.tab Γ c.env) {g : Nat} (hgN : ∀ x, NewT g x → ¬ F x) {o : Oper} {eff : Eff} (h : opEff cx ops Γ g o σ = some eff) :
  ∃ gs, gsOf cx.tb.tab Γ ops σ o = some gs ∧ OpOk P c F σ bm tm a w g gs Γ.length o eff := by
 have hg : ¬ F g := hgN g (NewT.self g)
 unfold opEff at h
 split at h
 ·simp at h
 ·rename_i gs hgs
  refine ⟨gs, hgs, ?_⟩
  cases hdst : dstOk cx.nt o.dst with
  | false => rw [hdst] at h; simp at h
  | true =>
   rw [hdst] at h
   simp only [cond_true] at h
   have hd : ∀ d, o.dst = some d → d < c.nt := fun d he => by rw [he] at hdst; simp only [dstOk] at hdst; rw [hnt]; exact Nat.le_of_ble_eq_true hdst
   split at h
   ·rename_i x ho; exact OpOk.of_pure hs hd (sMove hs (.inl ho) h)
   ·rename_i x ho; exact OpOk.of_pure hs hd (sMove hs (.inr ho) h)
   ·rename_i T x ho
    split at h
    ·rename_i ti hti; exact OpOk.of_pure hs hd (sLd hcx hs hs.gi hΓ ho hti h)
    ·simp at h
   ·rename_i T y x ho
    split at h
    ·rename_i ti hti; exact sSt hcx hs hΓ hg ho hti h
    ·simp at h
   ·rename_i T x f ho
    split at h
    ·rename_i ti hti; exact OpOk.of_pure hs hd (sFld hcx hs ho hti h)
    ·simp at h
   ·rename_i T x i ho
    split at h
    ·rename_i ti hti; exact OpOk.of_pure hs hd (sIdx hcx hs hΓ ho hti h)
    ·simp at h
   ·rename_i T x i ho
    split at h
    ·rename_i ti hti; exact OpOk.of_pure hs hd (sSel hcx hs hΓ ho hti h)
    ·simp at h
   ·rename_i T x ho; exact sBox hcx hs hΓ hg ho hd h
   ·rename_i T ho
    split at h
    ·rename_i ti hti; exact sAlloc hcx hs hg ho hd hti h
    ·simp at h
   ·rename_i T parts ho
    split at h
    ·rename_i ti hti; exact OpOk.of_pure hs hd (sBuild hcx hs hΓ ho hti h)
    ·simp at h
   ·rename_i T l cc ho
    split at h
    ·rename_i ti hti; exact (by simp [eMake] at h)
    ·simp at h
   ·rename_i T len parts ho
    split at h
    ·rename_i ti hti
     cases hb : (Nat.blt 0 len && gs.isEmpty) with
     | true => rw [hb] at h; exact sBuildOwn hcx hs hΓ hg ho hd hti h
     | false => rw [hb] at h; exact OpOk.of_pure hs hd (sBuildSlice hcx hs hΓ ho hti h)
    ·simp at h
   ·rename_i T x lo hi ho
    split at h
    ·rename_i ti hti; exact sSl hcx hs hΓ hg ho hd hti h
    ·simp at h
   ·rename_i S T x ho
    split at h
    ·rename_i si ti hsi hti; exact OpOk.of_pure hs hd (sConv hcx hs hΓ ho hsi hti h)
    ·simp at h
   ·rename_i x i ho; exact OpOk.of_pure hs hd (sExtract hs hΓ ho h)
   ·rename_i T x ho; exact OpOk.of_pure hs hd (sNot hs hΓ ho h)
   ·rename_i T x ho; exact OpOk.of_pure hs hd (sNeg hs hΓ ho h)
   ·rename_i x y z ho; exact OpOk.of_pure hs hd (sPick hs hΓ ho h)
   ·rename_i f first caps ho; exact (by simp [eMakeFn] at h)
   ·rename_i x ho; exact OpOk.of_pure hs hd (sNil hs ho h)
   ·rename_i op T x y T' ho; exact OpOk.of_pure hs hd (sBin hcx hs hΓ ho h)
   ·rename_i cl ho
    split at h
    ·rename_i f hcl
     split at h
     ·rename_i ti hti
      split at h
      ·exact sNew hs hΓ hg ho hcl hd rfl h
      ·exact sCall hs hΓ hgN ho hcl hd rfl h
     ·simp at h
    ·rename_i t hcl
     split at h
     ·rename_i ti hti; exact (by simp [eCallV] at h)
     ·simp at h
    ·rename_i hcl
     split at h
     ·rename_i x T har hat
      split at h
      ·rename_i ti hti; exact OpOk.of_pure hs hd (sLen hcx hs hΓ ho hcl har hat hti h)
      ·simp at h
     ·simp at h
    ·rename_i hcl
     split at h
     ·rename_i x y T U har hat
      split at h
      ·rename_i ti ui hti hui; exact sApp hcx hs hΓ hgN ho hcl har hat hd hti hui h
      ·simp at h
     ·simp at h
    ·simp at h
   ·simp at h
theorem wpOp_sound (hcx : tbOk P cx.tb cx.tb = true) (hnt : c.nt = cx.nt) (hs : Sim c F σ bm tm a w) (hΓ : EnvTy cx.tb.tab Γ c.env) {g i : Nat} (hg : ∀ x, NewT g x → ¬ F x) {o : Oper} (hi : ops[i]? = some o) {eff : Eff} (h : opEff cx ops Γ g o σ = some eff)
  (hr : ∀ r ∈ eff.rq, RqH P c.env Γ.length r) {Q : Exit → Act → World → Prop} {K : Act → World → Prop} (hK : ∀ bm' tm' a' w', Sim c (fun x => F x ∨ NewT g x) (updL σ eff.wr) bm' tm' a' w' → K a' w') : wpOp P ops Q i K a w := by
 obtain ⟨gs, hgs, hok⟩ := op_sound hcx hnt hs hΓ hg h
 unfold wpOp
 rw [hi]
 simp only
 by_cases hw : gsH c.env gs
 ·rw [if_pos ((wanted_iff hs hΓ hgs).2 hw)]
  exact .inl (hok.1 hw hr K Q hK)
 ·rw [if_neg (fun e => hw ((wanted_iff hs hΓ hgs).1 e))]
  exact hK _ _ _ _ (hok.2 hw)
def RqsH (P : Program) (env : List D) : Nat → List Eff → Prop
 | _, [] => True
 | n, e :: r => (∀ q ∈ e.rq, RqH P env n q) ∧ RqsH P env (n + (rqTys e.rq).length) r
theorem EnvTy.firsts {tab : Nat → List CT} {Γ Δ : List VT} {env : List D} (h : EnvTy tab (Γ ++ Δ) env) : EnvTy tab Γ env := fun i t ht => h i t (by rw [List.getElem?_append_left (List.getElem?_eq_some_iff.1 ht).1]; exact ht)
theorem regRun_Γ {ops : Array Oper} : ∀ {l : List Oper} {ss : SS} {es : List Eff} {s : SS}, regRun cx ops l ss = some (es, s) → ∃ Δ, s.Γ = ss.Γ ++ Δ ∧ s.nt = ss.nt + stride * l.length ∧ s.lv = ss.lv
 | [], ss, es, s, h => by simp [regRun] at h; obtain ⟨_, rfl⟩ := h; exact ⟨[], by simp⟩
 | o :: r, ss, es, s, h => by
  simp only [regRun] at h
  split at h
  ·simp at h
  ·rename_i e he
   split at h
   ·simp at h
   ·rename_i es' s' hrec
    simp only [Option.some.injEq, Prod.mk.injEq] at h
    obtain ⟨rfl, rfl⟩ := h
    obtain ⟨Δ, h1, h2, h3⟩ := regRun_Γ hrec
    exact ⟨rqTys e.rq ++ Δ, by rw [h1]; simp [SS.step], by rw [h2]; simp only [SS.step, List.length_cons, Nat.mul_add]; omega, by rw [h3]; rfl⟩
theorem step_get (ss : SS) (e : Eff) : (ss.step e).σ.get = updL ss.σ.get e.wr := Sg.get_rev _ _
def below (n : Nat) : Nat → Prop := fun x => x < n
theorem seq_sound (hcx : tbOk P cx.tb cx.tb = true) (hnt : c.nt = cx.nt) {Q : Exit → Act → World → Prop} : ∀ (l : List Oper) (k : Nat) (ss : SS) (es : List Eff) (s : SS), (∀ j, l[j]? = ops[k + j]?) → regRun cx ops l ss = some (es, s) → EnvTy cx.tb.tab s.Γ c.env → RqsH P c.env ss.Γ.length es →
  (∀ bm' tm' a' w', Sim c (below s.nt) s.σ.get bm' tm' a' w' → Q .normal a' w') → ∀ bm tm a w, Sim c (below ss.nt) ss.σ.get bm tm a w → wpOps P ops Q (List.range' k l.length) a w
 | [], k, ss, es, s, hl, h, hΓ, hr, hQ, bm, tm, a, w, hs => by
  simp [regRun] at h; obtain ⟨_, rfl⟩ := h
  exact hQ _ _ _ _ hs
 | o :: r, k, ss, es, s, hl, h, hΓ, hr, hQ, bm, tm, a, w, hs => by
  simp only [regRun] at h
  split at h
  ·simp at h
  ·rename_i e he
   split at h
   ·simp at h
   ·rename_i es' s' hrec
    simp only [Option.some.injEq, Prod.mk.injEq] at h
    obtain ⟨rfl, rfl⟩ := h
    obtain ⟨Δ, h1, h2, _⟩ := regRun_Γ hrec
    have hΓ' : EnvTy cx.tb.tab ss.Γ c.env := by
     rw [h1] at hΓ
     simp only [SS.step, List.append_assoc] at hΓ
     exact hΓ.firsts
    simp only [List.length_cons, List.range'_succ]
    rw [wpOps_cons]
    refine wpOp_sound hcx hnt hs hΓ' (g := ss.nt) (fun x hx => by have := hx.1; simp only [below]; omega) (by have := hl 0; simpa using this.symm) he hr.1 fun bm' tm' a' w' hS => ?_
    refine seq_sound hcx hnt r (k + 1) (ss.step e) es' s' (fun j => by have := hl (j + 1); simpa [Nat.add_assoc, Nat.add_comm 1 j] using this) hrec hΓ (by
     have := hr.2
     simpa [SS.step] using this) hQ bm' tm' a' w' ?_
    rw [step_get]
    exact hS.mono fun x hx => by simp only [below, SS.step, NewT] at *; omega
theorem region_seq (hcx : tbOk P cx.tb cx.tb = true) (hnt : c.nt = cx.nt) {Q : Exit → Act → World → Prop} {id : Nat} {ss s : SS} {es : List Eff} (h : regRun cx ops ops.toList ss = some (es, s)) (hΓ : EnvTy cx.tb.tab s.Γ c.env) (hr : RqsH P c.env ss.Γ.length es)
  (hQ : ∀ bm' tm' a' w', Sim c (below s.nt) s.σ.get bm' tm' a' w' → Q .normal a' w') (hs : Sim c (below ss.nt) ss.σ.get bm tm a w) : (Code.region id ops false).wp P Q a w := by
 refine wp_region ?_
 have := seq_sound (ops := ops) hcx hnt ops.toList 0 ss es s (fun j => by simp) h hΓ hr hQ bm tm a w hs
 rw [Array.length_toList, ← List.range_eq_range'] at this
 exact this
end
end Go.Proofs.YtbgcaneflfdddaaGreatDoor
/- Regions whose order is left open: in whatever order their edges allow they do what they do in the order of the text. No program in sight. -/
namespace Go.Proofs.YtbgcaneflfdddaaGreatDoor
open Go.RowKit
variable [GC]
section
variable {tb : TB} {Γ : List VT} {gs : Gd} {σ σ' : Nat → ST} {ops : Array Oper}
theorem opd_congr {T : Nat} {x : Operand} (h : ∀ t, x = .tmp t → σ' (3 * t) = σ (3 * t)) : opd tb σ' T x = opd tb σ T x := by
 cases x with
 | tmp t => simp only [opd, h t rfl]
 | _ => rfl
theorem opd_ptr {T : Nat} {x : Operand} {g : Gd} {id off : Nat} (h : opd tb σ T x = some (.ptr g id off)) : ∃ t, x = .tmp t ∧ σ (3 * t) = .ptr g id off := by
 cases x with
 | tmp t => simp only [opd, Option.some.injEq] at h; exact ⟨t, rfl, h⟩
 | const v =>
  simp only [opd] at h
  unfold constST at h
  (repeat' split at h) <;> simp at h
 | _ => simp [opd] at h
theorem opd_mp {T : Nat} {x : Operand} {g0 : Gd} {g n : Nat} {i : E} {off : Nat} (h : opd tb σ T x = some (.mp g0 g n i off)) : ∃ t, x = .tmp t ∧ σ (3 * t) = .mp g0 g n i off := by
 cases x with
 | tmp t => simp only [opd, Option.some.injEq] at h; exact ⟨t, rfl, h⟩
 | const v =>
  simp only [opd] at h
  unfold constST at h
  (repeat' split at h) <;> simp at h
 | _ => simp [opd] at h
theorem opd_ip {T : Nat} {x : Operand} {gd : Gd} {g gv n : Nat} {i : E} {off : Nat} {j : E} {m o2 : Nat} (h : opd tb σ T x = some (.ip gd g gv n i off j m o2)) : ∃ t, x = .tmp t ∧ σ (3 * t) = .ip gd g gv n i off j m o2 := by
 cases x with
 | tmp t => simp only [opd, Option.some.injEq] at h; exact ⟨t, rfl, h⟩
 | const v =>
  simp only [opd] at h
  unfold constST at h
  (repeat' split at h) <;> simp at h
 | _ => simp [opd] at h
theorem opd_iv {T : Nat} {x : Operand} {gd : Gd} {g gv n : Nat} {i : E} {off : Nat} {l : E} (h : opd tb σ T x = some (.iv gd g gv n i off l)) : ∃ t, x = .tmp t ∧ σ (3 * t) = .iv gd g gv n i off l := by
 cases x with
 | tmp t => simp only [opd, Option.some.injEq] at h; exact ⟨t, rfl, h⟩
 | const v =>
  simp only [opd] at h
  unfold constST at h
  (repeat' split at h) <;> simp at h
 | _ => simp [opd] at h
theorem opd_own {T : Nat} {x : Operand} {gs : Gd} {g : Nat} {e : E} (h : opd tb σ T x = some (.v gs (.own g) e)) : ∃ t, x = .tmp t ∧ σ (3 * t) = .v gs (.own g) e := by
 cases x with
 | tmp t => simp only [opd, Option.some.injEq] at h; exact ⟨t, rfl, h⟩
 | const v =>
  simp only [opd] at h
  unfold constST at h
  (repeat' split at h) <;> simp at h
 | _ => simp [opd] at h
structure Alike (ops : Array Oper) (o : Oper) (σ σ' : Nat → ST) : Prop where
 t : ∀ t ∈ tmpsOf ops o, σ' (3 * t) = σ (3 * t)
 p : looks o.op = true → ∀ t ∈ tmpsOf ops o, ∀ g id off, σ (3 * t) = .ptr g id off → σ' (3 * id + 1) = σ (3 * id + 1)
 r : looks o.op = true → ∀ t ∈ tmpsOf ops o, ∀ gs g e, σ (3 * t) = .v gs (.own g) e → σ' (3 * g + 2) = σ (3 * g + 2)
 ip : looks o.op = true → ∀ t ∈ tmpsOf ops o, ∀ gd g gv n i off j m o2, σ (3 * t) = .ip gd g gv n i off j m o2 → σ' (3 * g + 2) = σ (3 * g + 2)
 iv : looks o.op = true → ∀ t ∈ tmpsOf ops o, ∀ gd g gv n i off l, σ (3 * t) = .iv gd g gv n i off l → σ' (3 * g + 2) = σ (3 * g + 2)
 m : looks o.op = true → ∀ t ∈ tmpsOf ops o, ∀ g0 g n i off, σ (3 * t) = .mp g0 g n i off → σ' (3 * g + 2) = σ (3 * g + 2)
theorem dynOf_ip : ∀ {l : List Nat} {t : Nat}, t ∈ l → ∀ {gd : Gd} {g gv n : Nat} {i : E} {off : Nat} {j : E} {m o2 : Nat}, σ (3 * t) = .ip gd g gv n i off j m o2 → 3 * g + 2 ∈ dynOf σ l
 | [], t, h, _, _, _, _, _, _, _, _, _, _ => by simp at h
 | x :: r, t, h, gd, g, gv, n, i, off, j, m, o2, he => by
  unfold dynOf
  rcases List.mem_cons.1 h with rfl | h
  ·rw [he]; simp
  ·have := dynOf_ip h he
   split <;> simp [this]
theorem dynOf_iv : ∀ {l : List Nat} {t : Nat}, t ∈ l → ∀ {gd : Gd} {g gv n : Nat} {i : E} {off : Nat} {le : E}, σ (3 * t) = .iv gd g gv n i off le → 3 * g + 2 ∈ dynOf σ l
 | [], t, h, _, _, _, _, _, _, _, _ => by simp at h
 | x :: r, t, h, gd, g, gv, n, i, off, le, he => by
  unfold dynOf
  rcases List.mem_cons.1 h with rfl | h
  ·rw [he]; simp
  ·have := dynOf_iv h he
   split <;> simp [this]
theorem dynOf_mp : ∀ {l : List Nat} {t : Nat}, t ∈ l → ∀ {g0 : Gd} {g n : Nat} {i : E} {off : Nat}, σ (3 * t) = .mp g0 g n i off → 3 * g + 2 ∈ dynOf σ l
 | [], t, h, _, _, _, _, _, _ => by simp at h
 | x :: r, t, h, g0, g, n, i, off, he => by
  unfold dynOf
  rcases List.mem_cons.1 h with rfl | h
  ·rw [he]; simp
  ·have := dynOf_mp h he
   split <;> simp [this]
theorem dynOf_ptr : ∀ {l : List Nat} {t : Nat}, t ∈ l → ∀ {g : Gd} {id off : Nat}, σ (3 * t) = .ptr g id off → 3 * id + 1 ∈ dynOf σ l
 | [], t, h, _, _, _, _ => by simp at h
 | x :: r, t, h, g, id, off, he => by
  unfold dynOf
  rcases List.mem_cons.1 h with rfl | h
  ·rw [he]; simp
  ·have := dynOf_ptr h he
   split <;> simp [this]
theorem dynOf_own : ∀ {l : List Nat} {t : Nat}, t ∈ l → ∀ {gs : Gd} {g : Nat} {e : E}, σ (3 * t) = .v gs (.own g) e → 3 * g + 2 ∈ dynOf σ l
 | [], t, h, _, _, _, _ => by simp at h
 | x :: r, t, h, gs, g, e, he => by
  unfold dynOf
  rcases List.mem_cons.1 h with rfl | h
  ·rw [he]; simp
  ·have := dynOf_own h he
   split <;> simp [this]
theorem Alike.of {o : Oper} (h : ∀ l ∈ readsOf ops σ o, σ' l = σ l) : Alike ops o σ σ' where
 t := fun t ht => h _ (by unfold readsOf; simp only [List.mem_append, List.mem_map]; exact .inl ⟨t, ht, rfl⟩)
 p := fun hl t ht g id off he => h _ (by unfold readsOf; rw [hl]; simp only [List.mem_append, cond_true]; exact .inr (dynOf_ptr ht he))
 r := fun hl t ht gs g e he => h _ (by unfold readsOf; rw [hl]; simp only [List.mem_append, cond_true]; exact .inr (dynOf_own ht he))
 ip := fun hl t ht gd g gv n i off j m o2 he => h _ (by unfold readsOf; rw [hl]; simp only [List.mem_append, cond_true]; exact .inr (dynOf_ip ht he))
 iv := fun hl t ht gd g gv n i off l he => h _ (by unfold readsOf; rw [hl]; simp only [List.mem_append, cond_true]; exact .inr (dynOf_iv ht he))
 m := fun hl t ht g0 g n i off he => h _ (by unfold readsOf; rw [hl]; simp only [List.mem_append, cond_true]; exact .inr (dynOf_mp ht he))
theorem mem_tmpsOf {o : Oper} {x : Operand} {t : Nat} (hx : x ∈ o.op.operands.toList) (e : x = .tmp t) : t ∈ tmpsOf ops o := by
 unfold tmpsOf
 simp only [List.mem_append, List.mem_filterMap]
 exact .inl ⟨x, hx, by rw [e]⟩
theorem gsOf_congr {tab : Nat → List CT} {o : Oper} (h : Alike ops o σ σ') : gsOf tab Γ ops σ' o = gsOf tab Γ ops σ o := by
 unfold gsOf
 cases hg : o.guard with
 | none => rfl
 | some jb =>
  obtain ⟨j, b⟩ := jb
  simp only
  cases hd : (ops[j]?).bind (·.dst) with
  | none => rfl
  | some d =>
   simp only
   rw [h.t d (by unfold tmpsOf; simp only [List.mem_append, hg]; exact .inr (by simp [hd]))]
theorem eLoad_congr {tab : Nat → List CT} {dst : Option Nat} {ti : TI} {s : Option ST} (h : ∀ g id off, s = some (.ptr g id off) → σ' (3 * id + 1) = σ (3 * id + 1)) : eLoad tab Γ gs dst σ' ti s = eLoad tab Γ gs dst σ ti s := by
 unfold eLoad
 cases hb : s.bind (under gs) with
 | none => rfl
 | some st =>
  cases st with
  | ptr g id off =>
   simp only
   obtain ⟨st0, h1, h2⟩ := bind_some' hb
   rcases under_inv h2 with ⟨_, _, _, _, _, h3⟩ | ⟨g', i', o', rfl, _, h3⟩ | ⟨_, _, _, _, _, h3⟩ <;> cases h3
   rw [h _ _ _ h1]
  | _ => rfl
theorem eLd_congr {dst : Option Nat} {ti : TI} {x : Operand} (h1 : opd tb σ' 0 x = opd tb σ 0 x) (h : ∀ g id off, opd tb σ 0 x = some (.ptr g id off) → σ' (3 * id + 1) = σ (3 * id + 1)) (hm : ∀ g0 g n i off, opd tb σ 0 x = some (.mp g0 g n i off) → σ' (3 * g + 2) = σ (3 * g + 2)) (hp : ∀ gd g gv n i off j m o2, opd tb σ 0 x = some (.ip gd g gv n i off j m o2) → σ' (3 * g + 2) = σ (3 * g + 2)) : eLd tb Γ gs dst σ' ti x = eLd tb Γ gs dst σ ti x := by
 have hl := eLoad_congr (tab := tb.tab) (Γ := Γ) (gs := gs) (dst := dst) (ti := ti) h
 cases x with
 | global g => rfl
 | _ =>
  simp only [eLd]
  rw [h1]
  revert hl hm hp
  generalize opd tb σ 0 _ = s
  intro hm hp hl
  split
  ·rfl
  ·rfl
  ·rfl
  ·exact hl
theorem eStore_congr {tab : Nat → List CT} {dst : Option Nat} {ti : TI} {s x : Option ST} (h : ∀ g id off, s = some (.ptr g id off) → σ' (3 * id + 1) = σ (3 * id + 1)) : eStore tab Γ gs dst σ' ti s x = eStore tab Γ gs dst σ ti s x := by
 unfold eStore
 cases gs with
 | cons _ _ => rfl
 | nil =>
  cases dst with
  | some _ => rfl
  | none =>
   cases hb : s.bind (under []) with
   | none => rfl
   | some st =>
    cases st with
    | ptr g id off =>
     obtain ⟨st0, h1, h2⟩ := bind_some' hb
     rcases under_inv h2 with ⟨_, _, _, _, _, h3⟩ | ⟨g', i', o', rfl, _, h3⟩ | ⟨_, _, _, _, _, h3⟩ <;> cases h3
     cases hx : undV [] x with
     | none => rfl
     | some ke =>
      obtain ⟨k, e⟩ := ke
      simp only
      rw [h _ _ _ h1]
    | _ => cases hx : undV [] x <;> rfl
theorem eSt_congr {dst : Option Nat} {g0 : Nat} {ti : TI} {s x : Option ST} (hm : ∀ g0 g n i off, s = some (.mp g0 g n i off) → σ' (3 * g + 2) = σ (3 * g + 2)) (hp : ∀ gd g gv n i off j m o2, s = some (.ip gd g gv n i off j m o2) → σ' (3 * g + 2) = σ (3 * g + 2))
  (ho : ∀ gs g e, x = some (.v gs (.own g) e) → σ' (3 * g + 2) = σ (3 * g + 2)) (he : eStore tb.tab Γ gs dst σ' ti s x = eStore tb.tab Γ gs dst σ ti s x) : eSt tb Γ gs dst σ' g0 ti s x = eSt tb Γ gs dst σ g0 ti s x := by
 unfold eSt
 split
 ·rfl
 ·rfl
 ·exact he
theorem eParts_congr {fs : List (Nat × Nat)} : ∀ {parts : List (Nat × Operand)} {cs : List (K × E)}, (∀ p ∈ parts, ∀ t, p.2 = .tmp t → σ' (3 * t) = σ (3 * t)) → eParts tb Γ gs σ' fs parts cs = eParts tb Γ gs σ fs parts cs
 | [], cs, _ => rfl
 | (f, x) :: r, cs, h => by
  unfold eParts
  cases fs[f]? with
  | none => rfl
  | some p =>
   obtain ⟨fo, ft⟩ := p
   simp only
   rw [opd_congr (fun t ht => h (f, x) (by simp) t ht)]
   have ih : ∀ cs, eParts tb Γ gs σ' fs r cs = eParts tb Γ gs σ fs r cs := fun cs => eParts_congr fun p hp => h p (by simp [hp])
   simp only [ih]
theorem eRows_congr {el : Nat} : ∀ {parts : List (Nat × Operand)} {n : Nat} {acc : E}, (∀ p ∈ parts, ∀ t, p.2 = .tmp t → σ' (3 * t) = σ (3 * t)) → eRows tb Γ gs σ' el n parts acc = eRows tb Γ gs σ el n parts acc
 | [], n, acc, _ => rfl
 | (f, x) :: r, n, acc, h => by
  unfold eRows
  rw [opd_congr (fun t ht => h (f, x) (by simp) t ht)]
  have ih : ∀ n acc, eRows tb Γ gs σ' el n r acc = eRows tb Γ gs σ el n r acc := fun n acc => eRows_congr fun p hp => h p (by simp [hp])
  simp only [ih]
theorem eArgs_congr : ∀ {xs : List Operand} {Ts : List Nat}, (∀ x ∈ xs, ∀ t, x = .tmp t → σ' (3 * t) = σ (3 * t)) → eArgs tb Γ gs σ' xs Ts = eArgs tb Γ gs σ xs Ts
 | [], [], _ => rfl
 | [], _ :: _, _ => rfl
 | _ :: _, [], _ => rfl
 | x :: xs, T :: Ts, h => by
  unfold eArgs
  rw [opd_congr (fun t ht => h x (by simp) t ht), eArgs_congr fun y hy => h y (by simp [hy])]
theorem eCall_congr {dst : Option Nat} {g : Nat} {rt : List (Nat × Nat)} {ti : TI} {f : Nat} {args : List Operand} {Ts : List Nat} (h : ∀ x ∈ args, ∀ t, x = .tmp t → σ' (3 * t) = σ (3 * t)) (hp : ∀ x ∈ args, ∀ t, x = .tmp t → ∀ g id off, σ (3 * t) = .ptr g id off → σ' (3 * id + 1) = σ (3 * id + 1)) :
  eCall tb Γ gs dst σ' g rt ti f args Ts = eCall tb Γ gs dst σ g rt ti f args Ts := by
 unfold eCall
 cases args with
 | nil => cases Ts <;> rfl
 | cons x xs =>
  cases Ts with
  | nil => rfl
  | cons T Ts =>
   simp only
   rw [opd_congr (fun t ht => h x (by simp) t ht)]
   cases hi : isPtr (opd tb σ T x) with
   | none => simp only; rw [eArgs_congr h]
   | some gi =>
    obtain ⟨g, id⟩ := gi
    simp only
    have hx : σ' (3 * id + 1) = σ (3 * id + 1) := by
     unfold isPtr at hi
     split at hi
     ·rename_i g2 id2 hst
      simp only [Option.some.injEq, Prod.mk.injEq] at hi
      obtain ⟨rfl, rfl⟩ := hi
      obtain ⟨t, ht, hs⟩ := opd_ptr hst
      exact hp x (by simp) t ht _ _ _ hs
     ·simp at hi
    have e2 : eArgs tb Γ gs σ' xs Ts = eArgs tb Γ gs σ xs Ts := eArgs_congr fun y hy => h y (by simp [hy])
    have e3 : eCallG tb Γ gs dst σ' rt ti f xs Ts g id = eCallG tb Γ gs dst σ rt ti f xs Ts g id := by unfold eCallG; rw [hx, e2]
    rw [hx, e3]
    have e : eArgs tb Γ [] σ' xs Ts = eArgs tb Γ [] σ xs Ts := eArgs_congr fun y hy => h y (by simp [hy])
    rw [e]
theorem eAppend_congr {dst : Option Nat} {g : Nat} {ti ui : TI} {s x : Option ST} (h : ∀ gs g e, s = some (.v gs (.own g) e) → σ' (3 * g + 2) = σ (3 * g + 2)) : eAppend tb Γ gs dst σ' g ti ui s x = eAppend tb Γ gs dst σ g ti ui s x := by
 unfold eAppend
 cases gs with
 | cons _ _ => rfl
 | nil =>
  cases hu : undV [] s with
  | none => rfl
  | some ke =>
   obtain ⟨k, e⟩ := ke
   obtain ⟨st, g', h1, h2⟩ := undV_some hu
   have hk : ∀ h', k = .own h' → σ' (3 * h' + 2) = σ (3 * h' + 2) := by
    rintro h' rfl
    rcases under_inv h2 with ⟨g2, k2, e2, rfl, _, h3⟩ | ⟨_, _, _, _, _, h3⟩ | ⟨_, _, _, _, _, h3⟩ <;> cases h3
    exact h _ _ _ h1
   rcases ti.vt with (⟨_ | _ | _ | el⟩ | _) | _ <;> try rfl
   rcases ui.vt with (⟨_ | _ | _ | el'⟩ | _) | _ <;> try rfl
   simp only
   cases undV [] x with
   | none => rfl
   | some ke' =>
    obtain ⟨k', e'⟩ := ke'
    cases tb.get el with
    | none => rfl
    | some ei =>
     simp only
     cases k with
     | own h' => simp only [hk h' rfl]
     | _ => rfl
theorem eApp_congr {dst : Option Nat} {g : Nat} {ti ui : TI} {s x : Option ST} (h : ∀ gs g e, s = some (.v gs (.own g) e) → σ' (3 * g + 2) = σ (3 * g + 2)) (hi : ∀ gd g gv n i off l, x = some (.iv gd g gv n i off l) → σ' (3 * g + 2) = σ (3 * g + 2)) : eApp tb Γ gs dst σ' g ti ui s x = eApp tb Γ gs dst σ g ti ui s x := by
 unfold eApp
 split
 ·rfl
 ·exact eAppend_congr h
theorem eSl_congr {dst : Option Nat} {g : Nat} {ti : TI} {x : Option ST} {lo hi : Option (Option ST)} (h : ∀ gs g e, x = some (.v gs (.own g) e) → σ' (3 * g + 2) = σ (3 * g + 2)) : eSl tb Γ gs dst σ' g ti x lo hi = eSl tb Γ gs dst σ g ti x lo hi := by
 unfold eSl
 split
 ·rfl
 ·rfl
theorem eMakeFn_congr {tab : Nat → List CT} {dst : Option Nat} {f : Nat} {first xs : List Operand} (h : ∀ x ∈ xs, ∀ t, x = .tmp t → σ' (3 * t) = σ (3 * t)) (hp : ∀ x ∈ xs, ∀ t, x = .tmp t → ∀ gd id off, σ (3 * t) = .ptr gd id off → σ' (3 * id + 1) = σ (3 * id + 1)) : eMakeFn tab Γ gs dst σ' f first xs = eMakeFn tab Γ gs dst σ f first xs := by
 rfl
theorem opEff_congr {cx : Cx} {g : Nat} {o : Oper} (h : Alike ops o σ σ') : opEff cx ops Γ g o σ' = opEff cx ops Γ g o σ := by
 have hop : ∀ (T : Nat) (x : Operand), x ∈ o.op.operands.toList → opd cx.tb σ' T x = opd cx.tb σ T x := fun T x hx => opd_congr fun t ht => h.t t (mem_tmpsOf hx ht)
 have hpt : looks o.op = true → ∀ (T : Nat) (x : Operand), x ∈ o.op.operands.toList → ∀ g id off, opd cx.tb σ T x = some (.ptr g id off) → σ' (3 * id + 1) = σ (3 * id + 1) := fun hl T x hx g id off he => by
  obtain ⟨t, ht, hs⟩ := opd_ptr he
  exact h.p hl t (mem_tmpsOf hx ht) _ _ _ hs
 have hiv : looks o.op = true → ∀ (T : Nat) (x : Operand), x ∈ o.op.operands.toList → ∀ gd g gv n i off l, opd cx.tb σ T x = some (.iv gd g gv n i off l) → σ' (3 * g + 2) = σ (3 * g + 2) := fun hl T x hx gd g gv n i off l he => by
  obtain ⟨t, ht, hs⟩ := opd_iv he
  exact h.iv hl t (mem_tmpsOf hx ht) _ _ _ _ _ _ _ hs
 have hip : looks o.op = true → ∀ (T : Nat) (x : Operand), x ∈ o.op.operands.toList → ∀ gd g gv n i off j m o2, opd cx.tb σ T x = some (.ip gd g gv n i off j m o2) → σ' (3 * g + 2) = σ (3 * g + 2) := fun hl T x hx gd g gv n i off j m o2 he => by
  obtain ⟨t, ht, hs⟩ := opd_ip he
  exact h.ip hl t (mem_tmpsOf hx ht) _ _ _ _ _ _ _ _ _ hs
 have hmp : looks o.op = true → ∀ (T : Nat) (x : Operand), x ∈ o.op.operands.toList → ∀ g0 g n i off, opd cx.tb σ T x = some (.mp g0 g n i off) → σ' (3 * g + 2) = σ (3 * g + 2) := fun hl T x hx g0 g n i off he => by
  obtain ⟨t, ht, hs⟩ := opd_mp he
  exact h.m hl t (mem_tmpsOf hx ht) _ _ _ _ _ hs
 have how : looks o.op = true → ∀ (T : Nat) (x : Operand), x ∈ o.op.operands.toList → ∀ gs g e, opd cx.tb σ T x = some (.v gs (.own g) e) → σ' (3 * g + 2) = σ (3 * g + 2) := fun hl T x hx gs g e he => by
  obtain ⟨t, ht, hs⟩ := opd_own he
  exact h.r hl t (mem_tmpsOf hx ht) _ _ _ hs
 unfold opEff
 rw [gsOf_congr h]
 cases hgs : gsOf cx.tb.tab Γ ops σ o with
 | none => rfl
 | some gs =>
  simp only
  congr 1
  cases ho : o.op with
  | move x => simp only; rw [hop _ x (by simp [ho, Op.operands])]
  | assign x => simp only; rw [hop _ x (by simp [ho, Op.operands])]
  | load T x =>
   simp only
   cases cx.tb.get T with
   | none => rfl
   | some ti => simp only; exact eLd_congr (hop _ x (by simp [ho, Op.operands])) (fun g id off he => hpt (by rw [ho]; rfl) 0 x (by simp [ho, Op.operands]) g id off he) (fun g0 g n i off he => hmp (by rw [ho]; rfl) 0 x (by simp [ho, Op.operands]) g0 g n i off he) fun gd g gv n i off j m o2 he => hip (by rw [ho]; rfl) 0 x (by simp [ho, Op.operands]) gd g gv n i off j m o2 he
  | store T y x =>
   simp only
   rw [hop _ y (by simp [ho, Op.operands]), hop _ x (by simp [ho, Op.operands])]
   cases cx.tb.get T with
   | none => rfl
   | some ti => simp only; exact eSt_congr (fun g0 g n i off he => hmp (by rw [ho]; rfl) 0 y (by simp [ho, Op.operands]) g0 g n i off he) (fun gd g gv n i off j m o2 he => hip (by rw [ho]; rfl) 0 y (by simp [ho, Op.operands]) gd g gv n i off j m o2 he) (fun gs g e he => how (by rw [ho]; rfl) T x (by simp [ho, Op.operands]) gs g e he) (eStore_congr fun g id off he => hpt (by rw [ho]; rfl) 0 y (by simp [ho, Op.operands]) g id off he)
  | fieldAddr T x f => simp only; rw [hop _ x (by simp [ho, Op.operands])]
  | indexAddr T x i =>
   have hx := hop T x (by simp [ho, Op.operands])
   have hi := hop 0 i (by simp [ho, Op.operands])
   have hq : ∀ ti, eIdx cx.tb Γ gs o.dst σ' ti T x i = eIdx cx.tb Γ gs o.dst σ ti T x i := by
    intro ti
    cases x <;> simp only [eIdx, hx, hi]
   simp only [hq]
  | index T x i => simp only; rw [hop _ x (by simp [ho, Op.operands]), hop _ i (by simp [ho, Op.operands])]
  | box T x => simp only; rw [hop _ x (by simp [ho, Op.operands])]
  | makeSlice T l cc => simp only; rw [hop _ l (by simp [ho, Op.operands]), hop _ cc (by simp [ho, Op.operands])]
  | build T parts =>
   simp only
   cases cx.tb.get T with
   | none => rfl
   | some ti =>
    simp only
    unfold eBuild
    cases ti.vt with
    | tup _ => rfl
    | one v =>
     cases v with
     | c _ => rfl
     | agg ts => simp only; rw [eParts_congr fun p hp t ht => h.t t (mem_tmpsOf (x := p.2) (by simp only [ho, Op.operands, List.mem_map]; exact ⟨p, hp, rfl⟩) ht)]
  | buildSlice T len parts =>
   simp only
   cases cx.tb.get T with
   | none => rfl
   | some ti =>
    simp only
    have hrw : ∀ gs' el, eRows cx.tb Γ gs' σ' el 0 parts.toList (.nilS el) = eRows cx.tb Γ gs' σ el 0 parts.toList (.nilS el) := fun gs' el =>
     eRows_congr fun p hp t ht => h.t t (mem_tmpsOf (x := p.2) (by simp only [ho, Op.operands, List.mem_map]; exact ⟨p, hp, rfl⟩) ht)
    unfold eBuildSlice eBuildOwn
    simp only [hrw]
  | slice T x lo hi mx =>
   cases mx with
   | some _ => rfl
   | none =>
    simp only
    rw [hop _ x (by simp [ho, Op.operands])]
    have e1 : lo.map (opd cx.tb σ' 0) = lo.map (opd cx.tb σ 0) := by
     cases lo with
     | none => rfl
     | some y => simp only [Option.map_some]; rw [hop _ y (by simp [ho, Op.operands])]
    have e2 : hi.map (opd cx.tb σ' 0) = hi.map (opd cx.tb σ 0) := by
     cases hi with
     | none => rfl
     | some y => simp only [Option.map_some]; rw [hop _ y (by simp [ho, Op.operands])]
    rw [e1, e2]
    cases cx.tb.get T with
    | none => rfl
    | some ti => exact eSl_congr fun gs g e he => how (by rw [ho]; rfl) T x (by simp [ho, Op.operands]) gs g e he
  | convert S T x => simp only; rw [hop _ x (by simp [ho, Op.operands])]
  | extract x i => simp only; rw [hop _ x (by simp [ho, Op.operands])]
  | unOp op T x =>
   cases op <;> first | rfl | (simp only; rw [hop _ x (by simp [ho, Op.operands])])
  | pick x y z => simp only; rw [hop _ x (by simp [ho, Op.operands]), hop _ y (by simp [ho, Op.operands]), hop _ z (by simp [ho, Op.operands])]
  | makeFunc fn first caps =>
   cases fn with
   | func f =>
    simp only
    have hc : ∀ x ∈ caps.toList, x ∈ o.op.operands.toList := fun x hx => by rw [ho]; simp only [Op.operands, Array.toList_append, List.mem_append]; exact .inr hx
    exact eMakeFn_congr (fun x hx t ht => h.t t (mem_tmpsOf (hc x hx) ht)) fun x hx t ht g id off he => h.p (by rw [ho]; rfl) t (mem_tmpsOf (hc x hx) ht) _ _ _ he
   | _ => rfl
  | nilCheck x => simp only; rw [hop _ x (by simp [ho, Op.operands])]
  | binOp op T x y T' => simp only; rw [hop _ x (by simp [ho, Op.operands]), hop _ y (by simp [ho, Op.operands])]
  | call cl =>
   have hargs : ∀ x ∈ cl.args.toList, x ∈ o.op.operands.toList := fun x hx => by
    rw [ho]
    simp only [Op.operands, Call.operands]
    cases cl.callee <;> simp <;> first | exact .inr (by simpa using hx) | (simpa using hx)
   simp only
   cases hcl : cl.callee with
   | invoke r m => rfl
   | value f =>
    cases f with
    | func f =>
     simp only
     cases cx.tb.get o.type with
     | none => rfl
     | some ti =>
      simp only
      cases isNew ti with
      | some nb => simp only; unfold eNew; rw [eArgs_congr fun x hx t ht => h.t t (mem_tmpsOf (hargs x hx) ht)]
      | none => exact eCall_congr (fun x hx t ht => h.t t (mem_tmpsOf (hargs x hx) ht)) (fun x hx t ht g id off he => h.p (by rw [ho]; rfl) t (mem_tmpsOf (hargs x hx) ht) _ _ _ he)
    | tmp t =>
     simp only
     have hx : opd cx.tb σ' 0 (.tmp t) = opd cx.tb σ 0 (.tmp t) := hop 0 (.tmp t) (by simp [ho, Op.operands, Call.operands, hcl])
     rw [hx]
     cases cx.tb.get o.type with
     | none => rfl
     | some ti => rfl
    | _ => rfl
   | builtin b =>
    cases b with
    | len =>
     simp only
     split
     ·rename_i x T har hat
      rw [hop _ x (hargs x (by rw [har]; simp))]
     ·rfl
    | append =>
     simp only
     split
     ·rename_i x y T U har hat
      rw [hop _ x (hargs x (by rw [har]; simp)), hop _ y (hargs y (by rw [har]; simp))]
      split
      ·exact eApp_congr (fun gs g e he => how (by rw [ho]; rfl) T x (hargs x (by rw [har]; simp)) gs g e he) fun gd g gv n i off l he => hiv (by rw [ho]; rfl) U y (hargs y (by rw [har]; simp)) gd g gv n i off l he
      ·rfl
     ·rfl
    | _ => rfl
  | _ => rfl
end
end Go.Proofs.YtbgcaneflfdddaaGreatDoor
