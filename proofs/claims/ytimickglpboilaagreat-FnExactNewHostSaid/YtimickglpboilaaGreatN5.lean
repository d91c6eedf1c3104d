/- Each operation does to a world what the executor says it does: append; and all operations together. No program in sight. -/
import Derived.Test.YtimickglpboilaaGreatN4
import Derived.Orders
set_option linter.unusedVariables false
set_option linter.unusedSimpArgs false
set_option linter.unusedSectionVars false
namespace Go.Proofs.YtimickglpboilaaGreat
open Go.RowKit
variable [GC]
section
variable {w : World} {M : Addr → Prop}
theorem Rws.cells : ∀ {rows : List (List D)} {b o : Nat}, Rws w M rows b o → ∃ vs : List Value, vs.length = rows.flatten.length ∧ Rs w M rows.flatten vs ∧ ∀ i u, vs[i]? = some u → w.cell? ⟨b, o + i, none⟩ = some u
 | [], _, _, _ => ⟨[], rfl, rfl, fun i u h => by simp at h⟩
 | r :: l, b, o, ⟨h1, h2⟩ => by
  obtain ⟨vs, e1, r1, c1⟩ := h1.cells
  obtain ⟨us, e2, r2, c2⟩ := Rws.cells h2
  refine ⟨vs ++ us, by simp [e1, e2], by simpa using r1.append r2, fun i u hu => ?_⟩
  rw [List.getElem?_append] at hu
  split at hu
  ·exact c1 i u hu
  ·have := c2 _ _ hu
   rwa [show o + r.length + (i - vs.length) = o + i by omega] at this
theorem flat_len {n : Nat} : ∀ {rows : List (List D)}, (∀ r ∈ rows, r.length = n) → rows.flatten.length = rows.length * n
 | [], _ => by simp
 | r :: l, h => by
  have ih := flat_len (rows := l) (fun x hx => h x (by simp [hx]))
  have hr := h r (by simp)
  simp only [List.flatten_cons, List.length_append, List.length_cons, ih, hr, Nat.add_mul, Nat.one_mul]
  omega
theorem one_flat {tab : Nat → List CT} {ts : List CT} : ∀ {rows : List (List D)} {vs : List Value}, RowsTy tab ts rows → Rs w M rows.flatten vs → ∀ v ∈ vs, v.oneCell' = true
 | [], vs, _, h, v, hv => by simp [Rs] at h; subst h; simp at hv
 | r :: l, vs, ht, h, v, hv => by
  simp only [RowsTy] at ht
  simp only [List.flatten_cons] at h
  have h1 := h.take r.length
  have h2 := h.drop r.length
  rw [List.take_left' rfl] at h1
  rw [List.drop_left' rfl] at h2
  rw [← List.take_append_drop r.length vs] at hv
  rcases List.mem_append.1 hv with hv | hv
  ·exact cells_one ht.1 h1 v hv
  ·exact one_flat ht.2 h2 v hv
theorem Rws.append : ∀ {rows r2 : List (List D)} {b o : Nat}, Rws w M rows b o → Rws w M r2 b (o + rows.flatten.length) → Rws w M (rows ++ r2) b o
 | [], _, _, _, _, h => by simpa using h
 | r :: l, r2, b, o, ⟨h1, h2⟩, h => ⟨h1, Rws.append h2 (by simpa [Nat.add_assoc] using h)⟩
theorem growBy_le (n : Nat) : ∀ (r c : Nat), Builtin.growBy n r c + 768 ≤ (c + 768) * 2 ^ r
 | 0, c => by simp [Builtin.growBy]
 | r + 1, c => by
  have hp : 0 < 2 ^ r := Nat.two_pow_pos r
  simp only [Builtin.growBy]
  split
  ·rw [Nat.pow_succ]
   have : (c + 768) * 1 ≤ (c + 768) * (2 ^ r * 2) := Nat.mul_le_mul_left _ (by omega)
   rwa [Nat.mul_one] at this
  ·refine Nat.le_trans (growBy_le n r _) ?_
   rw [Nat.pow_succ, show (c + 768) * (2 ^ r * 2) = ((c + 768) * 2) * 2 ^ r by rw [Nat.mul_assoc, Nat.mul_comm 2]]
   exact Nat.mul_le_mul_right _ (by omega)
theorem growBy_le4 (n c : Nat) : Builtin.growBy n 4 c ≤ 16 * (c + 768) := by
 have h := growBy_le n 4 c
 have e2 : (2 : Nat) ^ 4 = 16 := by decide
 have e : (c + 768) * 2 ^ 4 = 16 * (c + 768) := by rw [e2, Nat.mul_comm]
 rw [e] at h
 exact Nat.le_trans (Nat.le_add_right _ _) h
theorem nextcap_le {need cap : Nat} (h : cap < need) (h' : need ≤ 4294967296) : Builtin.nextslicecap need cap ≤ 16 * (4294967296 + 768) := by
 unfold Builtin.nextslicecap
 by_cases h1 : need > 2 * cap
 ·rw [if_pos h1]; omega
 ·rw [if_neg h1]
  by_cases h2 : cap < 256
  ·rw [if_pos h2]; omega
  ·rw [if_neg h2]
   exact Nat.le_trans (growBy_le4 need cap) (Nat.mul_le_mul_left _ (by omega))
end
section
variable {P : Program} {c : SC} {F : Nat → Prop} {σ : Nat → ST} {bm : Nat → Nat} {tm : Nat → Value} {a : Act} {w w' : World} {tb : TB} {Γ : List VT} {gs : Gd}
theorem Sim.append (hs : Sim c F σ bm tm a w) {g n : Nat} (hg : ¬ F g) (oh : Option Nat) (hoh : ∀ h, oh = some h → σ (3 * h + 2) = .live ⟨n, none⟩) (v' : Value) (blk : Option Nat)
  (hfr : Fr c.B c.X w w') (hk : Keeps w (MM c.M0 bm tm σ) w' (MM c.M0 bm (upd tm g v') (upd (dropR σ oh) (3 * g + 2) (.live ⟨n, none⟩))))
  (hob : ∀ k, k < w.heap.size → some k ≠ blk → w'.heap[k]? = w.heap[k]?)
  (hblk : ∀ b, blk = some b → ∃ h o s len cap, oh = some h ∧ tm h = .slice (some ⟨b, o, s⟩) len cap ∧ 0 < cap)
  (hlive : LiveOk c w' (upd tm g v') g ⟨n, none⟩) (hv' : ∀ b o s len cap, v' = .slice (some ⟨b, o, s⟩) len cap → 0 < cap → w.heap.size ≤ b ∨ blk = some b) :
  Sim c (fun x => F x ∨ x = g) (upd (dropR σ oh) (3 * g + 2) (.live ⟨n, none⟩)) bm (upd tm g v') a w' := by
 have htm : ∀ x, F x → upd tm g v' x = tm x := fun x hx => upd_ne _ _ (fun e => hg (e ▸ hx))
 have htv : ∀ x m, σ (3 * x + 2) = .live m → upd tm g v' x = tm x ∧ ∀ y, men (.live m) y → upd tm g v' y = tm y := fun x m h => ⟨htm x (hs.f3 x m h), fun y hy => htm y (hs.f1 (3 * x + 2) y (by rw [h]; exact hy))⟩
 have hbn : ∀ id cs, σ (3 * id + 1) = .box cs → some (bm id) ≠ blk := fun id cs hc e => by
  obtain ⟨h, o, s, len, cap, h1, h2, h3⟩ := hblk _ e.symm
  exact hs.dbl id cs h ⟨n, none⟩ _ hc (hoh h h1) (.inl ⟨o, s, len, cap, h2, h3⟩) rfl
 have hln : ∀ x m b, σ (3 * x + 2) = .live m → oh ≠ some x → Blk tm x m b → some b ≠ blk := fun x m b hx hne hb e => by
  obtain ⟨h, o', s', len', cap', h1, h2, h3⟩ := hblk _ e.symm
  exact hs.dll x m h ⟨n, none⟩ b b hx (hoh h h1) (fun e => hne (e ▸ h1)) hb (.inl ⟨o', s', len', cap', h2, h3⟩) rfl
 have hnw : ∀ b, Blk (upd tm g v') g ⟨n, none⟩ b → w.heap.size ≤ b ∨ blk = some b := fun b hb => by
  obtain ⟨o, s, len, cap, h1, h2⟩ := Blk_none hb
  rw [upd_same] at h1
  exact hv' b o s len cap h1 h2
 refine hs.turn (fun t => by rw [upd_r_t, dropR_t]) (fun x hx => ⟨rfl, htm x hx⟩) (fun _ h => .inl h) hfr hk ?_ ?_ ?_ ?_ ?_ ?_ ?_ ?_
 ·intro id cs h
  rw [upd_r_box, dropR_box] at h
  refine (hs.box id cs h).keep hk rfl (hob _ (hs.box id cs h).lt (hbn id cs h)) fun x hx => htm x ?_
  exact hs.f1 (3 * id + 1) x (by rw [h]; exact hx)
 ·intro x m h
  by_cases e : x = g
  ·subst e; rw [upd_same] at h; simp at h; subst h; exact hlive
  ·rw [upd_r_live _ e] at h
   obtain ⟨h1, h2⟩ := dropR_live h
   exact (hs.live x m h1).keep (fun b hb => hob _ ((hs.live x m h1).lt hb) (hln x m b h1 h2 hb)) (htv x m h1).1 (htv x m h1).2
 ·intro id id' cs cs' h h'
  rw [upd_r_box, dropR_box] at h h'
  exact hs.dbb id id' cs cs' h h'
 ·intro id cs x m b h hx hb
  rw [upd_r_box, dropR_box] at h
  by_cases e : x = g
  ·subst e; rw [upd_same] at hx; simp at hx; subst hx
   rcases hnw b hb with h1 | h1
   ·have := (hs.box id cs h).lt; omega
   ·exact fun e => hbn id cs h (by rw [e, h1])
  ·rw [upd_r_live _ e] at hx
   obtain ⟨h1, h2⟩ := dropR_live hx
   exact hs.dbl id cs x m b h h1 ((Blk.congr (htv x m h1).1 (htv x m h1).2).1 hb)
 ·intro x m y m' b b' hx hy hne hb hb'
  by_cases e : x = g <;> by_cases e' : y = g
  ·exact absurd (e.trans e'.symm) hne
  ·subst e; rw [upd_same] at hx; simp at hx; subst hx; rw [upd_r_live _ e'] at hy
   obtain ⟨h1, h2⟩ := dropR_live hy
   have hb' := (Blk.congr (htv y m' h1).1 (htv y m' h1).2).1 hb'
   rcases hnw b hb with h3 | h3
   ·have := (hs.live y m' h1).lt hb'; omega
   ·exact fun q => hln y m' b' h1 h2 hb' (by rw [← q, h3])
  ·subst e'; rw [upd_same] at hy; simp at hy; subst hy; rw [upd_r_live _ e] at hx
   obtain ⟨h1, h2⟩ := dropR_live hx
   have hb := (Blk.congr (htv x m h1).1 (htv x m h1).2).1 hb
   rcases hnw b' hb' with h3 | h3
   ·have := (hs.live x m h1).lt hb; omega
   ·exact fun q => hln x m b h1 h2 hb (by rw [q, h3])
  ·rw [upd_r_live _ e] at hx; rw [upd_r_live _ e'] at hy
   obtain ⟨h1, h2⟩ := dropR_live hx
   obtain ⟨h3, h4⟩ := dropR_live hy
   exact hs.dll x m y m' b b' h1 h3 hne ((Blk.congr (htv x m h1).1 (htv x m h1).2).1 hb) ((Blk.congr (htv y m' h3).1 (htv y m' h3).2).1 hb')
 ·intro l x h
  by_cases e : l = 3 * g + 2
  ·subst e; rw [upd_same] at h; obtain ⟨_, _, h⟩ := h; cases h
  ·rw [upd_ne _ _ e] at h; exact .inl (hs.f1 l x (dropR_men h))
 ·intro id cs h; rw [upd_r_box, dropR_box] at h; exact .inl (hs.f2 id cs h)
 ·intro x m h
  by_cases e : x = g
  ·exact .inr e
  ·rw [upd_r_live _ e] at h; exact .inl (hs.f3 x m (dropR_live h).1)
theorem Sim.newOwn (hs : Sim c F σ bm tm a w) {g : Nat} {n' : LV} (hg : ∀ x, NewT g x → ¬ F x) {tm' : Nat → Value} (hto : ∀ x, ¬ NewT g x → tm' x = tm x) (hb : Below w.heap.size w w') (hnw : ∀ b, Blk tm' g n' b → w.heap.size ≤ b)
  (hok : LiveOk c w' tm' g n') (hmen : ∀ x, men (.live n') x → NewT g x) : Sim c (fun x => F x ∨ NewT g x) (upd σ (3 * g + 2) (.live n')) bm tm' a w' := by
 have htm : ∀ x, F x → tm' x = tm x := fun x hx => hto x fun h => hg x h hx
 have htv : ∀ x m, σ (3 * x + 2) = .live m → tm' x = tm x ∧ ∀ y, men (.live m) y → tm' y = tm y := fun x m h => ⟨htm x (hs.f3 x m h), fun y hy => htm y (hs.f1 (3 * x + 2) y (by rw [h]; exact hy))⟩
 have hM : ∀ p, p.block < w.heap.size → MM c.M0 bm tm' (upd σ (3 * g + 2) (.live n')) p → MM c.M0 bm tm σ p := by
  rintro p hp (h | ⟨id, cs, h1, h2⟩ | ⟨x, m, h1, h2⟩)
  ·exact .inl h
  ·rw [upd_r_box] at h1; exact .inr (.inl ⟨id, cs, h1, h2⟩)
  ·by_cases e : x = g
   ·subst e; rw [upd_same] at h1; simp at h1; subst h1
    have := hnw _ (ownA_blk h2); omega
   ·rw [upd_r_live _ e] at h1
    exact .inr (.inr ⟨x, m, h1, ownA.congr (htv x m h1).1 (htv x m h1).2 h2⟩)
 have hk : Keeps w (MM c.M0 bm tm σ) w' (MM c.M0 bm tm' (upd σ (3 * g + 2) (.live n'))) := Keeps.below hb hM
 refine hs.turn (fun t => upd_r_t _ _ _) (fun x hx => ⟨rfl, htm x hx⟩) (fun _ h => .inl h) (Fr.of_below hb hs.hB) hk ?_ ?_ ?_ ?_ ?_ ?_ ?_ ?_
 ·intro id cs h
  rw [upd_r_box] at h
  exact (hs.box id cs h).keep hk rfl (hb.block _ (hs.box id cs h).lt) fun x hx => htm x (hs.f1 (3 * id + 1) x (by rw [h]; exact hx))
 ·intro x m h
  by_cases e : x = g
  ·subst e; rw [upd_same] at h; simp at h; subst h; exact hok
  ·rw [upd_r_live _ e] at h
   exact (hs.live x m h).keep (fun b hb' => hb.block _ ((hs.live x m h).lt hb')) (htv x m h).1 (htv x m h).2
 ·intro id id' cs cs' h h'
  rw [upd_r_box] at h h'
  exact hs.dbb id id' cs cs' h h'
 ·intro id cs x m b h hx hb'
  rw [upd_r_box] at h
  by_cases e : x = g
  ·subst e; rw [upd_same] at hx; simp at hx; subst hx
   have := hnw b hb'
   have := (hs.box id cs h).lt; omega
  ·rw [upd_r_live _ e] at hx
   exact hs.dbl id cs x m b h hx ((Blk.congr (htv x m hx).1 (htv x m hx).2).1 hb')
 ·intro x m y m' b b' hx hy hne h1 h2
  by_cases e : x = g <;> by_cases e' : y = g
  ·exact absurd (e.trans e'.symm) hne
  ·subst e; rw [upd_same] at hx; simp at hx; subst hx; rw [upd_r_live _ e'] at hy
   have := hnw b h1
   have := (hs.live y m' hy).lt ((Blk.congr (htv y m' hy).1 (htv y m' hy).2).1 h2)
   omega
  ·subst e'; rw [upd_same] at hy; simp at hy; subst hy; rw [upd_r_live _ e] at hx
   have := hnw b' h2
   have := (hs.live x m hx).lt ((Blk.congr (htv x m hx).1 (htv x m hx).2).1 h1)
   omega
  ·rw [upd_r_live _ e] at hx; rw [upd_r_live _ e'] at hy
   exact hs.dll x m y m' b b' hx hy hne ((Blk.congr (htv x m hx).1 (htv x m hx).2).1 h1) ((Blk.congr (htv y m' hy).1 (htv y m' hy).2).1 h2)
 ·intro l x h
  by_cases e : l = 3 * g + 2
  ·subst e; rw [upd_same] at h; exact .inr (hmen x h)
  ·rw [upd_ne _ _ e] at h; exact .inl (hs.f1 l x h)
 ·intro id cs h; rw [upd_r_box] at h; exact .inl (hs.f2 id cs h)
 ·intro x m h
  by_cases e : x = g
  ·subst e; exact .inr (NewT.self x)
  ·rw [upd_r_live _ e] at h; exact .inl (hs.f3 x m h)
theorem MM_drop {oh : Option Nat} {p : Addr} {g n : Nat} {v' : Value} (hs : Sim c F σ bm tm a w) (hg : ¬ F g) (h : MM c.M0 bm (upd tm g v') (upd (dropR σ oh) (3 * g + 2) (.live ⟨n, none⟩)) p) :
  (MM c.M0 bm tm (dropR σ oh) p) ∨ spareIn v' n p := by
 rcases h with h | ⟨id, cs, h1, h2⟩ | ⟨x, m, h1, h2⟩
 ·exact .inl (.inl h)
 ·rw [upd_r_box] at h1; exact .inl (.inr (.inl ⟨id, cs, h1, h2⟩))
 ·by_cases e : x = g
  ·subst e; rw [upd_same] at h1; simp at h1; subst h1
   have := ownA_none h2
   rw [upd_same] at this
   exact .inr this
  ·rw [upd_r_live _ e] at h1
   obtain ⟨h3, _⟩ := dropR_live h1
   refine .inl (.inr (.inr ⟨x, m, h1, ownA.congr (upd_ne _ _ e) (fun y hy => upd_ne _ _ fun e' => ?_) h2⟩))
   subst e'
   exact hg (hs.f1 (3 * x + 2) _ (by rw [h3]; exact hy))
theorem MM_drop_sub {oh : Option Nat} {p : Addr} (h : MM c.M0 bm tm (dropR σ oh) p) : MM c.M0 bm tm σ p := by
 rcases h with h | ⟨id, cs, h1, h2⟩ | ⟨x, m, h1, h2⟩
 ·exact .inl h
 ·rw [dropR_box] at h1; exact .inr (.inl ⟨id, cs, h1, h2⟩)
 ·exact .inr (.inr ⟨x, m, (dropR_live h1).1, h2⟩)
theorem setAllA_out : ∀ (l : List Value) (C : Array Value) (o i : Nat), i < o ∨ o + l.length ≤ i → (setAllA C o l)[i]? = C[i]?
 | [], _, _, _, _ => rfl
 | x :: r, C, o, i, h => by
  simp only [List.length_cons] at h
  unfold setAllA
  rw [setAllA_out r _ _ _ (by omega)]
  simp [Array.getElem?_setIfInBounds]; omega
theorem setAllA_in : ∀ (l : List Value) (C : Array Value) (o j : Nat) (u : Value), o + l.length ≤ C.size → l[j]? = some u → (setAllA C o l)[o + j]? = some u
 | [], _, _, _, _, _, h => by simp at h
 | v :: r, C, o, 0, u, hs, h => by
  simp only [List.length_cons] at hs
  simp at h; subst h
  unfold setAllA
  rw [setAllA_out r _ _ _ (by omega)]
  simp [Array.getElem?_setIfInBounds]; omega
 | v :: r, C, o, j + 1, u, hs, h => by
  simp only [List.length_cons] at hs
  simp at h
  unfold setAllA
  have := setAllA_in r (C.setIfInBounds o v) (o + 1) j u (by simp; omega) h
  rwa [show o + (j + 1) = o + 1 + j by omega]
def SlF (w : World) (M : Addr → Prop) (rows : List (List D)) (ad : Option Addr) (len cap : Nat) : Prop :=
 len = rows.length ∧ len ≤ cap ∧ cap ≤ maxLen ∧ (ad = none → cap = 0) ∧ ∀ b o s, ad = some ⟨b, o, s⟩ → (0 < len → s = none) ∧ Rws w M rows b o
theorem first_cells {M : Addr → Prop} {rows : List (List D)} {ad : Option Addr} {len cap n : Nat} (h : SlF w M rows ad len cap) (hn : ∀ r ∈ rows, r.length = n) :
  ∃ vs : List Value, vs.length = len * n ∧ Rs w M rows.flatten vs ∧ ∀ w1 : World, w1.heap = w.heap → (Builtin.firstCells n len (.slice ad len cap)).run P w1 = .ok vs.toArray w1 := by
 obtain ⟨h1, h2, h3, h4, h5⟩ := h
 rcases ad with _ | ⟨b, o, s⟩
 ·have : rows = [] := List.eq_nil_of_length_eq_zero (by have := h4 rfl; omega)
  subst this
  exact ⟨[], by simp at h1; simp [h1], rfl, fun w1 _ => by simp [Builtin.firstCells]⟩
 ·obtain ⟨vs, e, hr, hc⟩ := (h5 b o s rfl).2.cells
  have hlen : vs.length = len * n := by rw [e, flat_len hn, h1]
  refine ⟨vs, hlen, hr, fun w1 hw1 => ?_⟩
  by_cases h0 : len = 0
  ·subst h0
   have : vs = [] := List.eq_nil_of_length_eq_zero (by simpa using hlen)
   subst this
   simp [Builtin.firstCells, loadCells, loadCellsFrom]
  ·have hsn := (h5 b o s rfl).1 (by omega); subst hsn
   have := run_loadCells_list (P := P) (w := w1) ⟨b, o, none⟩ vs (fun j u hu => by
    rw [addr_add, World.cell?_of_block (w := w) (by rw [hw1])]; exact hc j u hu)
   rw [hlen] at this
   simpa [Builtin.firstCells] using this
theorem first_at {M : Addr → Prop} {rows : List (List D)} {b o len cap n : Nat} {vs : List Value} (h : SlF w M rows (some ⟨b, o, none⟩) len cap) (hn : ∀ r ∈ rows, r.length = n) (hrun : (Builtin.firstCells n len (.slice (some ⟨b, o, none⟩) len cap)).run P w = .ok vs.toArray w) (h0 : 0 < len) : ∀ (k : Nat) (u : Value), vs[k]? = some u → w.cell? ⟨b, o + k, none⟩ = some u := by
 obtain ⟨vs', e, _, hc⟩ := (h.2.2.2.2 b o none rfl).2.cells
 have hlen : vs'.length = len * n := by rw [e, flat_len hn, h.1]
 have hl := run_loadCells_list (P := P) (w := w) ⟨b, o, none⟩ vs' (fun k u hu => by rw [addr_add]; exact hc k u hu)
 rw [hlen] at hl
 have hrun' : (Builtin.firstCells n len (.slice (some ⟨b, o, none⟩) len cap)).run P w = .ok vs'.toArray w := by
  have h0' : ¬ len = 0 := by omega
  simp [Builtin.firstCells, hl]
 rw [hrun] at hrun'
 simp only [Result.ok.injEq, and_true] at hrun'
 have : vs = vs' := by simpa using hrun'
 subst this
 exact hc
theorem sAppend (hcx : tbOk P tb tb = true) (hs : Sim c F σ bm tm a w) (hΓ : EnvTy tb.tab Γ c.env) {g n : Nat} (hgF : ¬ F g) {o : Oper} {x y : Operand} {T U : Nat} {cl : Call} (ho : o.op = .call cl) (hcl : cl.callee = .builtin .append) (har : cl.args.toList = [x, y]) (hat : cl.argTypes.toList = [T, U])
  (hd : ∀ d, o.dst = some d → d < c.nt) {ti ui : TI} (hti : tb.get T = some ti) (hui : tb.get U = some ui) {eff : Eff}
  (h : eAppend tb Γ gs o.dst σ g ti ui (opd tb σ T x) (opd tb σ U y) = some eff) : OpOk P c F σ bm tm a w g gs n o eff := by
 have har' : cl.args = #[x, y] := by rw [← Array.toList_inj, har]
 have hat' : cl.argTypes = #[T, U] := by rw [← Array.toList_inj, hat]
 unfold eAppend at h
 split at h
 ·rename_i el el' hv hv'
  split at h
  ·rename_i k ex ky ey ei hx hy hei
   split at h
   ·rename_i hc
    obtain ⟨hcx1, hcy1, hby, hby0, hsz0⟩ := hc
    split at h
    ·simp at h
    ·rename_i v1 hv1
     obtain ⟨j, hj, hjs, hjb⟩ := ty_one hcx hei hv1
     have hcl1 : ei.cells = v1.cells := by simp [TI.cells, hv1]
     have htab : tb.tab el = v1.cells := by simp [TB.tab, hei, hcl1]
     rw [hcl1] at h hsz0
     obtain ⟨z0, hz0, hz1⟩ : ∃ z, j.zero = some z ∧ z.cells.size = v1.cells.length := by
      cases v1 with
      | c t =>
       obtain ⟨i', d', hi', _, _, ⟨z, hz, hzv⟩, _⟩ := ty_c hcx hei hv1
       rw [hj] at hi'; simp at hi'; subst hi'
       refine ⟨z, hz, ?_⟩
       cases t <;> cases z <;> simp [zeroV] at hzv <;> rfl
      | agg ts =>
       obtain ⟨i', f', cs', hi', _, _, hz, hzv, _⟩ := ty_agg hcx hei hv1
       rw [hj] at hi'; simp at hi'; subst hi'
       refine ⟨_, hz, ?_⟩
       have := (zeros_rel (w := w) (M := fun _ => False) (tm := tm) (c := c) hzv).1.length
       simpa [Value.cells, V1.cells] using this
     obtain ⟨_, d1, _, _, _, _, hd1, hdc1⟩ := ty_c hcx hti hv
     simp only [DescC] at hdc1; subst hdc1
     obtain ⟨_, d2, _, _, _, _, hd2, hdc2⟩ := ty_c hcx hui hv'
     simp only [DescC] at hdc2; subst hdc2
     have hvrx := (val_rel hs hx).1 (gsH_nil _)
     have hvry := (val_rel hs hy).1 (gsH_nil _)
     obtain ⟨rows, hrows, hrt, ad, len, cap, hval, hF⟩ := eval_sl hΓ (isC_some hcx1) hvrx
     obtain ⟨rowy, hrowy, hrty, ady, leny, capy, hvaly, hFy⟩ := eval_sl hΓ (isC_some hcy1) hvry
     have hFx' : SlF w (MM c.M0 bm tm σ) rows ad len cap := hF
     have hFy' : SlF w (MM c.M0 bm tm σ) rowy ady leny capy := hFy
     have hnx : ∀ r ∈ rows, r.length = v1.cells.length := fun r hr => by rw [hrt.len r hr, htab]
     have hny : ∀ r ∈ rowy, r.length = v1.cells.length := fun r hr => by rw [hrty.len r hr, htab]
     obtain ⟨vx, hvxl, hvxr, hvxrun⟩ := first_cells (P := P) hFx' hnx
     obtain ⟨vy, hvyl, hvyr, hvyrun⟩ := first_cells (P := P) hFy' hny
     have hone := one_flat hrty hvyr
     have hden : (E.app ex ey).den c.env = .sl (rows ++ rowy) := by simp [E.den, hrows, hrowy]
     have hflat : (rows ++ rowy).flatten = rows.flatten ++ rowy.flatten := by simp
     obtain ⟨hl1, hl2, hl3, hl4, hl5⟩ := hF
     obtain ⟨hm1, hm2, hm3, hm4, hm5⟩ := hFy
     generalize hsz : v1.cells.length = sz at *
     have hrun1 : len + leny ≤ cap → (leny = 0 ∨ ∃ b o' cells T0, ad = some ⟨b, o', none⟩ ∧ w.heap[b]? = some (.cells cells T0 (0, 0)) ∧ o' + len * sz + leny * sz ≤ cells.size) →
       ∃ w', (execOp a.eval o).run P w = .ok (.value (.slice ad (len + leny) cap)) w' ∧ ((leny = 0 ∧ w' = w) ∨ ∃ b o' cells T0, ad = some ⟨b, o', none⟩ ∧ w.heap[b]? = some (.cells cells T0 (0, 0)) ∧ w'.heap[b]? = some (.cells (setAllA cells (o' + len * sz) vy) T0 (0, 0)) ∧ OneBlock w w' b ∧ o' + len * sz + leny * sz ≤ cells.size) := by
      intro hle hroom
      rcases hroom with h0 | ⟨b, o', cells, T0, rfl, hblk, hrm⟩
      ·subst h0
       have hvy0 : vy = [] := List.eq_nil_of_length_eq_zero (by simpa using hvyl)
       subst hvy0
       refine ⟨w, ?_, .inl ⟨rfl, rfl⟩⟩
       rcases ad with _ | ad
       ·simp [execOp, ho, resolve, hcl, invoke, builtin, Builtin.append_, har', hat', hval, hvaly, run_underlying hd1, run_underlying hd2, run_sizeOf hj, hjs, Builtin.lenOf, hl2, hvyrun w rfl, show len ≤ cap from hl2]
       ·simp [execOp, ho, resolve, hcl, invoke, builtin, Builtin.append_, har', hat', hval, hvaly, run_underlying hd1, run_underlying hd2, run_sizeOf hj, hjs, Builtin.lenOf, hl2, hvyrun w rfl, show len ≤ cap from hl2, storeCells]
      ·obtain ⟨w', h1, h2, h3⟩ := run_storeCells (P := P) b T0 vy w cells (o' + len * sz) 0 hblk hone (by rw [hvyl]; omega)
       refine ⟨w', ?_, .inr ⟨b, o', cells, T0, rfl, hblk, by simpa using h2, h3, hrm⟩⟩
       simp [execOp, ho, resolve, hcl, invoke, builtin, Builtin.append_, har', hat', hval, hvaly, run_underlying hd1, run_underlying hd2, run_sizeOf hj, hjs, Builtin.lenOf, hle, hvyrun w rfl, addr_add, h1]
     have hrun2 : cap < len + leny → len + leny ≤ 4294967296 → ∃ (cells : Array Value) (nc : Nat), (execOp a.eval o).run P w = .ok (.value (.slice (some ⟨w.heap.size, 0, none⟩) (len + leny) nc)) (w.drew.alloc (.cells cells el)) ∧ len + leny ≤ nc ∧ nc ≤ maxLen ∧ cells.size = nc * sz ∧ ∀ (i : Nat) (u : Value), (vx ++ vy)[i]? = some u → cells[i]? = some u := by
      intro hgt hfew
      have hq : ¬ (Builtin.nextslicecap (len + leny) cap * j.bytes > 2 ^ 48) := by
       have h1 := nextcap_le hgt hfew
       have h2 : Builtin.nextslicecap (len + leny) cap * j.bytes ≤ (16 * (4294967296 + 768)) * 1024 := Nat.mul_le_mul h1 (by omega)
       omega
      have hby1 : ¬ (j.bytes = 0) := by omega
      have hnl : ¬ (len + leny ≤ cap) := by omega
      refine ⟨vx.toArray ++ vy.toArray ++ Builtin.zeroCells z0.cells ((len + leny + w.tape w.drawn (.appendCap (len + leny) cap el) % (2 ^ 63 - (len + leny))) - (len + leny)), len + leny + w.tape w.drawn (.appendCap (len + leny) cap el) % (2 ^ 63 - (len + leny)), ?_, by omega, ?_, ?_, ?_⟩
      ·have hdrew : (w.drew).heap.size = w.heap.size := rfl
       simp [execOp, ho, resolve, hcl, invoke, builtin, Builtin.append_, har', hat', hval, hvaly, run_underlying hd1, run_underlying hd2, run_sizeOf hj, run_typeInfo hj, hjs, Builtin.lenOf, hnl, hby1, Nat.not_lt.2 (Nat.not_lt.1 hq), Question.forced, Question.cut, zeroValue, hz0, newRow, hvxrun w.drew rfl, hvyrun w.drew rfl]
       rw [← List.append_toArray, Array.append_assoc]
      ·have := Nat.mod_lt (w.tape w.drawn (.appendCap (len + leny) cap el)) (show 0 < 2 ^ 63 - (len + leny) by omega)
       unfold maxLen; omega
      ·simp [Builtin.zeroCells, hvxl, hvyl, hz1]
       rw [← Nat.add_mul, ← Nat.add_mul]
      ·intro i u hu
       have hi : i < (vx ++ vy).length := (List.getElem?_eq_some_iff.1 hu).1
       rw [Array.getElem?_append_left (by simpa using hi)]
       rw [List.append_toArray]; simpa using hu
     have main : ∀ oh : Option Nat, (∀ h, oh = some h → σ (3 * h + 2) = .live ⟨sz, none⟩ ∧ tm h = .slice ad len cap) → (oh = none → cap = 0) → len + leny ≤ 4294967296 → ∀ (K : Act → World → Prop) (Q : Exit → Act → World → Prop),
       (∀ bm' tm' a' w', Sim c (fun x => F x ∨ NewT g x) (updL (upd (dropR σ oh) (3 * g + 2) (.live ⟨sz, none⟩)) (wv o.dst (.v [] (.own g) (.app ex ey)))) bm' tm' a' w' → K a' w') → o.wp P a w K Q := by
      intro oh hoh hohn hfew K Q hK
      have hohl : ∀ h, oh = some h → σ (3 * h + 2) = .live ⟨sz, none⟩ := fun h e => (hoh h e).1
      have fin : ∀ (v' : Value) (w' : World) (blk : Option Nat), (execOp a.eval o).run P w = .ok (.value v') w' → Fr c.B c.X w w' →
        Keeps w (MM c.M0 bm tm σ) w' (MM c.M0 bm (upd tm g v') (upd (dropR σ oh) (3 * g + 2) (.live ⟨sz, none⟩))) →
        (∀ k, k < w.heap.size → some k ≠ blk → w'.heap[k]? = w.heap[k]?) →
        (∀ b, blk = some b → ∃ h o s len cap, oh = some h ∧ tm h = .slice (some ⟨b, o, s⟩) len cap ∧ 0 < cap) →
        LiveOk c w' (upd tm g v') g ⟨sz, none⟩ → (∀ b o s len cap, v' = .slice (some ⟨b, o, s⟩) len cap → 0 < cap → w.heap.size ≤ b ∨ blk = some b) →
        R w' (MM c.M0 bm (upd tm g v') (upd (dropR σ oh) (3 * g + 2) (.live ⟨sz, none⟩))) (.sl (rows ++ rowy)) v' → o.wp P a w K Q := by
       intro v' w' blk hrun hfr hk hob hblk hlive hv'' hR
       unfold Oper.wp
       rw [hrun]
       refine hK _ _ _ _ (Sim.tag ((hs.append hgF oh hohl v' blk hfr hk hob hblk hlive hv'').putO hd (relT_v (gsH_nil _) ⟨?_, ?_⟩) fun x hx => ?_))
       ·rw [hden]; exact hR
       ·rw [upd_same]
       ·exact .inr hx
      by_cases hle : len + leny ≤ cap
      · -- in place
       by_cases h0 : leny = 0
       ·subst h0
        obtain ⟨w', hrun, hcase⟩ := hrun1 hle (.inl rfl)
        have hw : w' = w := by
         rcases hcase with ⟨_, h⟩ | ⟨b, o', cells, T0, h1, h2, h3, h4, h5⟩
         ·exact h
         ·have hvy0 : vy = [] := List.eq_nil_of_length_eq_zero (by simpa using hvyl)
          subst hvy0
          obtain ⟨w2, hrun2', hc2⟩ := hrun1 hle (.inl rfl)
          have e1 := hrun.symm.trans hrun2'
          simp only [Result.ok.injEq, true_and] at e1
          have : (execOp a.eval o).run P w = .ok (.value (.slice ad (len + 0) cap)) w := by
           rcases ad with _ | ad
           ·simp [execOp, ho, resolve, hcl, invoke, builtin, Builtin.append_, har', hat', hval, hvaly, run_underlying hd1, run_underlying hd2, run_sizeOf hj, hjs, Builtin.lenOf, hl2, hvyrun w rfl]
           ·simp [execOp, ho, resolve, hcl, invoke, builtin, Builtin.append_, har', hat', hval, hvaly, run_underlying hd1, run_underlying hd2, run_sizeOf hj, hjs, Builtin.lenOf, hl2, hvyrun w rfl, storeCells]
          have e2 := hrun.symm.trans this
          simp only [Result.ok.injEq, true_and] at e2
          exact e2
        subst hw
        have hry : rowy = [] := List.eq_nil_of_length_eq_zero (by omega)
        subst hry
        simp only [Nat.add_zero] at hrun
        by_cases hlc : 0 < cap
        ·obtain ⟨h', rfl⟩ : ∃ h', oh = some h' := by
          cases oh with
          | none => have := hohn rfl; omega
          | some h' => exact ⟨h', rfl⟩
         obtain ⟨hl', ht'⟩ := hoh h' rfl
         rcases ad with _ | ⟨b, o', s⟩
         ·have := hl4 rfl; omega
         refine fin _ _ (some b) hrun (Fr.refl _ _ _) (fun p v hp hn => ⟨hp, fun hm => ?_⟩) (fun _ _ _ => rfl) (fun b' hb' => ⟨h', o', s, len, cap, rfl, by simp at hb'; subst hb'; exact ht', hlc⟩) ?_ (fun b' o2 s2 l2 c2 he _ => .inr (by simp at he; rw [he.1.1])) ?_
         ·rcases MM_drop hs hgF hm with h | h
          ·exact hn (MM_drop_sub h)
          ·exact hn (.inr (.inr ⟨h', ⟨sz, none⟩, hl', ownA_of (by rw [ht']; exact h)⟩))
         ·refine ⟨fun b' o2 s2 l2 c2 he hlt => ?_, (fun e dp he => by cases he), (fun e gv ms he => by cases he)⟩
          rw [upd_same] at he
          exact (hs.live h' ⟨sz, none⟩ hl').sp b' o2 s2 l2 c2 (by rw [ht', he]) hlt
         ·rw [List.append_nil, ← hrows, ← hval]
          refine R.keep (fun p v hp hn => ⟨hp, fun hm => ?_⟩) _ _ hvrx.rd
          rw [hval] at hm
          rcases MM_drop hs hgF hm with h | h
          ·exact hn (MM_drop_sub h)
          ·exact hn (.inr (.inr ⟨h', ⟨sz, none⟩, hl', ownA_of (by rw [ht']; exact h)⟩))
        ·have hnsp : ∀ p, ¬ spareIn (.slice ad len cap) sz p := by
          rintro p ⟨b, o', s, l2, c2, he, _, h1, h2⟩
          simp only [Value.slice.injEq] at he
          obtain ⟨_, rfl, rfl⟩ := he
          have e1 : cap = 0 := by omega
          rw [e1] at h2; omega
         have hkk : Keeps w' (MM c.M0 bm tm σ) w' (MM c.M0 bm (upd tm g (.slice ad len cap)) (upd (dropR σ oh) (3 * g + 2) (.live ⟨sz, none⟩))) := fun p v hp hn => ⟨hp, fun hm => by
          rcases MM_drop hs hgF hm with h | h
          ·exact hn (MM_drop_sub h)
          ·exact hnsp p h⟩
         refine fin _ _ none hrun (Fr.refl _ _ _) hkk (fun _ _ _ => rfl) (fun b' hb' => by cases hb') ?_ (fun b' o2 s2 l2 c2 he hlt => by simp only [Value.slice.injEq] at he; omega) ?_
         ·refine ⟨fun b' o2 s2 l2 c2 he hlt => ?_, (fun e dp he => by cases he), (fun e gv ms he => by cases he)⟩
          rw [upd_same] at he; simp only [Value.slice.injEq] at he; omega
         ·rw [List.append_nil, ← hrows]
          have := R.keep hkk _ _ hvrx.rd
          rwa [hval] at this
       · -- cells of the room behind are written
        have hlc : 0 < cap := by omega
        obtain ⟨h', rfl⟩ : ∃ h', oh = some h' := by
         cases oh with
         | none => have := hohn rfl; omega
         | some h' => exact ⟨h', rfl⟩
        obtain ⟨hl', ht'⟩ := hoh h' rfl
        rcases ad with _ | ⟨b, o', s⟩
        ·have := hl4 rfl; omega
        obtain ⟨hsn, hBb, cells, T0, hblk, hroom⟩ := (hs.live h' ⟨sz, none⟩ hl').sp b o' s len cap ht' hlc
        subst hsn
        replace hroom : o' + cap * sz ≤ cells.size := hroom
        have hmul : len * sz + leny * sz ≤ cap * sz := by rw [← Nat.add_mul]; exact Nat.mul_le_mul_right _ hle
        obtain ⟨w', hrun, hcase⟩ := hrun1 hle (.inr ⟨b, o', cells, T0, rfl, hblk, by omega⟩)
        rcases hcase with ⟨h, _⟩ | ⟨b1, o1, cells1, T1, h1, h2, h3, h4, h5⟩
        ·exact absurd h h0
        simp only [Option.some.injEq, Addr.mk.injEq, and_true] at h1
        obtain ⟨rfl, rfl⟩ := h1
        rw [hblk] at h2
        simp only [Option.some.injEq, Obj.cells.injEq] at h2
        obtain ⟨rfl, rfl, _⟩ := h2
        have hspare : ∀ i, len * sz ≤ i → i < cap * sz → MM c.M0 bm tm σ ⟨b, o' + i, none⟩ := fun i hi1 hi2 =>
         .inr (.inr ⟨h', ⟨sz, none⟩, hl', ownA_of ⟨b, o', none, len, cap, ht', rfl, by show o' + len * sz ≤ o' + i; omega, by show o' + i < o' + cap * sz; omega⟩⟩)
        have hcell' : ∀ i, w'.cell? ⟨b, i, none⟩ = (setAllA cells (o' + len * sz) vy)[i]? := fun i => cell_of_row w' b i _ _ _ h3
        have hcell0 : ∀ i, w.cell? ⟨b, i, none⟩ = cells[i]? := fun i => cell_of_row w b i _ _ _ hblk
        have hMd : ∀ p, p.block = b → ¬ MM c.M0 bm tm (dropR σ (some h')) p := by
         rintro p hpb (h | ⟨id, cs, q1, q2⟩ | ⟨x, m, q1, q2⟩)
         ·have := hs.m0.1 p h; omega
         ·rw [dropR_box] at q1
          exact hs.dbl id cs h' ⟨sz, none⟩ b q1 hl' (.inl ⟨o', none, len, cap, ht', hlc⟩) (by rw [← q2, hpb])
         ·obtain ⟨q6, q7⟩ := dropR_live q1
          exact hs.dll x m h' ⟨sz, none⟩ p.block b q6 hl' (fun e => q7 (by rw [e])) (ownA_blk q2) (.inl ⟨o', none, len, cap, ht', hlc⟩) hpb
        have hkk : Keeps w (MM c.M0 bm tm σ) w' (MM c.M0 bm (upd tm g (.slice (some ⟨b, o', none⟩) (len + leny) cap)) (upd (dropR σ (some h')) (3 * g + 2) (.live ⟨sz, none⟩))) := by
         intro p v hp hn
         constructor
         ·by_cases hpb : p.block = b
          ·have hsp := World.cell?_spot hp
           obtain ⟨pb, po, ps⟩ := p
           simp only at hpb hsp; subst hpb hsp
           rw [hcell', setAllA_out]
           ·rw [← hcell0]; exact hp
           ·rcases Nat.lt_or_ge po (o' + len * sz) with h | h
            ·exact .inl h
            ·refine .inr ?_
             rcases Nat.lt_or_ge po (o' + len * sz + vy.length) with h6 | h6
             ·refine absurd (hspare (po - o') (by omega) (by omega)) ?_
              rwa [show o' + (po - o') = po by omega]
             ·exact h6
          ·rw [← hp]; exact World.cell?_of_block (h4.block _ hpb)
         ·intro hm
          rcases MM_drop hs hgF hm with h | ⟨b2, o2, s2, l2, c2, q1, q2, q3, q4⟩
          ·exact hn (MM_drop_sub h)
          ·simp only [Value.slice.injEq, Option.some.injEq, Addr.mk.injEq] at q1
           obtain ⟨⟨rfl, rfl, rfl⟩, rfl, rfl⟩ := q1
           rw [Nat.add_mul] at q3
           exact hn (.inr (.inr ⟨h', ⟨sz, none⟩, hl', ownA_of ⟨b, o', none, len, cap, ht', q2, (by show o' + len * sz ≤ _; omega), q4⟩⟩))
        refine fin _ _ (some b) hrun (Fr.of_one h4 (.inl hBb)) hkk (fun k _ hk => h4.block k (fun e => hk (by rw [e]))) (fun b' hb' => ⟨h', o', none, len, cap, rfl, by simp at hb'; subst hb'; exact ht', hlc⟩) ?_ (fun b' o2 s2 l2 c2 he _ => .inr (by simp at he; rw [he.1.1])) ?_
        ·refine ⟨fun b' o2 s2 l2 c2 he hlt => ?_, (fun e dp he => by cases he), (fun e gv ms he => by cases he)⟩
         rw [upd_same] at he
         simp only [Value.slice.injEq, Option.some.injEq, Addr.mk.injEq] at he
         obtain ⟨⟨rfl, rfl, rfl⟩, rfl, rfl⟩ := he
         exact ⟨rfl, hBb, _, T0, h3, by rw [size_setAllA]; exact hroom⟩
        ·refine ⟨_, _, _, rfl, by simp; omega, hle, hl3, (fun h => by cases h), fun b2 o2 s2 he => ?_⟩
         simp only [Option.some.injEq, Addr.mk.injEq] at he
         obtain ⟨rfl, rfl, rfl⟩ := he
         refine ⟨fun _ => rfl, Rws.append (Rws.keep hkk _ _ _ (hl5 b o' none rfl).2) ?_⟩
         rw [flat_len hnx, ← hl1]
         refine Rws.of_flat hvyr hkk fun i u hu => ?_
         have hi : i < vy.length := (List.getElem?_eq_some_iff.1 hu).1
         refine ⟨by rw [hcell']; exact setAllA_in vy cells _ i u (by omega) hu, fun hm => ?_⟩
         rcases MM_drop hs hgF hm with h | ⟨b2, o2, s2, l2, c2, q1, q2, q3, q4⟩
         ·exact hMd _ rfl h
         ·simp only [Value.slice.injEq, Option.some.injEq, Addr.mk.injEq] at q1
          obtain ⟨⟨rfl, rfl, rfl⟩, rfl, rfl⟩ := q1
          simp only at q3
          rw [Nat.add_mul] at q3
          omega
      · -- a new array
       obtain ⟨cells, nc, hrun, hn1, hn2, hn3, hn4⟩ := hrun2 (by omega) hfew
       have hb : Below w.heap.size w (w.drew.alloc (.cells cells el)) := ((Below.refl _ _).drew).alloc (Nat.le_refl _) _
       have hcell' : ∀ i, (w.drew.alloc (.cells cells el)).cell? ⟨w.heap.size, i, none⟩ = cells[i]? := fun i => by
        have := World.cell?_alloc_new (w := w.drew) cells el i
        exact this
       have hkk : Keeps w (MM c.M0 bm tm σ) (w.drew.alloc (.cells cells el)) (MM c.M0 bm (upd tm g (.slice (some ⟨w.heap.size, 0, none⟩) (len + leny) nc)) (upd (dropR σ oh) (3 * g + 2) (.live ⟨sz, none⟩))) := by
        refine Keeps.below hb fun p hp hm => ?_
        rcases MM_drop hs hgF hm with h | ⟨b2, o2, s2, l2, c2, q1, q2, q3, q4⟩
        ·exact MM_drop_sub h
        ·simp only [Value.slice.injEq, Option.some.injEq, Addr.mk.injEq] at q1
         omega
       refine fin _ _ none hrun (Fr.of_below hb hs.hB) hkk (fun k hk _ => hb.block k hk) (fun b' hb' => by cases hb') ?_ (fun b' o2 s2 l2 c2 he _ => .inl (by simp at he; omega)) ?_
       ·refine ⟨fun b' o2 s2 l2 c2 he hlt => ?_, (fun e dp he => by cases he), (fun e gv ms he => by cases he)⟩
        rw [upd_same] at he
        simp only [Value.slice.injEq, Option.some.injEq, Addr.mk.injEq] at he
        obtain ⟨⟨rfl, rfl, rfl⟩, rfl, rfl⟩ := he
        exact ⟨rfl, hs.hB, cells, el, heap_alloc_new w.drew _, by show 0 + nc * sz ≤ _; rw [hn3]; omega⟩
       ·refine ⟨_, _, _, rfl, by simp; omega, hn1, hn2, (fun h => by cases h), fun b2 o2 s2 he => ?_⟩
        simp only [Option.some.injEq, Addr.mk.injEq] at he
        obtain ⟨rfl, rfl, rfl⟩ := he
        refine ⟨fun _ => rfl, Rws.of_flat (by rw [hflat]; exact hvxr.append hvyr) hkk fun i u hu => ?_⟩
        have hi : i < (vx ++ vy).length := (List.getElem?_eq_some_iff.1 hu).1
        rw [Nat.zero_add]
        refine ⟨by rw [hcell']; exact hn4 i u hu, fun hm => ?_⟩
        rcases MM_drop hs hgF hm with h | ⟨b2, o2, s2, l2, c2, q1, q2, q3, q4⟩
        ·have := hs.M_lt _ (MM_drop_sub h)
         simp at this
        ·simp only [Value.slice.injEq, Option.some.injEq, Addr.mk.injEq] at q1
         obtain ⟨⟨rfl, rfl, rfl⟩, rfl, rfl⟩ := q1
         simp only [Nat.zero_add, Nat.add_mul] at q3
         simp only [List.length_append] at hi
         omega
     have hfewR : (∀ r ∈ eff.rq, RqH P c.env n r) → (Rq.cond [] (.few ex ey)) ∈ eff.rq → len + leny ≤ 4294967296 := fun hr hin => by
      have := hr _ hin (gsH_nil _)
      simp [E.den, hrows, hrowy] at this
      omega
     cases k with
     | d => simp at h
     | full =>
      simp only [Option.some.injEq] at h; subst h
      refine ⟨fun _ hr K Q hK => main none (by simp) (fun _ => ?_) (hfewR hr (by simp)) K Q fun bm' tm' a' w' hS => hK bm' tm' a' w' ?_, fun hn => absurd (gsH_nil _) hn⟩
      ·obtain ⟨_, a2, he⟩ := hvrx
       rw [hval] at he
       simp only [Value.slice.injEq] at he
       omega
      ·rw [updL_ups (by intro p hp d; simp at hp; subst hp; simp; omega)]
       exact hS
     | ag _ => simp at h
     | own h' =>
      simp only at h
      split at h
      ·rename_i m hm
       split at h
       ·rename_i hmsz
        subst hmsz
        simp only [Option.some.injEq] at h; subst h
        refine ⟨fun _ hr K Q hK => main (some h') (fun q hq => ?_) (by simp) (hfewR hr (by simp)) K Q fun bm' tm' a' w' hS => hK bm' tm' a' w' ?_, fun hn => absurd (gsH_nil _) hn⟩
        ·simp only [Option.some.injEq] at hq; subst hq
         exact ⟨hm, by rw [← hval]; exact hvrx.2.symm⟩
        ·rw [updL_ups (by intro p hp d; simp at hp; rcases hp with rfl | rfl <;> simp <;> omega)]
         exact hS
       ·simp at h
      ·simp at h
   ·simp at h
  ·simp at h
 ·simp at h
theorem sBuildOwn (hcx : tbOk P tb tb = true) (hs : Sim c F σ bm tm a w) (hΓ : EnvTy tb.tab Γ c.env) {g n : Nat} (hgF : ¬ F g) {o : Oper} {T len : Nat} {parts : Array (Nat × Operand)} (ho : o.op = .buildSlice T len parts) (hd : ∀ d, o.dst = some d → d < c.nt) {ti : TI} (hti : tb.get T = some ti) {eff : Eff}
  (h : eBuildOwn tb Γ gs o.dst σ g ti len parts.toList = some eff) : OpOk P c F σ bm tm a w g gs n o eff := by
 unfold eBuildOwn at h
 split at h
 ·rename_i el hv
  split at h
  ·rename_i hcnd
   obtain ⟨hlen, hok⟩ := hcnd
   simp only [Option.map_eq_some_iff] at h
   obtain ⟨e, he, rfl⟩ := h
   refine ⟨fun _ _ K Q hK => ?_, fun hn => absurd (gsH_nil _) hn⟩
   obtain ⟨w', cells, h1, h2, h3, h3', h4⟩ := run_buildSlice hcx hs hΓ ho hti hv hlen hok he (gsH_nil _)
   have hMd : ∀ p, MM c.M0 bm (upd tm g (.slice (some ⟨w.heap.size, 0, none⟩) len len)) (upd (dropR σ none) (3 * g + 2) (.live ⟨(tb.tab el).length, none⟩)) p → MM c.M0 bm tm σ p := fun p hp => by
    rcases MM_drop hs hgF hp with h | ⟨b2, o2, s2, l2, c2, q1, q2, q3, q4⟩
    ·exact MM_drop_sub h
    ·simp only [Value.slice.injEq] at q1
     obtain ⟨_, rfl, rfl⟩ := q1
     omega
   unfold Oper.wp
   rw [h1]
   refine hK bm (upd tm g (.slice (some ⟨w.heap.size, 0, none⟩) len len)) _ _ ?_
   rw [updL_ups (by intro p hp d; simp at hp; subst hp; simp; omega)]
   refine Sim.tag ((hs.append hgF none (by simp) _ none (Fr.of_below h2 hs.hB) (Keeps.below h2 fun p _ h => hMd p h) (fun k hk _ => h2.block k hk) (fun b hb => by cases hb) ?_ (fun b' o2 s2 l2 c2 he _ => .inl (by simp at he; omega))).putO hd (relT_v (gsH_nil _) ⟨h4 _ hMd, ?_⟩) fun x hx => ?_)
   ·refine ⟨fun b' o2 s2 l2 c2 he hlt => ?_, (fun e dp he => by cases he), (fun e gv ms he => by cases he)⟩
    rw [upd_same] at he
    simp only [Value.slice.injEq, Option.some.injEq, Addr.mk.injEq] at he
    obtain ⟨⟨rfl, rfl, rfl⟩, rfl, rfl⟩ := he
    exact ⟨rfl, hs.hB, cells, el, h3, by show 0 + len * (tb.tab el).length ≤ _; omega⟩
   ·rw [upd_same]
   ·exact .inr hx
  ·simp at h
 ·simp at h
theorem made_at {z : Array Value} {m n i j : Nat} (hz : z.size = n) (hi : i < m) (hj : j < n) : (madeCells z (m * n))[i * n + j]? = z[j]? := by
 have h1 : i * n + j < m * n := by
  have : (i + 1) * n ≤ m * n := Nat.mul_le_mul_right _ hi
  rw [Nat.add_mul, Nat.one_mul] at this
  omega
 simp only [madeCells, Array.getElem?_map, Array.getElem?_range, h1, ↓reduceIte, Option.map_some]
 rw [hz, Nat.mul_comm i n, Nat.mul_add_mod, Nat.mod_eq_of_lt hj]
 simp [hz, hj]
theorem zerosV_len : ∀ {ts : List CT} {vs : List Value}, zerosV ts vs = true → vs.length = ts.length
 | [], [], _ => rfl
 | t :: ts, v :: vs, h => by
  simp only [zerosV, Bool.and_eq_true] at h
  simp [zerosV_len h.2]
 | [], _ :: _, h => by simp [zerosV] at h
 | _ :: _, [], h => by simp [zerosV] at h
theorem zerosV_get : ∀ {ts : List CT} {vs : List Value}, zerosV ts vs = true → ∀ {j : Nat}, j < ts.length → ∃ t u, ts[j]? = some t ∧ vs[j]? = some u ∧ zeroV t u = true
 | [], _, _, j, hj => by simp at hj
 | t :: ts, v :: vs, h, j, hj => by
  simp only [zerosV, Bool.and_eq_true] at h
  cases j with
  | zero => exact ⟨t, v, rfl, rfl, h.1⟩
  | succ j => simpa using zerosV_get h.2 (j := j) (by simpa using hj)
 | _ :: _, [], h, _, _ => by simp [zerosV] at h
theorem colM_get : ∀ {ts : List CT} {ms : List Nat}, colM tb ts = some ms → ∀ (j : Nat) (t : CT), ts[j]? = some t → (ms.getD j 0 = 0 → leafC t = true) ∧ (ms.getD j 0 ≠ 0 → ∃ e, t = .sl e)
 | [], ms, h, j, t, ht => by simp at ht
 | t :: ts, ms, h, j, t', ht => by
  simp only [colM] at h
  split at h
  ·simp at h
  ·rename_i ms' hms
   cases j with
   | zero =>
    simp at ht; subst ht
    split at h
    ·rename_i e
     cases hc : (leafs (tb.tab e) && Nat.blt 0 (tb.tab e).length) with
     | false => rw [hc] at h; simp at h
     | true =>
      rw [hc] at h
      simp only [cond_true, Option.some.injEq] at h; subst h
      simp only [Bool.and_eq_true] at hc
      have := Nat.le_of_ble_eq_true hc.2
      refine ⟨fun h0 => ?_, fun _ => ⟨e, rfl⟩⟩
      simp at h0
      rw [h0] at this; simp at this
    ·simp at h
    ·simp at h
    ·rename_i h1 h2 h3
     simp only [Option.some.injEq] at h; subst h
     refine ⟨fun _ => ?_, fun h0 => absurd rfl h0⟩
     cases t <;> simp [leafC] at * <;> simp_all
   | succ j =>
    have key := colM_get hms j t' (by simpa using ht)
    split at h
    ·rename_i e
     cases hc : (leafs (tb.tab e) && Nat.blt 0 (tb.tab e).length) with
     | false => rw [hc] at h; simp at h
     | true => rw [hc] at h; simp only [cond_true, Option.some.injEq] at h; subst h; simpa using key
    ·simp at h
    ·simp at h
    ·simp only [Option.some.injEq] at h; subst h; simpa using key
theorem sMake (hcx : tbOk P tb tb = true) (hs : Sim c F σ bm tm a w) (hΓ : EnvTy tb.tab Γ c.env) {g n : Nat} (hgN : ∀ x, NewT g x → ¬ F x) {o : Oper} {T T1 T2 : Nat} {l cc : Operand} (ho : o.op = .makeSlice T l cc) (hd : ∀ d, o.dst = some d → d < c.nt) {ti : TI} (hti : tb.get T = some ti) {eff : Eff}
  (h : eMake tb Γ gs o.dst g ti (opd tb σ T1 l) (opd tb σ T2 cc) = some eff) : OpOk P c F σ bm tm a w g gs n o eff := by
 unfold eMake at h
 split at h
 ·rename_i el k1 en k2 ec hv hl hc
  split at h
  ·rename_i ei hei
   split at h
   ·simp at h
   ·rename_i v1 hv1
    split at h
    ·rename_i hcnd
     simp only [Option.some.injEq] at h; subst h
     obtain ⟨rfl, hint, hby, hpos, hlm⟩ := hcnd
     refine ⟨fun _ hr K Q hK => ?_, fun hn => absurd (gsH_nil _) hn⟩
     have hin : RqH P c.env n (.cond [] (.an (.ic .leq (.li .i64 0) en) (.ic .leq en (.li .i64 4294967296)))) := hr _ (by simp)
     replace hin := hin (gsH_nil _)
     have hki : en.inf tb.tab Γ = some (.one (.c (.int .i64))) := by
      obtain ⟨k, hk⟩ := isInt_some (show (isInt (en.inf tb.tab Γ)).isSome = true by rw [hint]; rfl)
      rw [hk] at hint ⊢
      simp [isInt] at hint
      rw [hint]
     obtain ⟨m, hm, hmv, _⟩ := eval_int hΓ hki ((val_rel hs hl).1 (gsH_nil _))
     obtain ⟨m', hm', hmv', _⟩ := eval_int hΓ hki ((val_rel hs hc).1 (gsH_nil _))
     rw [hm] at hm'; cases hm'
     simp only [E.den, hm, D.toI_int, D.toB_bool, cmpI, D.bool.injEq, Bool.and_eq_true, decide_eq_true_eq] at hin
     obtain ⟨i', d, hi', _, _, _, hdd, hdc⟩ := ty_c hcx hti hv
     simp only [DescC] at hdc; subst hdc
     have htab : tb.tab el = v1.cells := by simp [TB.tab, hei, TI.cells, hv1]
     obtain ⟨j, z, hj, hjs, hjb, hz, hzl⟩ : ∃ (j : TypeInfo) (z : Value), P.info? el = some j ∧ j.size = v1.cells.length ∧ j.bytes = ei.bytes ∧ j.zero = some z ∧ zerosV v1.cells z.cells.toList = true := by
      cases v1 with
      | c t =>
       obtain ⟨j, d', h1, h2, h3, ⟨z, h4, h5⟩, h6, h7⟩ := ty_c hcx hei hv1
       refine ⟨j, z, h1, h2, h3, h4, ?_⟩
       have hc1 := (cells_c (w := default) (M := fun _ => False) (tab := fun _ => []) (zero_ty _ t) (zero_rel (c := ⟨default, 0, none, fun _ => False, 0, []⟩) (w := default) (tm := fun _ => undef) (M := fun _ => False) h5).1).1
       rw [hc1]
       simp [V1.cells, zerosV, h5]
      | agg ts =>
       obtain ⟨j, fields, cs, h1, h2, h3, h4, h5, _⟩ := ty_agg hcx hei hv1
       exact ⟨j, .agg cs, h1, h2, h3, h4, h5⟩
     have hrun := run_make (P := P) w T el j z hdd hj hz .i64 .i64 m m hin.1 (Int.le_refl _) (by
      rw [hjb]
      have h1 : (ei.bytes : Int) * m ≤ 1024 * m := Int.mul_le_mul_of_nonneg_right (by omega) hin.1
      omega) (by omega)
     have hrun' : (execOp a.eval o).run P w = .ok (.value (.slice (some ⟨w.heap.size, 0, none⟩) m.toNat m.toNat)) (w.alloc (.cells (madeCells z.cells (m.toNat * j.size)) el)) := by
      simp [execOp, ho, hmv, hmv', hrun]
     have hb : Below w.heap.size w (w.alloc (.cells (madeCells z.cells (m.toNat * j.size)) el)) := (Below.refl _ _).alloc (Nat.le_refl _) _
     have hml : m.toNat ≤ maxLen := by unfold maxLen; omega
     have hzl1 : z.cells.toList.length = v1.cells.length := zerosV_len hzl
     let tm' : Nat → Value := upd (upd tm g (.slice (some ⟨w.heap.size, 0, none⟩) m.toNat m.toNat)) (g + 1) (.tuple (madeCells z.cells (m.toNat * j.size)))
     have htg : tm' g = .slice (some ⟨w.heap.size, 0, none⟩) m.toNat m.toNat := by
      show upd _ _ _ g = _
      rw [upd_ne _ _ (by omega), upd_same]
     have htg1 : tm' (g + 1) = .tuple (madeCells z.cells (m.toNat * j.size)) := upd_same _ _ _
     have hto : ∀ x, ¬ NewT g x → tm' x = tm x := fun x hx => by
      show upd _ _ _ x = _
      rw [upd_ne _ _ fun e => hx (by subst e; unfold NewT stride; omega), upd_ne _ _ fun e => hx (by subst e; exact NewT.self _)]
     have hcell : ∀ i r, (List.replicate m.toNat (v1.cells.map zeroD))[i]? = some r → ∀ j' d', r[j']? = some d' → j' < v1.cells.length ∧ i < m.toNat ∧ ∃ t u, v1.cells[j']? = some t ∧ z.cells[j']? = some u ∧ zeroV t u = true ∧ d' = zeroD t ∧ (madeCells z.cells (m.toNat * j.size))[i * v1.cells.length + j']? = some u := by
      intro i r hi j' d' hj'
      have hlt := (List.getElem?_eq_some_iff.1 hi).1
      simp only [List.length_replicate] at hlt
      rw [List.getElem?_replicate_of_lt hlt] at hi
      simp only [Option.some.injEq] at hi; subst hi
      have hjn := (List.getElem?_eq_some_iff.1 hj').1
      simp only [List.length_map] at hjn
      obtain ⟨t, u, h1, h2, h3⟩ := zerosV_get hzl hjn
      refine ⟨hjn, hlt, t, u, h1, by simpa using h2, h3, ?_, ?_⟩
      ·simp [h1] at hj'; exact hj'.symm
      ·rw [hjs, made_at (by rw [← Array.length_toList, hzl1]) hlt hjn]; simpa using h2
     have hmade : ∀ u ∈ (madeCells z.cells (m.toNat * j.size)).toList, ∀ b, ¬ OutB u b := by
      intro u hu b hb
      simp only [madeCells, Array.toList_map, List.mem_map] at hu
      obtain ⟨q, hq, rfl⟩ := hu
      obtain ⟨o1, s1, l1, c1, h1, h2⟩ := hb
      by_cases hz0 : z.cells.size = 0
      ·have : z.cells[q % z.cells.size]! = default := by rw [getElem!_neg]; omega
       rw [this] at h1; cases h1
      ·have hlt : q % z.cells.size < z.cells.size := Nat.mod_lt _ (by omega)
       obtain ⟨t, u, h3, h4, h5⟩ := zerosV_get hzl (show q % z.cells.size < v1.cells.length by rw [← hzl1]; simpa using hlt)
       have : z.cells[q % z.cells.size]! = u := by
        have h4' : z.cells[q % z.cells.size]? = some u := by simpa using h4
        rw [getElem!_def, h4']
       rw [this] at h1
       subst h1
       cases t <;> simp [zeroV] at h5
     have hmsz : ∀ ms, colM tb v1.cells = some ms → ∀ (j' : Nat) (t : CT), v1.cells[j']? = some t → (ms.getD j' 0 = 0 → leafC t = true) ∧ (ms.getD j' 0 ≠ 0 → ∃ e, t = .sl e) := fun ms hms => colM_get hms
     unfold Oper.wp
     rw [hrun']
     refine hK bm tm' _ _ ?_
     rw [updL_ups (by intro p hp d; simp at hp; subst hp; simp; omega)]
     refine Sim.putO (hs.newOwn hgN hto hb (fun b hbk => ?_) ⟨?_, fun e dp he => ?_, fun e gv ms he => ?_⟩ fun x hx => ?_) hd (relT_v (gsH_nil _) ⟨?_, htg.symm⟩) fun x hx => ?_
     ·rcases hbk with ⟨o1, s1, l1, c1, h1, h2⟩ | ⟨e, gv, ms, cells, u, h1, h2, h3, h4⟩
      ·rw [htg] at h1
       simp only [Value.slice.injEq, Option.some.injEq, Addr.mk.injEq] at h1
       omega
      ·simp only [Option.some.injEq, Prod.mk.injEq] at h1
       obtain ⟨_, h1⟩ := h1
       split at h1
       ·cases h1
       ·simp only [Option.map_eq_some_iff, Prod.mk.injEq] at h1
        obtain ⟨_, _, rfl, _⟩ := h1
        rw [htg1] at h2; cases h2
        exact absurd h4 (hmade u h3 b)
     ·intro b' o2 s2 l2 c2 he hlt
      rw [htg] at he
      simp only [Value.slice.injEq, Option.some.injEq, Addr.mk.injEq] at he
      obtain ⟨⟨rfl, rfl, rfl⟩, rfl, rfl⟩ := he
      refine ⟨rfl, hs.hB, _, el, heap_alloc_new _ _, ?_⟩
      rw [size_madeCells, hjs, htab]
      show 0 + m.toNat * v1.cells.length ≤ _
      omega
     ·simp only [Option.some.injEq, Prod.mk.injEq] at he
      obtain ⟨rfl, rfl⟩ := he
      refine ⟨some ⟨w.heap.size, 0, none⟩, m.toNat, m.toNat, List.replicate m.toNat (v1.cells.map zeroD), htg, by simp [E.den, hm, htab], by simp, Nat.le_refl _, hml, (fun h => by cases h), fun r hr => ?_, fun b' o2 s2 he => ⟨(fun _ => by cases he; rfl), fun i r hi j' d' hj' => ?_⟩⟩
      ·rw [List.eq_of_mem_replicate hr, htab]; simp
      ·cases he
       obtain ⟨hjn, hlt, t, u, h1, h2, h3, h4, h5⟩ := hcell i r hi j' d' hj'
       refine ⟨u, ?_, ?_⟩
       ·rw [World.cell?_alloc_new, htab, Nat.zero_add]; exact h5
       ·have hzr := (zero_rel (c := ⟨default, 0, none, fun _ => False, 0, []⟩) (w := default) (tm := fun _ => undef) (M := fun _ => False) h3).1
        have hlf : leafC t = true → Leaf d' u := fun hl => by rw [h4]; exact leaf_c (tab := fun _ => []) (zero_ty _ t) hl hzr
        rw [htab]
        split
        ·rename_i hlfs
         refine hlf ?_
         simp only [leafs, List.all_eq_true] at hlfs
         exact hlfs t (List.mem_of_getElem? h1)
        ·rename_i hlfs
         obtain ⟨ms, hms⟩ := Option.isSome_iff_exists.1 ((htab ▸ hlm).resolve_left hlfs)
         rw [hms]
         refine ⟨fun h0 => hlf ((hmsz ms hms j' t h1).1 h0), fun hne => ?_⟩
         obtain ⟨e2, rfl⟩ := (hmsz ms hms j' t h1).2 hne
         have hu : u = .slice none 0 0 := by
          simp only [zeroV] at h3
          split at h3
          all_goals first | rfl | simp_all
         subst hu
         refine ⟨⟨_, htg1, h5⟩, (fun b o s len cap h => by cases h), none, 0, 0, [], rfl, by rw [h4]; rfl, rfl, Nat.le_refl _, Nat.zero_le _, (fun _ => rfl), (fun r hr => by simp at hr), (fun b o s h => by cases h)⟩
     ·simp only [Option.some.injEq, Prod.mk.injEq] at he
      obtain ⟨_, h1⟩ := he
      split at h1
      ·cases h1
      ·simp only [Option.map_eq_some_iff, Prod.mk.injEq] at h1
       obtain ⟨_, _, rfl, _⟩ := h1
       refine ⟨_, htg1, fun u hu => ⟨0, fun b o s len cap h h' => absurd ⟨o, s, len, cap, h, h'⟩ (hmade u hu b)⟩, fun k k' u u' b hk _ _ hb1 => absurd hb1 (hmade u (by rw [← Array.getElem?_toList] at hk; exact List.mem_of_getElem? hk) b), fun u hu b hb1 => absurd hb1 (hmade u hu b)⟩
     ·obtain ⟨e, ms, hx⟩ := hx
      simp only [Option.some.injEq, Prod.mk.injEq] at hx
      obtain ⟨_, h1⟩ := hx
      split at h1
      ·cases h1
      ·simp only [Option.map_eq_some_iff, Prod.mk.injEq] at h1
       obtain ⟨_, _, rfl, _⟩ := h1
       unfold NewT stride; omega
     ·exact ⟨some ⟨w.heap.size, 0, none⟩, m.toNat, by simp [hm], by simp [hm], hml, (fun h => by cases h), fun b o s h _ => by cases h; rfl⟩
     ·exact .inr (by obtain rfl : x = g := hx; exact NewT.self _)
    ·simp at h
  ·simp at h
 ·simp at h
theorem sAppI (hcx : tbOk P tb tb = true) (hs : Sim c F σ bm tm a w) (hΓ : EnvTy tb.tab Γ c.env) {g q : Nat} (hgN : ∀ x, NewT g x → ¬ F x) {o : Oper} {x y : Operand} {T U : Nat} {cl : Call} (ho : o.op = .call cl) (hcl : cl.callee = .builtin .append) (har : cl.args.toList = [x, y]) (hat : cl.argTypes.toList = [T, U])
  (hd : ∀ d, o.dst = some d → d < c.nt) {ti ui : TI} (hti : tb.get T = some ti) (hui : tb.get U = some ui) {h gv n : Nat} {i : E} {off : Nat} {l : E} (hy : opd tb σ U y = some (.iv [] h gv n i off l)) {eff : Eff}
  (he : eAppI tb Γ o.dst σ g ti ui (opd tb σ T x) h gv n i off l = some eff) : OpOk P c F σ bm tm a w g [] q o eff := by
 have har' : cl.args = #[x, y] := by rw [← Array.toList_inj, har]
 have hat' : cl.argTypes = #[T, U] := by rw [← Array.toList_inj, hat]
 unfold eAppI at he
 split at he
 ·rename_i el el' hv hv'
  split at he
  ·rename_i ex ei n' e gv' ms hx hei hlv
   split at he
   ·rename_i v1 e0 hv1 hinf
    split at he
    ·rename_i hc
     simp only [Option.some.injEq] at he; subst he
     obtain ⟨hcx1, hby, hby0, hsz0, rfl, hn, rfl, hel, hms⟩ := hc
     obtain ⟨j, hj, hjs, hjb⟩ := ty_one hcx hei hv1
     have hcl1 : ei.cells = v1.cells := by simp [TI.cells, hv1]
     have htab : tb.tab el = v1.cells := by simp [TB.tab, hei, hcl1]
     rw [hcl1] at hsz0
     obtain ⟨z0, hz0, hz1⟩ : ∃ z, j.zero = some z ∧ z.cells.size = v1.cells.length := by
      cases v1 with
      | c t =>
       obtain ⟨i', d', hi', _, _, ⟨z, hz, hzv⟩, _⟩ := ty_c hcx hei hv1
       rw [hj] at hi'; simp at hi'; subst hi'
       refine ⟨z, hz, ?_⟩
       cases t <;> cases z <;> simp [zeroV] at hzv <;> rfl
      | agg ts =>
       obtain ⟨i', f', cs', hi', _, _, hz, hzv, _⟩ := ty_agg hcx hei hv1
       rw [hj] at hi'; simp at hi'; subst hi'
       refine ⟨_, hz, ?_⟩
       have := zerosV_len hzv
       simpa [Value.cells, V1.cells] using this
     obtain ⟨_, d1, _, _, _, _, hd1, hdc1⟩ := ty_c hcx hti hv
     simp only [DescC] at hdc1; subst hdc1
     obtain ⟨_, d2, _, _, _, _, hd2, hdc2⟩ := ty_c hcx hui hv'
     simp only [DescC] at hdc2; subst hdc2
     obtain ⟨_, ad, hval⟩ := (val_rel hs hx).1 (gsH_nil _)
     obtain ⟨h4, h5⟩ := opd_rel hs hy
     obtain ⟨⟨aT, L, capT, hT, hi0, hiL⟩, ⟨cells0, hc1, hc2⟩, adI, capI, hvalI, hcapI, hmaxI, _⟩ := h4.1 (gsH_nil _)
     have hoffn : off < n := by rw [← hn]; exact (List.getElem?_eq_some_iff.1 hel).1
     have hm0 : ms.getD off 0 ≠ 0 := by rw [hms, htab]; omega
     obtain ⟨b0, o0, r0, d0, _, y1, y2, y3, y4, y5, y6⟩ := inner_at hs hlv hT hiL hoffn rfl hm0 hc1 hc2
     rw [hms] at y5 y6
     obtain ⟨ady, leny, capy, rowy, hvaly, hd0, hm1, hm2, hm3, hm4, hm6, hm7⟩ := y6
     have hll : (l.den c.env).toI.toNat = leny := by
      rw [hvaly] at hvalI
      simp only [Value.slice.injEq] at hvalI
      exact hvalI.2.1.symm
     have hden : (E.cell (.row (tb.tab e0) e i) off).den c.env = .sl rowy := by simp [E.den, y1, y3, hd0]
     refine ⟨fun _ hr K Q hK => ?_, fun hn => absurd (gsH_nil _) hn⟩
     have hin : RqH P c.env q (.cond [] (.ic .leq l (.li .i64 4294967296))) := hr _ (by simp)
     replace hin := hin (gsH_nil _)
     have hin2 : (l.den c.env).toI ≤ 4294967296 := of_decide_eq_true (D.bool.inj hin)
     have hfew : leny ≤ 4294967296 := by omega
     rw [htab] at hm6 hm7
     generalize hsz : v1.cells.length = sz at *
     have hFy' : SlF w (fun _ => False) rowy ady leny capy := ⟨hm1, hm2, hm3, hm4, fun b o s ha => ⟨(hm7 b o s ha).1, Rws.of (n := sz) hm6 fun i2 r2 hi2 => Rw.of fun j2 d2 hj2 => by
      obtain ⟨u2, hu2, hl2⟩ := (hm7 b o s ha).2 i2 r2 hi2 j2 d2 hj2
      exact ⟨u2, hu2, id, hl2 _ _⟩⟩⟩
     obtain ⟨vy, hvyl, hvyr, hvyrun⟩ := first_cells (P := P) hFy' hm6
     have hlt2 : (tb.tab el).length = sz := by rw [htab, hsz]
     have fin : ∀ (v' : Value) (w' : World), (execOp a.eval o).run P w = .ok (.value v') w' → Below w.heap.size w w' → (∀ b, OutB v' b → w.heap.size ≤ b) → SpOk c.B w' v' sz → RowsOk w' v' sz (fun _ _ d u => Leaf d u) (.sl rowy) → (∃ a cap, v' = .slice a leny cap ∧ leny ≤ cap ∧ cap ≤ maxLen ∧ (a = none → cap = 0) ∧ ∀ b o s, a = some ⟨b, o, s⟩ → 0 < leny → s = none) → o.wp P a w K Q := by
      intro v' w' hrun hb hnw hsp hrows hmem
      unfold Oper.wp
      rw [hrun]
      refine hK bm (upd tm g v') _ _ ?_
      rw [updL_ups (by intro p hp d; simp at hp; subst hp; simp; omega)]
      refine Sim.putO (hs.newOwn (tm' := upd tm g v') hgN (fun x hx => upd_ne _ _ fun e' => hx (by subst e'; exact NewT.self _)) hb (fun b hbk => ?_) ⟨?_, fun e1 dp1 he1 => ?_, fun e1 gv1 ms1 he1 => ?_⟩ fun x hx => ?_) hd (relT_v (gsH_nil _) ⟨?_, (upd_same _ _ _).symm⟩) fun x hx => ?_
      ·rcases hbk with hb1 | ⟨e1, gv1, ms1, cells1, u, w1, _⟩
       ·rw [upd_same] at hb1; exact hnw b hb1
       ·simp at w1
      ·rw [upd_same, hlt2]; exact hsp
      ·simp only [Option.some.injEq, Prod.mk.injEq] at he1
       obtain ⟨rfl, rfl⟩ := he1
       rw [upd_same, hden, hlt2]
       exact hrows
      ·simp at he1
      ·obtain ⟨e1, ms1, hx⟩ := hx
       simp at hx
      ·obtain ⟨a1, cap1, w1, w2⟩ := hmem
       exact ⟨a1, cap1, by rw [w1, hll], by rw [hll]; exact w2⟩
      ·exact .inr (by obtain rfl : x = g := hx; exact NewT.self _)
     rcases Nat.eq_zero_or_pos leny with h0 | h0
     ·subst h0
      have hvy0 : vy = [] := List.eq_nil_of_length_eq_zero (by simpa using hvyl)
      subst hvy0
      have hry : rowy = [] := List.eq_nil_of_length_eq_zero hm1.symm
      subst hry
      have hrun : (execOp a.eval o).run P w = .ok (.value (.slice ad 0 0)) w := by
       rcases ad with _ | ad
       ·simp [execOp, ho, resolve, hcl, invoke, builtin, Builtin.append_, har', hat', hval, hvaly, run_underlying hd1, run_underlying hd2, run_sizeOf hj, hjs, Builtin.lenOf, hvyrun w rfl]
       ·simp [execOp, ho, resolve, hcl, invoke, builtin, Builtin.append_, har', hat', hval, hvaly, run_underlying hd1, run_underlying hd2, run_sizeOf hj, hjs, Builtin.lenOf, hvyrun w rfl, storeCells]
      refine fin _ w hrun (Below.refl _ _) (fun b hb => ?_) (fun b o s len cap he hl => ?_) ⟨ad, 0, 0, [], rfl, rfl, rfl, Nat.le_refl _, Nat.zero_le _, fun _ => rfl, fun r hr => by simp at hr, fun b o s ha => ⟨fun h => by omega, fun i2 r2 hi2 => by simp at hi2⟩⟩ ⟨ad, 0, rfl, Nat.le_refl _, Nat.zero_le _, fun _ => rfl, fun b o s _ h => by omega⟩
      ·obtain ⟨o1, s1, l1, c1, z1, z2⟩ := hb
       simp only [Value.slice.injEq] at z1; omega
      ·simp only [Value.slice.injEq] at he; omega
     ·have hone : ¬ (0 + leny ≤ 0) := by omega
      have hq : ¬ (Builtin.nextslicecap (0 + leny) 0 * j.bytes > 2 ^ 48) := by
       have h1 := nextcap_le (show 0 < 0 + leny by omega) (show 0 + leny ≤ 4294967296 by omega)
       have h2 : Builtin.nextslicecap (0 + leny) 0 * j.bytes ≤ (16 * (4294967296 + 768)) * 1024 := Nat.mul_le_mul h1 (by omega)
       omega
      have hby1 : ¬ (j.bytes = 0) := by omega
      have hFx' : SlF w (fun _ => False) [] ad 0 0 := ⟨rfl, Nat.le_refl _, Nat.zero_le _, fun _ => rfl, fun b o s _ => ⟨fun h => by omega, trivial⟩⟩
      obtain ⟨vx, hvxl, _, hvxrun⟩ := first_cells (P := P) (n := sz) hFx' (fun r hr => by simp at hr)
      have hvx0 : vx = [] := List.eq_nil_of_length_eq_zero (by simpa using hvxl)
      subst hvx0
      obtain ⟨cells, nc, hrun, hn1, hn2, hn3, hn4⟩ : ∃ (cells : Array Value) (nc : Nat), (execOp a.eval o).run P w = .ok (.value (.slice (some ⟨w.heap.size, 0, none⟩) leny nc)) (w.drew.alloc (.cells cells el)) ∧ leny ≤ nc ∧ nc ≤ maxLen ∧ cells.size = nc * sz ∧ ∀ (i : Nat) (u : Value), vy[i]? = some u → cells[i]? = some u := by
       refine ⟨vy.toArray ++ Builtin.zeroCells z0.cells ((leny + w.tape w.drawn (.appendCap leny 0 el) % (2 ^ 63 - leny)) - leny), leny + w.tape w.drawn (.appendCap leny 0 el) % (2 ^ 63 - leny), ?_, by omega, ?_, ?_, ?_⟩
       ·have hdrew : (w.drew).heap.size = w.heap.size := rfl
        have hle0 : ¬ leny = 0 := by omega
        have hq' := Nat.not_lt.2 (Nat.not_lt.1 hq)
        rw [Nat.zero_add] at hq'
        simp [execOp, ho, resolve, hcl, invoke, builtin, Builtin.append_, har', hat', hval, hvaly, run_underlying hd1, run_underlying hd2, run_sizeOf hj, run_typeInfo hj, hjs, Builtin.lenOf, hle0, hby1, hq', Question.forced, Question.cut, zeroValue, hz0, newRow, hvxrun w.drew rfl, hvyrun w.drew rfl]
       ·have := Nat.mod_lt (w.tape w.drawn (.appendCap leny 0 el)) (show 0 < 2 ^ 63 - leny by omega)
        unfold maxLen; omega
       ·simp [Builtin.zeroCells, hvyl, hz1]
        rw [← Nat.add_mul]
       ·intro i u hu
        have hi : i < vy.length := (List.getElem?_eq_some_iff.1 hu).1
        rw [Array.getElem?_append_left (by simpa using hi)]
        simpa using hu
      have hb : Below w.heap.size w (w.drew.alloc (.cells cells el)) := ((Below.refl _ _).drew).alloc (Nat.le_refl _) _
      have hcell' : ∀ i, (w.drew.alloc (.cells cells el)).cell? ⟨w.heap.size, i, none⟩ = cells[i]? := fun i => World.cell?_alloc_new (w := w.drew) cells el i
      refine fin _ _ hrun hb (fun b hb => ?_) (fun b o2 s2 l2 c2 he2 hlt2' => ?_) ⟨_, _, _, rowy, rfl, rfl, hm1, hn1, hn2, (fun h => by cases h), hm6, fun b2 o2 s2 ha => ⟨(fun _ => by cases ha; rfl), fun i2 r2 hi2 j2 d2 hj2 => ?_⟩⟩ ⟨_, nc, rfl, hn1, hn2, (fun h => by cases h), fun b o s h _ => by cases h; rfl⟩
      ·obtain ⟨o1, s1, l1, c1, z1, z2⟩ := hb
       simp only [Value.slice.injEq, Option.some.injEq, Addr.mk.injEq] at z1; omega
      ·simp only [Value.slice.injEq, Option.some.injEq, Addr.mk.injEq] at he2
       obtain ⟨⟨rfl, rfl, rfl⟩, rfl, rfl⟩ := he2
       exact ⟨rfl, hs.hB, cells, el, heap_alloc_new w.drew _, by rw [hn3]; omega⟩
      ·cases ha
       rcases ady with _ | ⟨by', oy, sy⟩
       ·have := hm4 rfl; omega
       have hsy := (hm7 by' oy sy rfl).1 h0
       subst hsy
       obtain ⟨u2, hu2, hl2⟩ := (hm7 by' oy none rfl).2 i2 r2 hi2 j2 d2 hj2
       refine ⟨u2, ?_, hl2⟩
       rw [hcell', Nat.zero_add]
       refine hn4 _ _ ?_
       have hrunw := hvyrun w rfl
       have hvv : ∀ k u, vy[k]? = some u → w.cell? ⟨by', oy + k, none⟩ = some u := first_at hFy' hm6 hrunw h0
       have hr2l : r2.length = sz := hm6 r2 (List.mem_of_getElem? hi2)
       have hj2l := (List.getElem?_eq_some_iff.1 hj2).1
       have hi2l := (List.getElem?_eq_some_iff.1 hi2).1
       have hlt : i2 * sz + j2 < vy.length := by
        rw [hvyl]
        have : (i2 + 1) * sz ≤ leny * sz := Nat.mul_le_mul_right _ (by omega)
        rw [Nat.add_mul, Nat.one_mul] at this
        omega
       have hg := hvv _ _ (List.getElem?_eq_getElem hlt)
       rw [← Nat.add_assoc, hu2] at hg
       rw [List.getElem?_eq_getElem hlt]; exact hg.symm
    ·simp at he
   ·simp at he
  ·simp at he
 ·simp at he
theorem sApp (hcx : tbOk P tb tb = true) (hs : Sim c F σ bm tm a w) (hΓ : EnvTy tb.tab Γ c.env) {g n : Nat} (hgN : ∀ x, NewT g x → ¬ F x) {o : Oper} {x y : Operand} {T U : Nat} {cl : Call} (ho : o.op = .call cl) (hcl : cl.callee = .builtin .append) (har : cl.args.toList = [x, y]) (hat : cl.argTypes.toList = [T, U])
  (hd : ∀ d, o.dst = some d → d < c.nt) {ti ui : TI} (hti : tb.get T = some ti) (hui : tb.get U = some ui) {eff : Eff}
  (h : eApp tb Γ gs o.dst σ g ti ui (opd tb σ T x) (opd tb σ U y) = some eff) : OpOk P c F σ bm tm a w g gs n o eff := by
 unfold eApp at h
 split at h
 ·rename_i hy; exact sAppI hcx hs hΓ hgN ho hcl har hat hd hti hui hy h
 ·exact sAppend hcx hs hΓ (hgN g (NewT.self g)) ho hcl har hat hd hti hui h
theorem sCutOwn (hcx : tbOk P tb tb = true) (hs : Sim c F σ bm tm a w) (hΓ : EnvTy tb.tab Γ c.env) {g q : Nat} (hgF : ¬ F g) {o : Oper} {x y : Operand} {T : Nat} (ho : o.op = .slice T x (some y) none none) (hd : ∀ d, o.dst = some d → d < c.nt) {ti : TI} (hti : tb.get T = some ti) {h : Nat} {ex : E} (hx : opd tb σ T x = some (.v [] (.own h) ex)) {eff : Eff}
  (he : eCutOwn tb Γ o.dst σ g ti h ex (opd tb σ 0 y) = some eff) : OpOk P c F σ bm tm a w g [] q o eff := by
 unfold eCutOwn at he
 split at he
 ·rename_i el kl el0 n hv hlo hlv
  split at he
  ·rename_i hc
   simp only [Option.some.injEq] at he; subst he
   obtain ⟨hinf, hil, hsle, rfl⟩ := hc
   refine ⟨fun _ hr K Q hK => ?_, fun hn => absurd (gsH_nil _) hn⟩
   have hin : RqH P c.env q (.cond [] (.inc ex el0 (.len ex))) := hr _ (by simp)
   replace hin := hin (gsH_nil _)
   obtain ⟨kk, hkk⟩ := isInt_some hil
   obtain ⟨l, hl, hlv', _⟩ := eval_int hΓ hkk ((val_rel hs hlo).1 (gsH_nil _))
   obtain ⟨hr0, htm⟩ := (opd_rel hs hx).1.1 (gsH_nil _)
   have hvr : relK w (MM c.M0 bm tm σ) tm c.env (.own h) ex (a.eval x) := ⟨hr0, htm⟩
   obtain ⟨_, d1, _, _, _, _, hd1, hdc1⟩ := ty_c hcx hti hv
   simp only [DescC] at hdc1; subst hdc1
   obtain ⟨rows, hrows, hrt, ad, len, cap, hval, hlen, hcap, hmax, hnone, hcells⟩ := eval_sl hΓ (by rw [hinf, hv]) hvr
   simp only [E.den, hl, hrows, lenD, D.toI_int, D.bool.injEq, decide_eq_true_eq] at hin
   obtain ⟨hin1, hin2, _⟩ := hin
   rw [← hlen] at hin2
   rw [hv] at hsle
   simp only [slElem] at hsle
   split at hsle
   ·rename_i ei hei
    split at hsle
    ·rename_i v1 hv1
     obtain ⟨j, hj, hjs, _⟩ := ty_one hcx hei hv1
     have htab : tb.tab el = v1.cells := by simp [TB.tab, hei, TI.cells, hv1]
     let v' : Value := .slice (if cap = l.toNat then ad else ad.map (·.add (l.toNat * v1.cells.length))) (len - l.toNat) (cap - l.toNat)
     have hrun : (execOp a.eval o).run P w = .ok (.value v') w := by
      have hL : ((some y).map a.eval = none ∧ l = 0) ∨ ∃ k, (some y).map a.eval = some (.int k l) := .inr ⟨kk, by simp [hlv']⟩
      have hH : ((none : Option Operand).map a.eval = none ∧ (len : Int) = len) ∨ ∃ k, (none : Option Operand).map a.eval = some (.int k (len : Int)) := .inl ⟨rfl, rfl⟩
      have hb := fun isS => bounds_run (P := P) (w := w) (isS := isS) hL hH hin1 hin2 (Int.le_refl _) hcap
      simp only [Option.map_some, Option.map_none] at hb
      simp [execOp, ho, hval, Instr.sliceAt, Instr.slice, run_underlying hd1, hb, run_sizeOf hj, hjs, v']
     have hlive := hs.live h _ hlv
     have htm' : tm h = .slice ad len cap := by rw [← htm, hval]
     have hlc : l.toNat ≤ cap := by omega
     have hnv : ∀ b o2 s2 l2 c2, v' = .slice (some ⟨b, o2, s2⟩) l2 c2 → 0 < c2 → ∃ o', ad = some ⟨b, o', none⟩ ∧ o2 = o' + l.toNat * v1.cells.length ∧ s2 = none ∧ l2 = len - l.toNat ∧ c2 = cap - l.toNat ∧ 0 < cap := by
      intro b o2 s2 l2 c2 e2 hc2
      simp only [v', Value.slice.injEq] at e2
      obtain ⟨e3, rfl, rfl⟩ := e2
      rw [if_neg (by omega)] at e3
      rcases ad with _ | ⟨b', o', s'⟩
      ·cases e3
      ·have hsn := (hlive.sp b' o' s' len cap htm' (by omega)).1
       subst hsn
       simp only [Option.map_some, addr_add, Option.some.injEq, Addr.mk.injEq] at e3
       obtain ⟨rfl, rfl, rfl⟩ := e3
       exact ⟨o', rfl, rfl, rfl, rfl, rfl, by omega⟩
     have hmul : l.toNat * v1.cells.length + (len - l.toNat) * v1.cells.length = len * v1.cells.length ∧ l.toNat * v1.cells.length + (cap - l.toNat) * v1.cells.length = cap * v1.cells.length := by
      constructor
      ·rw [← Nat.add_mul]; congr 1; omega
      ·rw [← Nat.add_mul]; congr 1; omega
     have hMd : ∀ p, MM c.M0 bm (upd tm g v') (upd (dropR σ (some h)) (3 * g + 2) (.live ⟨(tb.tab el).length, none⟩)) p → MM c.M0 bm tm σ p := fun p hp => by
      rcases MM_drop hs hgF hp with h1 | ⟨b2, o2, s2, l2, c2, q1, q2, q3, q4⟩
      ·exact MM_drop_sub h1
      ·have hc2 : 0 < c2 := by
        rcases Nat.eq_zero_or_pos c2 with e | e
        ·subst e; omega
        ·exact e
       obtain ⟨o', rfl, rfl, rfl, rfl, rfl, hcp⟩ := hnv _ _ _ _ _ q1 hc2
       refine .inr (.inr ⟨h, _, hlv, ownA_of ⟨b2, o', none, len, cap, htm', q2, ?_, ?_⟩⟩)
       ·show o' + len * (tb.tab el).length ≤ _
        rw [htab] at q3 ⊢; omega
       ·show _ < o' + cap * (tb.tab el).length
        rw [htab] at q4 ⊢; omega
     unfold Oper.wp
     rw [hrun]
     refine hK bm (upd tm g v') _ _ ?_
     rw [updL_ups (by intro p hp d; simp at hp; rcases hp with rfl | rfl <;> simp <;> omega)]
     show Sim c _ (updL (upd (dropR σ (some h)) (3 * g + 2) _) _) _ _ _ _
     refine Sim.tag ((hs.append hgF (some h) (fun h1 e1 => by simp at e1; subst e1; exact hlv) v' (match ad with | some ⟨b, _, _⟩ => (if 0 < cap then some b else none) | none => none) (Fr.refl _ _ _) (fun p v hp hn => ⟨hp, fun hm => hn (hMd p hm)⟩) (fun _ _ _ => rfl) (fun b hb => ?_) ⟨?_, (fun e dp he => by cases he), (fun e gv ms he => by cases he)⟩ (fun b' o2 s2 l2 c2 he hl => ?_)).putO hd (relT_v (gsH_nil _) ⟨?_, ?_⟩) fun x hx => ?_)
     ·rcases ad with _ | ⟨b', o', s'⟩
      ·cases hb
      ·simp only at hb
       split at hb
       ·rename_i hcp
        simp only [Option.some.injEq] at hb; subst hb
        exact ⟨h, o', s', len, cap, rfl, htm', hcp⟩
       ·cases hb
     ·intro b o2 s2 l2 c2 he hl
      rw [upd_same] at he
      obtain ⟨o', rfl, rfl, rfl, rfl, rfl, hcp⟩ := hnv _ _ _ _ _ he hl
      obtain ⟨_, h2, C, T0, h3, h4⟩ := hlive.sp b o' none len cap htm' hcp
      refine ⟨rfl, h2, C, T0, h3, ?_⟩
      have h4' : o' + cap * (tb.tab el).length ≤ C.size := h4
      show o' + l.toNat * v1.cells.length + (cap - l.toNat) * (tb.tab el).length ≤ _
      rw [htab] at h4' ⊢; omega
     ·obtain ⟨o', rfl, _, _, _, _, hcp⟩ := hnv _ _ _ _ _ he hl
      right
      simp [hcp]
     ·have hkk2 : Keeps w (MM c.M0 bm tm σ) w (MM c.M0 bm (upd tm g v') (upd (dropR σ (some h)) (3 * g + 2) (.live ⟨(tb.tab el).length, none⟩))) := fun p v hp hn => ⟨hp, fun hm => hn (hMd p hm)⟩
      have hR : R w (MM c.M0 bm tm σ) ((E.cut ex el0 (.len ex)).den c.env) v' := by
       simp only [E.den, hrows, hl, D.toI_int, lenD, cutD, R]
       refine ⟨_, _, _, rfl, by simp; omega, by omega, by omega, fun hn => ?_, fun b o' s he => ?_⟩
       ·rcases ad with _ | ad
        ·have := hnone rfl; omega
        ·split at hn
         ·omega
         ·simp at hn
       ·by_cases hz : len - l.toNat = 0
        ·refine ⟨fun h => by omega, ?_⟩
         have : ((rows.drop l.toNat).take ((rows.length : Int).toNat - l.toNat)) = [] := by
          apply List.eq_nil_of_length_eq_zero
          simp; omega
         rw [this]; trivial
        ·have hcl : ¬ cap = l.toNat := by omega
         rw [if_neg hcl] at he
         rcases ad with _ | ⟨b1, o1, s1⟩
         ·cases he
         ·have hs1 := (hcells b1 o1 s1 rfl).1 (by omega)
          subst hs1
          simp only [Option.map_some, addr_add, Option.some.injEq, Addr.mk.injEq] at he
          obtain ⟨rfl, rfl, rfl⟩ := he
          refine ⟨fun _ => rfl, ?_⟩
          have hlr : ∀ r ∈ rows, r.length = v1.cells.length := fun r hr => by rw [hrt.len r hr, htab]
          refine Rws.of (n := v1.cells.length) (fun r hr => hlr r (List.mem_of_mem_drop (List.mem_of_mem_take hr))) fun i r hi => ?_
          simp only [List.getElem?_take, List.getElem?_drop] at hi
          split at hi
          ·have := (hcells b1 o1 none rfl).2.get hlr hi
           rw [Nat.add_mul] at this
           rwa [Nat.add_assoc]
          ·cases hi
      exact R.keep hkk2 _ _ hR
     ·rw [upd_same]
     ·exact .inr hx
    ·simp at hsle
   ·simp at hsle
  ·simp at he
 ·simp at he
theorem sSl (hcx : tbOk P tb tb = true) (hs : Sim c F σ bm tm a w) (hΓ : EnvTy tb.tab Γ c.env) {g n : Nat} (hgF : ¬ F g) {o : Oper} {x : Operand} {lo hi : Option Operand} {T : Nat} (ho : o.op = .slice T x lo hi none) (hd : ∀ d, o.dst = some d → d < c.nt) {ti : TI} (hti : tb.get T = some ti) {eff : Eff}
  (h : eSl tb Γ gs o.dst σ g ti (opd tb σ T x) (lo.map (opd tb σ 0)) (hi.map (opd tb σ 0)) = some eff) : OpOk P c F σ bm tm a w g gs n o eff := by
 unfold eSl at h
 split at h
 ·rename_i h' ex l hx hlo hhi
  split at h
  ·rename_i e he
   simp only [Option.some.injEq] at h; subst h
   cases lo with
   | none => simp at hlo
   | some y =>
    cases hi with
    | some z => simp at hhi
    | none =>
     simp only [Option.map_some, Option.some.injEq] at hlo
     subst hlo
     exact sCutOwn hcx hs hΓ hgF ho hd hti hx he
  ·exact OpOk.of_pure hs hd (sSlice hcx hs hΓ ho hti h)
 ·exact OpOk.of_pure hs hd (sSlice hcx hs hΓ ho hti h)
end
end Go.Proofs.YtimickglpboilaaGreat
/- All operations together; regions in the order of the text and in any order. No program in sight. -/
namespace Go.Proofs.YtimickglpboilaaGreat
open Go.RowKit
variable [GC]
section
variable {P : Program} {c : SC} {F : Nat → Prop} {σ : Nat → ST} {bm : Nat → Nat} {tm : Nat → Value} {a : Act} {w : World} {cx : Cx} {Γ : List VT} {gs : Gd} {ops : Array Oper}
theorem wanted_iff (hs : Sim c F σ bm tm a w) (hΓ : EnvTy cx.tb.tab Γ c.env) {o : Oper} (h : gsOf cx.tb.tab Γ ops σ o = some gs) : Region.wanted o (yielded ops a.tmps) = true ↔ gsH c.env gs := by
 unfold gsOf at h
 unfold Region.wanted
 split at h
 ·rename_i hg
  simp only [Option.some.injEq] at h; subst h
  simp [hg, gsH_nil]
 ·rename_i j b hg
  rw [hg]
  simp only
  split at h
  ·rename_i d hd
   split at h
   ·rename_i g' k e hσ
    cases hb : isC .bool (e.inf cx.tb.tab Γ) <;> rw [hb] at h <;> simp at h
    subst h
    have hr := hs.tmps d
    rw [hσ] at hr
    rw [gsH_snoc]
    unfold yielded
    rw [hd]
    simp only [Option.bind_some]
    by_cases hg' : gsH c.env g'
    ·obtain ⟨x, hx, hv⟩ := eval_bool hΓ (isC_some hb) (hr.1 hg')
     have hv' : a.tmps[d]? = some (.bool x) := by
      simp only [Array.getD_eq_getD_getElem?] at hv
      cases hq : a.tmps[d]? with
      | none => rw [hq] at hv; simp [undef] at hv
      | some z => rw [hq] at hv; simp at hv; rw [hv]
     rw [hv', hx]
     simp [hg']
    ·have hv := hr.2 hg'
     simp only [Array.getD_eq_getD_getElem?] at hv
     have hv' : a.tmps[d]? = none ∨ a.tmps[d]? = some (.tuple #[]) := by
      cases hq : a.tmps[d]? with
      | none => exact .inl rfl
      | some z => rw [hq] at hv; simp [undef] at hv; exact .inr (by rw [hv])
     rcases hv' with hv' | hv' <;> rw [hv'] <;> simp [hg']
   ·simp at h
  ·simp at h
theorem op_sound (hcx : tbOk P cx.tb cx.tb = true) (hnt : c.nt = cx.nt) (hs : Sim c F σ bm tm a w) (hΓ : EnvTy cx.tb.tab Γ c.env) {g : Nat} (hgN : ∀ x, NewT g x → ¬ F x) {o : Oper} {eff : Eff} (h : opEff cx ops Γ g o σ = some eff) :
  ∃ gs, gsOf cx.tb.tab Γ ops σ o = some gs ∧ OpOk P c F σ bm tm a w g gs Γ.length o eff := by
 have hg : ¬ F g := hgN g (NewT.self g)
 unfold opEff at h
 split at h
 ·simp at h
 ·rename_i gs hgs
  refine ⟨gs, hgs, ?_⟩
  cases hdst : dstOk cx.nt o.dst with
  | false => rw [hdst] at h; simp at h
  | true =>
   rw [hdst] at h
   simp only [cond_true] at h
   have hd : ∀ d, o.dst = some d → d < c.nt := fun d he => by rw [he] at hdst; simp only [dstOk] at hdst; rw [hnt]; exact Nat.le_of_ble_eq_true hdst
   split at h
   ·rename_i x ho; exact OpOk.of_pure hs hd (sMove hs (.inl ho) h)
   ·rename_i x ho; exact OpOk.of_pure hs hd (sMove hs (.inr ho) h)
   ·rename_i T x ho
    split at h
    ·rename_i ti hti; exact OpOk.of_pure hs hd (sLd hcx hs hs.gi hΓ ho hti h)
    ·simp at h
   ·rename_i T y x ho
    split at h
    ·rename_i ti hti; exact sSt hcx hs hΓ hg ho hti h
    ·simp at h
   ·rename_i T x f ho
    split at h
    ·rename_i ti hti; exact OpOk.of_pure hs hd (sFld hcx hs ho hti h)
    ·simp at h
   ·rename_i T x i ho
    split at h
    ·rename_i ti hti; exact OpOk.of_pure hs hd (sIdx hcx hs hΓ ho hti h)
    ·simp at h
   ·rename_i T x i ho
    split at h
    ·rename_i ti hti; exact OpOk.of_pure hs hd (sSel hcx hs hΓ ho hti h)
    ·simp at h
   ·rename_i T x ho; exact sBox hcx hs hΓ hg ho hd h
   ·rename_i T ho
    split at h
    ·rename_i ti hti; exact sAlloc hcx hs hg ho hd hti h
    ·simp at h
   ·rename_i T parts ho
    split at h
    ·rename_i ti hti; exact OpOk.of_pure hs hd (sBuild hcx hs hΓ ho hti h)
    ·simp at h
   ·rename_i T l cc ho
    split at h
    ·rename_i ti hti; exact sMake hcx hs hΓ hgN ho hd hti h
    ·simp at h
   ·rename_i T len parts ho
    split at h
    ·rename_i ti hti
     cases hb : (Nat.blt 0 len && gs.isEmpty) with
     | true => rw [hb] at h; exact sBuildOwn hcx hs hΓ hg ho hd hti h
     | false => rw [hb] at h; exact OpOk.of_pure hs hd (sBuildSlice hcx hs hΓ ho hti h)
    ·simp at h
   ·rename_i T x lo hi ho
    split at h
    ·rename_i ti hti; exact sSl hcx hs hΓ hg ho hd hti h
    ·simp at h
   ·rename_i S T x ho
    split at h
    ·rename_i si ti hsi hti; exact OpOk.of_pure hs hd (sConv hcx hs hΓ ho hsi hti h)
    ·simp at h
   ·rename_i x i ho; exact OpOk.of_pure hs hd (sExtract hs hΓ ho h)
   ·rename_i T x ho; exact OpOk.of_pure hs hd (sNot hs hΓ ho h)
   ·rename_i T x ho; exact OpOk.of_pure hs hd (sNeg hs hΓ ho h)
   ·rename_i x y z ho; exact OpOk.of_pure hs hd (sPick hs hΓ ho h)
   ·rename_i f first caps ho; exact sMakeFn hs hΓ ho hd h
   ·rename_i x ho; exact OpOk.of_pure hs hd (sNil hs ho h)
   ·rename_i op T x y T' ho; exact OpOk.of_pure hs hd (sBin hcx hs hΓ ho h)
   ·rename_i cl ho
    split at h
    ·rename_i f hcl
     split at h
     ·rename_i ti hti
      split at h
      ·exact sNew hs hΓ hg ho hcl hd rfl h
      ·exact sCall hs hΓ hgN ho hcl hd rfl h
     ·simp at h
    ·rename_i t hcl
     split at h
     ·rename_i ti hti; exact sCallV hs hΓ ho hcl hd rfl h
     ·simp at h
    ·rename_i hcl
     split at h
     ·rename_i x T har hat
      split at h
      ·rename_i ti hti; exact OpOk.of_pure hs hd (sLen hcx hs hΓ ho hcl har hat hti h)
      ·simp at h
     ·simp at h
    ·rename_i hcl
     split at h
     ·rename_i x y T U har hat
      split at h
      ·rename_i ti ui hti hui; exact sApp hcx hs hΓ hgN ho hcl har hat hd hti hui h
      ·simp at h
     ·simp at h
    ·simp at h
   ·simp at h
theorem wpOp_sound (hcx : tbOk P cx.tb cx.tb = true) (hnt : c.nt = cx.nt) (hs : Sim c F σ bm tm a w) (hΓ : EnvTy cx.tb.tab Γ c.env) {g i : Nat} (hg : ∀ x, NewT g x → ¬ F x) {o : Oper} (hi : ops[i]? = some o) {eff : Eff} (h : opEff cx ops Γ g o σ = some eff)
  (hr : ∀ r ∈ eff.rq, RqH P c.env Γ.length r) {Q : Exit → Act → World → Prop} {K : Act → World → Prop} (hK : ∀ bm' tm' a' w', Sim c (fun x => F x ∨ NewT g x) (updL σ eff.wr) bm' tm' a' w' → K a' w') : wpOp P ops Q i K a w := by
 obtain ⟨gs, hgs, hok⟩ := op_sound hcx hnt hs hΓ hg h
 unfold wpOp
 rw [hi]
 simp only
 by_cases hw : gsH c.env gs
 ·rw [if_pos ((wanted_iff hs hΓ hgs).2 hw)]
  exact .inl (hok.1 hw hr K Q hK)
 ·rw [if_neg (fun e => hw ((wanted_iff hs hΓ hgs).1 e))]
  exact hK _ _ _ _ (hok.2 hw)
def RqsH (P : Program) (env : List D) : Nat → List Eff → Prop
 | _, [] => True
 | n, e :: r => (∀ q ∈ e.rq, RqH P env n q) ∧ RqsH P env (n + (rqTys e.rq).length) r
theorem EnvTy.firsts {tab : Nat → List CT} {Γ Δ : List VT} {env : List D} (h : EnvTy tab (Γ ++ Δ) env) : EnvTy tab Γ env := fun i t ht => h i t (by rw [List.getElem?_append_left (List.getElem?_eq_some_iff.1 ht).1]; exact ht)
theorem regRun_Γ {ops : Array Oper} : ∀ {l : List Oper} {ss : SS} {es : List Eff} {s : SS}, regRun cx ops l ss = some (es, s) → ∃ Δ, s.Γ = ss.Γ ++ Δ ∧ s.nt = ss.nt + stride * l.length ∧ s.lv = ss.lv
 | [], ss, es, s, h => by simp [regRun] at h; obtain ⟨_, rfl⟩ := h; exact ⟨[], by simp⟩
 | o :: r, ss, es, s, h => by
  simp only [regRun] at h
  split at h
  ·simp at h
  ·rename_i e he
   split at h
   ·simp at h
   ·rename_i es' s' hrec
    simp only [Option.some.injEq, Prod.mk.injEq] at h
    obtain ⟨rfl, rfl⟩ := h
    obtain ⟨Δ, h1, h2, h3⟩ := regRun_Γ hrec
    exact ⟨rqTys e.rq ++ Δ, by rw [h1]; simp [SS.step], by rw [h2]; simp only [SS.step, List.length_cons, Nat.mul_add]; omega, by rw [h3]; rfl⟩
theorem step_get (ss : SS) (e : Eff) : (ss.step e).σ.get = updL ss.σ.get e.wr := Sg.get_rev _ _
def below (n : Nat) : Nat → Prop := fun x => x < n
theorem seq_sound (hcx : tbOk P cx.tb cx.tb = true) (hnt : c.nt = cx.nt) {Q : Exit → Act → World → Prop} : ∀ (l : List Oper) (k : Nat) (ss : SS) (es : List Eff) (s : SS), (∀ j, l[j]? = ops[k + j]?) → regRun cx ops l ss = some (es, s) → EnvTy cx.tb.tab s.Γ c.env → RqsH P c.env ss.Γ.length es →
  (∀ bm' tm' a' w', Sim c (below s.nt) s.σ.get bm' tm' a' w' → Q .normal a' w') → ∀ bm tm a w, Sim c (below ss.nt) ss.σ.get bm tm a w → wpOps P ops Q (List.range' k l.length) a w
 | [], k, ss, es, s, hl, h, hΓ, hr, hQ, bm, tm, a, w, hs => by
  simp [regRun] at h; obtain ⟨_, rfl⟩ := h
  exact hQ _ _ _ _ hs
 | o :: r, k, ss, es, s, hl, h, hΓ, hr, hQ, bm, tm, a, w, hs => by
  simp only [regRun] at h
  split at h
  ·simp at h
  ·rename_i e he
   split at h
   ·simp at h
   ·rename_i es' s' hrec
    simp only [Option.some.injEq, Prod.mk.injEq] at h
    obtain ⟨rfl, rfl⟩ := h
    obtain ⟨Δ, h1, h2, _⟩ := regRun_Γ hrec
    have hΓ' : EnvTy cx.tb.tab ss.Γ c.env := by
     rw [h1] at hΓ
     simp only [SS.step, List.append_assoc] at hΓ
     exact hΓ.firsts
    simp only [List.length_cons, List.range'_succ]
    rw [wpOps_cons]
    refine wpOp_sound hcx hnt hs hΓ' (g := ss.nt) (fun x hx => by have := hx.1; simp only [below]; omega) (by have := hl 0; simpa using this.symm) he hr.1 fun bm' tm' a' w' hS => ?_
    refine seq_sound hcx hnt r (k + 1) (ss.step e) es' s' (fun j => by have := hl (j + 1); simpa [Nat.add_assoc, Nat.add_comm 1 j] using this) hrec hΓ (by
     have := hr.2
     simpa [SS.step] using this) hQ bm' tm' a' w' ?_
    rw [step_get]
    exact hS.mono fun x hx => by simp only [below, SS.step, NewT] at *; omega
theorem region_seq (hcx : tbOk P cx.tb cx.tb = true) (hnt : c.nt = cx.nt) {Q : Exit → Act → World → Prop} {id : Nat} {ss s : SS} {es : List Eff} (h : regRun cx ops ops.toList ss = some (es, s)) (hΓ : EnvTy cx.tb.tab s.Γ c.env) (hr : RqsH P c.env ss.Γ.length es)
  (hQ : ∀ bm' tm' a' w', Sim c (below s.nt) s.σ.get bm' tm' a' w' → Q .normal a' w') (hs : Sim c (below ss.nt) ss.σ.get bm tm a w) : (Code.region id ops false).wp P Q a w := by
 refine wp_region ?_
 have := seq_sound (ops := ops) hcx hnt ops.toList 0 ss es s (fun j => by simp) h hΓ hr hQ bm tm a w hs
 rw [Array.length_toList, ← List.range_eq_range'] at this
 exact this
end
end Go.Proofs.YtimickglpboilaaGreat
