/- Each operation does to a world what the executor says it does: append; and all operations together. No program in sight. -/
import Derived.Test.YtmhfncdhplmomaaGreatDoorAOps4
namespace Go.Proofs.YtmhfncdhplmomaaGreatDoor
open Go.RowKit
set_option linter.unusedVariables false
set_option linter.unusedSimpArgs false
set_option linter.unusedSectionVars false
variable [GC]

section
variable {w : World} {M : Addr → Prop}
theorem Rws.cells : ∀ {rows : List (List D)} {b o : Nat}, Rws w M rows b o → ∃ vs : List Value, vs.length = rows.flatten.length ∧ Rs w M rows.flatten vs ∧ ∀ i u, vs[i]? = some u → w.cell? ⟨b, o + i, none⟩ = some u
  | [], _, _, _ => ⟨[], rfl, rfl, fun i u h => by simp at h⟩
  | r :: l, b, o, ⟨h1, h2⟩ => by
    obtain ⟨vs, e1, r1, c1⟩ := h1.cells
    obtain ⟨us, e2, r2, c2⟩ := Rws.cells h2
    refine ⟨vs ++ us, by simp [e1, e2], by simpa using r1.append r2, fun i u hu => ?_⟩
    rw [List.getElem?_append] at hu
    split at hu
    · exact c1 i u hu
    · have := c2 _ _ hu
      rwa [show o + r.length + (i - vs.length) = o + i by omega] at this
theorem flat_len {n : Nat} : ∀ {rows : List (List D)}, (∀ r ∈ rows, r.length = n) → rows.flatten.length = rows.length * n
  | [], _ => by simp
  | r :: l, h => by
    have ih := flat_len (rows := l) (fun x hx => h x (by simp [hx]))
    have hr := h r (by simp)
    simp only [List.flatten_cons, List.length_append, List.length_cons, ih, hr, Nat.add_mul, Nat.one_mul]
    omega
theorem one_flat {tab : Nat → List CT} {ts : List CT} : ∀ {rows : List (List D)} {vs : List Value}, RowsTy tab ts rows → Rs w M rows.flatten vs → ∀ v ∈ vs, v.oneCell' = true
  | [], vs, _, h, v, hv => by simp [Rs] at h; subst h; simp at hv
  | r :: l, vs, ht, h, v, hv => by
    simp only [RowsTy] at ht
    simp only [List.flatten_cons] at h
    have h1 := h.take r.length
    have h2 := h.drop r.length
    rw [List.take_left' rfl] at h1
    rw [List.drop_left' rfl] at h2
    rw [← List.take_append_drop r.length vs] at hv
    rcases List.mem_append.1 hv with hv | hv
    · exact cells_one ht.1 h1 v hv
    · exact one_flat ht.2 h2 v hv
theorem Rws.append : ∀ {rows r2 : List (List D)} {b o : Nat}, Rws w M rows b o → Rws w M r2 b (o + rows.flatten.length) → Rws w M (rows ++ r2) b o
  | [], _, _, _, _, h => by simpa using h
  | r :: l, r2, b, o, ⟨h1, h2⟩, h => ⟨h1, Rws.append h2 (by simpa [Nat.add_assoc] using h)⟩
theorem growBy_le (n : Nat) : ∀ (r c : Nat), Builtin.growBy n r c + 768 ≤ (c + 768) * 2 ^ r
  | 0, c => by simp [Builtin.growBy]
  | r + 1, c => by
    have hp : 0 < 2 ^ r := Nat.two_pow_pos r
    simp only [Builtin.growBy]
    split
    · rw [Nat.pow_succ]
      have : (c + 768) * 1 ≤ (c + 768) * (2 ^ r * 2) := Nat.mul_le_mul_left _ (by omega)
      rwa [Nat.mul_one] at this
    · refine Nat.le_trans (growBy_le n r _) ?_
      rw [Nat.pow_succ, show (c + 768) * (2 ^ r * 2) = ((c + 768) * 2) * 2 ^ r by rw [Nat.mul_assoc, Nat.mul_comm 2]]
      exact Nat.mul_le_mul_right _ (by omega)
theorem growBy_le4 (n c : Nat) : Builtin.growBy n 4 c ≤ 16 * (c + 768) := by
  have h := growBy_le n 4 c
  have e2 : (2 : Nat) ^ 4 = 16 := by decide
  have e : (c + 768) * 2 ^ 4 = 16 * (c + 768) := by rw [e2, Nat.mul_comm]
  rw [e] at h
  exact Nat.le_trans (Nat.le_add_right _ _) h
theorem nextcap_le {need cap : Nat} (h : cap < need) (h' : need ≤ 4294967296) : Builtin.nextslicecap need cap ≤ 16 * (4294967296 + 768) := by
  unfold Builtin.nextslicecap
  by_cases h1 : need > 2 * cap
  · rw [if_pos h1]; omega
  · rw [if_neg h1]
    by_cases h2 : cap < 256
    · rw [if_pos h2]; omega
    · rw [if_neg h2]
      exact Nat.le_trans (growBy_le4 need cap) (Nat.mul_le_mul_left _ (by omega))
end
section
variable {P : Program} {c : SC} {F : Nat → Prop} {σ : Nat → ST} {bm : Nat → Nat} {tm : Nat → Value} {a : Act} {w w' : World} {tb : TB} {Γ : List VT} {gs : Gd}
def dropR (σ : Nat → ST) : Option Nat → Nat → ST
  | none => σ
  | some h => upd σ (3 * h + 2) .un
theorem dropR_t {oh : Option Nat} (t : Nat) : dropR σ oh (3 * t) = σ (3 * t) := by cases oh <;> simp only [dropR]; exact upd_r_t _ _ _
theorem dropR_box {oh : Option Nat} (id : Nat) : dropR σ oh (3 * id + 1) = σ (3 * id + 1) := by cases oh <;> simp only [dropR]; exact upd_r_box _ _ _
theorem dropR_live {oh : Option Nat} {g n : Nat} (h : dropR σ oh (3 * g + 2) = .live n) : σ (3 * g + 2) = .live n ∧ oh ≠ some g := by
  cases oh with
  | none => exact ⟨h, by simp⟩
  | some k =>
    simp only [dropR] at h
    by_cases e : g = k
    · subst e; rw [upd_same] at h; cases h
    · rw [upd_r_live _ e] at h; exact ⟨h, fun x => e (by simpa using x.symm)⟩
theorem dropR_men {oh : Option Nat} {l x : Nat} (h : men (dropR σ oh l) x) : men (σ l) x := by
  cases oh with
  | none => exact h
  | some k =>
    simp only [dropR] at h
    by_cases e : l = 3 * k + 2
    · subst e; rw [upd_same] at h; exact h.elim
    · rwa [upd_ne _ _ e] at h
/-- A right passes to a new value, or is made. -/
theorem Sim.append (hs : Sim c F σ bm tm a w) {g n : Nat} (hg : ¬ F g) (oh : Option Nat) (hoh : ∀ h, oh = some h → σ (3 * h + 2) = .live n) (v' : Value) (blk : Option Nat)
    (hfr : Fr c.B c.X w w') (hk : Keeps w (MM c.M0 bm tm σ) w' (MM c.M0 bm (upd tm g v') (upd (dropR σ oh) (3 * g + 2) (.live n))))
    (hob : ∀ k, k < w.heap.size → some k ≠ blk → w'.heap[k]? = w.heap[k]?)
    (hblk : ∀ b, blk = some b → ∃ h o s len cap, oh = some h ∧ tm h = .slice (some ⟨b, o, s⟩) len cap ∧ 0 < cap)
    (hlive : LiveOk c w' (upd tm g v') g n) (hv' : ∀ b o s len cap, v' = .slice (some ⟨b, o, s⟩) len cap → 0 < cap → w.heap.size ≤ b ∨ blk = some b) :
    Sim c (fun x => F x ∨ x = g) (upd (dropR σ oh) (3 * g + 2) (.live n)) bm (upd tm g v') a w' := by
  have htm : ∀ x, F x → upd tm g v' x = tm x := fun x hx => upd_ne _ _ (fun e => hg (e ▸ hx))
  have hbn : ∀ id cs, σ (3 * id + 1) = .box cs → some (bm id) ≠ blk := fun id cs hc e => by
    obtain ⟨h, o, s, len, cap, h1, h2, h3⟩ := hblk _ e.symm
    exact hs.dbl id cs h n _ o s len cap hc (hoh h h1) h2 h3 rfl
  have hln : ∀ x m b o s len cap, σ (3 * x + 2) = .live m → oh ≠ some x → tm x = .slice (some ⟨b, o, s⟩) len cap → 0 < cap → some b ≠ blk := fun x m b o s len cap hx hne he hl e => by
    obtain ⟨h, o', s', len', cap', h1, h2, h3⟩ := hblk _ e.symm
    exact hs.dll x m h n b o s len cap b o' s' len' cap' hx (hoh h h1) (fun e => hne (e ▸ h1)) he hl h2 h3 rfl
  refine hs.turn (fun t => by rw [upd_r_t, dropR_t]) (fun x hx => ⟨rfl, htm x hx⟩) (fun _ h => .inl h) hfr hk ?_ ?_ ?_ ?_ ?_ ?_ ?_ ?_
  · intro id cs h
    rw [upd_r_box, dropR_box] at h
    refine (hs.box id cs h).keep hk rfl (hob _ (hs.box id cs h).lt (hbn id cs h)) fun x hx => htm x ?_
    exact hs.f1 (3 * id + 1) x (by rw [h]; exact hx)
  · intro x m h
    by_cases e : x = g
    · subst e; rw [upd_same] at h; simp at h; subst h; exact hlive
    · rw [upd_r_live _ e] at h
      obtain ⟨h1, h2⟩ := dropR_live h
      exact (hs.live x m h1).keep (fun b o s len cap he hl => hob _ ((hs.live x m h1).lt he hl) (hln x m b o s len cap h1 h2 he hl)) (htm x (hs.f3 x m h1))
  · intro id id' cs cs' h h'
    rw [upd_r_box, dropR_box] at h h'
    exact hs.dbb id id' cs cs' h h'
  · intro id cs x m b o s len cap h hx he hl
    rw [upd_r_box, dropR_box] at h
    by_cases e : x = g
    · subst e; rw [upd_same] at he
      rcases hv' b o s len cap he hl with h1 | h1
      · have := (hs.box id cs h).lt; omega
      · exact fun e => hbn id cs h (by rw [e, h1])
    · rw [upd_r_live _ e] at hx; rw [upd_ne _ _ e] at he
      obtain ⟨h1, h2⟩ := dropR_live hx
      exact hs.dbl id cs x m b o s len cap h h1 he hl
  · intro x m y m' b o s len cap b' o' s' len' cap' hx hy hne he hl he' hl'
    by_cases e : x = g <;> by_cases e' : y = g
    · exact absurd (e.trans e'.symm) hne
    · subst e; rw [upd_same] at he; rw [upd_r_live _ e'] at hy; rw [upd_ne _ _ e'] at he'
      obtain ⟨h1, h2⟩ := dropR_live hy
      rcases hv' b o s len cap he hl with h3 | h3
      · have := (hs.live y m' h1).lt he' hl'; omega
      · exact fun q => hln y m' b' o' s' len' cap' h1 h2 he' hl' (by rw [← q, h3])
    · subst e'; rw [upd_same] at he'; rw [upd_r_live _ e] at hx; rw [upd_ne _ _ e] at he
      obtain ⟨h1, h2⟩ := dropR_live hx
      rcases hv' b' o' s' len' cap' he' hl' with h3 | h3
      · have := (hs.live x m h1).lt he hl; omega
      · exact fun q => hln x m b o s len cap h1 h2 he hl (by rw [q, h3])
    · rw [upd_r_live _ e] at hx; rw [upd_ne _ _ e] at he; rw [upd_r_live _ e'] at hy; rw [upd_ne _ _ e'] at he'
      obtain ⟨h1, h2⟩ := dropR_live hx
      obtain ⟨h3, h4⟩ := dropR_live hy
      exact hs.dll x m y m' b o s len cap b' o' s' len' cap' h1 h3 hne he hl he' hl'
  · intro l x h
    by_cases e : l = 3 * g + 2
    · subst e; rw [upd_same] at h; exact h.elim
    · rw [upd_ne _ _ e] at h; exact .inl (hs.f1 l x (dropR_men h))
  · intro id cs h; rw [upd_r_box, dropR_box] at h; exact .inl (hs.f2 id cs h)
  · intro x m h
    by_cases e : x = g
    · exact .inr e
    · rw [upd_r_live _ e] at h; exact .inl (hs.f3 x m (dropR_live h).1)
theorem MM_drop {oh : Option Nat} {p : Addr} {g n : Nat} {v' : Value} (hs : Sim c F σ bm tm a w) (hg : ¬ F g) (h : MM c.M0 bm (upd tm g v') (upd (dropR σ oh) (3 * g + 2) (.live n)) p) :
    (MM c.M0 bm tm (dropR σ oh) p) ∨ spareIn v' n p := by
  rcases h with h | ⟨id, cs, h1, h2⟩ | ⟨x, m, h1, h2⟩
  · exact .inl (.inl h)
  · rw [upd_r_box] at h1; exact .inl (.inr (.inl ⟨id, cs, h1, h2⟩))
  · by_cases e : x = g
    · subst e; rw [upd_same] at h1 h2; simp at h1; subst h1; exact .inr h2
    · rw [upd_r_live _ e] at h1; rw [upd_ne _ _ e] at h2; exact .inl (.inr (.inr ⟨x, m, h1, h2⟩))
theorem MM_drop_sub {oh : Option Nat} {p : Addr} (h : MM c.M0 bm tm (dropR σ oh) p) : MM c.M0 bm tm σ p := by
  rcases h with h | ⟨id, cs, h1, h2⟩ | ⟨x, m, h1, h2⟩
  · exact .inl h
  · rw [dropR_box] at h1; exact .inr (.inl ⟨id, cs, h1, h2⟩)
  · exact .inr (.inr ⟨x, m, (dropR_live h1).1, h2⟩)
theorem setAllA_out : ∀ (l : List Value) (C : Array Value) (o i : Nat), i < o ∨ o + l.length ≤ i → (setAllA C o l)[i]? = C[i]?
  | [], _, _, _, _ => rfl
  | x :: r, C, o, i, h => by
    simp only [List.length_cons] at h
    unfold setAllA
    rw [setAllA_out r _ _ _ (by omega)]
    simp [Array.getElem?_setIfInBounds]; omega
theorem setAllA_in : ∀ (l : List Value) (C : Array Value) (o j : Nat) (u : Value), o + l.length ≤ C.size → l[j]? = some u → (setAllA C o l)[o + j]? = some u
  | [], _, _, _, _, _, h => by simp at h
  | v :: r, C, o, 0, u, hs, h => by
    simp only [List.length_cons] at hs
    simp at h; subst h
    unfold setAllA
    rw [setAllA_out r _ _ _ (by omega)]
    simp [Array.getElem?_setIfInBounds]; omega
  | v :: r, C, o, j + 1, u, hs, h => by
    simp only [List.length_cons] at hs
    simp at h
    unfold setAllA
    have := setAllA_in r (C.setIfInBounds o v) (o + 1) j u (by simp; omega) h
    rwa [show o + (j + 1) = o + 1 + j by omega]
/-- The facts of a slice value that reads. -/
def SlF (w : World) (M : Addr → Prop) (rows : List (List D)) (ad : Option Addr) (len cap : Nat) : Prop :=
  len = rows.length ∧ len ≤ cap ∧ cap ≤ maxLen ∧ (ad = none → cap = 0) ∧ ∀ b o s, ad = some ⟨b, o, s⟩ → (0 < len → s = none) ∧ Rws w M rows b o
theorem first_cells {M : Addr → Prop} {rows : List (List D)} {ad : Option Addr} {len cap n : Nat} (h : SlF w M rows ad len cap) (hn : ∀ r ∈ rows, r.length = n) :
    ∃ vs : List Value, vs.length = len * n ∧ Rs w M rows.flatten vs ∧ ∀ w1 : World, w1.heap = w.heap → (Builtin.firstCells n len (.slice ad len cap)).run P w1 = .ok vs.toArray w1 := by
  obtain ⟨h1, h2, h3, h4, h5⟩ := h
  rcases ad with _ | ⟨b, o, s⟩
  · have : rows = [] := List.eq_nil_of_length_eq_zero (by have := h4 rfl; omega)
    subst this
    exact ⟨[], by simp at h1; simp [h1], rfl, fun w1 _ => by simp [Builtin.firstCells]⟩
  · obtain ⟨vs, e, hr, hc⟩ := (h5 b o s rfl).2.cells
    have hlen : vs.length = len * n := by rw [e, flat_len hn, h1]
    refine ⟨vs, hlen, hr, fun w1 hw1 => ?_⟩
    by_cases h0 : len = 0
    · subst h0
      have : vs = [] := List.eq_nil_of_length_eq_zero (by simpa using hlen)
      subst this
      simp [Builtin.firstCells, loadCells, loadCellsFrom]
    · have hsn := (h5 b o s rfl).1 (by omega); subst hsn
      have := run_loadCells_list (P := P) (w := w1) ⟨b, o, none⟩ vs (fun j u hu => by
        rw [addr_add, World.cell?_of_block (w := w) (by rw [hw1])]; exact hc j u hu)
      rw [hlen] at this
      simpa [Builtin.firstCells] using this
theorem sAppend (hcx : tbOk P tb tb = true) (hs : Sim c F σ bm tm a w) (hΓ : EnvTy tb.tab Γ c.env) {g n : Nat} (hgF : ¬ F g) {o : Oper} {x y : Operand} {T U : Nat} {cl : Call} (ho : o.op = .call cl) (hcl : cl.callee = .builtin .append) (har : cl.args.toList = [x, y]) (hat : cl.argTypes.toList = [T, U])
    (hd : ∀ d, o.dst = some d → d < c.nt) {ti ui : TI} (hti : tb.get T = some ti) (hui : tb.get U = some ui) {eff : Eff}
    (h : eAppend tb Γ gs o.dst σ g ti ui (opd tb σ T x) (opd tb σ U y) = some eff) : OpOk P c F σ bm tm a w g gs n o eff := by
  have har' : cl.args = #[x, y] := by rw [← Array.toList_inj, har]
  have hat' : cl.argTypes = #[T, U] := by rw [← Array.toList_inj, hat]
  unfold eAppend at h
  split at h
  · rename_i el el' hv hv'
    split at h
    · rename_i k ex ky ey ei hx hy hei
      split at h
      · rename_i hc
        obtain ⟨hcx1, hcy1, hby, hby0, hsz0⟩ := hc
        split at h
        · simp at h
        · rename_i v1 hv1
          obtain ⟨j, hj, hjs, hjb⟩ := ty_one hcx hei hv1
          have hcl1 : ei.cells = v1.cells := by simp [TI.cells, hv1]
          have htab : tb.tab el = v1.cells := by simp [TB.tab, hei, hcl1]
          rw [hcl1] at h hsz0
          obtain ⟨z0, hz0, hz1⟩ : ∃ z, j.zero = some z ∧ z.cells.size = v1.cells.length := by
            cases v1 with
            | c t =>
              obtain ⟨i', d', hi', _, _, ⟨z, hz, hzv⟩, _⟩ := ty_c hcx hei hv1
              rw [hj] at hi'; simp at hi'; subst hi'
              refine ⟨z, hz, ?_⟩
              cases t <;> cases z <;> simp [zeroV] at hzv <;> rfl
            | agg ts =>
              obtain ⟨i', f', cs', hi', _, _, hz, hzv, _⟩ := ty_agg hcx hei hv1
              rw [hj] at hi'; simp at hi'; subst hi'
              refine ⟨_, hz, ?_⟩
              have := (zeros_rel (w := w) (M := fun _ => False) (tm := tm) (c := c) hzv).1.length
              simpa [Value.cells, V1.cells] using this
          obtain ⟨_, d1, _, _, _, _, hd1, hdc1⟩ := ty_c hcx hti hv
          simp only [DescC] at hdc1; subst hdc1
          obtain ⟨_, d2, _, _, _, _, hd2, hdc2⟩ := ty_c hcx hui hv'
          simp only [DescC] at hdc2; subst hdc2
          have hvrx := (val_rel hs hx).1 (gsH_nil _)
          have hvry := (val_rel hs hy).1 (gsH_nil _)
          obtain ⟨rows, hrows, hrt, ad, len, cap, hval, hF⟩ := eval_sl hΓ (isC_some hcx1) hvrx
          obtain ⟨rowy, hrowy, hrty, ady, leny, capy, hvaly, hFy⟩ := eval_sl hΓ (isC_some hcy1) hvry
          have hFx' : SlF w (MM c.M0 bm tm σ) rows ad len cap := hF
          have hFy' : SlF w (MM c.M0 bm tm σ) rowy ady leny capy := hFy
          have hnx : ∀ r ∈ rows, r.length = v1.cells.length := fun r hr => by rw [hrt.len r hr, htab]
          have hny : ∀ r ∈ rowy, r.length = v1.cells.length := fun r hr => by rw [hrty.len r hr, htab]
          obtain ⟨vx, hvxl, hvxr, hvxrun⟩ := first_cells (P := P) hFx' hnx
          obtain ⟨vy, hvyl, hvyr, hvyrun⟩ := first_cells (P := P) hFy' hny
          have hone := one_flat hrty hvyr
          have hden : (E.app ex ey).den c.env = .sl (rows ++ rowy) := by simp [E.den, hrows, hrowy]
          have hflat : (rows ++ rowy).flatten = rows.flatten ++ rowy.flatten := by simp
          obtain ⟨hl1, hl2, hl3, hl4, hl5⟩ := hF
          obtain ⟨hm1, hm2, hm3, hm4, hm5⟩ := hFy
          generalize hsz : v1.cells.length = sz at *
          -- what the machine does
          have hrun1 : len + leny ≤ cap → (leny = 0 ∨ ∃ b o' cells T0, ad = some ⟨b, o', none⟩ ∧ w.heap[b]? = some (.cells cells T0 (0, 0)) ∧ o' + len * sz + leny * sz ≤ cells.size) →
              ∃ w', (execOp a.eval o).run P w = .ok (.value (.slice ad (len + leny) cap)) w' ∧ ((leny = 0 ∧ w' = w) ∨ ∃ b o' cells T0, ad = some ⟨b, o', none⟩ ∧ w.heap[b]? = some (.cells cells T0 (0, 0)) ∧ w'.heap[b]? = some (.cells (setAllA cells (o' + len * sz) vy) T0 (0, 0)) ∧ OneBlock w w' b ∧ o' + len * sz + leny * sz ≤ cells.size) := by
            intro hle hroom
            rcases hroom with h0 | ⟨b, o', cells, T0, rfl, hblk, hrm⟩
            · subst h0
              have hvy0 : vy = [] := List.eq_nil_of_length_eq_zero (by simpa using hvyl)
              subst hvy0
              refine ⟨w, ?_, .inl ⟨rfl, rfl⟩⟩
              rcases ad with _ | ad
              · simp [execOp, ho, resolve, hcl, invoke, builtin, Builtin.append_, har', hat', hval, hvaly, run_underlying hd1, run_underlying hd2, run_sizeOf hj, hjs, Builtin.lenOf, hl2, hvyrun w rfl, show len ≤ cap from hl2]
              · simp [execOp, ho, resolve, hcl, invoke, builtin, Builtin.append_, har', hat', hval, hvaly, run_underlying hd1, run_underlying hd2, run_sizeOf hj, hjs, Builtin.lenOf, hl2, hvyrun w rfl, show len ≤ cap from hl2, storeCells]
            · obtain ⟨w', h1, h2, h3⟩ := run_storeCells (P := P) b T0 vy w cells (o' + len * sz) 0 hblk hone (by rw [hvyl]; omega)
              refine ⟨w', ?_, .inr ⟨b, o', cells, T0, rfl, hblk, by simpa using h2, h3, hrm⟩⟩
              simp [execOp, ho, resolve, hcl, invoke, builtin, Builtin.append_, har', hat', hval, hvaly, run_underlying hd1, run_underlying hd2, run_sizeOf hj, hjs, Builtin.lenOf, hle, hvyrun w rfl, addr_add, h1]
          have hrun2 : cap < len + leny → len + leny ≤ 4294967296 → ∃ (cells : Array Value) (nc : Nat), (execOp a.eval o).run P w = .ok (.value (.slice (some ⟨w.heap.size, 0, none⟩) (len + leny) nc)) (w.drew.alloc (.cells cells el)) ∧ len + leny ≤ nc ∧ nc ≤ maxLen ∧ cells.size = nc * sz ∧ ∀ (i : Nat) (u : Value), (vx ++ vy)[i]? = some u → cells[i]? = some u := by
            intro hgt hfew
            have hq : ¬ (Builtin.nextslicecap (len + leny) cap * j.bytes > 2 ^ 48) := by
              have h1 := nextcap_le hgt hfew
              have h2 : Builtin.nextslicecap (len + leny) cap * j.bytes ≤ (16 * (4294967296 + 768)) * 1024 := Nat.mul_le_mul h1 (by omega)
              omega
            have hby1 : ¬ (j.bytes = 0) := by omega
            have hnl : ¬ (len + leny ≤ cap) := by omega
            refine ⟨vx.toArray ++ vy.toArray ++ Builtin.zeroCells z0.cells ((len + leny + w.tape w.drawn (.appendCap (len + leny) cap el) % (2 ^ 63 - (len + leny))) - (len + leny)), len + leny + w.tape w.drawn (.appendCap (len + leny) cap el) % (2 ^ 63 - (len + leny)), ?_, by omega, ?_, ?_, ?_⟩
            · have hdrew : (w.drew).heap.size = w.heap.size := rfl
              simp [execOp, ho, resolve, hcl, invoke, builtin, Builtin.append_, har', hat', hval, hvaly, run_underlying hd1, run_underlying hd2, run_sizeOf hj, run_typeInfo hj, hjs, Builtin.lenOf, hnl, hby1, Nat.not_lt.2 (Nat.not_lt.1 hq), Question.forced, Question.cut, zeroValue, hz0, newRow, hvxrun w.drew rfl, hvyrun w.drew rfl]
              rw [← List.append_toArray, Array.append_assoc]
            · have := Nat.mod_lt (w.tape w.drawn (.appendCap (len + leny) cap el)) (show 0 < 2 ^ 63 - (len + leny) by omega)
              unfold maxLen; omega
            · simp [Builtin.zeroCells, hvxl, hvyl, hz1]
              rw [← Nat.add_mul, ← Nat.add_mul]
            · intro i u hu
              have hi : i < (vx ++ vy).length := (List.getElem?_eq_some_iff.1 hu).1
              rw [Array.getElem?_append_left (by simpa using hi)]
              rw [List.append_toArray]; simpa using hu
          have main : ∀ oh : Option Nat, (∀ h, oh = some h → σ (3 * h + 2) = .live sz ∧ tm h = .slice ad len cap) → (oh = none → cap = 0) → len + leny ≤ 4294967296 → ∀ (K : Act → World → Prop) (Q : Exit → Act → World → Prop),
              (∀ bm' tm' a' w', Sim c (fun x => F x ∨ NewT g x) (updL (upd (dropR σ oh) (3 * g + 2) (.live sz)) (wv o.dst (.v [] (.own g) (.app ex ey)))) bm' tm' a' w' → K a' w') → o.wp P a w K Q := by
            intro oh hoh hohn hfew K Q hK
            have hohl : ∀ h, oh = some h → σ (3 * h + 2) = .live sz := fun h e => (hoh h e).1
            -- the end that all ways share
            have fin : ∀ (v' : Value) (w' : World) (blk : Option Nat), (execOp a.eval o).run P w = .ok (.value v') w' → Fr c.B c.X w w' →
                Keeps w (MM c.M0 bm tm σ) w' (MM c.M0 bm (upd tm g v') (upd (dropR σ oh) (3 * g + 2) (.live sz))) →
                (∀ k, k < w.heap.size → some k ≠ blk → w'.heap[k]? = w.heap[k]?) →
                (∀ b, blk = some b → ∃ h o s len cap, oh = some h ∧ tm h = .slice (some ⟨b, o, s⟩) len cap ∧ 0 < cap) →
                LiveOk c w' (upd tm g v') g sz → (∀ b o s len cap, v' = .slice (some ⟨b, o, s⟩) len cap → 0 < cap → w.heap.size ≤ b ∨ blk = some b) →
                R w' (MM c.M0 bm (upd tm g v') (upd (dropR σ oh) (3 * g + 2) (.live sz))) (.sl (rows ++ rowy)) v' → o.wp P a w K Q := by
              intro v' w' blk hrun hfr hk hob hblk hlive hv'' hR
              unfold Oper.wp
              rw [hrun]
              refine hK _ _ _ _ (Sim.tag ((hs.append hgF oh hohl v' blk hfr hk hob hblk hlive hv'').putO hd (relT_v (gsH_nil _) ⟨?_, ?_⟩) fun x hx => ?_))
              · rw [hden]; exact hR
              · rw [upd_same]
              · exact .inr hx
            by_cases hle : len + leny ≤ cap
            · -- in place
              by_cases h0 : leny = 0
              · subst h0
                obtain ⟨w', hrun, hcase⟩ := hrun1 hle (.inl rfl)
                have hw : w' = w := by
                  rcases hcase with ⟨_, h⟩ | ⟨b, o', cells, T0, h1, h2, h3, h4, h5⟩
                  · exact h
                  · have hvy0 : vy = [] := List.eq_nil_of_length_eq_zero (by simpa using hvyl)
                    subst hvy0
                    obtain ⟨w2, hrun2', hc2⟩ := hrun1 hle (.inl rfl)
                    have e1 := hrun.symm.trans hrun2'
                    simp only [Result.ok.injEq, true_and] at e1
                    -- the machine's run is one alone; with nothing to lay the world stays
                    have : (execOp a.eval o).run P w = .ok (.value (.slice ad (len + 0) cap)) w := by
                      rcases ad with _ | ad
                      · simp [execOp, ho, resolve, hcl, invoke, builtin, Builtin.append_, har', hat', hval, hvaly, run_underlying hd1, run_underlying hd2, run_sizeOf hj, hjs, Builtin.lenOf, hl2, hvyrun w rfl]
                      · simp [execOp, ho, resolve, hcl, invoke, builtin, Builtin.append_, har', hat', hval, hvaly, run_underlying hd1, run_underlying hd2, run_sizeOf hj, hjs, Builtin.lenOf, hl2, hvyrun w rfl, storeCells]
                    have e2 := hrun.symm.trans this
                    simp only [Result.ok.injEq, true_and] at e2
                    exact e2
                subst hw
                have hry : rowy = [] := List.eq_nil_of_length_eq_zero (by omega)
                subst hry
                simp only [Nat.add_zero] at hrun
                by_cases hlc : 0 < cap
                · obtain ⟨h', rfl⟩ : ∃ h', oh = some h' := by
                    cases oh with
                    | none => have := hohn rfl; omega
                    | some h' => exact ⟨h', rfl⟩
                  obtain ⟨hl', ht'⟩ := hoh h' rfl
                  rcases ad with _ | ⟨b, o', s⟩
                  · have := hl4 rfl; omega
                  refine fin _ _ (some b) hrun (Fr.refl _ _ _) (fun p v hp hn => ⟨hp, fun hm => ?_⟩) (fun _ _ _ => rfl) (fun b' hb' => ⟨h', o', s, len, cap, rfl, by simp at hb'; subst hb'; exact ht', hlc⟩) ?_ (fun b' o2 s2 l2 c2 he _ => .inr (by simp at he; rw [he.1.1])) ?_
                  · rcases MM_drop hs hgF hm with h | h
                    · exact hn (MM_drop_sub h)
                    · exact hn (.inr (.inr ⟨h', sz, hl', by rw [ht']; exact h⟩))
                  · intro b' o2 s2 l2 c2 he hlt
                    rw [upd_same] at he
                    exact hs.live h' sz hl' b' o2 s2 l2 c2 (by rw [ht', he]) hlt
                  · rw [List.append_nil, ← hrows, ← hval]
                    refine R.keep (fun p v hp hn => ⟨hp, fun hm => ?_⟩) _ _ hvrx.rd
                    rw [hval] at hm
                    rcases MM_drop hs hgF hm with h | h
                    · exact hn (MM_drop_sub h)
                    · exact hn (.inr (.inr ⟨h', sz, hl', by rw [ht']; exact h⟩))
                · have hnsp : ∀ p, ¬ spareIn (.slice ad len cap) sz p := by
                    rintro p ⟨b, o', s, l2, c2, he, _, h1, h2⟩
                    simp only [Value.slice.injEq] at he
                    obtain ⟨_, rfl, rfl⟩ := he
                    have e1 : cap = 0 := by omega
                    rw [e1] at h2; omega
                  have hkk : Keeps w' (MM c.M0 bm tm σ) w' (MM c.M0 bm (upd tm g (.slice ad len cap)) (upd (dropR σ oh) (3 * g + 2) (.live sz))) := fun p v hp hn => ⟨hp, fun hm => by
                    rcases MM_drop hs hgF hm with h | h
                    · exact hn (MM_drop_sub h)
                    · exact hnsp p h⟩
                  refine fin _ _ none hrun (Fr.refl _ _ _) hkk (fun _ _ _ => rfl) (fun b' hb' => by cases hb') ?_ (fun b' o2 s2 l2 c2 he hlt => by simp only [Value.slice.injEq] at he; omega) ?_
                  · intro b' o2 s2 l2 c2 he hlt
                    rw [upd_same] at he; simp only [Value.slice.injEq] at he; omega
                  · rw [List.append_nil, ← hrows]
                    have := R.keep hkk _ _ hvrx.rd
                    rwa [hval] at this
              · -- cells of the room behind are written
                have hlc : 0 < cap := by omega
                obtain ⟨h', rfl⟩ : ∃ h', oh = some h' := by
                  cases oh with
                  | none => have := hohn rfl; omega
                  | some h' => exact ⟨h', rfl⟩
                obtain ⟨hl', ht'⟩ := hoh h' rfl
                rcases ad with _ | ⟨b, o', s⟩
                · have := hl4 rfl; omega
                obtain ⟨hsn, hBb, cells, T0, hblk, hroom⟩ := hs.live h' sz hl' b o' s len cap ht' hlc
                subst hsn
                have hmul : len * sz + leny * sz ≤ cap * sz := by rw [← Nat.add_mul]; exact Nat.mul_le_mul_right _ hle
                obtain ⟨w', hrun, hcase⟩ := hrun1 hle (.inr ⟨b, o', cells, T0, rfl, hblk, by omega⟩)
                rcases hcase with ⟨h, _⟩ | ⟨b1, o1, cells1, T1, h1, h2, h3, h4, h5⟩
                · exact absurd h h0
                simp only [Option.some.injEq, Addr.mk.injEq, and_true] at h1
                obtain ⟨rfl, rfl⟩ := h1
                rw [hblk] at h2
                simp only [Option.some.injEq, Obj.cells.injEq] at h2
                obtain ⟨rfl, rfl, _⟩ := h2
                have hspare : ∀ i, len * sz ≤ i → i < cap * sz → MM c.M0 bm tm σ ⟨b, o' + i, none⟩ := fun i hi1 hi2 =>
                  .inr (.inr ⟨h', sz, hl', b, o', none, len, cap, ht', rfl, by show o' + len * sz ≤ o' + i; omega, by show o' + i < o' + cap * sz; omega⟩)
                have hcell' : ∀ i, w'.cell? ⟨b, i, none⟩ = (setAllA cells (o' + len * sz) vy)[i]? := fun i => cell_of_row w' b i _ _ _ h3
                have hcell0 : ∀ i, w.cell? ⟨b, i, none⟩ = cells[i]? := fun i => cell_of_row w b i _ _ _ hblk
                have hMd : ∀ p, p.block = b → ¬ MM c.M0 bm tm (dropR σ (some h')) p := by
                  rintro p hpb (h | ⟨id, cs, q1, q2⟩ | ⟨x, m, q1, b2, o2, s2, l2, c2, q2, q3, q4, q5⟩)
                  · have := hs.m0.1 p h; omega
                  · rw [dropR_box] at q1
                    exact hs.dbl id cs h' sz b o' none len cap q1 hl' ht' hlc (by rw [← q2, hpb])
                  · obtain ⟨q6, q7⟩ := dropR_live q1
                    have hl2c2 : 0 < c2 := by
                      rcases Nat.lt_or_ge 0 c2 with h | h
                      · exact h
                      · have e : c2 = 0 := by omega
                        subst e; omega
                    exact hs.dll x m h' sz b2 o2 s2 l2 c2 b o' none len cap q6 hl' (fun e => q7 (by rw [e])) q2 hl2c2 ht' hlc (by rw [← q3, hpb])
                have hkk : Keeps w (MM c.M0 bm tm σ) w' (MM c.M0 bm (upd tm g (.slice (some ⟨b, o', none⟩) (len + leny) cap)) (upd (dropR σ (some h')) (3 * g + 2) (.live sz))) := by
                  intro p v hp hn
                  constructor
                  · by_cases hpb : p.block = b
                    · have hsp := World.cell?_spot hp
                      obtain ⟨pb, po, ps⟩ := p
                      simp only at hpb hsp; subst hpb hsp
                      rw [hcell', setAllA_out]
                      · rw [← hcell0]; exact hp
                      · rcases Nat.lt_or_ge po (o' + len * sz) with h | h
                        · exact .inl h
                        · refine .inr ?_
                          rcases Nat.lt_or_ge po (o' + len * sz + vy.length) with h6 | h6
                          · refine absurd (hspare (po - o') (by omega) (by omega)) ?_
                            rwa [show o' + (po - o') = po by omega]
                          · exact h6
                    · rw [← hp]; exact World.cell?_of_block (h4.block _ hpb)
                  · intro hm
                    rcases MM_drop hs hgF hm with h | ⟨b2, o2, s2, l2, c2, q1, q2, q3, q4⟩
                    · exact hn (MM_drop_sub h)
                    · simp only [Value.slice.injEq, Option.some.injEq, Addr.mk.injEq] at q1
                      obtain ⟨⟨rfl, rfl, rfl⟩, rfl, rfl⟩ := q1
                      rw [Nat.add_mul] at q3
                      exact hn (.inr (.inr ⟨h', sz, hl', b, o', none, len, cap, ht', q2, by omega, q4⟩))
                refine fin _ _ (some b) hrun (Fr.of_one h4 (.inl hBb)) hkk (fun k _ hk => h4.block k (fun e => hk (by rw [e]))) (fun b' hb' => ⟨h', o', none, len, cap, rfl, by simp at hb'; subst hb'; exact ht', hlc⟩) ?_ (fun b' o2 s2 l2 c2 he _ => .inr (by simp at he; rw [he.1.1])) ?_
                · intro b' o2 s2 l2 c2 he hlt
                  rw [upd_same] at he
                  simp only [Value.slice.injEq, Option.some.injEq, Addr.mk.injEq] at he
                  obtain ⟨⟨rfl, rfl, rfl⟩, rfl, rfl⟩ := he
                  exact ⟨rfl, hBb, _, T0, h3, by rw [size_setAllA]; exact hroom⟩
                · refine ⟨_, _, _, rfl, by simp; omega, hle, hl3, (fun h => by cases h), fun b2 o2 s2 he => ?_⟩
                  simp only [Option.some.injEq, Addr.mk.injEq] at he
                  obtain ⟨rfl, rfl, rfl⟩ := he
                  refine ⟨fun _ => rfl, Rws.append (Rws.keep hkk _ _ _ (hl5 b o' none rfl).2) ?_⟩
                  rw [flat_len hnx, ← hl1]
                  refine Rws.of_flat hvyr hkk fun i u hu => ?_
                  have hi : i < vy.length := (List.getElem?_eq_some_iff.1 hu).1
                  refine ⟨by rw [hcell']; exact setAllA_in vy cells _ i u (by omega) hu, fun hm => ?_⟩
                  rcases MM_drop hs hgF hm with h | ⟨b2, o2, s2, l2, c2, q1, q2, q3, q4⟩
                  · exact hMd _ rfl h
                  · simp only [Value.slice.injEq, Option.some.injEq, Addr.mk.injEq] at q1
                    obtain ⟨⟨rfl, rfl, rfl⟩, rfl, rfl⟩ := q1
                    simp only at q3
                    rw [Nat.add_mul] at q3
                    omega
            · -- a new array
              obtain ⟨cells, nc, hrun, hn1, hn2, hn3, hn4⟩ := hrun2 (by omega) hfew
              have hb : Below w.heap.size w (w.drew.alloc (.cells cells el)) := ((Below.refl _ _).drew).alloc (Nat.le_refl _) _
              have hcell' : ∀ i, (w.drew.alloc (.cells cells el)).cell? ⟨w.heap.size, i, none⟩ = cells[i]? := fun i => by
                have := World.cell?_alloc_new (w := w.drew) cells el i
                exact this
              have hkk : Keeps w (MM c.M0 bm tm σ) (w.drew.alloc (.cells cells el)) (MM c.M0 bm (upd tm g (.slice (some ⟨w.heap.size, 0, none⟩) (len + leny) nc)) (upd (dropR σ oh) (3 * g + 2) (.live sz))) := by
                refine Keeps.below hb fun p hp hm => ?_
                rcases MM_drop hs hgF hm with h | ⟨b2, o2, s2, l2, c2, q1, q2, q3, q4⟩
                · exact MM_drop_sub h
                · simp only [Value.slice.injEq, Option.some.injEq, Addr.mk.injEq] at q1
                  omega
              refine fin _ _ none hrun (Fr.of_below hb hs.hB) hkk (fun k hk _ => hb.block k hk) (fun b' hb' => by cases hb') ?_ (fun b' o2 s2 l2 c2 he _ => .inl (by simp at he; omega)) ?_
              · intro b' o2 s2 l2 c2 he hlt
                rw [upd_same] at he
                simp only [Value.slice.injEq, Option.some.injEq, Addr.mk.injEq] at he
                obtain ⟨⟨rfl, rfl, rfl⟩, rfl, rfl⟩ := he
                exact ⟨rfl, hs.hB, cells, el, heap_alloc_new w.drew _, by rw [hn3]; omega⟩
              · refine ⟨_, _, _, rfl, by simp; omega, hn1, hn2, (fun h => by cases h), fun b2 o2 s2 he => ?_⟩
                simp only [Option.some.injEq, Addr.mk.injEq] at he
                obtain ⟨rfl, rfl, rfl⟩ := he
                refine ⟨fun _ => rfl, Rws.of_flat (by rw [hflat]; exact hvxr.append hvyr) hkk fun i u hu => ?_⟩
                have hi : i < (vx ++ vy).length := (List.getElem?_eq_some_iff.1 hu).1
                rw [Nat.zero_add]
                refine ⟨by rw [hcell']; exact hn4 i u hu, fun hm => ?_⟩
                rcases MM_drop hs hgF hm with h | ⟨b2, o2, s2, l2, c2, q1, q2, q3, q4⟩
                · have := hs.M_lt _ (MM_drop_sub h)
                  simp at this
                · simp only [Value.slice.injEq, Option.some.injEq, Addr.mk.injEq] at q1
                  obtain ⟨⟨rfl, rfl, rfl⟩, rfl, rfl⟩ := q1
                  simp only [Nat.zero_add, Nat.add_mul] at q3
                  simp only [List.length_append] at hi
                  omega
          have hfewR : (∀ r ∈ eff.rq, RqH P c.env n r) → (Rq.cond [] (.few ex ey)) ∈ eff.rq → len + leny ≤ 4294967296 := fun hr hin => by
            have := hr _ hin (gsH_nil _)
            simp [E.den, hrows, hrowy] at this
            omega
          cases k with
          | d => simp at h
          | full =>
            simp only [Option.some.injEq] at h; subst h
            refine ⟨fun _ hr K Q hK => main none (by simp) (fun _ => ?_) (hfewR hr (by simp)) K Q fun bm' tm' a' w' hS => hK bm' tm' a' w' ?_, fun hn => absurd (gsH_nil _) hn⟩
            · obtain ⟨_, a2, he⟩ := hvrx
              rw [hval] at he
              simp only [Value.slice.injEq] at he
              omega
            · rw [updL_ups (by intro p hp d; simp at hp; subst hp; simp; omega)]
              exact hS
          | ag _ => simp at h
          | own h' =>
            simp only at h
            split at h
            · rename_i m hm
              split at h
              · rename_i hmsz
                subst hmsz
                simp only [Option.some.injEq] at h; subst h
                refine ⟨fun _ hr K Q hK => main (some h') (fun q hq => ?_) (by simp) (hfewR hr (by simp)) K Q fun bm' tm' a' w' hS => hK bm' tm' a' w' ?_, fun hn => absurd (gsH_nil _) hn⟩
                · simp only [Option.some.injEq] at hq; subst hq
                  exact ⟨hm, by rw [← hval]; exact hvrx.2.symm⟩
                · rw [updL_ups (by intro p hp d; simp at hp; rcases hp with rfl | rfl <;> simp <;> omega)]
                  exact hS
              · simp at h
            · simp at h
      · simp at h
    · simp at h
  · simp at h
theorem sBuildOwn (hcx : tbOk P tb tb = true) (hs : Sim c F σ bm tm a w) (hΓ : EnvTy tb.tab Γ c.env) {g n : Nat} (hgF : ¬ F g) {o : Oper} {T len : Nat} {parts : Array (Nat × Operand)} (ho : o.op = .buildSlice T len parts) (hd : ∀ d, o.dst = some d → d < c.nt) {ti : TI} (hti : tb.get T = some ti) {eff : Eff}
    (h : eBuildOwn tb Γ gs o.dst σ g ti len parts.toList = some eff) : OpOk P c F σ bm tm a w g gs n o eff := by
  unfold eBuildOwn at h
  split at h
  · rename_i el hv
    split at h
    · rename_i hcnd
      obtain ⟨hlen, hok⟩ := hcnd
      simp only [Option.map_eq_some_iff] at h
      obtain ⟨e, he, rfl⟩ := h
      refine ⟨fun _ _ K Q hK => ?_, fun hn => absurd (gsH_nil _) hn⟩
      obtain ⟨w', cells, h1, h2, h3, h3', h4⟩ := run_buildSlice hcx hs hΓ ho hti hv hlen hok he (gsH_nil _)
      have hMd : ∀ p, MM c.M0 bm (upd tm g (.slice (some ⟨w.heap.size, 0, none⟩) len len)) (upd (dropR σ none) (3 * g + 2) (.live (tb.tab el).length)) p → MM c.M0 bm tm σ p := fun p hp => by
        rcases MM_drop hs hgF hp with h | ⟨b2, o2, s2, l2, c2, q1, q2, q3, q4⟩
        · exact MM_drop_sub h
        · simp only [Value.slice.injEq] at q1
          obtain ⟨_, rfl, rfl⟩ := q1
          omega
      unfold Oper.wp
      rw [h1]
      refine hK bm (upd tm g (.slice (some ⟨w.heap.size, 0, none⟩) len len)) _ _ ?_
      rw [updL_ups (by intro p hp d; simp at hp; subst hp; simp; omega)]
      refine Sim.tag ((hs.append hgF none (by simp) _ none (Fr.of_below h2 hs.hB) (Keeps.below h2 fun p _ h => hMd p h) (fun k hk _ => h2.block k hk) (fun b hb => by cases hb) ?_ (fun b' o2 s2 l2 c2 he _ => .inl (by simp at he; omega))).putO hd (relT_v (gsH_nil _) ⟨h4 _ hMd, ?_⟩) fun x hx => ?_)
      · intro b' o2 s2 l2 c2 he hlt
        rw [upd_same] at he
        simp only [Value.slice.injEq, Option.some.injEq, Addr.mk.injEq] at he
        obtain ⟨⟨rfl, rfl, rfl⟩, rfl, rfl⟩ := he
        exact ⟨rfl, hs.hB, cells, el, h3, by omega⟩
      · rw [upd_same]
      · exact .inr hx
    · simp at h
  · simp at h
end
end Go.Proofs.YtmhfncdhplmomaaGreatDoor
