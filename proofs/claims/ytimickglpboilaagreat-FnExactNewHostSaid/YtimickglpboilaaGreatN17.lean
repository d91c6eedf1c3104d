/- Marks of parts that were appended: their rows lie in blocks of their own. -/
import Derived.Test.YtimickglpboilaaGreatN12
import Derived.Test.YtimickglpboilaaGreatN13
import Derived.Test.YtimickglpboilaaGreatN16
set_option linter.unusedVariables false
set_option linter.unusedSimpArgs false
set_option linter.unusedSectionVars false
set_option maxRecDepth 100000
namespace Go.Proofs.YtimickglpboilaaGreat
open Go.RowKit Go
theorem CellIn.mark {P : Program} {f : FuncId} {args : Array Value} {Z : Ending → Prop} {B : Nat} {w : World} {d d' : D} {u : Value} {r : Option Nat} (h : CellIn B w d u r)
  (hc : ∀ M : Addr → Prop, R w M d u → (∀ p, w.frozen? p = true → M p) → Calls P f args w fun e w' => Z e ∧ Alt (fun p => ¬ M p) w w' ∧ R w' M d' u) :
  Calls P f args w fun e w' => Z e ∧ Alt (fun p => r = some p.block) w w' ∧ CellIn B w' d' u r := by
 cases r with
 | none =>
  refine (hc (fun _ => True) h fun _ _ => trivial).mono ?_
  rintro e w' ⟨h1, h2, h3⟩
  exact ⟨h1, h2.mono fun p _ hp => absurd trivial hp, h3⟩
 | some x =>
  refine (hc _ h.2.2 fun p hp => .inr hp).mono ?_
  rintro e w' ⟨h1, h2, h3⟩
  refine ⟨h1, h2.mono fun p _ hp => ?_, h.1, Nat.lt_of_lt_of_le h.2.1 h2.size, R.less h3 fun p hp => ?_⟩
  ·exact congrArg some (Classical.byContradiction fun e => hp (.inl fun e2 => e e2.symm))
  ·rcases hp with hp | hp
   ·exact .inl hp
   ·by_cases e : p.block = x
    ·exact .inr (by rw [← h2.fro p (by rw [e]; exact h.2.1)]; exact hp)
    ·exact .inl e
theorem flt_set {α : Type} {m : Nat} : ∀ {rows : List (List α)}, (∀ r ∈ rows, r.length = m) → ∀ {i j : Nat} {r : List α} {x : α}, rows[i]? = some r → j < m → rows.flatten.set (i * m + j) x = (rows.set i (r.set j x)).flatten
 | [], _, i, j, r, x, h, _ => by simp at h
 | r0 :: rs, hn, i, j, r, x, h, hj => by
  have h0 := hn r0 (by simp)
  cases i with
  | zero =>
   simp only [List.getElem?_cons_zero, Option.some.injEq] at h
   subst h
   rw [List.flatten_cons, Nat.zero_mul, Nat.zero_add, List.set_append_left _ _ (by omega), List.set_cons_zero, List.flatten_cons]
  | succ i =>
   rw [List.getElem?_cons_succ] at h
   have := flt_set (x := x) (fun r hr => hn r (by simp [hr])) h hj
   rw [List.flatten_cons, List.set_append_right _ _ (by rw [h0, Nat.add_mul]; omega), h0, List.set_cons_succ, List.flatten_cons, ← this]
   congr 2
   rw [Nat.add_mul]; omega
section
variable {B m : Nat} {w w' : World} {g : Nat} {rows : List (List D)} {us : Nat → Value} {ow : Nat → Option Nat}
theorem set_len {i : Nat} {r r' : List D} (hn : ∀ r ∈ rows, r.length = m) (hr : r'.length = m) : ∀ q ∈ rows.set i r', q.length = m := fun q hq => by
 rcases List.mem_or_eq_of_mem_set hq with h | h
 ·exact hn q h
 ·rw [h]; exact hr
theorem GS.putR (h : GS B w g rows.flatten us ow) (hn : ∀ r ∈ rows, r.length = m) {i j : Nat} {r : List D} {d d0 : D} {u : Value} (hi : rows[i]? = some r) (hj : r[j]? = some d0) (ho : ow (i * m + j) = none) (hl : leafD d = true) (hd : ∀ (w : World) (M : Addr → Prop), R w M d u) (hS : ∀ u0, R w (fun _ => False) d0 u0 → Same u0 u) :
  w.cell? ⟨g, i * m + j, none⟩ = some (us (i * m + j)) ∧ w.frozen? ⟨g, i * m + j, none⟩ = false ∧ Alt (fun p => p.block = g) w (w.setCell ⟨g, i * m + j, none⟩ u) ∧ (∀ q ∈ rows.set i (r.set j d), q.length = m) ∧ GS B (w.setCell ⟨g, i * m + j, none⟩ u) g (rows.set i (r.set j d)).flatten (fun k => if k = i * m + j then u else us k) ow := by
 have hjl := (List.getElem?_eq_some_iff.1 hj).1
 have hrl := hn r (List.mem_of_getElem? hi)
 have hf := flt_at hn hi hj
 have hfl := (List.getElem?_eq_some_iff.1 hf).1
 have hc := h.c _ hfl
 have hs := hS _ (h.r _ _ hf).read
 refine ⟨hc, h.fr _ _, Alt.set rfl hc hs, set_len (r := r) hn (by simpa using hrl), ?_⟩
 rw [← flt_set hn hi (by omega)]
 have ha := Alt.set (A := fun p => p = (⟨g, i * m + j, none⟩ : Addr)) rfl hc hs
 exact h.put hfl ho hl (hd _ _) (size_setCell _ _ _) (cell_at hc) (fun p v hp hne => ha.keep p v hp hne) fun p => fro_setCell _ _ _ _
theorem GS.putS (h : GS B w g rows.flatten us ow) (hn : ∀ r ∈ rows, r.length = m) {i j : Nat} {r : List D} {s0 : ByteArray} (s : ByteArray) (hi : rows[i]? = some r) (hj : r[j]? = some (.str s0)) (ho : ow (i * m + j) = none) (hs : s.size ≤ maxLen) :
  w.cell? ⟨g, i * m + j, none⟩ = some (us (i * m + j)) ∧ w.frozen? ⟨g, i * m + j, none⟩ = false ∧ Alt (fun p => p.block = g) w (w.setCell ⟨g, i * m + j, none⟩ (.string s)) ∧ (∀ q ∈ rows.set i (r.set j (.str s)), q.length = m) ∧ GS B (w.setCell ⟨g, i * m + j, none⟩ (.string s)) g (rows.set i (r.set j (.str s))).flatten (fun k => if k = i * m + j then .string s else us k) ow :=
 h.putR hn hi hj ho rfl (fun _ _ => ⟨rfl, hs⟩) fun u0 hu => by obtain ⟨rfl, _⟩ := hu; exact .inr (.inl ⟨_, _, rfl, rfl, hs⟩)
theorem GS.putI (h : GS B w g rows.flatten us ow) (hn : ∀ r ∈ rows, r.length = m) {i j : Nat} {r : List D} {x0 : Int} (x : Int) (hi : rows[i]? = some r) (hj : r[j]? = some (.int .i64 x0)) (ho : ow (i * m + j) = none) (h1 : -9223372036854775808 ≤ x) (h2 : x ≤ 9223372036854775807) :
  w.cell? ⟨g, i * m + j, none⟩ = some (us (i * m + j)) ∧ w.frozen? ⟨g, i * m + j, none⟩ = false ∧ Alt (fun p => p.block = g) w (w.setCell ⟨g, i * m + j, none⟩ (.int .i64 x)) ∧ (∀ q ∈ rows.set i (r.set j (.int .i64 x)), q.length = m) ∧ GS B (w.setCell ⟨g, i * m + j, none⟩ (.int .i64 x)) g (rows.set i (r.set j (.int .i64 x))).flatten (fun k => if k = i * m + j then .int .i64 x else us k) ow :=
 h.putR hn hi hj ho rfl (fun _ _ => int_ok h1 h2) fun u0 hu => by obtain ⟨rfl, _⟩ := hu; exact .inr (.inr (.inl ⟨_, _, _, rfl, rfl, by rw [i64min]; omega, by rw [i64max]; omega⟩))
theorem GS.putB (h : GS B w g rows.flatten us ow) (hn : ∀ r ∈ rows, r.length = m) {i j : Nat} {r : List D} {x0 : Bool} (x : Bool) (hi : rows[i]? = some r) (hj : r[j]? = some (.bool x0)) (ho : ow (i * m + j) = none) :
  w.cell? ⟨g, i * m + j, none⟩ = some (us (i * m + j)) ∧ w.frozen? ⟨g, i * m + j, none⟩ = false ∧ Alt (fun p => p.block = g) w (w.setCell ⟨g, i * m + j, none⟩ (.bool x)) ∧ (∀ q ∈ rows.set i (r.set j (.bool x)), q.length = m) ∧ GS B (w.setCell ⟨g, i * m + j, none⟩ (.bool x)) g (rows.set i (r.set j (.bool x))).flatten (fun k => if k = i * m + j then .bool x else us k) ow :=
 h.putR hn hi hj ho rfl (fun _ _ => rfl) fun u0 hu => by cases (show u0 = .bool x0 from hu); exact .inr (.inr (.inr ⟨_, _, rfl, rfl⟩))
theorem GS.rowR (h : GS B w g rows.flatten us ow) (hn : ∀ r ∈ rows, r.length = m) {i j : Nat} {r : List D} {d d0 : D} {A : Addr → Prop} (hi : rows[i]? = some r) (hj : r[j]? = some d0) (ha : Alt A w w') (hA : ∀ p, A p → ow (i * m + j) = some p.block) (hd : CellIn B w' d (us (i * m + j)) (ow (i * m + j))) :
  (∀ q ∈ rows.set i (r.set j d), q.length = m) ∧ GS B w' g (rows.set i (r.set j d)).flatten us ow := by
 have hjl := (List.getElem?_eq_some_iff.1 hj).1
 have hrl := hn r (List.mem_of_getElem? hi)
 have hf := flt_at hn hi hj
 refine ⟨set_len (r := r) hn (by simpa using hrl), ?_⟩
 rw [← flt_set hn hi (by omega)]
 exact h.row (List.getElem?_eq_some_iff.1 hf).1 ha hA hd
end
theorem below_setR {B : Nat} {w w' : World} {g : Nat} {ds : List D} {us : Nat → Value} {ow : Nat → Option Nat} (h : GS B w g ds us ow) (hb : Below w.heap.size w w') : GS B w' g ds us ow := h.keep hb.size fun k _ hk => hb.block k hk
/-! Marked parts -/
def cntP (p : Part) : Nat := 4 + 2 * p.core.cells.length + 2 * p.layers.length
def cntPs (l : List Part) : Nat → Nat
 | 0 => 0
 | i + 1 => cntPs l i + cntP (nth l i)
theorem cntPs_mono {l : List Part} {i j : Nat} (h : i ≤ j) : cntPs l i ≤ cntPs l j := by
 induction h with
 | refl => exact Nat.le_refl _
 | step _ ih => exact Nat.le_trans ih (Nat.le_add_right _ _)
noncomputable def markP (k : Nat) (p : Part) : List D :=
 [.str (mkT k), .bool (decide ((k + 1) % 3 = 0)), .bool (decide ((k + 1 + 1) % 3 = 0)), .sl (mCe (k + 1 + 1 + 1) p.core.cells p.core.cells.length), .int .i64 ((k + 1 + 1 + 1 + 2 * p.core.cells.length : Nat) : Int), .sl (mLy (k + 1 + 1 + 1 + 2 * p.core.cells.length + 1) p.layers p.layers.length)]
noncomputable def mixP (k : Nat) (l : List Part) (i : Nat) : List (List D) := rowsM l.length fun a => if a < i then markP (k + cntPs l a) (nth l a) else Enc.cells (nth l a)
theorem mixP_zero (k : Nat) (l : List Part) : mixP k l 0 = l.map Enc.cells := by
 rw [rowsM_map]; exact rowsM_congr fun a _ => by simp
theorem mixP_succ (k : Nat) (l : List Part) (i : Nat) : mixP k l (i + 1) = (mixP k l i).set i (markP (k + cntPs l i) (nth l i)) := by
 unfold mixP
 rw [rowsM_set]
 refine rowsM_congr fun a _ => ?_
 by_cases ha : a = i
 ·subst ha; simp
 ·have : a < i + 1 ↔ a < i := by omega
  simp [ha, this]
theorem mixP_len (k : Nat) (l : List Part) (i : Nat) : (mixP k l i).length = l.length := rowsM_len _ _
theorem mixP_row {k : Nat} {l : List Part} {i : Nat} (h : i < l.length) : (mixP k l i)[i]? = some (Enc.cells (nth l i)) := by
 unfold mixP
 rw [rowsM_get h, if_neg (by omega)]
theorem mixP_six (k : Nat) (l : List Part) (i : Nat) : ∀ r ∈ mixP k l i, r.length = 6 := fun r hr => by
 obtain ⟨a, ha, rfl⟩ := rowsM_mem hr
 split
 ·rfl
 ·rfl
section
variable {n : Nat} {P : Program} {E : List (Nat × Value)} {w w' : World} {o : Oper} {v u : Value}
theorem r_rem {T U : TypeId} {x y : Operand} {p : Nat} {b : Nat} (ho : o.op = .binOp .rem T x y U) (hx : ev E x = some (.int .i64 (p : Int))) (hy : ev E y = some (.int .i64 3)) (hb : p % 3 = b) : RunV n P E o w (.int .i64 (b : Int)) w := fun a hE => by
 subst hb
 have e : (p : Int).tmod 3 = ((p % 3 : Nat) : Int) := by rw [Int.tmod_eq_emod_of_nonneg (by omega)]; omega
 simp [execOp, ho, hE.ev hx, hE.ev hy, eqGuard, binOp, Op.intArith, Op.intDiv, e]
end
theorem fo_PA0 : fieldOff Tryz.prog 56 0 = some 0 := by kernel_rfl
theorem fo_PA1 : fieldOff Tryz.prog 56 1 = some 5 := by kernel_rfl
theorem fo_CO0 : fieldOff Tryz.prog 53 0 = some 0 := by kernel_rfl
theorem fo_CO1 : fieldOff Tryz.prog 53 1 = some 1 := by kernel_rfl
theorem fo_CO2 : fieldOff Tryz.prog 53 2 = some 2 := by kernel_rfl
theorem fo_CO3 : fieldOff Tryz.prog 53 3 = some 3 := by kernel_rfl
theorem fo_CO4 : fieldOff Tryz.prog 53 4 = some 4 := by kernel_rfl
theorem es_PA : elemSize Tryz.prog 25 = some 6 := by kernel_rfl
section
variable {n : Nat} {P : Program} {E : List (Nat × Value)} {w w' : World} {o : Oper} {v u : Value}
theorem r_ixN {T : TypeId} {x y : Operand} {m b len cap i : Nat} (ho : o.op = .indexAddr T x y) (hx : ev E x = some (.slice (some ⟨b, 0, none⟩) len cap)) (hi : ev E y = some (.int .i64 (i : Int))) (h1 : i < len) (hT : elemSize P T = some m) :
  RunV n P E o w (.pointer (some ⟨b, i * m, none⟩)) w := by
 have := r_index (n := n) (P := P) (E := E) (w := w) ho hx hi (by omega) (by omega) hT
 simpa using this
theorem r_fieldE {T : TypeId} {x : Operand} {f k b c d : Nat} (ho : o.op = .fieldAddr T x f) (hx : ev E x = some (.pointer (some ⟨b, c, none⟩))) (hf : fieldOff P T f = some k) (e : c + k = d) : RunV n P E o w (.pointer (some ⟨b, d, none⟩)) w := e ▸ r_field ho hx hf
end
theorem mixP_fin {k : Nat} {l : List Part} {i : Nat} {q : List D} (h : q = markP (k + cntPs l i) (nth l i)) : (mixP k l i).set i q = mixP k l (i + 1) := by rw [h, mixP_succ]
theorem set_again {α : Type} {l : List α} {i : Nat} {r x : α} (h : l[i]? = some r) : (l.set i x)[i]? = some x := List.getElem?_set_self (List.getElem?_eq_some_iff.1 h).1
set_option maxHeartbeats 4000000 in
theorem m_PartX (l : List Part) (k : Nat) (w : World) (B g cap : Nat) (us : Nat → Value) (ow : Nat → Option Nat) (h : GS B w g (l.map Enc.cells).flatten us ow) (ho : ∀ i d, (l.map Enc.cells).flatten[i]? = some d → leafD d = true → ow i = none) (hk : k + cntPs l l.length ≤ 1152921504606846970) (hl : l.length ≤ 1048576) :
  Calls Tryz.prog 30 #[.slice (some ⟨g, 0, none⟩) l.length cap, .int .i64 (k : Int)] w fun e w' => e = .returned (.int .i64 ((k + cntPs l l.length : Nat) : Int)) ∧ Alt (fun p => p.block = g ∨ ∃ i, i < l.length * 6 ∧ ow i = some p.block) w w' ∧ ∃ us', GS B w' g (mixP k l l.length).flatten us' ow := by
 refine calls_CW (E := [(0, .slice (some ⟨g, 0, none⟩) l.length cap), (1, .int .i64 (k : Int))]) Tryz.func30 rfl Tryz.ntmps30 (by simp) (by simp) ?_
 refine CW.seq (CW.region ?_)
 refine WL.vv rfl rfl (r_assign rfl rfl) (by decide) ?_
 refine WL.nil (NX.next ?_)
 refine CW.seq (CW.seq (CW.region ?_))
 refine WL.vv rfl rfl (r_assign rfl rfl) (by decide) ?_
 refine WL.nil (NX.next ?_)
 refine CW.sub (E' := [(0, .slice (some ⟨g, 0, none⟩) l.length cap), (1, .int .i64 ((k + cntPs l 0 : Nat) : Int)), (5, .int .i64 ((0 : Nat) : Int))]) ⟨rfl, rfl, rfl, trivial⟩ ?_
 refine CW.block (CW.loop (fun m E' w' => ∃ (i K : Nat) (us' : Nat → Value), m + i = l.length ∧ K = k + cntPs l i ∧ E' = [(0, .slice (some ⟨g, 0, none⟩) l.length cap), (1, .int .i64 (K : Int)), (5, .int .i64 (i : Int))] ∧ Alt (fun p => p.block = g ∨ ∃ i, i < l.length * 6 ∧ ow i = some p.block) w w' ∧ GS B w' g (mixP k l i).flatten us' ow) l.length ⟨0, k + cntPs l 0, us, by omega, rfl, rfl, Alt.refl _ _, by rw [mixP_zero]; exact h⟩ ?_)
 rintro m E' wr ⟨i, K, ur, hm, hK, rfl, hA, hG⟩
 refine CW.seq (CW.seq (CW.region ?_))
 refine WL.vv rfl rfl (r_move rfl rfl) (by decide) ?_
 refine WL.vv rfl rfl (r_move rfl rfl) (by decide) ?_
 refine WL.vv rfl rfl (r_len rfl rfl rfl rfl Tryz.underlying25 rfl) (by decide) ?_
 rcases Nat.eq_zero_or_pos m with hm0 | hm0
 ·subst hm0
  obtain rfl : i = l.length := by omega
  refine WL.vv rfl rfl (r_cmpB (b := false) rfl rfl rfl rfl (by simp [cmpI])) (by decide) ?_
  refine WL.nil (NX.next (CW.no rfl (CW.exit (NX.exi (NX.exi (NX.exiB (NX.next ?_)))))))
  refine CW.seq (CW.region ?_)
  refine WL.vv rfl rfl (r_move rfl rfl) (by decide) ?_
  refine WL.vv rfl rfl (r_assign rfl rfl) (by decide) ?_
  refine WL.nil (NX.next (CW.ret ?_))
  exact NX.bodyT rfl rfl ⟨by rw [hK], hA, ur, hG⟩
 obtain ⟨m', rfl⟩ : ∃ m', m = m' + 1 := ⟨m - 1, by omega⟩
 have hi : i < l.length := by omega
 have hkb : K + cntP (nth l i) ≤ 1152921504606846970 := by
  have h1 : cntPs l (i + 1) ≤ cntPs l l.length := cntPs_mono (by omega)
  have h2 : cntPs l (i + 1) = cntPs l i + cntP (nth l i) := rfl
  omega
 have hcp : cntP (nth l i) = 4 + 2 * (nth l i).core.cells.length + 2 * (nth l i).layers.length := rfl
 have hr0 := mixP_row (k := k) hi
 have hn0 := mixP_six k l i
 have hmr : (l.map (Enc.cells (α := Part)))[i]? = some (Enc.cells (nth l i)) := by have := mixP_row (k := k) (l := l) (i := i) hi; rw [← get_map l (k := i) hi]
 have hsx : ∀ r ∈ l.map (Enc.cells (α := Part)), r.length = 6 := fun r hr => by obtain ⟨p, _, rfl⟩ := List.mem_map.1 hr; rfl
 have lf : ∀ {j : Nat} {d : D}, (Enc.cells (nth l i))[j]? = some d → leafD d = true → ow (i * 6 + j) = none := fun hj hd => ho _ _ (flt_at hsx hmr hj) hd
 have hbl : ∀ {j : Nat}, j < 6 → i * 6 + j < l.length * 6 := fun hj => by omega
 have hc1 : (i : Int) < (l.length : Int) := by omega
 refine WL.vv rfl rfl (r_cmpB (b := true) rfl rfl rfl rfl (by simp [cmpI]; omega)) (by decide) ?_
 refine WL.nil (NX.next (CW.yes rfl (CW.skip (NX.next ?_))))
 refine CW.seq (CW.block ?_)
 refine CW.seq (CW.region ?_)
 refine WL.vv rfl rfl (r_move rfl rfl) (by decide) ?_
 refine WL.vv rfl rfl (r_move rfl rfl) (by decide) ?_
 refine WL.vv rfl rfl (r_move rfl rfl) (by decide) ?_
 refine WL.c rfl rfl (r_call (args := #[.int .i64 (K : Int)]) (by kernel_rfl) rfl rfl rfl) (by decide) (w_markText K (by omega) wr) ?_
 rintro _ w1 ⟨rfl, hsz, hb1⟩
 refine ⟨_, rfl, ?_⟩
 have hA1 := hA.trans (Alt.below hb1)
 have hG1 := below_setR hG hb1
 clear hA hG
 obtain ⟨c2, f2, a2, n2, G2⟩ := hG1.putS hn0 (j := 0) (mkT K) hr0 rfl (lf rfl rfl) hsz
 refine WL.vv rfl rfl (r_ixN rfl rfl rfl hi es_PA) (by decide) ?_
 refine WL.vv rfl rfl (r_fieldE rfl rfl fo_PA0 rfl) (by decide) ?_
 refine WL.vv rfl rfl (r_fieldE (d := i * 6 + 0) rfl rfl fo_CO0 rfl) (by decide) ?_
 refine WL.s rfl rfl (r_store rfl rfl rfl (by kernel_rfl) rfl c2 f2) ?_
 refine WL.nil (NX.next ?_)
 have hA2 := hA1.trans (a2.mono fun p _ hp => .inl hp)
 have r2 := set_again (x := (Enc.cells (nth l i)).set 0 (.str (mkT K))) hr0
 clear hA1 hG1 c2 f2 a2
 generalize w1.setCell ⟨g, i * 6 + 0, none⟩ (.string (mkT K)) = w2 at G2 hA2 ⊢
 have kp : ∀ {q : Nat} {z : Int}, q < 1152921504606846970 → z = ((q + 1 : Nat) : Int) → arI .add .i64 (q : Int) 1 = z := fun hq hz => by rw [ar_add (by omega) (by omega)]; omega
 refine CW.sub (E' := [(0, .slice (some ⟨g, 0, none⟩) l.length cap), (1, .int .i64 (K : Int)), (5, .int .i64 (i : Int))]) ⟨rfl, rfl, rfl, trivial⟩ ?_
 refine CW.seq (CW.region ?_)
 refine WL.vv rfl rfl (r_move rfl rfl) (by decide) ?_
 refine WL.vv rfl rfl (r_arB (r := ((K + 1 : Nat) : Int)) rfl rfl rfl rfl (kp (by omega) rfl)) (by decide) ?_
 refine WL.vv rfl rfl (r_assign rfl rfl) (by decide) ?_
 refine WL.nil (NX.next ?_)
 refine CW.sub (E' := [(0, .slice (some ⟨g, 0, none⟩) l.length cap), (1, .int .i64 ((K + 1 : Nat) : Int)), (5, .int .i64 (i : Int))]) ⟨rfl, rfl, rfl, trivial⟩ ?_
 have cb : ∀ q : Nat, cmpI .eql ((q % 3 : Nat) : Int) 0 = decide (q % 3 = 0) := fun q => by
  by_cases h : q % 3 = 0
  ·rw [h]; rfl
  ·have h2 : ((q % 3 : Nat) : Int) ≠ 0 := by omega
   simp only [cmpI, h, decide_false]
   simpa using h2
 refine CW.seq (CW.region ?_)
 refine WL.vv rfl rfl (r_move rfl rfl) (by decide) ?_
 refine WL.vv rfl rfl (r_move rfl rfl) (by decide) ?_
 refine WL.vv rfl rfl (r_move rfl rfl) (by decide) ?_
 refine WL.vv rfl rfl (r_rem rfl rfl rfl rfl) (by decide) ?_
 refine WL.vv rfl rfl (r_cmpB rfl rfl rfl rfl (cb (K + 1))) (by decide) ?_
 obtain ⟨c3, f3, a3, n3, G3⟩ := G2.putB n2 (j := 1) (decide ((K + 1) % 3 = 0)) r2 rfl (lf rfl rfl)
 refine WL.vv rfl rfl (r_ixN rfl rfl rfl hi es_PA) (by decide) ?_
 refine WL.vv rfl rfl (r_fieldE rfl rfl fo_PA0 rfl) (by decide) ?_
 refine WL.vv rfl rfl (r_fieldE (d := i * 6 + 1) rfl rfl fo_CO1 rfl) (by decide) ?_
 refine WL.s rfl rfl (r_store rfl rfl rfl (by kernel_rfl) rfl c3 f3) ?_
 refine WL.nil (NX.next ?_)
 have hA3 := hA2.trans (a3.mono fun p _ hp => .inl hp)
 have r3 := set_again (x := ((Enc.cells (nth l i)).set 0 (.str (mkT K))).set 1 (.bool (decide ((K + 1) % 3 = 0)))) r2
 clear hA2 G2 c3 f3 a3
 generalize w2.setCell ⟨g, i * 6 + 1, none⟩ (.bool (decide ((K + 1) % 3 = 0))) = w3 at G3 hA3 ⊢
 refine CW.sub (E' := [(0, .slice (some ⟨g, 0, none⟩) l.length cap), (1, .int .i64 ((K + 1 : Nat) : Int)), (5, .int .i64 (i : Int))]) ⟨rfl, rfl, rfl, trivial⟩ ?_
 refine CW.seq (CW.region ?_)
 refine WL.vv rfl rfl (r_move rfl rfl) (by decide) ?_
 refine WL.vv rfl rfl (r_arB (r := ((K + 1 + 1 : Nat) : Int)) rfl rfl rfl rfl (kp (by omega) rfl)) (by decide) ?_
 refine WL.vv rfl rfl (r_assign rfl rfl) (by decide) ?_
 refine WL.nil (NX.next ?_)
 refine CW.sub (E' := [(0, .slice (some ⟨g, 0, none⟩) l.length cap), (1, .int .i64 ((K + 1 + 1 : Nat) : Int)), (5, .int .i64 (i : Int))]) ⟨rfl, rfl, rfl, trivial⟩ ?_
 refine CW.seq (CW.region ?_)
 refine WL.vv rfl rfl (r_move rfl rfl) (by decide) ?_
 refine WL.vv rfl rfl (r_move rfl rfl) (by decide) ?_
 refine WL.vv rfl rfl (r_move rfl rfl) (by decide) ?_
 refine WL.vv rfl rfl (r_rem rfl rfl rfl rfl) (by decide) ?_
 refine WL.vv rfl rfl (r_cmpB rfl rfl rfl rfl (cb (K + 1 + 1))) (by decide) ?_
 obtain ⟨c4, f4, a4, n4, G4⟩ := G3.putB n3 (j := 2) (decide ((K + 1 + 1) % 3 = 0)) r3 rfl (lf rfl rfl)
 refine WL.vv rfl rfl (r_ixN rfl rfl rfl hi es_PA) (by decide) ?_
 refine WL.vv rfl rfl (r_fieldE rfl rfl fo_PA0 rfl) (by decide) ?_
 refine WL.vv rfl rfl (r_fieldE (d := i * 6 + 2) rfl rfl fo_CO2 rfl) (by decide) ?_
 refine WL.s rfl rfl (r_store rfl rfl rfl (by kernel_rfl) rfl c4 f4) ?_
 refine WL.nil (NX.next ?_)
 have hA4 := hA3.trans (a4.mono fun p _ hp => .inl hp)
 have r4 := set_again (x := (((Enc.cells (nth l i)).set 0 (.str (mkT K))).set 1 (.bool (decide ((K + 1) % 3 = 0)))).set 2 (.bool (decide ((K + 1 + 1) % 3 = 0)))) r3
 clear hA3 G3 c4 f4 a4
 generalize w3.setCell ⟨g, i * 6 + 2, none⟩ (.bool (decide ((K + 1 + 1) % 3 = 0))) = w4 at G4 hA4 ⊢
 refine CW.sub (E' := [(0, .slice (some ⟨g, 0, none⟩) l.length cap), (1, .int .i64 ((K + 1 + 1 : Nat) : Int)), (5, .int .i64 (i : Int))]) ⟨rfl, rfl, rfl, trivial⟩ ?_
 refine CW.seq (CW.region ?_)
 refine WL.vv rfl rfl (r_move rfl rfl) (by decide) ?_
 refine WL.vv rfl rfl (r_arB (r := ((K + 1 + 1 + 1 : Nat) : Int)) rfl rfl rfl rfl (kp (by omega) rfl)) (by decide) ?_
 refine WL.vv rfl rfl (r_assign rfl rfl) (by decide) ?_
 refine WL.nil (NX.next ?_)
 refine CW.sub (E' := [(0, .slice (some ⟨g, 0, none⟩) l.length cap), (1, .int .i64 ((K + 1 + 1 + 1 : Nat) : Int)), (5, .int .i64 (i : Int))]) ⟨rfl, rfl, rfl, trivial⟩ ?_
 have at3 := flt_at n4 r4 (j := 3) (d := .sl ((nth l i).core.cells.map Enc.cells)) rfl
 have ce3 := G4.r _ _ at3
 have cc3 := G4.c _ (List.getElem?_eq_some_iff.1 at3).1
 refine CW.seq (CW.region ?_)
 refine WL.vv rfl rfl (r_move rfl rfl) (by decide) ?_
 refine WL.vv rfl rfl (r_move rfl rfl) (by decide) ?_
 refine WL.vv rfl rfl (r_ixN rfl rfl rfl hi es_PA) (by decide) ?_
 refine WL.vv rfl rfl (r_fieldE rfl rfl fo_PA0 rfl) (by decide) ?_
 refine WL.vv rfl rfl (r_fieldE (d := i * 6 + 3) rfl rfl fo_CO3 rfl) (by decide) ?_
 refine WL.vv rfl rfl (r_load rfl rfl Tryz.underlying51 rfl cc3) (by decide) ?_
 refine WL.vv rfl rfl (r_move rfl rfl) (by decide) ?_
 refine WL.c rfl rfl (r_call (args := #[_, .int .i64 ((K + 1 + 1 + 1 : Nat) : Int)]) (by kernel_rfl) rfl rfl rfl) (by decide) (ce3.mark (Z := fun e => e = .returned (.int .i64 ((K + 1 + 1 + 1 + 2 * (nth l i).core.cells.length : Nat) : Int))) (d' := .sl (mCe (K + 1 + 1 + 1) (nth l i).core.cells (nth l i).core.cells.length)) fun M hr hf => m_CellS (nth l i).core.cells (K + 1 + 1 + 1) w4 M _ hr hf (by omega)) ?_
 rintro _ w5 ⟨rfl, a5, d5⟩
 refine ⟨_, rfl, ?_⟩
 refine WL.vv rfl rfl (r_assign rfl rfl) (by decide) ?_
 refine WL.nil (NX.next ?_)
 obtain ⟨n5, G5⟩ := G4.rowR n4 r4 (j := 3) rfl a5 (fun p hp => hp) d5
 have hA5 := hA4.trans (a5.mono fun p _ hp => .inr ⟨i * 6 + 3, hbl (by omega), hp⟩)
 have r5 := set_again (x := ((((Enc.cells (nth l i)).set 0 (.str (mkT K))).set 1 (.bool (decide ((K + 1) % 3 = 0)))).set 2 (.bool (decide ((K + 1 + 1) % 3 = 0)))).set 3 (.sl (mCe (K + 1 + 1 + 1) (nth l i).core.cells (nth l i).core.cells.length))) r4
 clear hA4 G4 a5 d5 ce3 cc3 at3
 refine CW.sub (E' := [(0, .slice (some ⟨g, 0, none⟩) l.length cap), (1, .int .i64 ((K + 1 + 1 + 1 + 2 * (nth l i).core.cells.length : Nat) : Int)), (5, .int .i64 (i : Int))]) ⟨rfl, rfl, rfl, trivial⟩ ?_
 obtain ⟨c6, f6, a6, n6, G6⟩ := G5.putI n5 (j := 4) ((K + 1 + 1 + 1 + 2 * (nth l i).core.cells.length : Nat) : Int) r5 rfl (lf rfl rfl) (by omega) (by omega)
 refine CW.seq (CW.region ?_)
 refine WL.vv rfl rfl (r_move rfl rfl) (by decide) ?_
 refine WL.vv rfl rfl (r_move rfl rfl) (by decide) ?_
 refine WL.vv rfl rfl (r_move rfl rfl) (by decide) ?_
 refine WL.vv rfl rfl (r_ixN rfl rfl rfl hi es_PA) (by decide) ?_
 refine WL.vv rfl rfl (r_fieldE rfl rfl fo_PA0 rfl) (by decide) ?_
 refine WL.vv rfl rfl (r_fieldE (d := i * 6 + 4) rfl rfl fo_CO4 rfl) (by decide) ?_
 refine WL.s rfl rfl (r_store rfl rfl rfl (by kernel_rfl) rfl c6 f6) ?_
 refine WL.nil (NX.next ?_)
 have hA6 := hA5.trans (a6.mono fun p _ hp => .inl hp)
 have r6 := set_again (x := (((((Enc.cells (nth l i)).set 0 (.str (mkT K))).set 1 (.bool (decide ((K + 1) % 3 = 0)))).set 2 (.bool (decide ((K + 1 + 1) % 3 = 0)))).set 3 (.sl (mCe (K + 1 + 1 + 1) (nth l i).core.cells (nth l i).core.cells.length))).set 4 (.int .i64 ((K + 1 + 1 + 1 + 2 * (nth l i).core.cells.length : Nat) : Int))) r5
 clear hA5 G5 c6 f6 a6
 generalize w5.setCell ⟨g, i * 6 + 4, none⟩ (.int .i64 ((K + 1 + 1 + 1 + 2 * (nth l i).core.cells.length : Nat) : Int)) = w6 at G6 hA6 ⊢
 refine CW.sub (E' := [(0, .slice (some ⟨g, 0, none⟩) l.length cap), (1, .int .i64 ((K + 1 + 1 + 1 + 2 * (nth l i).core.cells.length : Nat) : Int)), (5, .int .i64 (i : Int))]) ⟨rfl, rfl, rfl, trivial⟩ ?_
 refine CW.seq (CW.region ?_)
 refine WL.vv rfl rfl (r_move rfl rfl) (by decide) ?_
 refine WL.vv rfl rfl (r_arB (r := ((K + 1 + 1 + 1 + 2 * (nth l i).core.cells.length + 1 : Nat) : Int)) rfl rfl rfl rfl (kp (by omega) rfl)) (by decide) ?_
 refine WL.vv rfl rfl (r_assign rfl rfl) (by decide) ?_
 refine WL.nil (NX.next ?_)
 refine CW.sub (E' := [(0, .slice (some ⟨g, 0, none⟩) l.length cap), (1, .int .i64 ((K + 1 + 1 + 1 + 2 * (nth l i).core.cells.length + 1 : Nat) : Int)), (5, .int .i64 (i : Int))]) ⟨rfl, rfl, rfl, trivial⟩ ?_
 have at5 := flt_at n6 r6 (j := 5) (d := .sl ((nth l i).layers.map Enc.cells)) rfl
 have ce5 := G6.r _ _ at5
 have cc5 := G6.c _ (List.getElem?_eq_some_iff.1 at5).1
 refine CW.region ?_
 refine WL.vv rfl rfl (r_move rfl rfl) (by decide) ?_
 refine WL.vv rfl rfl (r_move rfl rfl) (by decide) ?_
 refine WL.vv rfl rfl (r_ixN rfl rfl rfl hi es_PA) (by decide) ?_
 refine WL.vv rfl rfl (r_fieldE (d := i * 6 + 5) rfl rfl fo_PA1 rfl) (by decide) ?_
 refine WL.vv rfl rfl (r_load rfl rfl Tryz.underlying54 rfl cc5) (by decide) ?_
 refine WL.vv rfl rfl (r_move rfl rfl) (by decide) ?_
 refine WL.c rfl rfl (r_call (args := #[_, .int .i64 ((K + 1 + 1 + 1 + 2 * (nth l i).core.cells.length + 1 : Nat) : Int)]) (by kernel_rfl) rfl rfl rfl) (by decide) (ce5.mark (Z := fun e => e = .returned (.int .i64 ((K + 1 + 1 + 1 + 2 * (nth l i).core.cells.length + 1 + 2 * (nth l i).layers.length : Nat) : Int))) (d' := .sl (mLy (K + 1 + 1 + 1 + 2 * (nth l i).core.cells.length + 1) (nth l i).layers (nth l i).layers.length)) fun M hr hf => m_LayerS (nth l i).layers (K + 1 + 1 + 1 + 2 * (nth l i).core.cells.length + 1) w6 M _ hr hf (by omega)) ?_
 rintro _ w7 ⟨rfl, a7, d7⟩
 refine ⟨_, rfl, ?_⟩
 refine WL.vv rfl rfl (r_assign rfl rfl) (by decide) ?_
 refine WL.nil (NX.norB (NX.next ?_))
 obtain ⟨n7, G7⟩ := G6.rowR n6 r6 (j := 5) rfl a7 (fun p hp => hp) d7
 have hA7 := hA6.trans (a7.mono fun p _ hp => .inr ⟨i * 6 + 5, hbl (by omega), hp⟩)
 simp only [List.set_set] at G7
 have e7 := mixP_fin (k := k) (l := l) (i := i) (q := (((((Enc.cells (nth l i)).set 0 (.str (mkT K))).set 1 (.bool (decide ((K + 1) % 3 = 0)))).set 2 (.bool (decide ((K + 1 + 1) % 3 = 0)))).set 3 (.sl (mCe (K + 1 + 1 + 1) (nth l i).core.cells (nth l i).core.cells.length)) |>.set 4 (.int .i64 ((K + 1 + 1 + 1 + 2 * (nth l i).core.cells.length : Nat) : Int))).set 5 (.sl (mLy (K + 1 + 1 + 1 + 2 * (nth l i).core.cells.length + 1) (nth l i).layers (nth l i).layers.length))) (by subst hK; rfl)
 rw [e7] at G7
 refine CW.sub (E' := [(0, .slice (some ⟨g, 0, none⟩) l.length cap), (1, .int .i64 ((K + 1 + 1 + 1 + 2 * (nth l i).core.cells.length + 1 + 2 * (nth l i).layers.length : Nat) : Int)), (5, .int .i64 (i : Int))]) ⟨rfl, rfl, rfl, trivial⟩ ?_
 refine CW.region ?_
 refine WL.vv rfl rfl (r_move rfl rfl) (by decide) ?_
 refine WL.vv rfl rfl (r_arB (r := ((i + 1 : Nat) : Int)) rfl rfl rfl rfl (kp (by omega) rfl)) (by decide) ?_
 refine WL.vv rfl rfl (r_assign rfl rfl) (by decide) ?_
 exact WL.nil (NX.again m' [(0, .slice (some ⟨g, 0, none⟩) l.length cap), (1, .int .i64 ((K + 1 + 1 + 1 + 2 * (nth l i).core.cells.length + 1 + 2 * (nth l i).layers.length : Nat) : Int)), (5, .int .i64 ((i + 1 : Nat) : Int))] (by omega) ⟨rfl, rfl, rfl, trivial⟩ ⟨i + 1, _, _, by omega, by
  have h2 : cntPs l (i + 1) = cntPs l i + cntP (nth l i) := rfl
  omega, rfl, hA7, G7⟩)
end Go.Proofs.YtimickglpboilaaGreat
/- Marks of a host whose entries and parts lie in memory of their own: written, and looked for. -/
namespace Go.Proofs.YtimickglpboilaaGreat
open Go.RowKit Go
/-! Parts: a bound on where their rows lie -/
def OGH (B hi : Nat) (T : TypeId) (m : Nat) (w : World) (rows : List (List D)) (v : Value) : Prop :=
 (∀ r ∈ rows, r.length = m) ∧ hi ≤ w.heap.size ∧ ∃ xs ow, w.ownsRow B T m v rows.length xs ∧ GR B w v.ownBlock rows.flatten xs ow ∧ (∀ g, v.ownBlock = some g → g < hi) ∧ ∀ i x, i < rows.flatten.length → ow i = some x → x < hi
section
variable {B hi T m : Nat} {w w' : World} {rows : List (List D)} {v : Value}
theorem OG6.fix (h : OG6 B T m w rows v) : OGH B w.heap.size T m w rows v := by
 obtain ⟨hn, xs, ow, h1, h2⟩ := h
 exact ⟨hn, Nat.le_refl _, xs, ow, h1, h2, fun g hg => (h1.lt g hg).2, fun i x hi e => (h2.le hi e).2⟩
theorem OGH.six (h : OGH B hi T m w rows v) : OG6 B T m w rows v := by
 obtain ⟨hn, _, xs, ow, h1, h2, _⟩ := h
 exact ⟨hn, xs, ow, h1, h2⟩
theorem OGH.blk (h : OGH B hi T m w rows v) (hs : w.heap.size ≤ w'.heap.size) (hk : ∀ k, B ≤ k → k < hi → w'.heap[k]? = w.heap[k]?) : OGH B hi T m w' rows v := by
 obtain ⟨hn, hle, xs, ow, h1, h2, h3, h4⟩ := h
 refine ⟨hn, Nat.le_trans hle hs, xs, ow, ?_, ⟨h2.xl, fun i d u hd hu => (h2.ce i d u hd hu).blk hs fun x e hx => hk x ((h2.ce i d u hd hu).le e).1 (h4 i x (List.getElem?_eq_some_iff.1 hd).1 e), h2.ne, h2.ap⟩, h3, h4⟩
 obtain ⟨h0, h | ⟨g', cap, cur, q1, q2, q3, q4⟩⟩ := h1
 ·exact ⟨h0, .inl h⟩
 ·exact ⟨h0, .inr ⟨g', cap, cur, q1, q2, by rw [hk g' q2 (h3 g' (by rw [q1]; rfl))]; exact q3, q4⟩⟩
theorem OGH.below (h : OGH B hi T m w rows v) (hb : Below w.heap.size w w') : OGH B hi T m w' rows v := h.blk hb.size fun k _ hk => hb.block k (Nat.lt_of_lt_of_le hk h.2.1)
theorem OGH.alt {A : Addr → Prop} (h : OGH B hi T m w rows v) (ha : Alt A w w') (hA : ∀ p, A p → ¬ (B ≤ p.block ∧ p.block < hi)) : OGH B hi T m w' rows v := h.blk ha.size fun k hB hk => ha.blk k (Nat.lt_of_lt_of_le hk h.2.1) fun p hp hq => hA p hq (by rw [hp]; exact ⟨hB, hk⟩)
theorem GS.norm {g : Nat} {ds : List D} {us : Nat → Value} {ow : Nat → Option Nat} (h : GS B w g ds us ow) : GS B w g ds us (fun i => if leafD (ds.getD i .un) then none else ow i) := by
 refine ⟨h.lt, h.c, fun i d hd => ?_, h.fr, fun i x hi e => ?_, fun i j x hi hj hne e => ?_⟩
 ·have := h.r i d hd
  by_cases hl : leafD d = true
  ·simp only [List.getD_eq_getElem?_getD, hd, Option.getD_some, hl, if_true]
   exact CellIn.leaf hl this.read
  ·simp only [List.getD_eq_getElem?_getD, hd, Option.getD_some, hl, if_false]
   exact this
 ·have e : (if leafD (ds.getD i .un) then none else ow i) = some x := e
  split at e
  ·cases e
  ·exact h.ne i x hi e
 ·have e : (if leafD (ds.getD i .un) then none else ow i) = some x := e
  show (if leafD (ds.getD j .un) then none else ow j) ≠ some x
  split at e
  ·cases e
  ·split
   ·simp
   ·exact h.ap i j x hi hj hne e
theorem OGH.sep (h : OGH B hi T m w rows v) : (v = .slice none 0 0 ∧ rows = []) ∨ ∃ g cap us ow, v = .slice (some ⟨g, 0, none⟩) rows.length cap ∧ rows.length ≤ cap ∧ cap ≤ maxLen ∧ g < hi ∧ GS B w g rows.flatten us ow ∧ (∀ i d, rows.flatten[i]? = some d → leafD d = true → ow i = none) ∧ ∀ i x, i < rows.flatten.length → ow i = some x → B ≤ x ∧ x < hi := by
 obtain ⟨hn, _, xs, ow, ⟨q0, ⟨rfl, hz⟩ | ⟨g, cap, cur, rfl, q2, q3, q4, q5, q6, q7⟩⟩, hG, h3, h4⟩ := h
 ·exact .inl ⟨rfl, List.eq_nil_of_length_eq_zero hz⟩
 ·have hS : GS B w g rows.flatten (fun i => xs.getD i undef) ow := by
   refine ⟨⟨q2, (Array.getElem?_eq_some_iff.1 q3).1⟩, fun i hi => ?_, fun i d hd => ?_, fun x y => ?_, fun i x hi e => ?_, hG.ap⟩
   ·rw [← hG.xl] at hi
    obtain ⟨u, hx⟩ : ∃ u, xs[i]? = some u := ⟨_, List.getElem?_eq_getElem hi⟩
    simp only [List.getD_eq_getElem?_getD, hx, Option.getD_some]
    have hx2 := hx
    rw [← q7, List.getElem?_take] at hx2
    split at hx2
    ·unfold World.cell?
     simp only [q3]
     simpa using hx2
    ·cases hx2
   ·have hi := (List.getElem?_eq_some_iff.1 hd).1
    rw [← hG.xl] at hi
    obtain ⟨u, hx⟩ : ∃ u, xs[i]? = some u := ⟨_, List.getElem?_eq_getElem hi⟩
    have := hG.ce i d _ hd hx
    simp only [List.getD_eq_getElem?_getD, hx, Option.getD_some]
    exact this
   ·unfold World.frozen?; rw [q3]; simp
   ·exact fun e2 => hG.ne i x hi e (by rw [e2]; rfl)
  refine .inr ⟨g, cap, _, _, rfl, q4, q5, h3 g rfl, hS.norm, fun i d hd hl => ?_, fun i x hi e => ?_⟩
  ·simp only [List.getD_eq_getElem?_getD, hd, Option.getD_some, hl, if_true]
  ·have e : (if leafD (rows.flatten.getD i .un) then none else ow i) = some x := e
   split at e
   ·cases e
   ·exact ⟨(hG.le hi e).1, h4 i x hi e⟩
end
theorem sl_nil {w : World} {M : Addr → Prop} : R w M (.sl []) (.slice none 0 0) := ⟨none, 0, 0, rfl, rfl, Nat.le_refl _, Nat.zero_le _, fun _ => rfl, fun b o s h => by cases h⟩
/-! Nothing is marked -/
theorem nil_markPartS (k : Nat) (w : World) : Calls Tryz.prog 30 #[.slice none 0 0, .int .i64 (k : Int)] w fun e w' => e = .returned (.int .i64 (k : Int)) ∧ w' = w := by
 refine calls_CW (E := [(0, .slice none 0 0), (1, .int .i64 (k : Int))]) Tryz.func30 rfl Tryz.ntmps30 (by simp) (by simp) ?_
 refine CW.seq (CW.region ?_)
 refine WL.vv rfl rfl (r_assign rfl rfl) (by decide) ?_
 refine WL.nil (NX.next ?_)
 refine CW.seq (CW.seq (CW.region ?_))
 refine WL.vv rfl rfl (r_assign rfl rfl) (by decide) ?_
 refine WL.nil (NX.next ?_)
 refine CW.sub (E' := [(0, .slice none 0 0), (1, .int .i64 (k : Int)), (5, .int .i64 0)]) ⟨rfl, rfl, rfl, trivial⟩ ?_
 refine CW.block (CW.loop (fun m E' w' => E' = [(0, .slice none 0 0), (1, .int .i64 (k : Int)), (5, .int .i64 0)] ∧ w' = w) 0 ⟨rfl, rfl⟩ ?_)
 rintro m E' wr ⟨rfl, rfl⟩
 refine CW.seq (CW.seq (CW.region ?_))
 refine WL.vv rfl rfl (r_move rfl rfl) (by decide) ?_
 refine WL.vv rfl rfl (r_move rfl rfl) (by decide) ?_
 refine WL.vv rfl rfl (r_len rfl rfl rfl rfl Tryz.underlying25 rfl) (by decide) ?_
 refine WL.vv rfl rfl (r_cmpB (b := false) rfl rfl rfl rfl (by simp [cmpI])) (by decide) ?_
 refine WL.nil (NX.next (CW.no rfl (CW.exit (NX.exi (NX.exi (NX.exiB (NX.next ?_)))))))
 refine CW.seq (CW.region ?_)
 refine WL.vv rfl rfl (r_move rfl rfl) (by decide) ?_
 refine WL.vv rfl rfl (r_assign rfl rfl) (by decide) ?_
 refine WL.nil (NX.next (CW.ret ?_))
 exact NX.bodyT rfl rfl ⟨rfl, rfl⟩
theorem nil_markEventS (k : Nat) (w : World) : Calls Tryz.prog 31 #[.slice none 0 0, .int .i64 (k : Int)] w fun e w' => e = .returned (.int .i64 (k : Int)) ∧ w' = w := by
 refine calls_CW (E := [(0, .slice none 0 0), (1, .int .i64 (k : Int))]) Tryz.func31 rfl Tryz.ntmps31 (by simp) (by simp) ?_
 refine CW.seq (CW.region ?_)
 refine WL.vv rfl rfl (r_assign rfl rfl) (by decide) ?_
 refine WL.nil (NX.next ?_)
 refine CW.seq (CW.seq (CW.region ?_))
 refine WL.vv rfl rfl (r_assign rfl rfl) (by decide) ?_
 refine WL.nil (NX.next ?_)
 refine CW.sub (E' := [(0, .slice none 0 0), (1, .int .i64 (k : Int)), (5, .int .i64 0)]) ⟨rfl, rfl, rfl, trivial⟩ ?_
 refine CW.block (CW.loop (fun m E' w' => E' = [(0, .slice none 0 0), (1, .int .i64 (k : Int)), (5, .int .i64 0)] ∧ w' = w) 0 ⟨rfl, rfl⟩ ?_)
 rintro m E' wr ⟨rfl, rfl⟩
 refine CW.seq (CW.seq (CW.region ?_))
 refine WL.vv rfl rfl (r_move rfl rfl) (by decide) ?_
 refine WL.vv rfl rfl (r_move rfl rfl) (by decide) ?_
 refine WL.vv rfl rfl (r_len rfl rfl rfl rfl Tryz.underlying27 rfl) (by decide) ?_
 refine WL.vv rfl rfl (r_cmpB (b := false) rfl rfl rfl rfl (by simp [cmpI])) (by decide) ?_
 refine WL.nil (NX.next (CW.no rfl (CW.exit (NX.exi (NX.exi (NX.exiB (NX.next ?_)))))))
 refine CW.seq (CW.region ?_)
 refine WL.vv rfl rfl (r_move rfl rfl) (by decide) ?_
 refine WL.vv rfl rfl (r_assign rfl rfl) (by decide) ?_
 refine WL.nil (NX.next (CW.ret ?_))
 exact NX.bodyT rfl rfl ⟨rfl, rfl⟩
theorem OGH.mark {B hi : Nat} {T : TypeId} {w : World} {l : List Part} {v : Value} (h : OGH B hi T 6 w (l.map Enc.cells) v) (k : Nat) (hk : k + cntPs l l.length ≤ 1152921504606846970) (hl : l.length ≤ 1048576) :
  Calls Tryz.prog 30 #[v, .int .i64 (k : Int)] w fun e w' => e = .returned (.int .i64 ((k + cntPs l l.length : Nat) : Int)) ∧ Alt (fun p => B ≤ p.block ∧ p.block < hi) w w' ∧ R w' (fun _ => False) (.sl (mixP k l l.length)) v := by
 rcases h.sep with ⟨rfl, hz⟩ | ⟨g, cap, us, ow, rfl, h1, h2, h3, h4, h5, h6⟩
 ·have : l = [] := by simpa using hz
  subst this
  refine (nil_markPartS k w).mono ?_
  rintro e w' ⟨rfl, rfl⟩
  exact ⟨rfl, Alt.refl _ _, sl_nil⟩
 ·rw [List.length_map] at h1
  rw [List.length_map]
  refine (m_PartX l k w B g cap us ow h4 h5 hk hl).mono ?_
  rintro e w' ⟨rfl, ha, us', hS⟩
  refine ⟨rfl, ha.mono fun p _ hp => ?_, ?_⟩
  ·rcases hp with hp | ⟨i, hi, hp⟩
   ·rw [hp]; exact ⟨h4.lt.1, h3⟩
   ·exact h6 i _ (by rw [flt_len (m := 6) h.1, List.length_map]; exact hi) hp
  ·have := hS.read (cap := cap) (mixP_six k l l.length) (by rw [mixP_len]; exact h1) h2
   rw [mixP_len] at this
   exact this
/-! Entries: a bound on where their rows lie -/
def OwnB (lo hi : Nat) (T : TypeId) (w : World) (l : List Entry) (v : Value) : Prop :=
 hi ≤ w.heap.size ∧ ∃ xs u1 u4 ro no, w.ownsRow lo T 5 v l.length xs ∧ Rows lo w v.ownBlock l.length l xs u1 u4 ro no ∧ (∀ g, v.ownBlock = some g → g < hi) ∧ (∀ a x, a < l.length → ro a = some x → x < hi) ∧ ∀ a x, a < l.length → no a = some x → x < hi
section
variable {lo hi T : Nat} {w w' : World} {l : List Entry} {v : Value}
theorem Own.fix (h : Own lo T w l v) : OwnB lo w.heap.size T w l v := by
 obtain ⟨xs, u1, u4, ro, no, h1, h2⟩ := h
 exact ⟨Nat.le_refl _, xs, u1, u4, ro, no, h1, h2, fun g hg => (h1.lt g hg).2, fun a x ha e => ((h2.r1 a ha).le e).2, fun a x ha e => ((h2.r4 a ha).le e).2⟩
theorem OwnB.own (h : OwnB lo hi T w l v) : Own lo T w l v := by
 obtain ⟨_, xs, u1, u4, ro, no, h1, h2, _⟩ := h
 exact ⟨xs, u1, u4, ro, no, h1, h2⟩
theorem RowIn.blk {B : Nat} {rows : List (List D)} {u : Value} {r : Option Nat} (h : RowIn B w rows u r) (hs : w.heap.size ≤ w'.heap.size) (hk : ∀ x, r = some x → w'.heap[x]? = w.heap[x]?) : RowIn B w' rows u r :=
 h.keep hs (fun p v hp e => by rw [World.cell?_of_block (hk _ e)]; exact hp) fun p hp e => fro_of_block (hk _ e)
theorem OwnB.blk (h : OwnB lo hi T w l v) (hs : w.heap.size ≤ w'.heap.size) (hk : ∀ k, lo ≤ k → k < hi → w'.heap[k]? = w.heap[k]?) : OwnB lo hi T w' l v := by
 obtain ⟨hle, xs, u1, u4, ro, no, h1, h2, h3, h4, h5⟩ := h
 refine ⟨Nat.le_trans hle hs, xs, u1, u4, ro, no, ?_, { h2 with r1 := fun a ha => (h2.r1 a ha).blk hs fun x e => hk x ((h2.r1 a ha).le e).1 (h4 a x ha e), r4 := fun a ha => (h2.r4 a ha).blk hs fun x e => hk x ((h2.r4 a ha).le e).1 (h5 a x ha e) }, h3, h4, h5⟩
 obtain ⟨h0, h | ⟨g', cap, cur, q1, q2, q3, q4⟩⟩ := h1
 ·exact ⟨h0, .inl h⟩
 ·exact ⟨h0, .inr ⟨g', cap, cur, q1, q2, by rw [hk g' q2 (h3 g' (by rw [q1]; rfl))]; exact q3, q4⟩⟩
theorem OwnB.below (h : OwnB lo hi T w l v) (hb : Below w.heap.size w w') : OwnB lo hi T w' l v := h.blk hb.size fun k _ hk => hb.block k (Nat.lt_of_lt_of_le hk h.1)
theorem OwnB.alt {A : Addr → Prop} (h : OwnB lo hi T w l v) (ha : Alt A w w') (hA : ∀ p, A p → ¬ (lo ≤ p.block ∧ p.block < hi)) : OwnB lo hi T w' l v := h.blk ha.size fun k hB hk => ha.blk k (Nat.lt_of_lt_of_le hk h.1) fun p hp hq => hA p hq (by rw [hp]; exact ⟨hB, hk⟩)
theorem OwnB.sep (h : OwnB lo hi T w l v) : (v = .slice none 0 0 ∧ l = []) ∨ ∃ g cap rb nb u1 u4, v = .slice (some ⟨g, 0, none⟩) l.length cap ∧ lo ≤ g ∧ g < hi ∧ g < w.heap.size ∧ l.length ≤ cap ∧ cap ≤ maxLen ∧ SepE w g 0 rb nb l u1 u4 ∧ ∀ a, a < l.length → (lo ≤ rb a ∧ (rb a < hi ∨ w.heap.size ≤ rb a)) ∧ lo ≤ nb a ∧ (nb a < hi ∨ w.heap.size ≤ nb a) := by
 obtain ⟨hle, xs, u1, u4, ro, no, ⟨q0, ⟨rfl, hn⟩ | ⟨g, cap, cur, rfl, q2, q3, q4, q5, q6, q7⟩⟩, h2, h3, h4, h5⟩ := h
 ·exact .inl ⟨rfl, List.eq_nil_of_length_eq_zero hn⟩
 ·have hp := Rows.pre (T := T) (g := g) (cap := cap) (cur := cur) (l := l) (xs := xs) h2 q2 q3 q7
  have hg := (Array.getElem?_eq_some_iff.1 q3).1
  refine .inr ⟨g, cap, _, _, u1, u4, rfl, q2, h3 g rfl, hg, q4, q5, hp.sep, fun a ha => ⟨?_, ?_⟩⟩
  ·cases e : ro a with
   | none => simp only [Option.getD_none]; omega
   | some x => simp only [Option.getD_some]; exact ⟨((h2.r1 a ha).le e).1, .inl (h4 a x ha e)⟩
  ·cases e : no a with
   | none => simp only [Option.getD_none]; omega
   | some x => simp only [Option.getD_some]; exact ⟨((h2.r4 a ha).le e).1, .inl (h5 a x ha e)⟩
end
theorem SepE.readM {w : World} {b o : Nat} {rb nb : Nat → Nat} {l : List Entry} {u1 u4 : Nat → Value} (h : SepE w b o rb nb l u1 u4) {cap : Nat} (h1 : l.length ≤ cap) (h2 : cap ≤ maxLen) {M : Addr → Prop} (hb : ∀ p, M p → p.block ≠ b) (hM : ∀ a, a < l.length → ∀ p, M p → p.block ≠ rb a ∧ p.block ≠ nb a) : R w M (encS l) (.slice (some ⟨b, o, none⟩) l.length cap) := by
 show R w _ (.sl (l.map Enc.cells)) _
 refine flat_of (ent_len l) (by simp) h1 h2 (fun _ => rfl) fun i j r d hi hj => ?_
 have hil : i < l.length := by
  have := (List.getElem?_eq_some_iff.1 hi).1
  simpa using this
 rw [get_map l hil] at hi
 cases hi
 match j, hj with
 | 0, hj => cases hj; exact ⟨_, (h.c0 i hil).1, fun hm => hb _ hm rfl, rfl, (h.c0 i hil).2⟩
 | 1, hj => cases hj; exact ⟨_, h.c1 i hil, fun hm => hb _ hm rfl, R.less (h.r1 i hil) fun p hp => .inl (hM i hil p hp).1⟩
 | 2, hj => cases hj; exact ⟨_, (h.c2 i hil).1, fun hm => hb _ hm rfl, rfl, (h.c2 i hil).2⟩
 | 3, hj => cases hj; exact ⟨_, (h.c3 i hil).1, fun hm => hb _ hm rfl, rfl, (h.c3 i hil).2⟩
 | 4, hj => cases hj; exact ⟨_, h.c4 i hil, fun hm => hb _ hm rfl, R.less (h.r4 i hil) fun p hp => .inl (hM i hil p hp).2⟩
theorem OwnB.mark {lo hi T : Nat} {w : World} {l : List Entry} {v : Value} (h : OwnB lo hi T w l v) (k : Nat) (hk : k + cntTo l l.length ≤ 1152921504606846970) (hll : l.length ≤ 1152921504606846976) :
  Calls Tryz.prog 10 #[v, .int .i64 k] w fun e w' => e = .returned (.int .i64 ((k + cntTo l l.length : Nat) : Int)) ∧ Alt (fun p => lo ≤ p.block ∧ p.block < hi) w w' ∧ R w' (fun p => hi ≤ p.block ∧ p.block < w.heap.size) (encS (mixL k l l.length)) v := by
 rcases h.sep with ⟨rfl, rfl⟩ | ⟨g, cap, rb, nb, u1, u4, rfl, h2, h2', h3, h4, h5, h6, h7⟩
 ·refine (m_EntryS [] k w (fun _ => True) _ R_nilE (fun _ _ => trivial) hk hll).mono ?_
  rintro e w' ⟨rfl, ha⟩
  exact ⟨rfl, ha.mono fun p _ hp => absurd trivial hp, R_nilE⟩
 ·refine (m_EntryX l k w g 0 cap rb nb u1 u4 h6 h3 hk hll).mono ?_
  rintro e w' ⟨rfl, ha, hs⟩
  refine ⟨rfl, ha.mono fun p hpb hp => ?_, ?_⟩
  ·rcases hp with hp | ⟨a, ha, hp | hp⟩
   ·rw [hp]; exact ⟨h2, h2'⟩
   ·have := (h7 a ha).1; omega
   ·have := (h7 a ha).2; omega
  ·have := hs.readM (cap := cap) (by rw [mixL_len]; exact h4) h5 (M := fun p => hi ≤ p.block ∧ p.block < w.heap.size) (fun p hp e => by omega) fun a ha p hp => by
    rw [mixL_len] at ha
    have := h7 a ha
    omega
   rw [mixL_len] at this
   exact this
/-! Marked parts as parts -/
noncomputable def mkCe (k n : Nat) : List Cell := (List.range n).map fun a => ⟨mkT (k + 2 * a), ((k + 2 * a + 1 : Nat) : Int)⟩
noncomputable def mkLy (k n : Nat) : List Layer := (List.range n).map fun a => ⟨mkT (k + 2 * a), ((k + 2 * a + 1 : Nat) : Int)⟩
theorem mkCe_rows (k : Nat) (l : List Cell) : mCe k l l.length = (mkCe k l.length).map Enc.cells := by
 unfold mCe mkCe rowsM
 rw [List.map_map]
 exact List.map_congr_left fun a ha => by
  rw [if_pos (by simpa using ha)]; rfl
theorem mkLy_rows (k : Nat) (l : List Layer) : mLy k l l.length = (mkLy k l.length).map Enc.cells := by
 unfold mLy mkLy rowsM
 rw [List.map_map]
 exact List.map_congr_left fun a ha => by
  rw [if_pos (by simpa using ha)]; rfl
noncomputable def mkPart (k : Nat) (p : Part) : Part :=
 ⟨⟨mkT k, decide ((k + 1) % 3 = 0), decide ((k + 1 + 1) % 3 = 0), mkCe (k + 1 + 1 + 1) p.core.cells.length, ((k + 1 + 1 + 1 + 2 * p.core.cells.length : Nat) : Int)⟩, mkLy (k + 1 + 1 + 1 + 2 * p.core.cells.length + 1) p.layers.length⟩
theorem mkPart_row (k : Nat) (p : Part) : markP k p = Enc.cells (mkPart k p) := by
 show markP k p = [_, _, _, .sl ((mkCe _ _).map Enc.cells), _, .sl ((mkLy _ _).map Enc.cells)]
 rw [← mkCe_rows, ← mkLy_rows]; rfl
noncomputable def mkParts (k : Nat) (l : List Part) : List Part := (List.range l.length).map fun a => mkPart (k + cntPs l a) (nth l a)
theorem mkParts_rows (k : Nat) (l : List Part) : mixP k l l.length = (mkParts k l).map Enc.cells := by
 unfold mixP mkParts rowsM
 rw [List.map_map]
 exact List.map_congr_left fun a ha => by
  rw [if_pos (by simpa using ha), mkPart_row]; rfl
theorem mkParts_len (k : Nat) (l : List Part) : (mkParts k l).length = l.length := by simp [mkParts]
theorem mkParts_at {k : Nat} {l : List Part} {a : Nat} (h : a < l.length) : nth (mkParts k l) a = mkPart (k + cntPs l a) (nth l a) := by
 simp [mkParts, nth, List.getD_eq_getElem?_getD, h]
end Go.Proofs.YtimickglpboilaaGreat
/- A host of new memory: marked, and its marks looked for. -/
namespace Go.Proofs.YtimickglpboilaaGreat
open Go.RowKit Go
theorem ar_rem3 (q : Nat) : arI .rem .i64 (q : Int) 3 = ((q % 3 : Nat) : Int) := by
 show (q : Int).tmod 3 = _
 rw [Int.tmod_eq_emod_of_nonneg (by omega)]; omega
theorem cmp_eq0 (q : Nat) : cmpI .eql ((q % 3 : Nat) : Int) 0 = decide (q % 3 = 0) := by
 by_cases h : q % 3 = 0
 ·rw [h]; rfl
 ·have h2 : ((q % 3 : Nat) : Int) ≠ 0 := by omega
  simp only [cmpI, h, decide_false]
  simpa using h2
theorem c_heldPartS (l : List Part) (k : Nat) (hk : k + cntPs l l.length ≤ 1152921504606846970) (hll : l.length ≤ 1048576) : Fun Tryz.prog 33 none [encS (mkParts k l), .int .i64 k] (.int .i64 ((k + cntPs l l.length : Nat) : Int)) [] := by
 refine Fun.ofV vc_laws_heldPartS_ok ty_laws_heldPartS_ok rfl ?_ (fun hfit => ?_)
 ·exact ⟨ty_PartS _, rfl, trivial⟩
 unfold vc_laws_heldPartS
 have hml := mkParts_len k l
 refine den_for l.length (fun i => [.int .i64 ((k + cntPs l i : Nat) : Int), .int .i64 i]) (fun _ => True) rfl trivial ?_
 intro i hi _ _
 simp only [cA]
 refine den_ite (fun h2 => ?_) (fun h2 => ?_)
 ·simp only [E.den, dEq, iEq, sEq, hml] at h2
  have h2 : i < l.length := by simpa using h2
  have hat : nth (mkParts k l) i = mkPart (k + cntPs l i) (nth l i) := mkParts_at h2
  have hcm := cntPs_mono (l := l) (show i + 1 ≤ l.length by omega)
  simp only [cntPs, cntP] at hcm
  obtain ⟨K, hK⟩ : ∃ K, k + cntPs l i = K := ⟨_, rfl⟩
  rw [hK] at hat ⊢
  have hc0 : (mkPart K (nth l i)).core.kind = mkT K := rfl
  have hc1 : (mkPart K (nth l i)).core.on = decide ((K + 1) % 3 = 0) := rfl
  have hc2 : (mkPart K (nth l i)).core.broken = decide ((K + 1 + 1) % 3 = 0) := rfl
  have hc3 : (mkPart K (nth l i)).core.cells = mkCe (K + 1 + 1 + 1) (nth l i).core.cells.length := rfl
  have hc4 : (mkPart K (nth l i)).core.count = ((K + 1 + 1 + 1 + 2 * (nth l i).core.cells.length : Nat) : Int) := rfl
  have hc5 : (mkPart K (nth l i)).layers = mkLy (K + 1 + 1 + 1 + 2 * (nth l i).core.cells.length + 1) (nth l i).layers.length := rfl
  have e1 : arI .add .i64 (K : Int) 1 = ((K + 1 : Nat) : Int) := ar_add (by omega) (by omega)
  have e2 : arI .add .i64 ((K + 1 : Nat) : Int) 1 = ((K + 1 + 1 : Nat) : Int) := ar_add (by omega) (by omega)
  have e3 : arI .add .i64 ((K + 1 + 1 : Nat) : Int) 1 = ((K + 1 + 1 + 1 : Nat) : Int) := ar_add (by omega) (by omega)
  have e4 : arI .add .i64 ((K + 1 + 1 + 1 + 2 * (nth l i).core.cells.length : Nat) : Int) 1 = ((K + 1 + 1 + 1 + 2 * (nth l i).core.cells.length + 1 : Nat) : Int) := ar_add (by omega) (by omega)
  have H3 := c_heldCellS (nth l i).core.cells (K + 1 + 1 + 1) (by omega)
  rw [mkCe_rows] at H3
  have H5 := c_heldLayerS (nth l i).layers (K + 1 + 1 + 1 + 2 * (nth l i).core.cells.length + 1) (by omega)
  rw [mkLy_rows] at H5
  refine den_cond (fun _ => ?_) ?_
  ·simp only [E.den, dEq, iEq, sEq, hml]; simp; omega
  ((first | refine den_call ?_ (c_markText K (by omega)) (trivial) ?_ | refine den_callR ?_ (c_markText K (by omega)) (trivial) ?_ | refine den_call ?_ (.ofR (c_markText K (by omega))) (trivial) ?_); (focus (simp only [VC.den, E.den, dEq, gsH_nil, and_true]; try exact rfl)); (simp only [cA]))
  refine den_ite (fun h3 => ?_) (fun _ => ?_)
  ·simp only [E.den, dEq, iEq, sEq, row_Part, hat, cells_Part, hc0] at h3
   simp at h3
  refine den_cond (fun _ => ?_) ?_
  ·simp only [E.den, dEq, iEq, sEq, hml]; simp; omega
  refine den_cond (fun _ => ?_) ?_
  ·simp only [E.den, dEq, iEq, sEq, hml]; first | rfl | decide
  refine den_ite (fun h3 => ?_) (fun _ => ?_)
  ·simp only [E.den, dEq, iEq, sEq, row_Part, hat, cells_Part, hc1, e1, ar_rem3, cmp_eq0] at h3
   simp at h3
   exact absurd (by by_cases hq : (K + 1) % 3 = 0 <;> simp [hq] <;> omega) h3
  refine den_cond (fun _ => ?_) ?_
  ·simp only [E.den, dEq, iEq, sEq, hml]; simp; omega
  refine den_cond (fun _ => ?_) ?_
  ·simp only [E.den, dEq, iEq, sEq, hml]; first | rfl | decide
  refine den_ite (fun h3 => ?_) (fun _ => ?_)
  ·simp only [E.den, dEq, iEq, sEq, row_Part, hat, cells_Part, hc2, e1, e2, ar_rem3, cmp_eq0] at h3
   simp at h3
   exact absurd (by by_cases hq : (K + 1 + 1) % 3 = 0 <;> simp [hq] <;> omega) h3
  refine den_cond (fun _ => ?_) ?_
  ·simp only [E.den, dEq, iEq, sEq, hml]; simp; omega
  ((first | refine den_call ?_ (H3) (rfl) ?_ | refine den_callR ?_ (H3) (rfl) ?_ | refine den_call ?_ (.ofR (H3)) (rfl) ?_); (focus (simp only [VC.den, E.den, dEq, gsH_nil, and_true, row_Part, hat, cells_Part, hc3, e1, e2, e3, encS, Int.toNat_natCast]; try exact rfl)); (simp only [cA]))
  refine den_ite (fun h3 => ?_) (fun _ => ?_)
  ·simp only [E.den, dEq, iEq, sEq] at h3
   simp at h3; omega
  refine den_cond (fun _ => ?_) ?_
  ·simp only [E.den, dEq, iEq, sEq, hml]; simp; omega
  refine den_ite (fun h3 => ?_) (fun _ => ?_)
  ·simp only [E.den, dEq, iEq, sEq, row_Part, hat, cells_Part, hc4] at h3
   simp at h3
  refine den_cond (fun _ => ?_) ?_
  ·simp only [E.den, dEq, iEq, sEq, hml]; simp; omega
  ((first | refine den_call ?_ (H5) (rfl) ?_ | refine den_callR ?_ (H5) (rfl) ?_ | refine den_call ?_ (.ofR (H5)) (rfl) ?_); (focus (simp only [VC.den, E.den, dEq, gsH_nil, and_true, row_Part, hat, cells_Part, hc5, e4, encS, Int.toNat_natCast]; try exact rfl)); (simp only [cA]))
  refine den_ite (fun h3 => ?_) (fun _ => ?_)
  ·simp only [E.den, dEq, iEq, sEq] at h3
   simp at h3; omega
  refine den_next h2 ?_ trivial
  simp only [E.den, dEq, iEq, sEq]
  rw [ar_add (by omega) (by omega)]
  rw [show K + 1 + 1 + 1 + 2 * (nth l i).core.cells.length + 1 + 2 * (nth l i).layers.length = k + cntPs l (i + 1) by simp only [cntPs, cntP]; omega]
  rfl
 ·simp only [E.den, dEq, iEq, sEq, hml] at h2
  obtain rfl : i = l.length := by simp at h2; omega
  exact den_ret rfl
theorem c_heldEventN (k : Nat) (hk : k ≤ 1152921504606846970) : Fun Tryz.prog 35 none [encS ([] : List Event), .int .i64 k] (.int .i64 (k : Int)) [] := by
 refine Fun.ofV vc_laws_heldEventS_ok ty_laws_heldEventS_ok rfl ?_ (fun hfit => ?_)
 ·exact ⟨ty_EventS _, rfl, trivial⟩
 unfold vc_laws_heldEventS
 refine den_for 0 (fun i => [.int .i64 (k : Int), .int .i64 i]) (fun _ => True) rfl trivial ?_
 intro i hi _ _
 simp only [cA]
 refine den_ite (fun h2 => ?_) (fun h2 => ?_)
 ·simp only [E.den, dEq, iEq, sEq] at h2
  simp at h2; omega
 ·exact den_ret rfl
def hostE (l : List Entry) (ps : List Part) : Host := ⟨l, ps, [], [], []⟩
noncomputable def mkHost (k : Nat) (l : List Entry) (ps : List Part) : Host := hostE (mixL k l l.length) (mkParts (k + cntTo l l.length) ps)
theorem c_heldHost (l : List Entry) (ps : List Part) (k : Nat) (hk : k + cntTo l l.length + cntPs ps ps.length ≤ 1152921504606846970) (h1 : l.length ≤ 1048576) (h2 : ps.length ≤ 1048576) : Fun Tryz.prog 12 none [enc (mkHost k l ps), .int .i64 k] (.int .i64 ((k + cntTo l l.length + cntPs ps ps.length : Nat) : Int)) [] := by
 refine Fun.ofV vc_laws_heldHost_ok ty_laws_heldHost_ok rfl ?_ (fun hfit => ?_)
 ·exact ⟨ty_Host _, rfl, trivial⟩
 unfold vc_laws_heldHost
 have H3 : ∀ q : Nat, q ≤ 1152921504606846970 → Fun Tryz.prog 34 none [encS ([] : List ByteArray), .int .i64 q] (.int .i64 (q : Int)) [] := fun q hq => by
  have e : mS q ([] : List ByteArray) ([] : List ByteArray).length = [] := rfl
  have := c_heldStringS [] q (by simpa using hq)
  rw [e] at this
  exact this
 ((first | refine den_call ?_ (c_heldEntryS l k (by omega) (by omega)) (rfl) ?_ | refine den_callR ?_ (c_heldEntryS l k (by omega) (by omega)) (rfl) ?_ | refine den_call ?_ (.ofR (c_heldEntryS l k (by omega) (by omega))) (rfl) ?_); (focus (simp only [VC.den, E.den, dEq, gsH_nil, and_true, cells_Host, mkHost, hostE]; try exact rfl)); (simp only [cA]))
 refine den_ite (fun h => ?_) (fun h => ?_)
 ·simp only [E.den, dEq, iEq, sEq] at h
  simp at h; omega
 ((first | refine den_call ?_ (c_heldPartS ps (k + cntTo l l.length) (by omega) h2) (rfl) ?_ | refine den_callR ?_ (c_heldPartS ps (k + cntTo l l.length) (by omega) h2) (rfl) ?_ | refine den_call ?_ (.ofR (c_heldPartS ps (k + cntTo l l.length) (by omega) h2)) (rfl) ?_); (focus (simp only [VC.den, E.den, dEq, gsH_nil, and_true, cells_Host, mkHost, hostE]; try exact rfl)); (simp only [cA]))
 refine den_ite (fun h => ?_) (fun h => ?_)
 ·simp only [E.den, dEq, iEq, sEq] at h
  simp at h; omega
 ((first | refine den_call ?_ (H3 _ hk) (rfl) ?_ | refine den_callR ?_ (H3 _ hk) (rfl) ?_ | refine den_call ?_ (.ofR (H3 _ hk)) (rfl) ?_); (focus (simp only [VC.den, E.den, dEq, gsH_nil, and_true, cells_Host, mkHost, hostE]; try exact rfl)); (simp only [cA]))
 refine den_ite (fun h => ?_) (fun h => ?_)
 ·simp only [E.den, dEq, iEq, sEq] at h
  simp at h; omega
 ((first | refine den_call ?_ (H3 _ hk) (rfl) ?_ | refine den_callR ?_ (H3 _ hk) (rfl) ?_ | refine den_call ?_ (.ofR (H3 _ hk)) (rfl) ?_); (focus (simp only [VC.den, E.den, dEq, gsH_nil, and_true, cells_Host, mkHost, hostE]; try exact rfl)); (simp only [cA]))
 refine den_ite (fun h => ?_) (fun h => ?_)
 ·simp only [E.den, dEq, iEq, sEq] at h
  simp at h; omega
 ((first | refine den_call ?_ (c_heldEventN _ hk) (rfl) ?_ | refine den_callR ?_ (c_heldEventN _ hk) (rfl) ?_ | refine den_call ?_ (.ofR (c_heldEventN _ hk)) (rfl) ?_); (focus (simp only [VC.den, E.den, dEq, gsH_nil, and_true, cells_Host, mkHost, hostE]; try exact rfl)); (simp only [cA]))
 refine den_ite (fun h => den_ret ?_) (fun h => den_ret ?_)
 ·simp only [E.den, dEq, iEq, sEq] at h
  simp at h; omega
 ·simp only [E.den, dEq, iEq, sEq]
def hostA (v1 v2 : Value) : Array Value := #[v1, v2, .slice none 0 0, .slice none 0 0, .slice none 0 0]
structure HO (lo mid hi : Nat) (w : World) (l : List Entry) (ps : List Part) (v1 v2 : Value) : Prop where
 e : OwnB lo mid 50 w l v1
 p : OGH mid hi 56 6 w (ps.map Enc.cells) v2
 lm : lo ≤ mid
 mh : mid ≤ hi
section
variable {lo mid hi : Nat} {w w' : World} {l : List Entry} {ps : List Part} {v1 v2 : Value}
theorem HO.below (h : HO lo mid hi w l ps v1 v2) (hb : Below w.heap.size w w') : HO lo mid hi w' l ps v1 v2 := ⟨h.e.below hb, h.p.below hb, h.lm, h.mh⟩
theorem HO.alt {A : Addr → Prop} (h : HO lo mid hi w l ps v1 v2) (ha : Alt A w w') (hA : ∀ p, A p → ¬ (lo ≤ p.block ∧ p.block < hi)) : HO lo mid hi w' l ps v1 v2 :=
 ⟨h.e.alt ha fun p hp hq => hA p hp ⟨hq.1, by have := h.mh; omega⟩, h.p.alt ha fun p hp hq => hA p hp ⟨by have := h.lm; omega, hq.2⟩, h.lm, h.mh⟩
theorem host_read {M : Addr → Prop} {h : Host} (h1 : R w M (encS h.entries) v1) (h2 : R w M (encS h.parts) v2) (hu : h.up = []) (hs : h.shut = []) (hl : h.log = []) : R w M (enc h) (.agg (hostA v1 v2)) := by
 obtain ⟨e, p, u, s, g⟩ := h
 subst hu hs hl
 exact ⟨_, rfl, _, _, rfl, h1, _, _, rfl, h2, _, _, rfl, sl_nil, _, _, rfl, sl_nil, _, _, rfl, sl_nil, rfl⟩
theorem HO.data (h : HO lo mid hi w l ps v1 v2) : R w (fun _ => False) (enc (hostE l ps)) (.agg (hostA v1 v2)) := host_read h.e.own.read h.p.six.read rfl rfl rfl
theorem HO.le (h : HO lo mid hi w l ps v1 v2) : hi ≤ w.heap.size := h.p.2.1
theorem HO.one (h : HO lo mid hi w l ps v1 v2) : ∀ u ∈ (hostA v1 v2).toList, u.oneCell' = true := by
 obtain ⟨a, n, c, rfl, _⟩ := h.e.own.one
 obtain ⟨a', c', rfl⟩ := h.p.six.len
 intro u hu
 simp [hostA] at hu
 rcases hu with rfl | rfl | rfl <;> rfl
end
theorem bel_alloc (w : World) (cs : Array Value) (T : TypeId) : Below w.heap.size w (w.alloc (.cells cs T)) := (Below.refl _ _).alloc (Nat.le_refl _) _
theorem fo_H1 : fieldOff Tryz.prog 29 1 = some 1 := by kernel_rfl
theorem fo_H2 : fieldOff Tryz.prog 29 2 = some 2 := by kernel_rfl
theorem fo_H3 : fieldOff Tryz.prog 29 3 = some 3 := by kernel_rfl
theorem fo_H4 : fieldOff Tryz.prog 29 4 = some 4 := by kernel_rfl
theorem fo_H0 : fieldOff Tryz.prog 29 0 = some 0 := by kernel_rfl
theorem HO.mark {lo mid hi : Nat} {w : World} {l : List Entry} {ps : List Part} {v1 v2 : Value} (h : HO lo mid hi w l ps v1 v2) (k : Nat) (hk : k + cntTo l l.length + cntPs ps ps.length ≤ 1152921504606846970) (h1 : l.length ≤ 1048576) (h2 : ps.length ≤ 1048576) :
  Calls Tryz.prog 11 #[.agg (hostA v1 v2), .int .i64 (k : Int)] w fun e w' => e = .returned (.int .i64 ((k + cntTo l l.length + cntPs ps ps.length : Nat) : Int)) ∧ Alt (fun p => lo ≤ p.block ∧ p.block < hi) w w' ∧ R w' (fun _ => False) (enc (mkHost k l ps)) (.agg (hostA v1 v2)) := by
 have hle := h.le
 have hlm := h.lm
 have hmh := h.mh
 refine calls_CW (E := [(0, .agg (hostA v1 v2)), (1, .int .i64 (k : Int))]) Tryz.func11 rfl Tryz.ntmps11 (by simp) (by simp) ?_
 refine CW.seq (CW.region ?_)
 refine WL.vv rfl rfl (r_box rfl rfl) (by decide) ?_
 have hb := bel_alloc w (hostA v1 v2) 29
 have hR := RBlk.new w 29 (hostA v1 v2)
 have hsz : (w.alloc (.cells (hostA v1 v2) 29)).heap.size = w.heap.size + 1 := by simp [World.size_alloc]
 change WL _ _ _ _ _ _ (w.alloc (.cells (hostA v1 v2) 29))
 generalize w.alloc (.cells (hostA v1 v2) 29) = w1 at hb hR hsz ⊢
 have H1 := h.below hb
 refine WL.vv rfl rfl (r_assign rfl rfl) (by decide) ?_
 refine WL.nil (NX.next ?_)
 refine CW.sub (E' := [(1, .int .i64 (k : Int)), (2, .pointer (some ⟨w.heap.size, 0, none⟩))]) ⟨rfl, rfl, trivial⟩ ?_
 refine CW.seq (CW.region ?_)
 refine WL.vv rfl rfl (r_field rfl rfl fo_H0) (by decide) ?_
 refine WL.vv rfl rfl (r_load rfl rfl Tryz.underlying24 rfl (v := v1) ((hR.cell 0).trans rfl)) (by decide) ?_
 refine WL.vv rfl rfl (r_move rfl rfl) (by decide) ?_
 refine WL.c rfl rfl (r_call (args := #[v1, .int .i64 (k : Int)]) (by kernel_rfl) rfl rfl rfl) (by decide) (H1.e.mark k (by omega) (by omega)) ?_
 rintro _ w2 ⟨rfl, a2, m2⟩
 refine ⟨_, rfl, ?_⟩
 have hR2 : RBlk w2 w.heap.size 29 (hostA v1 v2) := (a2.blk w.heap.size (by omega) fun q hq hn => by omega).trans hR
 have P2 := H1.p.alt a2 fun q hq hn => by omega
 refine WL.vv rfl rfl (r_assign rfl rfl) (by decide) ?_
 refine WL.nil (NX.next ?_)
 refine CW.sub (E' := [(1, .int .i64 ((k + cntTo l l.length : Nat) : Int)), (2, .pointer (some ⟨w.heap.size, 0, none⟩))]) ⟨rfl, rfl, trivial⟩ ?_
 refine CW.seq (CW.region ?_)
 refine WL.vv rfl rfl (r_field rfl rfl fo_H1) (by decide) ?_
 refine WL.vv rfl rfl (r_load rfl rfl Tryz.underlying25 rfl (v := v2) ((hR2.cell 1).trans rfl)) (by decide) ?_
 refine WL.vv rfl rfl (r_move rfl rfl) (by decide) ?_
 refine WL.c rfl rfl (r_call (args := #[v2, .int .i64 ((k + cntTo l l.length : Nat) : Int)]) (by kernel_rfl) rfl rfl rfl) (by decide) (P2.mark (k + cntTo l l.length) (by omega) h2) ?_
 rintro _ w3 ⟨rfl, a3, m3⟩
 refine ⟨_, rfl, ?_⟩
 have hR3 : RBlk w3 w.heap.size 29 (hostA v1 v2) := (a3.blk w.heap.size (by have := a2.size; omega) fun q hq hn => by omega).trans hR2
 have M3 := R.keep (a3.keeps (fun q hq => ⟨hq.1, by omega⟩) fun _ _ h => h) _ _ m2
 have A3 := (Alt.below (A := fun p => lo ≤ p.block ∧ p.block < hi) hb).trans ((a2.mono fun p _ hp => ⟨hp.1, by omega⟩).trans (a3.mono fun p _ hp => ⟨by omega, hp.2⟩))
 have sz3 : w.heap.size < w3.heap.size := by have := a2.size; have := a3.size; omega
 clear a2 a3 m2 P2 H1 hR2 hR hb
 refine WL.vv rfl rfl (r_assign rfl rfl) (by decide) ?_
 refine WL.nil (NX.next ?_)
 have nS : ∀ (q : Nat) (w : World), q ≤ 1152921504606846970 → Calls Tryz.prog 28 #[.slice none 0 0, .int .i64 (q : Int)] w fun e w' => e = .returned (.int .i64 (q : Int)) ∧ Alt (fun _ => False) w w' := fun q w hq => by
  refine (m_StringS [] q w (fun _ => True) (.slice none 0 0) sl_nil (fun _ _ => trivial) (by simp; omega)).mono ?_
  rintro e w' ⟨rfl, ha, _⟩
  exact ⟨rfl, ha.mono fun p _ hp => hp trivial⟩
 refine CW.sub (E' := [(1, .int .i64 ((k + cntTo l l.length + cntPs ps ps.length : Nat) : Int)), (2, .pointer (some ⟨w.heap.size, 0, none⟩))]) ⟨rfl, rfl, trivial⟩ ?_
 refine CW.seq (CW.region ?_)
 refine WL.vv rfl rfl (r_field rfl rfl fo_H2) (by decide) ?_
 refine WL.vv rfl rfl (r_load rfl rfl Tryz.underlying26 rfl (v := .slice none 0 0) ((hR3.cell 2).trans rfl)) (by decide) ?_
 refine WL.vv rfl rfl (r_move rfl rfl) (by decide) ?_
 refine WL.c rfl rfl (r_call (args := #[.slice none 0 0, .int .i64 ((k + cntTo l l.length + cntPs ps ps.length : Nat) : Int)]) (by kernel_rfl) rfl rfl rfl) (by decide) (nS _ w3 hk) ?_
 rintro _ w4 ⟨rfl, a4⟩
 refine ⟨_, rfl, ?_⟩
 have hR4 : RBlk w4 w.heap.size 29 (hostA v1 v2) := (a4.blk w.heap.size sz3 fun q hq hn => hn).trans hR3
 refine WL.vv rfl rfl (r_assign rfl rfl) (by decide) ?_
 refine WL.nil (NX.next ?_)
 refine CW.sub (E' := [(1, .int .i64 ((k + cntTo l l.length + cntPs ps ps.length : Nat) : Int)), (2, .pointer (some ⟨w.heap.size, 0, none⟩))]) ⟨rfl, rfl, trivial⟩ ?_
 refine CW.seq (CW.region ?_)
 refine WL.vv rfl rfl (r_field rfl rfl fo_H3) (by decide) ?_
 refine WL.vv rfl rfl (r_load rfl rfl Tryz.underlying26 rfl (v := .slice none 0 0) ((hR4.cell 3).trans rfl)) (by decide) ?_
 refine WL.vv rfl rfl (r_move rfl rfl) (by decide) ?_
 refine WL.c rfl rfl (r_call (args := #[.slice none 0 0, .int .i64 ((k + cntTo l l.length + cntPs ps ps.length : Nat) : Int)]) (by kernel_rfl) rfl rfl rfl) (by decide) (nS _ w4 hk) ?_
 rintro _ w5 ⟨rfl, a5⟩
 refine ⟨_, rfl, ?_⟩
 have hR5 : RBlk w5 w.heap.size 29 (hostA v1 v2) := (a5.blk w.heap.size (by have := a4.size; omega) fun q hq hn => hn).trans hR4
 refine WL.vv rfl rfl (r_assign rfl rfl) (by decide) ?_
 refine WL.nil (NX.next ?_)
 refine CW.sub (E' := [(1, .int .i64 ((k + cntTo l l.length + cntPs ps ps.length : Nat) : Int)), (2, .pointer (some ⟨w.heap.size, 0, none⟩))]) ⟨rfl, rfl, trivial⟩ ?_
 refine CW.seq (CW.region ?_)
 refine WL.vv rfl rfl (r_field rfl rfl fo_H4) (by decide) ?_
 refine WL.vv rfl rfl (r_load rfl rfl Tryz.underlying27 rfl (v := .slice none 0 0) ((hR5.cell 4).trans rfl)) (by decide) ?_
 refine WL.vv rfl rfl (r_move rfl rfl) (by decide) ?_
 refine WL.c rfl rfl (r_call (args := #[.slice none 0 0, .int .i64 ((k + cntTo l l.length + cntPs ps ps.length : Nat) : Int)]) (by kernel_rfl) rfl rfl rfl) (by decide) (nil_markEventS _ w5) ?_
 rintro _ w6 ⟨rfl, rfl⟩
 refine ⟨_, rfl, ?_⟩
 refine WL.vv rfl rfl (r_assign rfl rfl) (by decide) ?_
 refine WL.nil (NX.next ?_)
 refine CW.sub (E' := [(1, .int .i64 ((k + cntTo l l.length + cntPs ps ps.length : Nat) : Int))]) ⟨rfl, trivial⟩ ?_
 refine CW.seq (CW.region ?_)
 refine WL.vv rfl rfl (r_move rfl rfl) (by decide) ?_
 refine WL.vv rfl rfl (r_assign rfl rfl) (by decide) ?_
 refine WL.nil (NX.next (CW.ret ?_))
 have kp : ∀ {d : D} {u : Value} {M : Addr → Prop}, R w3 M d u → R w6 M d u := fun h => R.keep (a5.keeps (fun _ h => h.elim) fun _ _ h => h) _ _ (R.keep (a4.keeps (fun _ h => h.elim) fun _ _ h => h) _ _ h)
 refine NX.bodyT rfl rfl ⟨rfl, A3.trans ((a4.mono fun _ _ h => h.elim).trans (a5.mono fun _ _ h => h.elim)), host_read (h := mkHost k l ps) ?_ ?_ rfl rfl rfl⟩
 ·exact R.less (kp M3) fun _ h => h.elim
 ·show R _ _ (.sl ((mkParts _ ps).map Enc.cells)) _
  rw [← mkParts_rows]
  exact kp m3
end Go.Proofs.YtimickglpboilaaGreat
/- Contracts: the names of entries that something holds of; who misses, reaches, needs, is stuck; the links; the order of the start: the program's side. -/
namespace Go.Proofs.YtimickglpboilaaGreat
open Go.RowKit Go
variable [GC]
theorem nm_snoc (l : List ByteArray) (s : ByteArray) : D.sl (l.map Enc.cells ++ [[.str s]]) = encS (l ++ [s]) := by simp [encS, cells_str]
theorem c_impl_named (l : List Entry) (x : D) (p : Nat → Bool) (hl : l.length ≤ 1048576) (hx : HasVT tbl.tab (.one (.c .fn)) x) (hp : ∀ i : Nat, i < l.length → FunV Tryz.prog x [.int .i64 i] (.bool (p i))) : FunR Tryz.prog 54 none [encS l, x] (encS (namesOf l p)) [] [(0, 1)] := by
 refine FunR.ofV vc_impl_named_ok ty_impl_named_ok rt_impl_named_ok rfl ?_ (fun hfit => ?_)
 ·exact ⟨ty_EntryS l, hx, trivial⟩
 unfold vc_impl_named
 refine den_for l.length (fun k => [encS (namesTo l p k), .int .i64 k]) (fun _ => True) rfl trivial ?_
 intro k hk _ _
 simp only [cA]
 have hlen := namesTo_len l p k
 refine den_ite (fun h2 => ?_) (fun h2 => ?_)
 ·simp only [E.den, dEq, iEq, sEq] at h2
  have h2 : k < l.length := by simp at h2; exact h2
  (refine den_cond (fun hg => ?_) ?_; (focus (simp only [gsH, gE, E.den, dEq, iEq, sEq] at hg ⊢; (try simp only [D.bool.injEq] at hg); (try simp only [D.bool.injEq]); grind)))
  refine den_callV rfl rfl (hp k h2) trivial ?_
  simp only [cA]
  refine den_ite (fun h3 => ?_) (fun h3 => ?_)
  ·simp only [E.den, dEq, iEq, sEq, row_Entry, cells_Entry] at h3
   refine den_cond (fun _ => ?_) ?_
   ·simp [E.den]; omega
   refine den_next h2 ?_ trivial
   simp only [E.den, dEq, iEq, sEq, row_Entry, cells_Entry]
   rw [ar_add (by omega) (by omega), namesTo_succ, if_pos h3, nm_snoc]; rfl
  ·simp only [E.den, dEq, iEq, sEq, row_Entry, cells_Entry] at h3
   refine den_next h2 ?_ trivial
   simp only [E.den, dEq, iEq, sEq]
   rw [ar_add (by omega) (by omega), namesTo_succ, if_neg (by simpa using h3)]; rfl
 ·simp only [E.den, dEq, iEq, sEq] at h2
  obtain rfl : k = l.length := by simp at h2; omega
  exact den_ret (by simp [E.den, namesOf])
/-! What the wiring holds, typed -/
theorem tab_bool : tbl.tab 4 = [.bool] := by kernel_rfl
theorem tab_bools : tbl.tab 86 = [.sl 4] := by kernel_rfl
theorem ty_bRow (n : Nat) (f : Nat → Bool) : HasTy tbl.tab (.sl 4) (bRow n f) := by
 show RowsTy _ (tbl.tab _) _
 rw [tab_bool]
 refine RowsTy.of fun r hr => ?_
 unfold rowsOf at hr
 obtain ⟨a, _, rfl⟩ := List.mem_map.1 hr
 exact ⟨trivial, trivial⟩
theorem ty_bMat (n : Nat) (S : Nat → Nat → Bool) : HasTy tbl.tab (.sl 86) (bMat n S) := by
 show RowsTy _ (tbl.tab _) _
 rw [tab_bools]
 refine RowsTy.of fun r hr => ?_
 unfold rowsOf at hr
 obtain ⟨a, _, rfl⟩ := List.mem_map.1 hr
 exact ⟨ty_bRow _ _, trivial⟩
def wireC (l : List Entry) : List D := [bRow l.length (missS l), bMat l.length (needS l), bMat l.length (reachS l)]
theorem ty_wireC (l : List Entry) : RowTy tbl.tab [.sl 4, .sl 86, .sl 86] (wireC l) := ⟨ty_bRow _ _, ty_bMat _ _, ty_bMat _ _, trivial⟩
theorem ty_wireD (l : List Entry) : HasVT tbl.tab (.one (.agg [.sl 4, .sl 86, .sl 86])) (wireD l) := ty_wireC l
/-! The functions that are handed to it -/
theorem c_impl_StuckOf_1 (n : Nat) (p : Nat → Bool) (i : Nat) (hi : i < n) : FunC Tryz.prog 55 [.int .i64 i] [[bRow n p]] (.bool (p i)) := by
 refine FunC.ofV vc_impl_StuckOf_1_ok ty_impl_StuckOf_1_ok rfl rfl ?_ (fun hfit hcap => ?_)
 ·exact ⟨rfl, ⟨ty_bRow _ _, trivial⟩, trivial⟩
 unfold vc_impl_StuckOf_1
 simp only [List.cons_append, List.nil_append, List.map_cons, List.map_nil]
 refine den_cond (fun _ => ?_) (den_ret ?_)
 ·simp only [E.den, dEq, iEq, sEq, bRow_len]; simp; omega
 ·simp only [E.den, dEq, iEq, sEq, bRow_get hi]
end Go.Proofs.YtimickglpboilaaGreat
/- Contracts: links, who is stuck, the order of the start: the program's side. -/
namespace Go.Proofs.YtimickglpboilaaGreat
open Go.RowKit Go
variable [GC]
theorem provN_some {l : List Entry} {i j c : Nat} (h : prv l i j = some c) : provN l (nth l i).name (nth (nth l i).needs j) = (nth l c).name := by
 unfold provN
 rw [show provO l (nth l i).name (nth (nth l i).needs j) = some c from h]
theorem provN_none {l : List Entry} {i j : Nat} (h : prv l i j = none) : provN l (nth l i).name (nth (nth l i).needs j) = noText := by
 unfold provN
 rw [show provO l (nth l i).name (nth (nth l i).needs j) = none from h]
theorem links_some {l : List Entry} {i j c : Nat} (h : prv l i j = some c) : linksOne l i (j + 1) = linksOne l i j ++ [⟨(nth l i).name, (nth l c).name, (nth (nth l i).needs j).face⟩] := by
 rw [linksOne_succ]
 unfold linkAt
 rw [h]
 rfl
theorem links_none {l : List Entry} {i j : Nat} (h : prv l i j = none) : linksOne l i (j + 1) = linksOne l i j := by
 rw [linksOne_succ]
 unfold linkAt
 rw [h]
 simp
theorem links_few {l : List Entry} (hr : regB l = true) {i : Nat} (hi : i < l.length) (j : Nat) (hj : j ≤ (nth l i).needs.length) : (linksTo l i ++ linksOne l i j).length ≤ 100 := by
 have h1 := linksTo_len hr i (by omega)
 have h2 := linksOne_len l i j
 have h3 := reg_needs hr hi
 have h4 := (reg_parts hr).1
 rw [List.length_append]; omega
theorem link_snoc (a : List Link) (x : Link) (q : List Link) : D.sl (a.map Enc.cells ++ [[.str x.frm, .str x.to, .int .i64 x.face]]) = encS (a ++ [x]) := by simp [encS, cells_Link]
def stuckTo (l : List Entry) (i j : Nat) : Bool := badS l i || anyT (fun j => reachS l i j && badS l j) j
def sF (l : List Entry) (i a : Nat) : Bool := decide (a < i) && stuckS l a
def sG (l : List Entry) (i j a : Nat) : Bool := if a < i then stuckS l a else if a = i then stuckTo l i j else false
theorem c_impl_stuck (l : List Entry) (hl : l.length ≤ 1048576) : FunR Tryz.prog 53 none [wireD l] (bRow l.length (stuckS l)) [] [(0, 1)] := by
 refine FunR.ofV vc__impl_wiring__stuck_ok ty__impl_wiring__stuck_ok rt__impl_wiring__stuck_ok rfl ?_ (fun hfit => ?_)
 ·exact ⟨ty_wireD l, trivial⟩
 unfold vc__impl_wiring__stuck
 refine den_cond (fun _ => ?_) ?_
 ·simp only [E.den, dEq, iEq, sEq, wireD, bRow_len]; simp; omega
 refine den_for l.length (fun i => [.int .i64 i, bRow l.length (sF l i)]) (fun _ => True) ?_ trivial ?_
 ·simp only [E.den, dEq, iEq, sEq, wireD, bRow_len, zeroD]
  simp only [Int.toNat_natCast, List.map_cons, List.map_nil, zeroD, rowsOf_rep]
  rw [show bRow l.length (sF l 0) = bRow l.length (fun _ => false) from bRow_congr fun a _ => by simp [sF]]
  rfl
 intro i hi _ _
 simp only [cA]
 refine den_ite (fun h2 => ?_) (fun h2 => ?_)
 ·simp only [E.den, dEq, iEq, sEq, wireD, bRow_len, lenD_mem] at h2
  have h2 : i < l.length := by simp at h2; exact h2
  refine den_cond (fun _ => ?_) (den_cond (fun _ => ?_) (den_cond (fun _ => ?_) (den_cond (fun _ => ?_) ?_)))
  ·simp only [E.den, dEq, iEq, sEq, wireD, bRow_len]; simp; omega
  ·simp only [E.den, dEq, iEq, sEq, wireD, bMat_len]; simp; omega
  ·simp only [E.den, dEq, iEq, sEq, wireD, bMat_get h2, bRow_len]; simp; omega
  ·simp only [E.den, dEq, iEq, sEq, wireD, bRow_len, lenD_mem]; simp; omega
  refine den_for l.length (fun j => [.int .i64 j, bRow l.length (sG l i j)]) (fun _ => True) ?_ trivial ?_
  ·simp only [E.den, dEq, iEq, sEq, wireD, bRow_get h2, bMat_get h2, bRow_upd]
   rw [show bRow l.length (sG l i 0) = bRow l.length (fun a => if a = i then missS l i || reachS l i i else sF l i a) from bRow_congr fun a _ => by
    unfold sG sF
    by_cases e : a = i
    ·subst e; simp [stuckTo, badS, anyT]
    ·by_cases e2 : a < i <;> simp [e, e2]]
   rfl
  intro j hj _ _
  simp only [cA]
  refine den_ite (fun h3 => ?_) (fun h3 => ?_)
  ·simp only [E.den, dEq, iEq, sEq, wireD, bRow_len, lenD_mem] at h3
   have h3 : j < l.length := by simp at h3; exact h3
   refine den_cond (fun _ => ?_) (den_cond (fun _ => ?_) (den_cond (fun _ => ?_) (den_cond (fun _ => ?_) (den_cond (fun _ => ?_) (den_cond (fun _ => ?_) (den_cond (fun _ => ?_) ?_))))))
   ·simp only [E.den, dEq, iEq, sEq, wireD, bRow_len, lenD_mem]; simp; omega
   ·simp only [E.den, dEq, iEq, sEq, wireD, bMat_len]; simp; omega
   ·simp only [E.den, dEq, iEq, sEq, wireD, bMat_get h2, bRow_len]; simp; omega
   ·simp only [E.den, dEq, iEq, sEq, wireD, bRow_len]; simp; omega
   ·simp only [E.den, dEq, iEq, sEq, wireD, bMat_len]; simp; omega
   ·simp only [E.den, dEq, iEq, sEq, wireD, bMat_get h3, bRow_len]; simp; omega
   ·simp only [E.den, dEq, iEq, sEq, wireD, bRow_len, lenD_mem]; simp; omega
   refine den_next h3 ?_ trivial
   simp only [E.den, dEq, iEq, sEq, wireD, bRow_get h2, bRow_get h3, bMat_get h2, bMat_get h3, bRow_upd]
   rw [ar_add (by omega) (by omega), show bRow l.length (sG l i (j + 1)) = bRow l.length (fun a => if a = i then sG l i j i || (reachS l i j && (missS l j || reachS l j j)) else sG l i j a) from bRow_congr fun a _ => by
    unfold sG
    by_cases e : a = i
    ·subst e; simp [stuckTo, badS, anyT, Bool.or_assoc]
    ·simp [e]]
   rfl
  ·simp only [E.den, dEq, iEq, sEq, wireD, bRow_len, lenD_mem] at h3
   obtain rfl : j = l.length := by simp at h3; omega
   refine den_next1 h2 ?_ trivial
   simp only [E.den, dEq, iEq, sEq]
   rw [ar_add (by omega) (by omega), show bRow l.length (sG l i l.length) = bRow l.length (sF l (i + 1)) from bRow_congr fun a _ => by
    unfold sG sF
    by_cases e : a = i
    ·subst e; simp [stuckTo, stuckS]
    ·have : a < i + 1 ↔ a < i := by omega
     by_cases e2 : a < i <;> simp [e, e2, this]]
   rfl
 ·simp only [E.den, dEq, iEq, sEq, wireD, bRow_len, lenD_mem] at h2
  obtain rfl : i = l.length := by simp at h2; omega
  exact den_ret (by simp only [E.den, dEq, iEq, sEq]; exact bRow_congr fun a ha => by simp [sF, ha])
theorem c_impl_StuckOf (l : List Entry) (hl : l.length ≤ 1048576) : FunR Tryz.prog 20 none [encS l] (encS (stuckN l)) [] [(0, 1)] := by
 refine FunR.ofV vc_impl_StuckOf_ok ty_impl_StuckOf_ok rt_impl_StuckOf_ok rfl ?_ (fun hfit => ?_)
 ·exact ⟨ty_EntryS l, trivial⟩
 unfold vc_impl_StuckOf
 ((first | refine den_call ?_ (c_impl_IsRegistry l) (trivial) ?_ | refine den_callR ?_ (c_impl_IsRegistry l) (trivial) ?_ | refine den_call ?_ (.ofR (c_impl_IsRegistry l)) (trivial) ?_); (focus (simp only [VC.den, E.den, dEq, gsH_nil, and_true]; try exact rfl)); (simp only [cA]))
 refine den_ite (fun h => ?_) (fun h => ?_)
 ·simp only [E.den, dEq, iEq, sEq] at h
  have : regB l = false := by simpa using h
  exact den_ret (by simp [E.den, stuckN, this, encS])
 simp only [E.den, dEq, iEq, sEq] at h
 have hr : regB l = true := by simpa using h
 ((first | refine den_call ?_ (c_impl_wire l hl) (ty_wireD l) ?_ | refine den_callR ?_ (c_impl_wire l hl) (ty_wireD l) ?_ | refine den_call ?_ (.ofR (c_impl_wire l hl)) (ty_wireD l) ?_); (focus (simp only [VC.den, E.den, dEq, gsH_nil, and_true]; try exact rfl)); (simp only [cA]))
 ((first | refine den_call ?_ (c_impl_stuck l hl) (ty_bRow _ _) ?_ | refine den_callR ?_ (c_impl_stuck l hl) (ty_bRow _ _) ?_ | refine den_call ?_ (.ofR (c_impl_stuck l hl)) (ty_bRow _ _) ?_); (focus (simp only [VC.den, E.den, dEq, gsH_nil, and_true]; try exact rfl)); (simp only [cA]))
 ((first | refine den_call ?_ (c_impl_named l (.fn 55 [[bRow l.length (stuckS l)]]) (stuckS l) hl trivial (fun i hi => ⟨_, _, rfl, c_impl_StuckOf_1 _ _ i hi⟩)) (ty_strS _) ?_ | refine den_callR ?_ (c_impl_named l (.fn 55 [[bRow l.length (stuckS l)]]) (stuckS l) hl trivial (fun i hi => ⟨_, _, rfl, c_impl_StuckOf_1 _ _ i hi⟩)) (ty_strS _) ?_ | refine den_call ?_ (.ofR (c_impl_named l (.fn 55 [[bRow l.length (stuckS l)]]) (stuckS l) hl trivial (fun i hi => ⟨_, _, rfl, c_impl_StuckOf_1 _ _ i hi⟩))) (ty_strS _) ?_); (focus (simp only [VC.den, E.den, dEq, gsH_nil, and_true]; try exact rfl)); (simp only [cA]))
 exact den_ret (by simp [E.den, stuckN, hr])
/-! The order of the start -/
def nx (l : List Entry) (o : List Nat) (i : Nat) : Int := match firstTo (readyB l o) i with | some j => j | none => -1
end Go.Proofs.YtimickglpboilaaGreat
