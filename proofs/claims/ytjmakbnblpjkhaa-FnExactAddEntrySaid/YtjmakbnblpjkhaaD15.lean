/- Walk: an entry is added (impl.AddEntry): each row in the answer lies in a new block of its own. -/
import Derived.Test.YtjmakbnblpjkhaaD14
import Derived.Test.YtjmakbnblpjkhaaD10
import Derived.WalkKit
import Derived.ProofKit
import Derived.OpenShut
import Derived.ShutString
import Derived.ChangeOld
import Derived.Below
import Derived.Deep.Slices
set_option linter.unusedVariables false
set_option linter.unusedSimpArgs false
set_option linter.unusedSectionVars false
set_option maxRecDepth 100000
namespace Go.Proofs.Ytjmakbnblpjkhaa
open Go.RowKit Go
section
variable {n : Nat} {P : Program} {ops : Array Oper} {Q : Exit → Act → World → Prop} {E : List (Nat × Value)} {w w' : World} {o : Oper} {rest : List Oper} {v u : Value} {d : Nat}
theorem CW.meet {c : Code} (E' : List (Nat × Value)) (J : World → Prop) (h1 : CW n P c (fun e a w => e = .normal ∧ Env n a E' ∧ J w) E w) (h2 : ∀ w, J w → NX n (Q .normal) E' w) : CW n P c Q E w := fun a hE =>
 wp_mono (h1 a hE) fun e a w ⟨he, hE', hJ⟩ => by subst he; exact h2 w hJ a hE'
theorem NX.meet {E' : List (Nat × Value)} {J : World → Prop} (hs : allLk E E') (hJ : J w) : NX n ((fun e a w => e = Exit.normal ∧ Env n a E' ∧ J w) .normal) E w := fun a hE => ⟨rfl, hE.sub hs, hJ⟩
theorem WS.vg {K : Act → Prop} {j e : Nat} {b : Bool} (hg : o.guard = some (j, b)) (hj : (ops[j]?).bind (·.dst) = some e) (hb : lk E e = some (.bool b)) (hd : o.dst = some d) (hr : RunV n P E o w v w) (hdn : d < n) (h : WS n P ops w K rest ((d, v) :: E)) : WS n P ops w K (o :: rest) E := fun a hE =>
 wpStill_step fun K' hK => by rw [if_pos (wanted_yes hE hg hj hb)]; unfold Oper.still; rw [hr a hE, Oper.stillUpon_value, hd]; exact hK _ (h _ (hE.put hdn v))
theorem WS.no {K : Act → Prop} {j e : Nat} {b : Bool} (hg : o.guard = some (j, !b)) (hj : (ops[j]?).bind (·.dst) = some e) (hb : lk E e = some (.bool b)) (hd : o.dst = some d) (hdn : d < n) (h : WS n P ops w K rest ((d, undef) :: E)) : WS n P ops w K (o :: rest) E := fun a hE =>
 wpStill_step fun K' hK => by rw [if_neg (by rw [wanted_no hE hg hj hb]; simp), hd]; exact hK _ (h _ (hE.put hdn undef))
theorem r_ltSB {T U : TypeId} {x y : Operand} {s t : ByteArray} {b : Bool} (ho : o.op = .binOp .lss T x y U) (hx : ev E x = some (.string s)) (hy : ev E y = some (.string t)) (hb : ltB s t = b) : RunV n P E o w (.bool b) w := fun a hE => by
 subst hb
 simp [execOp, ho, hE.ev hx, hE.ev hy, eqGuard, binOp, Op.stringOp, ltB]
theorem r_bslice5 {T e : TypeId} {i : TypeInfo} {x : Operand} {u0 u1 u2 u3 u4 z0 z1 z2 z3 z4 : Value} (ho : o.op = .buildSlice T 1 #[(0, x)]) (hx : ev E x = some (.agg #[u0, u1, u2, u3, u4])) (hT : P.underlying T = some (.slice e)) (hi : P.info? e = some i) (hsz : i.size = 5) (hz : i.zero = some (.agg #[z0, z1, z2, z3, z4])) :
  RunV n P E o w (.slice (some ⟨w.heap.size, 0, none⟩) 1 1) (w.alloc (.cells #[u0, u1, u2, u3, u4] e)) := fun a hE => by
 have hr : Array.range 5 = #[0, 1, 2, 3, 4] := by decide
 simp [execOp, ho, hE.ev hx, Instr.buildSlice, run_underlying hT, run_sizeOf hi, hsz, zeroValue, run_typeInfo hi, hz, Value.cells, Instr.fill, newRow, hr]
end
theorem Rows.re {B : Nat} {w : World} {ob : Option Nat} {n : Nat} {l l' : List Entry} {xs : List Value} {u1 u4 : Nat → Value} {ro no : Nat → Option Nat} (h : Rows B w ob n l xs u1 u4 ro no) (hl : n ≤ l'.length) (hn : ∀ a, a < n → nth l' a = nth l a) : Rows B w ob n l' xs u1 u4 ro no :=
 ⟨hl, h.xl, fun a ha => by rw [hn a ha]; exact h.x0 a ha, h.x1, fun a ha => by rw [hn a ha]; exact h.x2 a ha, fun a ha => by rw [hn a ha]; exact h.x3 a ha, h.x4, fun a ha => by rw [hn a ha]; exact h.r1 a ha, fun a ha => by rw [hn a ha]; exact h.r4 a ha, h.rb, h.nb, h.rn, h.rr, h.nn⟩
theorem own_snoc {P : Program} {T Tl ty : TypeId} {ti : TypeInfo} {z : Value} (ht : P.underlying Tl = some (.slice T)) (hti : P.info? T = some ti) (hz : ti.zero = some z) (hsz : ti.size = 5) (hby : ti.bytes = 80) (hzs : z.cells.size = 5)
  {B : Nat} {w0 wr w1 : World} {l1 : List Entry} {e : Entry} {v1 : Value} (h1 : Own B T wr l1 v1) (hZ : Below wr.heap.size wr w1) (hB0 : Below B w0 wr) (hw0 : w0.heap.size = B) (hl1 : l1.length ≤ 1048576) {y1 y4 : Value} {r1 r4 : Option Nat}
  (q0 : e.name.size ≤ maxLen) (q2 : IntKind.i64.min ≤ e.ver.maj ∧ e.ver.maj ≤ IntKind.i64.max) (q3 : IntKind.i64.min ≤ e.ver.min ∧ e.ver.min ≤ IntKind.i64.max)
  (z1 : RowIn wr.heap.size w1 (e.recipe.map Enc.cells) y1 r1) (z4 : RowIn wr.heap.size w1 (e.needs.map Enc.cells) y4 r4) (hap : ∀ x, r1 = some x → r4 ≠ some x) (o1 : y1.oneCell' = true) (o4 : y4.oneCell' = true) :
  ∃ v' w', (Builtin.append_ #[Tl, Tl] ty #[v1, .slice (some ⟨w1.heap.size, 0, none⟩) 1 1]).run P (w1.alloc (.cells #[.string e.name, y1, .int .i64 e.ver.maj, .int .i64 e.ver.min, y4] T)) = .ok v' w' ∧ Own B T w' (l1 ++ [e]) v' ∧ Below B w0 w' := by
 subst hw0
 obtain ⟨xs1, u1, u4, ro, no, O1, R1⟩ := h1
 have hBs := hB0.size
 have hA : Below w1.heap.size w1 (w1.alloc (.cells #[.string e.name, y1, .int .i64 e.ver.maj, .int .i64 e.ver.min, y4] T)) := (Below.refl _ _).alloc (Nat.le_refl _) _
 have O1' := owns_below (owns_below O1 hZ) hA
 have hone : ∀ u ∈ [Value.string e.name, y1, .int .i64 e.ver.maj, .int .i64 e.ver.min, y4], u.oneCell' = true := fun u hu => by
  simp at hu
  rcases hu with rfl | rfl | rfl | rfl | rfl
  ·rfl
  ·exact o1
  ·rfl
  ·rfl
  ·exact o4
 have hcn : ∀ (j : Nat) (u : Value), [Value.string e.name, y1, .int .i64 e.ver.maj, .int .i64 e.ver.min, y4][j]? = some u → (w1.alloc (.cells #[.string e.name, y1, .int .i64 e.ver.maj, .int .i64 e.ver.min, y4] T)).cell? ((⟨w1.heap.size, 0, none⟩ : Addr).add j) = some u := fun j u hu => cells_new (w := w1) (xs := [.string e.name, y1, .int .i64 e.ver.maj, .int .i64 e.ver.min, y4]) (T := T) j u hu
 obtain ⟨v', w', hr, p2, p3, p4, p5⟩ := run_append_own_at (P := P) (w1.alloc (.cells #[.string e.name, y1, .int .i64 e.ver.maj, .int .i64 e.ver.min, y4] T)) w0.heap.size Tl ty T ti z 5 80 ht hti hz hsz hby hzs (by decide) v1 l1.length xs1 O1' ⟨w1.heap.size, 0, none⟩ 1 1 [.string e.name, y1, .int .i64 e.ver.maj, .int .i64 e.ver.min, y4] rfl hcn hone (by unfold maxLen; omega) (by omega) (Nat.le_trans hBs (Nat.le_trans hZ.size hA.size))
 have hk : l1.length < (l1 ++ [e]).length := by simp
 have hat : nth (l1 ++ [e]) l1.length = e := by simp [nth]
 have hfin := rows_append (w := w0) (wr := wr) (W := wr) (w1 := w1) (w3 := w') (l := l1 ++ [e]) (k := l1.length) (out := v1) (v' := v') (xs := xs1) (T := T) (T' := T) (y1 := y1) (y4 := y4) (r1 := r1) (r4 := r4) (sl := #[.string e.name, y1, .int .i64 e.ver.maj, .int .i64 e.ver.min, y4])
  hB0 O1 (R1.re (by simp) fun a ha => nth_app_l ha) hk (Nat.le_refl _) hZ (by rw [hat]; exact q0) (by rw [hat]; exact q2) (by rw [hat]; exact q3) (by rw [hat]; exact z1) (by rw [hat]; exact z4) hap p3 p5
 obtain ⟨f1, f2⟩ := hfin
 have hl2 : (l1 ++ [e]).length = l1.length + 1 := by simp
 rw [hat] at f2
 rw [← hl2] at p2 f2
 exact ⟨v', w', hr, ⟨_, _, _, _, _, p2, f2⟩, f1⟩
theorem entry_lit {w : World} {M : Addr → Prop} {e : Entry} {v : Value} (h : R w M (enc e) v) : ∃ a1 n1 c1 a4 n4 c4, v = .agg #[.string e.name, .slice a1 n1 c1, .int .i64 e.ver.maj, .int .i64 e.ver.min, .slice a4 n4 c4] ∧ e.name.size ≤ maxLen := by
 obtain ⟨ar, rfl, y0, _, hc2, ⟨r01, r02⟩, y1, _, rfl, r1, y2, _, rfl, ⟨r21, r22⟩, y3, _, rfl, ⟨r31, r32⟩, y4, _, rfl, r4, hy⟩ := h
 have hy : _ = [] := hy
 subst hy
 have has : ar = #[y0, y1, y2, y3, y4] := by rw [← Array.toList_inj, hc2]
 subst has
 subst r01 r21 r31
 obtain ⟨a1, n1, c1, rfl, _⟩ := r1
 obtain ⟨a4, n4, c4, rfl, _⟩ := r4
 exact ⟨_, _, _, _, _, _, rfl, r02⟩
theorem ca_ise : callable Try.prog 36 = true := by kernel_rfl
theorem ca_ce : callable Try.prog 37 = true := by kernel_rfl
theorem is_E : (Try.prog.info? 42).map (·.size) = some 5 := by kernel_rfl
theorem fo_E0 : fieldOff Try.prog 42 0 = some 0 := by kernel_rfl
theorem es_E : elemSize Try.prog 24 = some 5 := by kernel_rfl
theorem atOf_at {l : List Entry} {s : ByteArray} {k : Nat} (hI : ∀ i, i < k → atP l s i = false) (h : (k < l.length ∧ atP l s k = true) ∨ k = l.length) : atOf l s = k := by
 unfold atOf
 rcases h with ⟨h1, h2⟩ | rfl
 ·rw [firstTo_some (p := atP l s) (k := k) h2 hI h1]; rfl
 ·rw [firstTo_none hI]; rfl
theorem name_cell {w : World} {l : List Entry} {a : Option Addr} {len cap k : Nat} (hv : R w (fun _ => False) (encS l) (.slice a len cap)) (hlen : len = l.length) (hk : k < l.length) : ∃ b o, a = some ⟨b, o, none⟩ ∧ w.cell? ⟨b, o + k * 5 + 0, none⟩ = some (.string (nth l k).name) := by
 obtain ⟨a', cap', e, hml, hel⟩ := arg_slice (ent_len l) hv
 cases e
 obtain ⟨b, o, us, hab, hul, hus, hcell⟩ := hel k _ (get_map l (k := k) hk)
 obtain ⟨x0, x1, x2, x3, x4, rfl⟩ := len_5 hul
 obtain ⟨c0, _, hcc, ⟨hx0, _⟩, _⟩ := hus
 simp only [List.cons.injEq] at hcc
 obtain ⟨rfl, _⟩ := hcc
 subst hx0
 exact ⟨b, o, hab, hcell 0 _ rfl⟩
set_option maxHeartbeats 8000000 in
theorem w_AddEntry (l : List Entry) (e : Entry) (hl : l.length ≤ 1048576) (hf : ∀ e ∈ l, e.fit) (he : e.fit) (w : World) (v u : Value) (hv : R w (fun _ => False) (encS l) v) (hu : R w (fun _ => False) (enc e) u) :
  Calls Try.prog 15 #[v, u] w fun x w' => ∃ v', x = .returned (.tuple #[v', .bool (addOk l e)]) ∧ Own w.heap.size 42 w' (addL l e) v' ∧ Below w.heap.size w w' := by
 obtain ⟨a, len, cap, rfl, hlen, hcap, hmax, -, -⟩ := id hv
 have hlen : len = l.length := by rw [hlen]; simp
 obtain ⟨a1, n1, c1, a4, n4, c4, rfl, hnm⟩ := entry_lit hu
 refine calls_CW (E := [(0, .slice a len cap), (1, .agg #[.string e.name, .slice a1 n1 c1, .int .i64 e.ver.maj, .int .i64 e.ver.min, .slice a4 n4 c4])]) Try.func15 rfl Try.ntmps15 (by simp) (by simp) ?_
 refine CW.seq (CW.region ?_)
 refine WL.vv rfl rfl (r_box rfl rfl) (by decide) ?_
 refine WL.vv rfl rfl (r_assign rfl rfl) (by decide) ?_
 refine WL.vv rfl rfl (r_assign rfl rfl) (by decide) ?_
 refine WL.nil (NX.next ?_)
 show CW _ Try.prog _ _ _ (w.alloc (.cells #[.string e.name, .slice a1 n1 c1, .int .i64 e.ver.maj, .int .i64 e.ver.min, .slice a4 n4 c4] 42))
 refine CW.sub (E' := [(0, .slice a len cap), (3, .pointer (some ⟨w.heap.size, 0, none⟩))]) ⟨rfl, rfl, trivial⟩ ?_
 have hB0 : Below w.heap.size w (w.alloc (.cells #[.string e.name, .slice a1 n1 c1, .int .i64 e.ver.maj, .int .i64 e.ver.min, .slice a4 n4 c4] 42)) := by go_grown
 have p0 := RBlk.new w 42 #[.string e.name, .slice a1 n1 c1, .int .i64 e.ver.maj, .int .i64 e.ver.min, .slice a4 n4 c4]
 generalize (w.alloc (.cells #[.string e.name, .slice a1 n1 c1, .int .i64 e.ver.maj, .int .i64 e.ver.min, .slice a4 n4 c4] 42)) = wa at hB0 p0 ⊢
 have hva := R.keep (Keeps.below hB0 fun _ _ h => h) _ _ hv
 have hua := R.keep (Keeps.below hB0 fun _ _ h => h) _ _ hu
 refine CW.seq (CW.seq (CW.meet [(0, .slice a len cap), (3, .pointer (some ⟨w.heap.size, 0, none⟩)), (26, .bool (!addOk l e))] (fun wk => Below wa.heap.size wa wk) (CW.region ?_) fun wb hJ => NX.next ?_))
 refine WL.vv rfl rfl (r_move rfl rfl) (by decide) ?_
 refine WL.c rfl rfl (r_call (args := #[.slice a len cap]) ca_reg rfl rfl rfl) (by decide) (Fun.calls (c_impl_IsRegistry l) (rdy0 wa) (vs := [.slice a len cap]) ⟨_, [], rfl, hva, rfl⟩) ?_
 rintro _ w2 ⟨x2, rfl, hx2, hb2⟩
 have hx2 : x2 = .bool (regB l) := hx2
 subst hx2
 refine ⟨_, rfl, ?_⟩
 replace p0 := p0.below hb2 p0.lt
 have hv2 := R.keep (Keeps.below hb2 fun _ _ h => h) _ _ hva
 have hu2 := R.keep (Keeps.below hb2 fun _ _ h => h) _ _ hua
 refine WL.vv rfl rfl (r_not rfl rfl) (by decide) ?_
 refine WL.vv rfl rfl (r_move rfl rfl) (by decide) ?_
 by_cases hreg : regB l = true
 ·rw [hreg]
  refine WL.vg (b := false) rfl rfl rfl rfl (r_loadS rfl rfl Try.underlying42 rfl p0 is_E) (by decide) ?_
  refine WL.cg (b := false) rfl rfl rfl rfl (r_call (args := #[.agg #[.string e.name, .slice a1 n1 c1, .int .i64 e.ver.maj, .int .i64 e.ver.min, .slice a4 n4 c4]]) ca_ise rfl rfl rfl) (by decide) (Fun.calls (c_impl_IsEntry e) (rdy0 w2) (vs := [.agg #[.string e.name, .slice a1 n1 c1, .int .i64 e.ver.maj, .int .i64 e.ver.min, .slice a4 n4 c4]]) ⟨_, [], rfl, hu2, rfl⟩) ?_
  rintro _ w3 ⟨x3, rfl, hx3, hb3⟩
  have hx3 : x3 = .bool (entryB e) := hx3
  subst hx3
  refine ⟨_, rfl, ?_⟩
  replace p0 := p0.below hb3 p0.lt
  have hv3 := R.keep (Keeps.below hb3 fun _ _ h => h) _ _ hv2
  refine WL.vg (b := false) rfl rfl rfl rfl (r_not rfl rfl) (by decide) ?_
  refine WL.vv rfl rfl (r_pickF rfl rfl rfl) (by decide) ?_
  refine WL.vv rfl rfl (r_move rfl rfl) (by decide) ?_
  by_cases hent : entryB e = true
  ·rw [hent]
   refine WL.vg (b := false) rfl rfl rfl rfl (r_move rfl rfl) (by decide) ?_
   refine WL.vg (b := false) rfl rfl rfl rfl (r_field rfl rfl fo_E0) (by decide) ?_
   refine WL.vg (b := false) rfl rfl rfl rfl (r_load rfl rfl Try.underlying9 rfl (p0.cell 0)) (by decide) ?_
   refine WL.cg (b := false) rfl rfl rfl rfl (r_call (args := #[.slice a len cap, .string e.name]) ca_find rfl rfl rfl) (by decide) (Fun.calls (c_impl_FindEntry l e.name) (rdy0 w3) (vs := [.slice a len cap, .string e.name]) ⟨_, _, rfl, hv3, _, [], rfl, ⟨rfl, hnm⟩, rfl⟩) ?_
   rintro _ w4 ⟨x4, rfl, ⟨rfl, -⟩, hb4⟩
   refine ⟨_, rfl, ?_⟩
   by_cases h0 : 0 ≤ findI l e.name
   ·refine WL.vg (b := false) rfl rfl rfl rfl (r_cmpB (b := true) rfl rfl rfl rfl (by simp [cmpI]; exact h0)) (by decide) ?_
    refine WL.vv rfl rfl (r_pickF rfl rfl rfl) (by decide) ?_
    refine WL.vv rfl rfl (r_move rfl rfl) (by decide) ?_
    refine WL.no (b := true) rfl rfl rfl rfl (by decide) ?_
    refine WL.no (b := true) rfl rfl rfl rfl (by decide) ?_
    refine WL.no (b := true) rfl rfl rfl rfl (by decide) ?_
    refine WL.vv rfl rfl (r_pickT rfl rfl rfl) (by decide) ?_
    have hao : addOk l e = false := by unfold addOk; rw [hreg, hent]; simp; omega
    exact WL.nil (NX.meet ⟨rfl, rfl, by rw [hao]; rfl, trivial⟩ (bt hb2 (bt hb3 hb4)))
   ·refine WL.vg (b := false) rfl rfl rfl rfl (r_cmpB (b := false) rfl rfl rfl rfl (by simp [cmpI]; omega)) (by decide) ?_
    refine WL.vv rfl rfl (r_pickF rfl rfl rfl) (by decide) ?_
    refine WL.vv rfl rfl (r_move rfl rfl) (by decide) ?_
    refine WL.vg (b := false) rfl rfl rfl rfl (r_move rfl rfl) (by decide) ?_
    refine WL.vg (b := false) rfl rfl rfl rfl (r_len rfl rfl rfl rfl Try.underlying24 rfl) (by decide) ?_
    have hao : addOk l e = decide (l.length < 6) := by unfold addOk; rw [hreg, hent]; simp; omega
    refine WL.vg (b := false) rfl rfl rfl rfl (r_cmpB (b := !decide (l.length < 6)) rfl rfl rfl rfl (by rw [hlen]; by_cases h6 : l.length < 6 <;> simp [cmpI, h6] <;> omega)) (by decide) ?_
    refine WL.vv rfl rfl (r_pickF rfl rfl rfl) (by decide) ?_
    exact WL.nil (NX.meet ⟨rfl, rfl, by rw [hao]; rfl, trivial⟩ (bt hb2 (bt hb3 hb4)))
  ·have hent : entryB e = false := by simpa using hent
   have hao : addOk l e = false := by unfold addOk; rw [hreg, hent]; simp
   rw [hent]
   refine WL.no (b := true) rfl rfl rfl rfl (by decide) ?_
   refine WL.no (b := true) rfl rfl rfl rfl (by decide) ?_
   refine WL.no (b := true) rfl rfl rfl rfl (by decide) ?_
   refine WL.no (b := true) rfl rfl rfl rfl (by decide) ?_
   refine WL.no (b := true) rfl rfl rfl rfl (by decide) ?_
   refine WL.vv rfl rfl (r_pickT rfl rfl rfl) (by decide) ?_
   refine WL.vv rfl rfl (r_move rfl rfl) (by decide) ?_
   refine WL.no (b := true) rfl rfl rfl rfl (by decide) ?_
   refine WL.no (b := true) rfl rfl rfl rfl (by decide) ?_
   refine WL.no (b := true) rfl rfl rfl rfl (by decide) ?_
   refine WL.vv rfl rfl (r_pickT rfl rfl rfl) (by decide) ?_
   exact WL.nil (NX.meet ⟨rfl, rfl, by rw [hao]; rfl, trivial⟩ (bt hb2 hb3))
 ·have hreg : regB l = false := by simpa using hreg
  have hao : addOk l e = false := by unfold addOk; rw [hreg]; rfl
  rw [hreg]
  refine WL.no (b := true) rfl rfl rfl rfl (by decide) ?_
  refine WL.no (b := true) rfl rfl rfl rfl (by decide) ?_
  refine WL.no (b := true) rfl rfl rfl rfl (by decide) ?_
  refine WL.vv rfl rfl (r_pickT rfl rfl rfl) (by decide) ?_
  refine WL.vv rfl rfl (r_move rfl rfl) (by decide) ?_
  refine WL.no (b := true) rfl rfl rfl rfl (by decide) ?_
  refine WL.no (b := true) rfl rfl rfl rfl (by decide) ?_
  refine WL.no (b := true) rfl rfl rfl rfl (by decide) ?_
  refine WL.no (b := true) rfl rfl rfl rfl (by decide) ?_
  refine WL.no (b := true) rfl rfl rfl rfl (by decide) ?_
  refine WL.vv rfl rfl (r_pickT rfl rfl rfl) (by decide) ?_
  refine WL.vv rfl rfl (r_move rfl rfl) (by decide) ?_
  refine WL.no (b := true) rfl rfl rfl rfl (by decide) ?_
  refine WL.no (b := true) rfl rfl rfl rfl (by decide) ?_
  refine WL.no (b := true) rfl rfl rfl rfl (by decide) ?_
  refine WL.vv rfl rfl (r_pickT rfl rfl rfl) (by decide) ?_
  exact WL.nil (NX.meet ⟨rfl, rfl, by rw [hao]; rfl, trivial⟩ hb2)
 replace p0 := p0.below hJ p0.lt
 replace hva := R.keep (Keeps.below hJ fun _ _ h => h) _ _ hva
 replace hua := R.keep (Keeps.below hJ fun _ _ h => h) _ _ hua
 replace hB0 := bt hB0 hJ
 clear hJ
 by_cases hok : addOk l e = true
 ·rw [hok]
  refine CW.no rfl (CW.skip (NX.next ?_))
  have hL : addL l e = insE l e := by unfold addL; rw [if_pos hok]
  refine CW.seq (CW.region ?_)
  refine WL.vv rfl rfl (r_assign rfl rfl) (by decide) ?_
  refine WL.nil (NX.next ?_)
  refine CW.sub (E' := [(0, .slice a len cap), (3, .pointer (some ⟨w.heap.size, 0, none⟩)), (6, .int .i64 ((0 : Nat) : Int))]) ⟨rfl, rfl, rfl, trivial⟩ ?_
  refine CW.seq (CW.block (CW.loop (fun m E' w' => ∃ k : Nat, m + k = l.length ∧ E' = [(0, .slice a len cap), (3, .pointer (some ⟨w.heap.size, 0, none⟩)), (6, .int .i64 (k : Int))] ∧ (∀ i, i < k → atP l e.name i = false) ∧ Below wb.heap.size wb w') l.length ⟨0, by omega, rfl, fun i h => absurd h (by omega), Below.refl _ _⟩ ?_))
  rintro m E' wc ⟨k, hmk, rfl, hI, hbc⟩
  have pc := p0.below hbc p0.lt
  have hvc := R.keep (Keeps.below hbc fun _ _ h => h) _ _ hva
  have huc := R.keep (Keeps.below hbc fun _ _ h => h) _ _ hua
  have hBc := bt hB0 hbc
  refine CW.seq (CW.seq (CW.still mo (by kernel_rfl) fun wd hwd hBd => ?_))
  have pd := pc.below hBd pc.lt
  have hvd := R.keep (Keeps.below hBd fun _ _ h => h) _ _ hvc
  refine WS.vv rfl rfl (r_move rfl rfl) (by decide) ?_
  refine WS.vv rfl rfl (r_move rfl rfl) (by decide) ?_
  refine WS.vv rfl rfl (r_len rfl rfl rfl rfl Try.underlying24 rfl) (by decide) ?_
  rcases Nat.eq_zero_or_pos m with hm | hm
  ·subst hm
   obtain rfl : k = l.length := by omega
   refine WS.vv rfl rfl (r_cmpB (b := false) rfl rfl rfl rfl (by simp [cmpI]; omega)) (by decide) ?_
   refine WS.vv rfl rfl (r_move rfl rfl) (by decide) ?_
   refine WS.no (b := false) rfl rfl rfl rfl (by decide) ?_
   refine WS.no (b := false) rfl rfl rfl rfl (by decide) ?_
   refine WS.no (b := false) rfl rfl rfl rfl (by decide) ?_
   refine WS.no (b := false) rfl rfl rfl rfl (by decide) ?_
   refine WS.no (b := false) rfl rfl rfl rfl (by decide) ?_
   refine WS.no (b := false) rfl rfl rfl rfl (by decide) ?_
   refine WS.no (b := false) rfl rfl rfl rfl (by decide) ?_
   refine WS.no (b := false) rfl rfl rfl rfl (by decide) ?_
   refine WS.vv rfl rfl (r_pickF rfl rfl rfl) (by decide) ?_
   refine WS.fin (NX.next (CW.no rfl (CW.exit (NX.exi (NX.exi (NX.exiB (NX.next ?_)))))))
   have hat : atOf l e.name = l.length := atOf_at hI (.inr rfl)
   generalize hkl : l.length = k at hat ⊢
   refine CW.sub (E' := [(0, .slice a len cap), (3, .pointer (some ⟨w.heap.size, 0, none⟩)), (6, .int .i64 (k : Int))]) ⟨rfl, rfl, rfl, trivial⟩ ?_
   refine CW.seq (CW.any (fun W => RBlk W w.heap.size 42 #[.string e.name, .slice a1 n1 c1, .int .i64 e.ver.maj, .int .i64 e.ver.min, .slice a4 n4 c4]) 14 mo fun we hwe hBe => ?_)
   have hBde := bt hBd hBe
   have pe := pc.below hBde pc.lt
   have hve := R.keep (Keeps.below hBde fun _ _ h => h) _ _ hvc
   have hue := R.keep (Keeps.below hBde fun _ _ h => h) _ _ huc
   have hBw := bt hBc hBde
   refine ⟨pe, ?_⟩
   refine AU.take 0 rfl (by kernel_rfl) (by kernel_rfl) (by kernel_rfl) (by kernel_rfl) (fun _ _ _ h => h) rfl rfl (fun W hW => r_move rfl rfl) (by decide) pe ?_
   refine AU.take 1 rfl (by kernel_rfl) (by kernel_rfl) (by kernel_rfl) (by kernel_rfl) (fun _ _ _ h => h) rfl rfl (fun W hW => r_move rfl rfl) (by decide) pe ?_
   refine AU.take 2 rfl (by kernel_rfl) (by kernel_rfl) (by kernel_rfl) (by kernel_rfl) (fun _ _ _ h => h) rfl rfl (fun W hW => r_slice (l := 0) (h := (k : Int)) rfl rfl (.inl ⟨rfl, rfl⟩) (.inr ⟨_, _, rfl, rfl⟩) (by omega) (by omega) (by omega) hcap es_T) (by decide) pe ?_
   refine AU.take 4 rfl (by kernel_rfl) (by kernel_rfl) (by kernel_rfl) (by kernel_rfl) (fun _ _ _ h => h) rfl rfl (fun W hW => r_loadS rfl rfl Try.underlying42 rfl hW is_E) (by decide) pe ?_
   refine AU.take 8 rfl (by kernel_rfl) (by kernel_rfl) (by kernel_rfl) (by kernel_rfl) (fun _ _ _ h => h) rfl rfl (fun W hW => r_move rfl rfl) (by decide) pe ?_
   refine AU.take 9 rfl (by kernel_rfl) (by kernel_rfl) (by kernel_rfl) (by kernel_rfl) (fun _ _ _ h => h) rfl rfl (fun W hW => r_move rfl rfl) (by decide) pe ?_
   refine AU.take 10 rfl (by kernel_rfl) (by kernel_rfl) (by kernel_rfl) (by kernel_rfl) (fun _ _ _ h => h) rfl rfl (fun W hW => r_slice (l := (k : Int)) (h := (len : Int)) rfl rfl (.inr ⟨_, _, rfl, rfl⟩) (.inl ⟨rfl, rfl⟩) (by omega) (by omega) (by omega) hcap es_T) (by decide) pe ?_
   simp only [Int.toNat_natCast, Int.toNat_zero]
   have hl6 : l.length < 6 := by
    unfold addOk at hok
    simp only [Bool.and_eq_true, decide_eq_true_eq] at hok
    exact hok.2
   have hz1 : (l.take k).length ≤ 1048576 := by simp; omega
   have hz3 : (l.take k ++ [e]).length ≤ 1048576 := by simp; omega
   have hz2 : (l.drop k).length ≤ 1048576 := by simp; omega
   refine AU.c 3 (args := #[.slice (if cap = 0 then a else a.map (·.add (0 * 5))) (k - 0) (cap - 0)]) rfl (by kernel_rfl) rfl rfl (r_call ca_ces rfl rfl rfl) (by decide) (w_copies (l.take k) hz1 (fun x hx => hf x (List.mem_of_mem_take hx)) we _ (cut_take hve (by omega))) ?_
   rintro _ w3 ⟨v1, rfl, hO1, hb3⟩
   have hv3 := R.keep (Keeps.below hb3 fun _ _ h => h) _ _ hve
   have hu3 := R.keep (Keeps.below hb3 fun _ _ h => h) _ _ hue
   have p3 := pe.below hb3 pe.lt
   refine ⟨_, rfl, fun _ => p3, ?_⟩
   refine AU.c 5 (args := #[.agg #[.string e.name, .slice a1 n1 c1, .int .i64 e.ver.maj, .int .i64 e.ver.min, .slice a4 n4 c4]]) rfl (by kernel_rfl) rfl rfl (r_call ca_ce rfl rfl rfl) (by decide) (w_copyEntry e (c_impl_copyEntry e he) hu3) ?_
   rintro _ w4 ⟨y1, y4, r1, r4, rfl, s0, s2, s3, z1, z4, hap, ho1, ho4, hb4⟩
   have p4 := p3.below hb4 p3.lt
   refine ⟨_, rfl, fun _ => p4, ?_⟩
   obtain ⟨ti, hti, hz, hsz, hby⟩ := info_parts (P := Try.prog) (e := 42) (z := .agg #[.string ⟨#[]⟩, .slice Option.none 0 0, .int .i64 0, .int .i64 0, .slice Option.none 0 0]) (size := 5) (bytes := 80) (by kernel_rfl)
   refine AU.vv 6 rfl (by kernel_rfl) rfl rfl (r_bslice5 rfl rfl Try.underlying24 hti hsz hz) (by decide) (fun _ => p4.alloc _) ?_
   obtain ⟨v5, w5, hr5, hO5, hb5⟩ := own_snoc (P := Try.prog) (ty := 24) (w0 := we) Try.underlying24 hti hz hsz hby rfl hO1 hb4 hb3 rfl hz1 s0 s2 s3 z1 z4 hap ho1 ho4
   have p5 := pe.below hb5 pe.lt
   have hv5 := R.keep (Keeps.below hb5 fun _ _ h => h) _ _ hve
   refine AU.vv 7 rfl (by kernel_rfl) rfl rfl (r_append rfl rfl rfl hr5) (by decide) (fun _ => p5) ?_
   refine AU.c 11 (args := #[.slice (if cap = k then a else a.map (·.add (k * 5))) (len - k) (cap - k)]) rfl (by kernel_rfl) rfl rfl (r_call ca_ces rfl rfl rfl) (by decide) (w_copies (l.drop k) hz2 (fun x hx => hf x (List.mem_of_mem_drop hx)) w5 _ (cut_drop hv5 hlen (by omega))) ?_
   rintro _ w6 ⟨v6, rfl, hO6, hb6⟩
   have p6 := p5.below hb6 p5.lt
   refine ⟨_, rfl, fun _ => p6, ?_⟩
   obtain ⟨v7, w7, hr7, hO7, hb7⟩ := own_append (P := Try.prog) (ty := 24) Try.underlying24 hti hz hsz hby rfl hO5 hb6 hO6 hb5.size hz3 hz2
   have p7 := pe.below (below_on (bt hb5 hb6) (hb7 _ (Nat.le_refl _))) pe.lt
   refine AU.vv 12 rfl (by kernel_rfl) rfl rfl (r_append rfl rfl rfl hr7) (by decide) (fun _ => p7) ?_
   refine AU.vv 13 rfl (by kernel_rfl) rfl rfl (r_assign rfl rfl) (by decide) (fun _ => p7) ?_
   refine AU.vv 14 rfl (by kernel_rfl) rfl rfl (r_assign rfl rfl) (by decide) (fun _ => p7) ?_
   have hins : insE l e = l.take k ++ [e] ++ l.drop k := by unfold insE; rw [hat]
   refine AU.done (by kernel_rfl) (NX.next (CW.ret (NX.bodyT2 rfl rfl rfl ⟨v7, rfl, ?_, bt hBw (below_on (bt hb5 hb6) (hb7 _ (Nat.le_refl _)))⟩)))
   rw [hL, hins]
   exact hO7.low hBw.size
  ·obtain ⟨m', rfl⟩ : ∃ m', m = m' + 1 := ⟨m - 1, by omega⟩
   have hkl : k < l.length := by omega
   refine WS.vv rfl rfl (r_cmpB (b := true) rfl rfl rfl rfl (by simp [cmpI]; omega)) (by decide) ?_
   refine WS.vv rfl rfl (r_move rfl rfl) (by decide) ?_
   obtain ⟨b, o, rfl, hc0⟩ := name_cell hvd hlen hkl
   refine WS.vg (b := true) rfl rfl rfl rfl (r_move rfl rfl) (by decide) ?_
   refine WS.vg (b := true) rfl rfl rfl rfl (r_move rfl rfl) (by decide) ?_
   refine WS.vg (b := true) rfl rfl rfl rfl (r_index rfl rfl rfl (by omega) (by omega) es_E) (by decide) ?_
   refine WS.vg (b := true) rfl rfl rfl rfl (r_field rfl rfl fo_E0) (by decide) ?_
   refine WS.vg (b := true) rfl rfl rfl rfl (r_load rfl rfl Try.underlying9 rfl hc0) (by decide) ?_
   refine WS.vg (b := true) rfl rfl rfl rfl (r_field rfl rfl fo_E0) (by decide) ?_
   refine WS.vg (b := true) rfl rfl rfl rfl (r_load rfl rfl Try.underlying9 rfl (pd.cell 0)) (by decide) ?_
   cases hlt : ltB (nth l k).name e.name with
   | true =>
    refine WS.vg (b := true) rfl rfl rfl rfl (r_ltSB rfl rfl rfl hlt) (by decide) ?_
    refine WS.vv rfl rfl (r_pickT rfl rfl rfl) (by decide) ?_
    refine WS.fin (NX.next (CW.yes rfl (CW.skip (NX.next (CW.block (CW.region ?_))))))
    refine WL.vv rfl rfl (r_move rfl rfl) (by decide) ?_
    refine WL.vv rfl rfl (r_arB (r := ((k + 1 : Nat) : Int)) rfl rfl rfl rfl (by rw [ar_add (by omega) (by omega)]; omega)) (by decide) ?_
    refine WL.vv rfl rfl (r_assign rfl rfl) (by decide) ?_
    exact WL.nil (NX.norB (NX.again m' [(0, .slice (some ⟨b, o, none⟩) len cap), (3, .pointer (some ⟨w.heap.size, 0, none⟩)), (6, .int .i64 ((k + 1 : Nat) : Int))] (by omega) ⟨rfl, rfl, rfl, trivial⟩ ⟨k + 1, by omega, rfl, fun i hi => by
     rcases Nat.lt_or_ge i k with h | h
     ·exact hI i h
     ·obtain rfl : i = k := by omega
      unfold atP; rw [hlt]; rfl, bt hbc hBd⟩))
   | false =>
    refine WS.vg (b := true) rfl rfl rfl rfl (r_ltSB rfl rfl rfl hlt) (by decide) ?_
    refine WS.vv rfl rfl (r_pickT rfl rfl rfl) (by decide) ?_
    refine WS.fin (NX.next (CW.no rfl (CW.exit (NX.exi (NX.exi (NX.exiB (NX.next ?_)))))))
    have hat : atOf l e.name = k := atOf_at hI (.inl ⟨hkl, by unfold atP; rw [hlt]; rfl⟩)
    refine CW.sub (E' := [(0, .slice (some ⟨b, o, none⟩) len cap), (3, .pointer (some ⟨w.heap.size, 0, none⟩)), (6, .int .i64 (k : Int))]) ⟨rfl, rfl, rfl, trivial⟩ ?_
    refine CW.seq (CW.any (fun W => RBlk W w.heap.size 42 #[.string e.name, .slice a1 n1 c1, .int .i64 e.ver.maj, .int .i64 e.ver.min, .slice a4 n4 c4]) 14 mo fun we hwe hBe => ?_)
    have hBde := bt hBd hBe
    have pe := pc.below hBde pc.lt
    have hve := R.keep (Keeps.below hBde fun _ _ h => h) _ _ hvc
    have hue := R.keep (Keeps.below hBde fun _ _ h => h) _ _ huc
    have hBw := bt hBc hBde
    refine ⟨pe, ?_⟩
    refine AU.take 0 rfl (by kernel_rfl) (by kernel_rfl) (by kernel_rfl) (by kernel_rfl) (fun _ _ _ h => h) rfl rfl (fun W hW => r_move rfl rfl) (by decide) pe ?_
    refine AU.take 1 rfl (by kernel_rfl) (by kernel_rfl) (by kernel_rfl) (by kernel_rfl) (fun _ _ _ h => h) rfl rfl (fun W hW => r_move rfl rfl) (by decide) pe ?_
    refine AU.take 2 rfl (by kernel_rfl) (by kernel_rfl) (by kernel_rfl) (by kernel_rfl) (fun _ _ _ h => h) rfl rfl (fun W hW => r_slice (l := 0) (h := (k : Int)) rfl rfl (.inl ⟨rfl, rfl⟩) (.inr ⟨_, _, rfl, rfl⟩) (by omega) (by omega) (by omega) hcap es_T) (by decide) pe ?_
    refine AU.take 4 rfl (by kernel_rfl) (by kernel_rfl) (by kernel_rfl) (by kernel_rfl) (fun _ _ _ h => h) rfl rfl (fun W hW => r_loadS rfl rfl Try.underlying42 rfl hW is_E) (by decide) pe ?_
    refine AU.take 8 rfl (by kernel_rfl) (by kernel_rfl) (by kernel_rfl) (by kernel_rfl) (fun _ _ _ h => h) rfl rfl (fun W hW => r_move rfl rfl) (by decide) pe ?_
    refine AU.take 9 rfl (by kernel_rfl) (by kernel_rfl) (by kernel_rfl) (by kernel_rfl) (fun _ _ _ h => h) rfl rfl (fun W hW => r_move rfl rfl) (by decide) pe ?_
    refine AU.take 10 rfl (by kernel_rfl) (by kernel_rfl) (by kernel_rfl) (by kernel_rfl) (fun _ _ _ h => h) rfl rfl (fun W hW => r_slice (l := (k : Int)) (h := (len : Int)) rfl rfl (.inr ⟨_, _, rfl, rfl⟩) (.inl ⟨rfl, rfl⟩) (by omega) (by omega) (by omega) hcap es_T) (by decide) pe ?_
    simp only [Int.toNat_natCast, Int.toNat_zero]
    have hl6 : l.length < 6 := by
     unfold addOk at hok
     simp only [Bool.and_eq_true, decide_eq_true_eq] at hok
     exact hok.2
    have hz1 : (l.take k).length ≤ 1048576 := by simp; omega
    have hz3 : (l.take k ++ [e]).length ≤ 1048576 := by simp; omega
    have hz2 : (l.drop k).length ≤ 1048576 := by simp; omega
    refine AU.c 3 (args := #[.slice (if cap = 0 then some (⟨b, o, none⟩ : Addr) else (some (⟨b, o, none⟩ : Addr)).map (·.add (0 * 5))) (k - 0) (cap - 0)]) rfl (by kernel_rfl) rfl rfl (r_call ca_ces rfl rfl rfl) (by decide) (w_copies (l.take k) hz1 (fun x hx => hf x (List.mem_of_mem_take hx)) we _ (cut_take hve (by omega))) ?_
    rintro _ w3 ⟨v1, rfl, hO1, hb3⟩
    have hv3 := R.keep (Keeps.below hb3 fun _ _ h => h) _ _ hve
    have hu3 := R.keep (Keeps.below hb3 fun _ _ h => h) _ _ hue
    have p3 := pe.below hb3 pe.lt
    refine ⟨_, rfl, fun _ => p3, ?_⟩
    refine AU.c 5 (args := #[.agg #[.string e.name, .slice a1 n1 c1, .int .i64 e.ver.maj, .int .i64 e.ver.min, .slice a4 n4 c4]]) rfl (by kernel_rfl) rfl rfl (r_call ca_ce rfl rfl rfl) (by decide) (w_copyEntry e (c_impl_copyEntry e he) hu3) ?_
    rintro _ w4 ⟨y1, y4, r1, r4, rfl, s0, s2, s3, z1, z4, hap, ho1, ho4, hb4⟩
    have p4 := p3.below hb4 p3.lt
    refine ⟨_, rfl, fun _ => p4, ?_⟩
    obtain ⟨ti, hti, hz, hsz, hby⟩ := info_parts (P := Try.prog) (e := 42) (z := .agg #[.string ⟨#[]⟩, .slice Option.none 0 0, .int .i64 0, .int .i64 0, .slice Option.none 0 0]) (size := 5) (bytes := 80) (by kernel_rfl)
    refine AU.vv 6 rfl (by kernel_rfl) rfl rfl (r_bslice5 rfl rfl Try.underlying24 hti hsz hz) (by decide) (fun _ => p4.alloc _) ?_
    obtain ⟨v5, w5, hr5, hO5, hb5⟩ := own_snoc (P := Try.prog) (ty := 24) (w0 := we) Try.underlying24 hti hz hsz hby rfl hO1 hb4 hb3 rfl hz1 s0 s2 s3 z1 z4 hap ho1 ho4
    have p5 := pe.below hb5 pe.lt
    have hv5 := R.keep (Keeps.below hb5 fun _ _ h => h) _ _ hve
    refine AU.vv 7 rfl (by kernel_rfl) rfl rfl (r_append rfl rfl rfl hr5) (by decide) (fun _ => p5) ?_
    refine AU.c 11 (args := #[.slice (if cap = k then some (⟨b, o, none⟩ : Addr) else (some (⟨b, o, none⟩ : Addr)).map (·.add (k * 5))) (len - k) (cap - k)]) rfl (by kernel_rfl) rfl rfl (r_call ca_ces rfl rfl rfl) (by decide) (w_copies (l.drop k) hz2 (fun x hx => hf x (List.mem_of_mem_drop hx)) w5 _ (cut_drop hv5 hlen (by omega))) ?_
    rintro _ w6 ⟨v6, rfl, hO6, hb6⟩
    have p6 := p5.below hb6 p5.lt
    refine ⟨_, rfl, fun _ => p6, ?_⟩
    obtain ⟨v7, w7, hr7, hO7, hb7⟩ := own_append (P := Try.prog) (ty := 24) Try.underlying24 hti hz hsz hby rfl hO5 hb6 hO6 hb5.size hz3 hz2
    have p7 := pe.below (below_on (bt hb5 hb6) (hb7 _ (Nat.le_refl _))) pe.lt
    refine AU.vv 12 rfl (by kernel_rfl) rfl rfl (r_append rfl rfl rfl hr7) (by decide) (fun _ => p7) ?_
    refine AU.vv 13 rfl (by kernel_rfl) rfl rfl (r_assign rfl rfl) (by decide) (fun _ => p7) ?_
    refine AU.vv 14 rfl (by kernel_rfl) rfl rfl (r_assign rfl rfl) (by decide) (fun _ => p7) ?_
    have hins : insE l e = l.take k ++ [e] ++ l.drop k := by unfold insE; rw [hat]
    refine AU.done (by kernel_rfl) (NX.next (CW.ret (NX.bodyT2 rfl rfl rfl ⟨v7, rfl, ?_, bt hBw (below_on (bt hb5 hb6) (hb7 _ (Nat.le_refl _)))⟩)))
    rw [hL, hins]
    exact hO7.low hBw.size
 ·have hok : addOk l e = false := by simpa using hok
  rw [hok]
  refine CW.yes rfl (CW.seq (CW.region ?_))
  refine WL.vv rfl rfl (r_move rfl rfl) (by decide) ?_
  refine WL.c rfl rfl (r_call (args := #[.slice a len cap]) ca_ces rfl rfl rfl) (by decide) (w_copies l hl hf wb _ hva) ?_
  rintro _ w3 ⟨v', rfl, hO, hb3⟩
  refine ⟨_, rfl, ?_⟩
  refine WL.vv rfl rfl (r_assign rfl rfl) (by decide) ?_
  refine WL.vv rfl rfl (r_assign rfl rfl) (by decide) ?_
  have hL : addL l e = l := by unfold addL; rw [hok]; rfl
  refine WL.nil (NX.next (CW.ret (NX.ret (NX.bodyT2 rfl rfl rfl ⟨v', rfl, by rw [hL]; exact hO.low hB0.size, bt hB0 hb3⟩))))
end Go.Proofs.Ytjmakbnblpjkhaa
/- What a law's walk over an environment needs besides: operations, copies that are new, the mark of one entry by its shape. -/
namespace Go.Proofs.Ytjmakbnblpjkhaa
open Go.RowKit Go
section
variable {n : Nat} {P : Program} {E : List (Nat × Value)} {w w' : World} {o : Oper} {v u : Value}
theorem r_notB {T : TypeId} {x : Operand} {b c : Bool} (ho : o.op = .unOp .not T x) (hx : ev E x = some (.bool b)) (hb : (!b) = c) : RunV n P E o w (.bool c) w := hb ▸ r_not ho hx
theorem r_neBB {T U : TypeId} {x y : Operand} {b : Bool} (ho : o.op = .binOp .neq T x y U) (hx : ev E x = some (.bool b)) (hy : ev E y = some (.bool b)) (hT : P.underlying T = some .bool) : RunV n P E o w (.bool false) w := fun a hE => by
 simp [execOp, ho, hE.ev hx, hE.ev hy, eqGuard, binOp, Op.equal, Op.maxDepth, run_equalIn_bool' w 9999 T b b hT]
end
theorem RBlk.alt {A : Addr → Prop} {w w' : World} {b : Nat} {T : TypeId} {cs : Array Value} (h : RBlk w b T cs) (ha : Alt A w w') (hA : ∀ p, A p → p.block ≠ b) : RBlk w' b T cs := (ha.blk b h.lt fun p hp hq => hA p hq hp).trans h
def NU (w : World) (B C : Nat) : Addr → Prop := fun p => NF w B p ∨ C ≤ p.block
theorem nu_of {w : World} {B : Nat} {d : D} {v : Value} (h : R w (NF w B) d v) : R w (NU w B w.heap.size) d v := R.up h
theorem nu_blk {w : World} {B C : Nat} {p : Addr} (h : ¬ NU w B C p) : B ≤ p.block ∧ p.block < C :=
 ⟨Classical.byContradiction fun q => h (.inl (.inl (by omega))), Classical.byContradiction fun q => h (.inr (by omega))⟩
theorem nu_keep {w w' : World} {B C : Nat} {d : D} {v : Value} (h : R w (NU w B C) d v) (hb : Below w.heap.size w w') : R w' (NU w' B C) d v :=
 R.keep (Keeps.below hb fun p hp hm => by
  rcases hm with (hm | hm) | hm
  ·exact .inl (.inl hm)
  ·exact .inl (.inr (by rw [← fro_of_block (w' := w') (hb.block p.block hp)]; exact hm))
  ·exact .inr hm) _ _ h
theorem nu_alt {A : Addr → Prop} {w w' : World} {B C : Nat} {d : D} {v : Value} (h : R w (NU w B C) d v) (ha : Alt A w w') (hA : ∀ p, A p → p.block < B ∨ C ≤ p.block) : R w' (NU w' B C) d v :=
 R.keep (fun p u hp hn => ⟨ha.keep p u hp fun hq => by
  rcases hA p hq with h1 | h1
  ·exact hn (.inl (.inl h1))
  ·exact hn (.inr h1), fun hm => hn (by
  rcases hm with (hm | hm) | hm
  ·exact .inl (.inl hm)
  ·exact .inl (.inr (by rw [← ha.fro p (block_lt_of_cell hp)]; exact hm))
  ·exact .inr hm)⟩) _ _ h
theorem m_Entry1 (x : Entry) (k : Nat) (w : World) (M : Addr → Prop) (y0 y1 y2 y3 y4 : Value) (hr : R w M (enc x) (.agg #[y0, y1, y2, y3, y4])) (hfr : ∀ p, w.frozen? p = true → M p) (hM : ∀ p, ¬ M p → p.block < w.heap.size) (hk : k + x.recipe.length + 4 * x.needs.length ≤ 1152921504606846970) :
  Calls Try.prog 17 #[.agg #[y0, y1, y2, y3, y4], .int .i64 k] w fun e w' => e = .returned (.int .i64 ((k + x.recipe.length + 4 * x.needs.length : Nat) : Int)) ∧ Alt (fun p => ¬ M p) w w' := by
 obtain ⟨ar, e0, z0, _, hc2, _, z1, _, rfl, r1, z2, _, rfl, _, z3, _, rfl, _, z4, _, rfl, r4, hy⟩ := hr
 have hy : _ = [] := hy
 subst hy
 cases e0
 simp only [List.cons.injEq, and_true] at hc2
 obtain ⟨rfl, rfl, rfl, rfl, rfl⟩ := hc2
 have hbA : Below w.heap.size w (w.alloc (.cells #[y0, y1, y2, y3, y4] 42)) := by go_grown
 have hcA : (w.alloc (.cells #[y0, y1, y2, y3, y4] 42)).cell? ⟨w.heap.size, 4, none⟩ = some y4 := by simp [go_sem]
 have hfA : ∀ p, (w.alloc (.cells #[y0, y1, y2, y3, y4] 42)).frozen? p = true → M p ∨ w.heap.size ≤ p.block := fun p hp => by
  rcases Nat.lt_or_ge p.block w.heap.size with h | h
  ·exact .inl (hfr p (by rw [← fro_of_block (hbA.block p.block h)]; exact hp))
  ·exact .inr h
 have r1 := R.keep (Keeps.below hbA (M' := fun p => M p ∨ w.heap.size ≤ p.block) fun p hp hm => hm.elim id fun h => by omega) _ _ (show R w M (encS x.recipe) y1 from r1)
 have r4 := R.keep (Keeps.below hbA (M' := fun p => M p ∨ w.heap.size ≤ p.block) fun p hp hm => hm.elim id fun h => by omega) _ _ (show R w M (encS x.needs) y4 from r4)
 obtain ⟨K2, hK2⟩ : ∃ K2, k + x.recipe.length = K2 := ⟨_, rfl⟩
 have hm1 := m_StringS x.recipe k _ _ y1 r1 hfA (by omega)
 rw [hK2] at hm1
 have HM1 := Lib.hid hm1
 have H4 := Lib.hid r4
 have HF := Lib.hid hfA
 have HBA := Lib.hid hbA
 have HCA := Lib.hid hcA
 clear hm1 r1 r4 hbA hcA hfA hfr
 go_enter Try.func17, Try.ntmps17
 go_wp2_with fail
 refine HM1.out.mono ?_
 rintro e w1 ⟨rfl, ha1, -⟩
 have hc1 := ha1.keep _ _ HCA.out fun hp => hp (.inr (Nat.le_refl _))
 obtain ⟨d', hs, hr4'⟩ := R.shape (M' := fun p => (M p ∨ w.heap.size ≤ p.block) ∨ w1.frozen? p = true) ha1 (fun p hp hm => hm.elim id fun h => HF.out p (by rw [← ha1.fro p hp]; exact h)) _ _ H4.out
 obtain ⟨rows, rfl, hsr⟩ := hs
 obtain ⟨nd, rfl, hnl⟩ := sh_need hsr
 have hm4 := m_NeedS nd K2 w1 _ y4 hr4' (fun p hp => .inr hp) (by rw [hnl]; omega)
 rw [hnl] at hm4
 have HM4 := Lib.hid hm4
 have HA1 := Lib.hid ha1
 clear hm4 ha1 hr4' hsr
 go_wp2_with fail
 refine HM4.out.mono ?_
 rintro e w2 ⟨rfl, ha2, -⟩
 have hA := ((Alt.below (A := fun p => ¬ M p) HBA.out).trans (HA1.out.mono (A' := fun p => ¬ M p) fun p _ hp hm => hp (.inl hm))).trans (ha2.mono (A' := fun p => ¬ M p) fun p _ hp hm => hp (.inl (.inl hm)))
 have HA := Lib.hid hA
 clear hA ha2
 go_wp2
 go_ret
 subst hK2
 exact ⟨rfl, HA.out⟩
theorem insE_mem {l : List Entry} {e x : Entry} (h : x ∈ insE l e) : x ∈ l ∨ x = e := by
 unfold insE at h
 rcases List.mem_append.1 h with h | h
 ·rcases List.mem_append.1 h with h | h
  ·exact .inl (List.mem_of_mem_take h)
  ·exact .inr (by simpa using h)
 ·exact .inl (List.mem_of_mem_drop h)
theorem addL_mem {l : List Entry} {e x : Entry} (h : x ∈ addL l e) : x ∈ l ∨ x = e := by
 unfold addL at h
 split at h
 ·exact insE_mem h
 ·exact .inl h
theorem addL_len {l : List Entry} {e : Entry} : (addL l e).length ≤ l.length + 1 := by
 unfold addL
 split
 ·unfold insE
  simp only [List.length_append, List.length_take, List.length_drop, List.length_cons, List.length_nil]
  omega
 ·omega
end Go.Proofs.Ytjmakbnblpjkhaa
/- What a law is handed, opened: a value that reads as data of the statement's kind reads as abstract data. No program in sight. -/
namespace Go.Proofs.Ytjmakbnblpjkhaa
open Go.RowKit Go.ChangeShapes Go.WideShapes Go.ChangeAt
variable [GC]
def opn (tb : TB) : Nat → Nat → Bool
 | 0, _ => false
 | d + 1, T => match tb.get T with
  | none => false
  | some ti => match ti.vt with
   | .one (.c (.sl e)) => opn tb d e && Nat.blt 0 (tb.tab e).length
   | .one (.c _) => true
   | .one (.agg ts) => contig tb 0 ts ti.fs && ti.fs.all (fun x => opn tb d x.2)
   | .tup _ => false
theorem opn_one {tb : TB} {d T : Nat} (h : opn tb d T = true) : ∃ ti v, tb.get T = some ti ∧ ti.vt = .one v ∧ tb.tab T = v.cells := by
 cases d with
 | zero => simp [opn] at h
 | succ d =>
  simp only [opn] at h
  split at h
  ·simp at h
  ·rename_i ti hti
   cases hv : ti.vt with
   | tup _ => rw [hv] at h; simp at h
   | one v => exact ⟨ti, v, hti, hv, by simp [TB.tab, hti, TI.cells, hv]⟩
def vtOf (tb : TB) (T : Nat) : VT := match tb.get T with | some ti => ti.vt | none => .tup []
def M0 : Addr → Prop := fun _ => False
section
variable {H : Type} {enc : TypeId × Value → H} {P : Program} {w : World} {base : Nat} {spare : Nat → Bool} {held : Bool} {tb : TB}
theorem rs_rw {M : Addr → Prop} {ds : List D} {cs : List Value} {b o : Nat} (h : Rs w M ds cs) (hc : ∀ j u, cs[j]? = some u → w.cell? ⟨b, o + j, none⟩ = some u) (hM : ∀ p, ¬ M p) : Rw w M ds b o :=
 Rw.of fun i d hd => by
  obtain ⟨v, h1, h2⟩ := h.get hd
  exact ⟨v, hc i v h1, hM _, h2⟩
theorem cellsOf_tab (hcx : tbOk P tb tb = true) {d T : Nat} (h : opn tb d T = true) : P.cellsOf T = (tb.tab T).length := by
 obtain ⟨ti, v, h1, h2, h3⟩ := opn_one h
 obtain ⟨i, hi, hs, _⟩ := ty_one hcx h1 h2
 simp [Program.cellsOf, hi, hs, h3]
theorem open_fields {cs : List Value} : ∀ (fl : List (Nat × Nat)) (o : Nat) (ts : List CT), contig tb o ts fl = true →
  (∀ p ∈ fl, ∃ ds, RowTy tb.tab (tb.tab p.2) ds ∧ Rs w M0 ds ((cs.drop p.1).take (tb.tab p.2).length)) → cs.length = o + ts.length → ∃ ds, RowTy tb.tab ts ds ∧ Rs w M0 ds (cs.drop o)
 | [], o, ts, h, _, hl => by
  simp only [contig, List.isEmpty_iff] at h
  subst h
  refine ⟨[], trivial, ?_⟩
  rw [List.drop_eq_nil_of_le (by simp at hl; omega)]; rfl
 | (o', t) :: r, o, ts, h, hf, hl => by
  simp only [contig, Bool.and_eq_true] at h
  obtain ⟨h1, h2⟩ := h
  have h1 := Nat.eq_of_beq_eq_true h1
  subst h1
  cases ht : tb.get t with
  | none => rw [ht] at h2; simp at h2
  | some i =>
   rw [ht] at h2
   simp only [Bool.and_eq_true, decide_eq_true_eq] at h2
   obtain ⟨h2, h3⟩ := h2
   have htab : tb.tab t = i.cells := by simp [TB.tab, ht]
   obtain ⟨ds, q1, q2⟩ := hf (o, t) (by simp)
   simp only [htab] at q1 q2
   have hle : i.cells.length ≤ ts.length := by
    have := congrArg List.length h2
    rw [List.length_take] at this; omega
   obtain ⟨ds', q3, q4⟩ := open_fields r (o + i.cells.length) (ts.drop i.cells.length) h3 (fun p hp => hf p (by simp [hp])) (by rw [List.length_drop]; omega)
   refine ⟨ds ++ ds', ?_, ?_⟩
   ·have : ts = i.cells ++ ts.drop i.cells.length := (List.take_append_drop i.cells.length ts).symm.trans (by rw [h2])
    rw [this]; exact q1.append q3
   ·have : cs.drop o = (cs.drop o).take i.cells.length ++ cs.drop (o + i.cells.length) := by
     rw [← List.drop_drop, List.take_append_drop]
    rw [this]; exact q2.append q4
theorem open_ty (hcx : tbOk P tb tb = true) : ∀ (d T : Nat), opn tb d T = true → ∀ (fuel : Nat) (cs : List Value) (x : DataW H × List MemPlace), DataW.trod enc P w base spare held fuel T cs = some x → ∃ ds, RowTy tb.tab (tb.tab T) ds ∧ Rs w M0 ds cs
 | 0, _, h, _, _, _, _ => by simp [opn] at h
 | d + 1, T, h, fuel, cs, x, hx => by
  simp only [opn] at h
  split at h
  ·simp at h
  ·rename_i ti hti
   have htab : tb.tab T = ti.cells := by simp [TB.tab, hti]
   rw [htab]
   cases hv : ti.vt with
   | tup _ => rw [hv] at h; simp at h
   | one v =>
    rw [hv] at h
    simp only [TI.cells, hv]
    cases v with
    | c t =>
     obtain ⟨i, ds, _, _, _, _, hu, hd⟩ := ty_c hcx hti hv
     cases t with
     | mem => exact hd.elim
     | fn => exact hd.elim
     | bool =>
      simp only [DescC] at hd; subst hd
      obtain ⟨b, rfl, _⟩ := DataW.trod_bool hu hx
      exact ⟨[.bool b], ⟨trivial, trivial⟩, Rs.one rfl⟩
     | int k =>
      simp only [DescC] at hd; subst hd
      obtain ⟨n, rfl, _, hw⟩ := DataW.trod_int hu hx
      exact ⟨[.int k n], ⟨rfl, trivial⟩, Rs.one ⟨rfl, by simpa [Lit.wf] using hw⟩⟩
     | str =>
      simp only [DescC] at hd; subst hd
      obtain ⟨s, rfl, _, hw⟩ := DataW.trod_string hu hx
      exact ⟨[.str s], ⟨trivial, trivial⟩, Rs.one ⟨rfl, hw⟩⟩
     | sl e =>
      simp only [DescC] at hd; subst hd
      simp only [Bool.and_eq_true] at h
      obtain ⟨he, hpos⟩ := h
      have hpos : 0 < (tb.tab e).length := Nat.le_of_ble_eq_true hpos
      have hn := cellsOf_tab hcx he
      rcases Go.Deep.open_slice hu hx with ⟨h0, _⟩ | ⟨a, len, cap, m, n, Dd, Pl, hcs, _, hl, hm, hmm, _, hi⟩
      ·exact ⟨[.sl []], ⟨trivial, trivial⟩, by rw [h0]; exact Rs.one ⟨none, 0, 0, rfl, rfl, Nat.le_refl _, Nat.zero_le _, fun _ => rfl, fun b o s hh => by cases hh⟩⟩
      ·have hlm : len ≤ m := by rw [hmm]; split <;> omega
       have hex : ∀ i, i < len → ∃ q : List Value × List D, w.cells? base (a.add (i * P.cellsOf e)) (P.cellsOf e) = some q.1 ∧ RowTy tb.tab (tb.tab e) q.2 ∧ Rs w M0 q.2 q.1 := fun i hil => by
        obtain ⟨cs', hc, ht'⟩ := hi i (by omega)
        obtain ⟨y, hy1, hy2⟩ := open_ty hcx d e he _ _ _ ht'
        exact ⟨(cs', y), hc, hy1, hy2⟩
       have hch : ∃ f : Nat → List Value × List D, ∀ i, i < len → w.cells? base (a.add (i * P.cellsOf e)) (P.cellsOf e) = some (f i).1 ∧ RowTy tb.tab (tb.tab e) (f i).2 ∧ Rs w M0 (f i).2 (f i).1 := by
        refine ⟨fun i => if hi : i < len then (hex i hi).choose else ([], []), fun i hi => ?_⟩
        simp only [hi, dif_pos]
        exact (hex i hi).choose_spec
       obtain ⟨f, hf⟩ := hch
       have hcell : ∀ i, i < len → ∀ j u, (f i).1[j]? = some u → w.cell? ((a.add (i * P.cellsOf e)).add j) = some u := fun i hil j u hu => by
        obtain ⟨_, hcl, hat⟩ := World.cells?_some (hf i hil).1
        have hj : j < P.cellsOf e := by rw [← hcl]; exact (List.getElem?_eq_some_iff.1 hu).1
        rw [hat j hj, hu]
       have hspot : 0 < len → a.spot = none := fun h0 => by
        have hlen0 : 0 < (f 0).1.length := by rw [(hf 0 h0).2.2.length, (hf 0 h0).2.1.length]; exact hpos
        have hx := hcell 0 h0 0 _ (List.getElem?_eq_getElem hlen0)
        rw [Nat.zero_mul] at hx
        exact World.cell?_spot (a := a) (by simpa [Addr.add] using hx)
       refine ⟨[.sl ((List.range len).map fun i => (f i).2)], ⟨?_, trivial⟩, ?_⟩
       ·refine RowsTy.of fun r hr => ?_
        obtain ⟨i, hi, rfl⟩ := List.mem_map.1 hr
        exact (hf i (by simpa using hi)).2.1
       ·rw [hcs]
        refine Rs.one ⟨some a, len, cap, rfl, by simp, hl, hm, (fun h => by cases h), fun b o s hh => ⟨fun h0 => ?_, ?_⟩⟩
        ·have := hspot h0
         simp only [Option.some.injEq] at hh; subst hh; exact this
        ·simp only [Option.some.injEq] at hh; subst hh
         refine Rws.of (n := (tb.tab e).length) (fun r hr => ?_) fun i r hr => ?_
         ·obtain ⟨i, hi, rfl⟩ := List.mem_map.1 hr
          exact (hf i (by simpa using hi)).2.1.length
         ·have hil : i < len := by
           have := (List.getElem?_eq_some_iff.1 hr).1
           simpa using this
          have hr' : r = (f i).2 := by simp [hil] at hr; exact hr.symm
          subst hr'
          refine rs_rw (hf i hil).2.2 (fun j u hu => ?_) (fun _ h => h)
          have h1 := hcell i hil j u hu
          have hs := hspot (by omega)
          simp only at hs
          subst hs
          rw [hn] at h1
          rwa [addr_add, addr_add] at h1
    | agg ts =>
     simp only [Bool.and_eq_true] at h
     obtain ⟨hc, hall⟩ := h
     obtain ⟨i, fields, zs, hi, hs, _, _, _, hu, hfo⟩ := ty_agg hcx hti hv
     obtain ⟨xs, m, _, _, hl, hxs, hf⟩ := DataW.trod_struct hu hx
     have hlen : cs.length = ts.length := by rw [hl]; simp [Program.cellsOf, hi, hs]
     have key : ∀ p ∈ ti.fs, ∃ ds, RowTy tb.tab (tb.tab p.2) ds ∧ Rs w M0 ds ((cs.drop p.1).take (tb.tab p.2).length) := by
      intro p hp
      have hop := List.all_eq_true.1 hall p hp
      obtain ⟨k, hk⟩ := List.getElem?_of_mem hp
      have hfk : ∃ fd, fields.toList[k]? = some fd ∧ fd.offset = p.1 ∧ fd.type = p.2 := fieldsOk_get hfo hk
      obtain ⟨fd, hfd, e1, e2⟩ := hfk
      have hfd' : fields[k]? = some fd := by simpa using hfd
      have hlt : k < xs.length := by rw [hxs]; exact (Array.getElem?_eq_some_iff.1 hfd').1
      have ht := (hf k fd hfd').trans (List.getElem?_eq_getElem hlt)
      rw [e1, e2, cellsOf_tab hcx hop] at ht
      exact open_ty hcx d p.2 hop _ _ _ ht
     have := open_fields (w := w) ti.fs 0 ts hc key (by omega)
     simpa [V1.cells] using this
theorem open_arg (hcx : tbOk P tb tb = true) {r : Reach} {b0 T : Nat} {v : Value} {dd : DataW H} {p : List MemPlace} (ht : opn tb 12 T = true) (hv : Value.okWide P w r b0 T v) (h : DataW.Trod enc P w base spare held T v dd p) :
  ∃ x, HasVT tb.tab (vtOf tb T) x ∧ R w M0 x v := by
 obtain ⟨fuel, hf⟩ := h
 obtain ⟨ds, h1, h2⟩ := open_ty hcx 12 T ht fuel _ _ hf
 obtain ⟨ti, v1, hti, hv1, htab⟩ := opn_one ht
 rw [htab] at h1
 unfold vtOf
 rw [hti]
 simp only [hv1]
 cases v1 with
 | c t =>
  obtain ⟨_, d, _, _, _, _, hu, hd⟩ := ty_c hcx hti hv1
  have hc : v.cells.toList = [v] := by
   cases t <;> simp only [DescC] at hd <;> subst hd
   ·obtain ⟨_, rfl⟩ := okWide_bool hu hv; rfl
   ·obtain ⟨_, rfl⟩ := okWide_int hu hv; rfl
   ·obtain ⟨_, rfl⟩ := okWide_string hu hv; rfl
   ·obtain ⟨_, _, _, rfl⟩ := okWide_slice hu hv; rfl
  rw [hc] at h2
  match ds, h1 with
  | [x], h1 =>
   obtain ⟨v', q, e, h3, h4⟩ := h2
   simp only [List.cons.injEq] at e
   obtain ⟨rfl, rfl⟩ := e
   exact ⟨x, h1.1, h3⟩
 | agg ts =>
  obtain ⟨_, fields, _, _, _, _, _, _, hu, _⟩ := ty_agg hcx hti hv1
  obtain ⟨cs, rfl, _⟩ := okWide_struct hu hv
  exact ⟨.agg ds, h1, cs, rfl, h2⟩
end
theorem law_run {P : Program} {f : FuncId} {ds : List D} {vs : List Value} {w : World} (h : Fun P f none ds (.bool true) []) (hG : Rdy w M0) (hr : Rs w M0 ds vs) : Calls P f vs.toArray w fun e w' => e = .returned (.bool true) ∧ Below w.heap.size w w' := by
 refine (h.2 w M0 0 vs hG hr (fun cs hcs => by cases hcs)).mono ?_
 rintro e w' ⟨v, rfl, h1, h2, _⟩
 simp only [R] at h1
 subst h1
 exact ⟨rfl, h2.to_below⟩
end Go.Proofs.Ytjmakbnblpjkhaa
