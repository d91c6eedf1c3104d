/- Each operation does to a world what the executor says it does: arithmetic, slices, structs built, calls. No program in sight. -/
import Derived.Test.YtimickglpboilaaGreatN2
set_option linter.unusedVariables false
set_option linter.unusedSimpArgs false
set_option linter.unusedSectionVars false
namespace Go.Proofs.YtimickglpboilaaGreat
open Go.RowKit
variable [GC]
theorem tmod_in {k : IntKind} {a b : Int} (h1 : k.min ≤ a) (h2 : a ≤ k.max) : k.min ≤ a.tmod b ∧ a.tmod b ≤ k.max := by
 have hk : k.min ≤ 0 ∧ 0 ≤ k.max := by cases k <;> simp [IntKind.min, IntKind.max, IntKind.signed, IntKind.bits]
 have hn : (a.tmod b).natAbs ≤ a.natAbs := by rw [Int.natAbs_tmod]; exact Nat.mod_le _ _
 by_cases h0 : 0 ≤ a
 ·have := Int.tmod_nonneg b h0; omega
 ·have h3 := Int.tmod_nonneg b (show 0 ≤ -a by omega)
  rw [Int.neg_tmod] at h3
  omega
theorem fdiv_in {k : IntKind} {a : Int} (n : Nat) (h1 : k.min ≤ a) (h2 : a ≤ k.max) : k.min ≤ a.fdiv (2 ^ n) ∧ a.fdiv (2 ^ n) ≤ k.max := by
 have hk : k.min ≤ 0 ∧ 0 ≤ k.max := by cases k <;> simp [IntKind.min, IntKind.max, IntKind.signed, IntKind.bits]
 have hp : (0 : Int) < 2 ^ n := Int.pow_pos (by decide)
 rw [Int.fdiv_eq_ediv_of_nonneg _ (Int.le_of_lt hp)]
 by_cases h0 : 0 ≤ a
 ·have h3 := Int.ediv_nonneg h0 (Int.le_of_lt hp)
  have h4 := Int.ediv_le_self (2 ^ n) h0
  omega
 ·have h3 : a ≤ a / 2 ^ n := by
   rw [Int.le_ediv_iff_mul_le hp]
   have := Int.mul_le_mul_of_nonpos_left (show a ≤ 0 by omega) (show (1 : Int) ≤ 2 ^ n by omega)
   omega
  have h4 : a / 2 ^ n < 0 := Int.ediv_neg_of_neg_of_pos (by omega) hp
  omega
section
variable {P : Program} {c : SC} {F : Nat → Prop} {σ : Nat → ST} {bm : Nat → Nat} {tm : Nat → Value} {a : Act} {w : World} {tb : TB} {Γ : List VT} {gs : Gd}
theorem run_eqGuard_i {op : BinOp} {T : Nat} {x y : Operand} {k k' : IntKind} {m n : Int} : (eqGuard op T x y (.int k m) (.int k' n)).run P w = .ok () w := by
 cases op <;> simp [eqGuard]
theorem run_eqGuard_s {op : BinOp} {T : Nat} {x y : Operand} {s t : ByteArray} : (eqGuard op T x y (.string s) (.string t)).run P w = .ok () w := by
 cases op <;> simp [eqGuard]
theorem eqvL_append : ∀ {a b a' b' : List D}, a.length = b.length → eqvL (a ++ a') (b ++ b') = (eqvL a b && eqvL a' b')
 | [], [], _, _, _ => by simp [eqvL]
 | x :: a, y :: b, a', b', h => by simp only [List.cons_append, eqvL, eqvL_append (a := a) (b := b) (by simpa using h), Bool.and_assoc]
 | [], _ :: _, _, _, h => by simp at h
 | _ :: _, [], _, _, h => by simp at h
theorem run_part_c {t : Nat} {d : TypeDesc} {ct : CT} (h : P.underlying t = some d) (hd : DescC ct d) {cs : Array Value} {off : Nat} {v : Value} (hv : cs[off]? = some v) : (part t cs off).run P w = .ok v w := by
 simp [part, run_isAgg_c h hd, hv]
theorem run_part_s {t : Nat} {f : Array Field} (h : P.underlying t = some (.struct f)) {i : TypeInfo} (hi : P.info? t = some i) {cs : Array Value} {off : Nat} : (part t cs off).run P w = .ok (.agg (cs.extract off (off + i.size))) w := by
 simp [part, run_isAgg_s h, run_sizeOf hi]
theorem run_eq (hcx : tbOk P tb tb = true) {M : Addr → Prop} : ∀ (d T : Nat) (ti : TI) (v : V1), eqTy P tb d T = true → tb.get T = some ti → ti.vt = .one v → ∀ (dx dy : D) (x y : Value), HasV1 tb.tab v dx → HasV1 tb.tab v dy → R w M dx x → R w M dy y → ∀ e, d ≤ e →
  (Op.equalIn e T x y).run P w = .ok (match v with | .c _ => eqvD dx dy | .agg _ => eqvL dx.toA dy.toA) w
 | 0, T, ti, v, h, _, _, _, _, _, _, _, _, _, _, _, _ => by simp [eqTy] at h
 | d + 1, T, ti, v, h, hti, hv, dx, dy, x, y, hx, hy, rx, ry, e, he => by
  obtain ⟨e, rfl⟩ : ∃ e', e = e' + 1 := ⟨e - 1, by omega⟩
  simp only [eqTy, hti, hv] at h
  cases v with
  | c t =>
   obtain ⟨_, d1, _, _, _, _, hd1, hdc1⟩ := ty_c hcx hti hv
   cases t with
   | mem => exact hdc1.elim
   | fn => exact hdc1.elim
   | sl el => simp at h
   | bool =>
    obtain ⟨a, rfl⟩ := hasTy_bool hx
    obtain ⟨b, rfl⟩ := hasTy_bool hy
    simp only [R] at rx ry; subst rx ry
    simp only [DescC] at hdc1; subst hdc1
    rw [run_equalIn_bool' w e T a b hd1]; rfl
   | int k =>
    obtain ⟨a, rfl⟩ := hasTy_int hx
    obtain ⟨b, rfl⟩ := hasTy_int hy
    obtain ⟨rfl, _⟩ := rx
    obtain ⟨rfl, _⟩ := ry
    simp only [DescC] at hdc1; subst hdc1
    rw [run_equalIn_int w e T k k a b hd1]; rfl
   | str =>
    obtain ⟨a, rfl⟩ := hasTy_str hx
    obtain ⟨b, rfl⟩ := hasTy_str hy
    obtain ⟨rfl, _⟩ := rx
    obtain ⟨rfl, _⟩ := ry
    simp only [DescC] at hdc1; subst hdc1
    rw [run_equalIn_string w e T a b hd1]; rfl
  | agg ts =>
   simp only [Bool.and_eq_true, Bool.not_eq_true', List.all_eq_true] at h
   obtain ⟨⟨⟨h1, h2⟩, h3⟩, h4⟩ := h
   obtain ⟨i, fields, z, hi, hsz, _, _, _, hu, hfo⟩ := ty_agg hcx hti hv
   obtain ⟨l, rfl, hl⟩ := hasV1_agg hx
   obtain ⟨m, rfl, hm⟩ := hasV1_agg hy
   obtain ⟨xs, rfl, hxs⟩ := rx
   obtain ⟨ys, rfl, hys⟩ := ry
   have hfd : P.fieldsOf T = fields := by simp [Program.fieldsOf, hu]
   rw [run_equalIn_struct w e T xs ys (by rw [hfd]; exact hu) h1, hfd]
   rw [hfd] at h2
   have key : ∀ (fs : List (Nat × Nat)) (fl : List Field) (o : Nat), fieldsOk tb fs fl = true → (∀ f ∈ fl, (f.name == "_") = false) → (∀ q ∈ fs, eqTy P tb d q.2 = true) → contig tb o (ts.drop o) fs = true → (Op.eqFields e xs ys fl).run P w = .ok (eqvL (l.drop o) (m.drop o)) w := by
    have hll := hl.length
    have hml := hm.length
    intro fs
    induction fs with
    | nil =>
     intro fl o hfo' _ _ hco
     cases fl with
     | nil =>
      simp only [contig, List.isEmpty_iff] at hco
      have : ts.length ≤ o := by simpa using hco
      rw [List.drop_eq_nil_of_le (by omega), List.drop_eq_nil_of_le (by omega)]
      simp [Op.eqFields, eqvL]
     | cons _ _ => simp [fieldsOk] at hfo'
    | cons q r ih =>
     intro fl o hfo' hnm heq hco
     obtain ⟨o', ft⟩ := q
     cases fl with
     | nil => simp [fieldsOk] at hfo'
     | cons f fl =>
      simp only [fieldsOk, Bool.and_eq_true, beq_iff_eq] at hfo'
      obtain ⟨⟨⟨q1, q2⟩, q3⟩, q4⟩ := hfo'
      simp only [contig, Bool.and_eq_true] at hco
      obtain ⟨hb, hco⟩ := hco
      have : o = o' := Nat.eq_of_beq_eq_true hb
      subst this
      split at hco
      ·rename_i fi hfi
       simp only [Bool.and_eq_true, decide_eq_true_eq] at hco
       obtain ⟨htk, hco⟩ := hco
       rw [List.drop_drop] at hco
       have hrest := ih fl (o + fi.cells.length) q4 (fun f' hf' => hnm f' (by simp [hf'])) (fun q hq => heq q (by simp [hq])) hco
       rw [hfi] at q3
       simp only at q3
       split at q3
       ·rename_i v1 hv1
        have hcl : fi.cells = v1.cells := by simp [TI.cells, hv1]
        rw [hcl] at hrest htk
        have hle : o + v1.cells.length ≤ ts.length ∨ v1.cells.length = 0 := by
         have := congrArg List.length htk
         simp at this; omega
        have hne : f.name ≠ "_" := fun e' => by have := hnm f (by simp); rw [e'] at this; simp at this
        have heq1 := heq (o, ft) (by simp)
        have hsplit : eqvL (l.drop o) (m.drop o) = (eqvL ((l.drop o).take v1.cells.length) ((m.drop o).take v1.cells.length) && eqvL (l.drop (o + v1.cells.length)) (m.drop (o + v1.cells.length))) := by
         rw [← eqvL_append (by simp; omega)]
         rw [← List.drop_drop, ← List.drop_drop, List.take_append_drop, List.take_append_drop]
        have hlx := (hl.drop o).take v1.cells.length
        have hly := (hm.drop o).take v1.cells.length
        rw [htk] at hlx hly
        have hrx := (hxs.drop o).take v1.cells.length
        have hry := (hys.drop o).take v1.cells.length
        obtain ⟨j, hj, hjs, _⟩ := ty_one hcx hfi hv1
        have hpart : ∃ (px py : Value), (part f.type xs f.offset).run P w = .ok px w ∧ (part f.type ys f.offset).run P w = .ok py w ∧ (Op.equalIn e ft px py).run P w = .ok (eqvL ((l.drop o).take v1.cells.length) ((m.drop o).take v1.cells.length)) w := by
         rw [← q1, ← q2]
         cases v1 with
         | c t =>
          obtain ⟨_, d1, _, _, _, _, hd1, hdc1⟩ := ty_c hcx hfi hv1
          simp only [V1.cells] at hlx hly hrx hry ⊢
          generalize (l.drop o).take [t].length = la at hlx hrx ⊢
          generalize (m.drop o).take [t].length = lb at hly hry ⊢
          cases la with
          | nil => simp [RowTy] at hlx
          | cons ea ra =>
           cases lb with
           | nil => simp [RowTy] at hly
           | cons eb rb =>
            simp only [RowTy] at hlx hly
            have hra : ra = [] := by cases ra with | nil => rfl | cons _ _ => simp [RowTy] at hlx
            have hrb : rb = [] := by cases rb with | nil => rfl | cons _ _ => simp [RowTy] at hly
            subst hra hrb
            obtain ⟨px, qx, hpx, hrpx, _⟩ := hrx
            obtain ⟨py, qy, hpy, hrpy, _⟩ := hry
            have hx0 : xs[o]? = some px := by
             have := congrArg (fun l => l[0]?) hpx
             simpa using this
            have hy0 : ys[o]? = some py := by
             have := congrArg (fun l => l[0]?) hpy
             simpa using this
            refine ⟨px, py, run_part_c hd1 hdc1 hx0, run_part_c hd1 hdc1 hy0, ?_⟩
            have := run_eq hcx d ft fi (.c t) heq1 hfi hv1 ea eb px py hlx.1 hly.1 hrpx hrpy e (by omega)
            simpa [eqvL] using this
         | agg us =>
          obtain ⟨i', f', z', hi', hsz', _, _, _, hu', _⟩ := ty_agg hcx hfi hv1
          simp only [V1.cells] at hlx hly hrx hry hle ⊢
          have ex : ∀ zs : Array Value, (zs.extract o (o + i'.size)).toList = (zs.toList.drop o).take us.length := fun zs => by simp [hsz', List.extract_eq_take_drop]
          refine ⟨.agg (xs.extract o (o + i'.size)), .agg (ys.extract o (o + i'.size)), run_part_s hu' hi', run_part_s hu' hi', ?_⟩
          exact run_eq hcx d ft fi (.agg us) heq1 hfi hv1 (.agg _) (.agg _) _ _ hlx hly ⟨_, rfl, by rw [ex]; exact hrx⟩ ⟨_, rfl, by rw [ex]; exact hry⟩ e (by omega)
        obtain ⟨px, py, e1, e2, e4⟩ := hpart
        simp only [Op.eqFields, if_pos hne, Sem.run_bind, e1, e2, Result.andThen_ok]
        rw [← q2, e4]
        simp only [Result.andThen_ok, hsplit]
        cases eqvL ((l.drop o).take v1.cells.length) ((m.drop o).take v1.cells.length) with
        | true => simp [hrest]
        | false => simp
       ·simp at q3
      ·simp at hco
   have := key ti.fs fields.toList 0 hfo (fun f hf => by simpa using h2 f hf) h3 (by simpa using h4)
   simpa using this
theorem eq_ty (hcx : tbOk P tb tb = true) {T : Nat} {ti : TI} (hti : tb.get T = some ti) {ts : List CT} (hv : ti.vt = .one (.agg ts)) (he : ti.eq = true) : eqTy P tb 8 T = true ∧ P.eqGuardType P.depth T = false := by
 have h := tb_get_ok hcx hti
 simp only [tiOk, hv] at h
 split at h
 ·simp at h
 ·simp only [Bool.and_eq_true, Bool.or_eq_true, Bool.not_eq_true'] at h
  have h5 := h.2
  rw [he] at h5
  simpa using h5
theorem sBin (hcx : tbOk P tb tb = true) (hs : Sim c F σ bm tm a w) (hΓ : EnvTy tb.tab Γ c.env) {n : Nat} {o : Oper} {x y : Operand} {T T' : Nat} {op : BinOp} (ho : o.op = .binOp op T x y T') {eff : Eff}
  (h : eBin tb.tab Γ gs o.dst op (tb.get T) (opd tb σ T x) (opd tb σ T y) = some eff) : PureSpec P c F gs σ bm tm a w n o eff := by
 unfold eBin at h
 split at h
 ·rename_i kx ea ky eb hx hy
  split at h
  ·rename_i k k' hka hkb
   split at h
   ·rename_i hop
    simp only [Option.some.injEq] at h; subst h
    refine ⟨_, rfl, rfl, fun g hg => by simp [men, K.has] at hg, fun hg hr => ?_⟩
    have hin : RqH P c.env n (.cond gs (.ic .geq eb (.li k' 0))) := hr _ (by simp)
    replace hin := hin hg
    obtain ⟨m, hm, hmv, hm1, hm2⟩ := eval_int hΓ hka ((val_rel hs hx).1 hg)
    obtain ⟨q, hq, hqv, hq1, hq2⟩ := eval_int hΓ hkb ((val_rel hs hy).1 hg)
    simp [E.den, hq, cmpI] at hin
    have hnl : ¬ q < 0 := by omega
    rcases hop with rfl | rfl
    ·refine ⟨.int k (arI .shl k m q), w, ?_, Below.refl _ _, relT_v hg ?_⟩
     ·simp [execOp, ho, hmv, hqv, run_eqGuard_i, binOp, Op.shift, hnl, arI]
     ·simp only [relK, E.den, hm, hq, D.toI_int, R]; exact ⟨trivial, wrap_within _ _⟩
    ·refine ⟨.int k (arI .shr k m q), w, ?_, Below.refl _ _, relT_v hg ?_⟩
     ·simp [execOp, ho, hmv, hqv, run_eqGuard_i, binOp, Op.shift, hnl, arI]
     ·simp only [relK, E.den, hm, hq, D.toI_int, R]; exact ⟨trivial, fdiv_in _ hm1 hm2⟩
   ·rename_i hns
    split at h
    ·simp at h
    ·rename_i hkk
     have hkk : k = k' := by simpa using hkk
     subst hkk
     split at h
     ·rename_i hop
      simp only [Option.some.injEq] at h; subst h
      refine ⟨_, rfl, rfl, fun g hg => by simp [men, K.has] at hg, fun hg _ => ?_⟩
      obtain ⟨m, hm, hmv, hm1, hm2⟩ := eval_int hΓ hka ((val_rel hs hx).1 hg)
      obtain ⟨q, hq, hqv, hq1, hq2⟩ := eval_int hΓ hkb ((val_rel hs hy).1 hg)
      refine ⟨.int k (arI op k m q), w, ?_, Below.refl _ _, relT_v hg ?_⟩
      ·cases op <;> simp [isAr] at hop <;> simp [execOp, ho, hmv, hqv, run_eqGuard_i, binOp, Op.intArith, Op.intBits, arI]
      ·simp only [relK, E.den, hm, hq, D.toI_int, R]
       refine ⟨trivial, ?_⟩
       cases op <;> simp [isAr] at hop <;> exact wrap_within _ _
     ·split at h
      ·rename_i hop
       simp only [Option.some.injEq] at h; subst h
       refine ⟨_, rfl, rfl, fun g hg => by simp [men, K.has] at hg, fun hg _ => ?_⟩
       obtain ⟨m, hm, hmv, hm1, hm2⟩ := eval_int hΓ hka ((val_rel hs hx).1 hg)
       obtain ⟨q, hq, hqv, hq1, hq2⟩ := eval_int hΓ hkb ((val_rel hs hy).1 hg)
       refine ⟨.bool (cmpI op m q), w, ?_, Below.refl _ _, relT_v hg ?_⟩
       ·cases op <;> simp [isCmp] at hop <;> simp [execOp, ho, hmv, hqv, run_eqGuard_i, binOp, Op.intCmp, cmpI]
       ·simp only [relK, E.den, hm, hq, D.toI_int, R]
      ·split at h
       ·rename_i hop
        simp only [Option.some.injEq] at h; subst h
        refine ⟨_, rfl, rfl, fun g hg => by simp [men, K.has] at hg, fun hg hr => ?_⟩
        have hin : RqH P c.env n (.cond gs (.ic .neq eb (.li k 0))) := hr _ (by simp)
        replace hin := hin hg
        obtain ⟨m, hm, hmv, hm1, hm2⟩ := eval_int hΓ hka ((val_rel hs hx).1 hg)
        obtain ⟨q, hq, hqv, hq1, hq2⟩ := eval_int hΓ hkb ((val_rel hs hy).1 hg)
        simp [E.den, hq, cmpI] at hin
        rcases hop with rfl | rfl
        ·refine ⟨.int k (arI .quo k m q), w, ?_, Below.refl _ _, relT_v hg ?_⟩
         ·simp [execOp, ho, hmv, hqv, run_eqGuard_i, binOp, Op.intDiv, hin, arI]
         ·simp only [relK, E.den, hm, hq, D.toI_int, R]; exact ⟨trivial, wrap_within _ _⟩
        ·refine ⟨.int k (arI .rem k m q), w, ?_, Below.refl _ _, relT_v hg ?_⟩
         ·simp [execOp, ho, hmv, hqv, run_eqGuard_i, binOp, Op.intDiv, hin, arI]
         ·simp only [relK, E.den, hm, hq, D.toI_int, R]; exact ⟨trivial, tmod_in hm1 hm2⟩
       ·simp at h
  ·rename_i hka hkb
   split at h
   ·rename_i hop
    simp only [Option.some.injEq] at h; subst h
    refine ⟨_, rfl, rfl, fun g hg => by simp [men, K.has] at hg, fun hg _ => ?_⟩
    obtain ⟨m, hm, hmv, hm1⟩ := eval_str hΓ hka ((val_rel hs hx).1 hg)
    obtain ⟨q, hq, hqv, hq1⟩ := eval_str hΓ hkb ((val_rel hs hy).1 hg)
    refine ⟨.bool (cmpS op m q), w, ?_, Below.refl _ _, relT_v hg ?_⟩
    ·cases op <;> simp [isCmp] at hop <;> simp [execOp, ho, hmv, hqv, run_eqGuard_s, binOp, Op.stringOp, cmpS]
    ·simp only [relK, E.den, hm, hq, D.toS_str, R]
   ·split at h
    ·rename_i hop
     subst hop
     simp only [Option.some.injEq] at h; subst h
     refine ⟨_, rfl, rfl, fun g hg => by simp [men, K.has] at hg, fun hg hr => ?_⟩
     have hin : RqH P c.env n (.cond gs (.sok ea eb)) := hr _ (by simp)
     replace hin := hin hg
     obtain ⟨m, hm, hmv, hm1⟩ := eval_str hΓ hka ((val_rel hs hx).1 hg)
     obtain ⟨q, hq, hqv, hq1⟩ := eval_str hΓ hkb ((val_rel hs hy).1 hg)
     simp [E.den, hm, hq] at hin
     have h63 : ¬ (IntKind.i64.max < (m.size : Int) + (q.size : Int)) := by
      have := size_le_maxLen hin
      omega
     refine ⟨.string (m ++ q), w, ?_, Below.refl _ _, relT_v hg ?_⟩
     ·simp [execOp, ho, hmv, hqv, run_eqGuard_s, binOp, Op.stringOp, h63]
      unfold maxLen at hin; omega
     ·simp only [relK, E.den, hm, hq, D.toS_str, R, ByteArray.size_append]; exact ⟨trivial, hin⟩
    ·simp at h
  ·rename_i ts us hka hkb
   split at h
   ·rename_i i hti
    split at h
    ·rename_i hc
     obtain ⟨hce, hcv, hcu⟩ := hc
     obtain ⟨heq, hgd⟩ := eq_ty hcx hti hcv hce
     have hgo : gsH c.env gs → ∃ xs ys, a.eval x = .agg xs ∧ a.eval y = .agg ys ∧ ∃ q, (E.ae ea eb).den c.env = .bool q ∧ (Op.equalIn 10000 T (.agg xs) (.agg ys)).run P w = .ok q w := by
      intro hg
      obtain ⟨l, hl, hlt⟩ := hasV1_agg (E.inf_ok hΓ ea _ hka)
      obtain ⟨m, hm, hmt⟩ := hasV1_agg (E.inf_ok hΓ eb _ hkb)
      have hus : us = ts := by rw [hcv] at hcu; simpa using hcu.symm
      subst hus
      have rx := ((val_rel hs hx).1 hg).rd
      have ry := ((val_rel hs hy).1 hg).rd
      rw [hl] at rx; rw [hm] at ry
      have := run_eq hcx 8 T i (.agg us) heq hti hcv (.agg l) (.agg m) _ _ hlt hmt rx ry 10000 (by omega)
      obtain ⟨xs, hxs, _⟩ := rx
      obtain ⟨ys, hys, _⟩ := ry
      rw [hxs, hys] at this
      exact ⟨xs, ys, hxs, hys, _, by simp [E.den, hl, hm], this⟩
     split at h
     ·rename_i hop
      subst hop
      simp only [Option.some.injEq] at h; subst h
      refine ⟨_, rfl, rfl, fun g hg => by simp [men, K.has] at hg, fun hg _ => ?_⟩
      obtain ⟨xs, ys, e1, e2, q, e3, e4⟩ := hgo hg
      refine ⟨.bool q, w, ?_, Below.refl _ _, relT_v hg ?_⟩
      ·simp [execOp, ho, e1, e2, run_eqGuard_agg w .eql T x y xs ys hgd, run_eql_struct, e4]
      ·simp only [relK, e3, R]
     ·split at h
      ·rename_i hop
       subst hop
       simp only [Option.some.injEq] at h; subst h
       refine ⟨_, rfl, rfl, fun g hg => by simp [men, K.has] at hg, fun hg _ => ?_⟩
       obtain ⟨xs, ys, e1, e2, q, e3, e4⟩ := hgo hg
       refine ⟨.bool (!q), w, ?_, Below.refl _ _, relT_v hg ?_⟩
       ·simp [execOp, ho, e1, e2, run_eqGuard_agg w .neq T x y xs ys hgd, run_neq_struct, e4]
       ·simp only [E.den, D.bool.injEq] at e3
        simp only [relK, E.den, e3, D.toB_bool, R]
      ·simp at h
    ·simp at h
   ·simp at h
  ·rename_i hka hkb
   split at h
   ·rename_i i hti
    split at h
    ·rename_i hv
     obtain ⟨_, d1, _, _, _, _, hd1, hdc1⟩ := ty_c hcx hti hv
     simp only [DescC] at hdc1; subst hdc1
     split at h
     ·rename_i hop
      subst hop
      simp only [Option.some.injEq] at h; subst h
      refine ⟨_, rfl, rfl, fun g hg => by simp [men, K.has] at hg, fun hg _ => ?_⟩
      obtain ⟨m, hm, hmv⟩ := eval_bool hΓ hka ((val_rel hs hx).1 hg)
      obtain ⟨q, hq, hqv⟩ := eval_bool hΓ hkb ((val_rel hs hy).1 hg)
      refine ⟨.bool (m == q), w, ?_, Below.refl _ _, relT_v hg ?_⟩
      ·simp [execOp, ho, hmv, hqv, eqGuard, binOp, Op.equal, Op.maxDepth, run_equalIn_bool' w 9999 T m q hd1]
      ·simp only [relK, E.den, hm, hq, D.toB_bool, R]
     ·split at h
      ·rename_i hop
       subst hop
       simp only [Option.some.injEq] at h; subst h
       refine ⟨_, rfl, rfl, fun g hg => by simp [men, K.has] at hg, fun hg _ => ?_⟩
       obtain ⟨m, hm, hmv⟩ := eval_bool hΓ hka ((val_rel hs hx).1 hg)
       obtain ⟨q, hq, hqv⟩ := eval_bool hΓ hkb ((val_rel hs hy).1 hg)
       refine ⟨.bool (!(m == q)), w, ?_, Below.refl _ _, relT_v hg ?_⟩
       ·simp [execOp, ho, hmv, hqv, eqGuard, binOp, Op.equal, Op.maxDepth, run_equalIn_bool' w 9999 T m q hd1]
       ·simp only [relK, E.den, hm, hq, D.toB_bool, R]
      ·simp at h
    ·simp at h
   ·simp at h
  ·simp at h
 ·simp at h
theorem Rws.cut {M : Addr → Prop} {m : Nat} {rows : List (List D)} {b o : Nat} (h : Rws w M rows b o) (hn : ∀ r ∈ rows, r.length = m) (l k : Nat) : Rws w M ((rows.drop l).take k) b (o + l * m) := by
 refine Rws.of (n := m) (fun r hr => hn r (List.mem_of_mem_drop (List.mem_of_mem_take hr))) fun i r hr => ?_
 simp only [List.getElem?_take, List.getElem?_drop] at hr
 split at hr
 ·have := h.get hn hr
  rwa [show o + (l + i) * m = o + l * m + i * m by rw [Nat.add_mul]; omega] at this
 ·simp at hr
theorem run_sliceBound {v : Value} {k : IntKind} {i : Int} (hv : v = .int k i) {y : Nat} {code : BoundsCode} (h0 : 0 ≤ i) (h1 : i ≤ y) : (Instr.sliceBound v y code).run P w = .ok i.toNat w := by
 subst hv; simp [Instr.sliceBound, asIntOf, h0, h1]
theorem bounds_run {isS : Bool} {len cap : Nat} {lo hi : Option Value} {l h : Int} (hl : (lo = none ∧ l = 0) ∨ ∃ k, lo = some (.int k l)) (hh : (hi = none ∧ h = len) ∨ ∃ k, hi = some (.int k h)) (h1 : 0 ≤ l) (h2 : l ≤ h) (h3 : h ≤ len) (h4 : len ≤ cap) :
  (Instr.sliceBounds isS len cap lo hi none).run P w = .ok (l.toNat, h.toNat, cap) w := by
 have hhc : h ≤ (cap : Int) := by omega
 have h0 : 0 ≤ h := by omega
 have e2 : ((h.toNat : Nat) : Int) = h := by omega
 rcases hl with ⟨rfl, rfl⟩ | ⟨k, rfl⟩ <;> rcases hh with ⟨rfl, rfl⟩ | ⟨k', rfl⟩
 ·simp [Instr.sliceBounds]
 ·simp [Instr.sliceBounds, run_sliceBound rfl h0 hhc]
 ·simp [Instr.sliceBounds, run_sliceBound (P := P) (w := w) (v := .int k l) (y := len) (code := .sliceB) rfl h1 (by omega)]
 ·simp [Instr.sliceBounds, run_sliceBound (P := P) (w := w) (v := .int k' h) (y := cap) (code := if isS = true then .sliceAcap else .sliceAlen) rfl h0 hhc, run_sliceBound (P := P) (w := w) (v := .int k l) (y := h.toNat) (code := .sliceB) rfl h1 (by omega)]
theorem sSlice (hcx : tbOk P tb tb = true) (hs : Sim c F σ bm tm a w) (hΓ : EnvTy tb.tab Γ c.env) {n : Nat} {o : Oper} {x : Operand} {lo hi : Option Operand} {T : Nat} (ho : o.op = .slice T x lo hi none) {ti : TI} (hti : tb.get T = some ti) {eff : Eff}
  (h : eSlice tb Γ gs o.dst ti (opd tb σ T x) (lo.map (opd tb σ 0)) (hi.map (opd tb σ 0)) = some eff) : PureSpec P c F gs σ bm tm a w n o eff := by
 unfold eSlice at h
 split at h
 ·rename_i kx ex kl el hx hlo
  split at h
  ·rename_i kh eh hhi
   split at h
   ·rename_i hc
    simp only [Option.some.injEq] at h; subst h
    obtain ⟨hinf, hil, hih, hseq, hsle⟩ := hc
    refine ⟨_, rfl, rfl, fun g hg => by simp [men, K.has] at hg, fun hg hr => ?_⟩
    have hin : RqH P c.env n (.cond gs (.inc ex el eh)) := hr _ (by simp)
    replace hin := hin hg
    have hvr := (val_rel hs hx).1 hg
    have hL : ∃ l : Int, (el.den c.env).toI = l ∧ ((lo.map a.eval = none ∧ l = 0) ∨ ∃ k, lo.map a.eval = some (.int k l)) := by
     cases lo with
     | none => simp at hlo; obtain ⟨_, rfl⟩ := hlo; exact ⟨0, rfl, .inl ⟨rfl, rfl⟩⟩
     | some y =>
      simp only [Option.map_some] at hlo
      obtain ⟨kk, hkk⟩ := isInt_some hil
      obtain ⟨m, hm, hmv, _⟩ := eval_int hΓ hkk ((val_rel hs hlo).1 hg)
      exact ⟨m, by simp [hm], .inr ⟨kk, by simp [hmv]⟩⟩
    have hH : ∃ l : Int, (eh.den c.env).toI = l ∧ ((hi.map a.eval = none ∧ l = lenD (ex.den c.env)) ∨ ∃ k, hi.map a.eval = some (.int k l)) := by
     cases hi with
     | none => simp at hhi; obtain ⟨_, rfl⟩ := hhi; exact ⟨_, rfl, .inl ⟨rfl, by simp [E.den]⟩⟩
     | some y =>
      simp only [Option.map_some] at hhi
      obtain ⟨kk, hkk⟩ := isInt_some hih
      obtain ⟨m, hm, hmv, _⟩ := eval_int hΓ hkk ((val_rel hs hhi).1 hg)
      exact ⟨m, by simp [hm], .inr ⟨kk, by simp [hmv]⟩⟩
    obtain ⟨l, hl, hL⟩ := hL
    obtain ⟨u, hu, hH⟩ := hH
    simp only [E.den, hl, hu, D.bool.injEq, decide_eq_true_eq] at hin
    obtain ⟨hin1, hin2, hin3⟩ := hin
    unfold isSeq at hseq
    split at hseq
    ·rename_i hv
     obtain ⟨_, d1, _, _, _, _, hd1, hdc1⟩ := ty_c hcx hti hv
     simp only [DescC] at hdc1; subst hdc1
     obtain ⟨s, hsd, hsv, hss⟩ := eval_str hΓ (by rw [hinf, hv]) hvr
     simp only [hsd, lenD] at hin3 hH
     refine ⟨.string (s.extract l.toNat u.toNat), w, ?_, Below.refl _ _, relT_v hg ?_⟩
     ·simp [execOp, ho, hsv, Instr.sliceAt, Instr.slice, run_underlying hd1, bounds_run hL hH hin1 hin2 hin3 (Nat.le_refl _)]
     ·simp only [relK, E.den, hsd, hl, hu, cutD, R]
      refine ⟨trivial, ?_⟩
      rw [ByteArray.size_extract]; omega
    ·rename_i el' hv
     obtain ⟨_, d1, _, _, _, _, hd1, hdc1⟩ := ty_c hcx hti hv
     simp only [DescC] at hdc1; subst hdc1
     obtain ⟨rows, hrows, hrt, ad, len, cap, hval, hlen, hcap, hmax, hnone, hcells⟩ := eval_sl hΓ (by rw [hinf, hv]) hvr
     simp only [hrows, lenD] at hin3 hH
     rw [← hlen] at hin3 hH
     rw [hv] at hsle
     simp only [slElem] at hsle
     split at hsle
     ·rename_i ei hei
      split at hsle
      ·rename_i v1 hv1
       obtain ⟨j, hj, hjs, _⟩ := ty_one hcx hei hv1
       have htab : tb.tab el' = v1.cells := by simp [TB.tab, hei, TI.cells, hv1]
       refine ⟨.slice (if cap = l.toNat then ad else ad.map (·.add (l.toNat * v1.cells.length))) (u.toNat - l.toNat) (cap - l.toNat), w, ?_, Below.refl _ _, relT_v hg ?_⟩
       ·simp [execOp, ho, hval, Instr.sliceAt, Instr.slice, run_underlying hd1, bounds_run hL hH hin1 hin2 hin3 hcap, run_sizeOf hj, hjs]
       ·simp only [relK, E.den, hrows, hl, hu, cutD, R]
        refine ⟨_, _, _, rfl, by simp; omega, by omega, by omega, fun hn => ?_, fun b o' s he => ?_⟩
        ·rcases ad with _ | ad
         ·have := hnone rfl; omega
         ·split at hn
          ·cases hn
          ·simp at hn
        ·by_cases hz : u.toNat - l.toNat = 0
         ·rw [hz, List.take_zero]; exact ⟨fun h => absurd h (by omega), trivial⟩
         ·have hne : cap ≠ l.toNat := by omega
          rw [if_neg hne] at he
          rcases ad with _ | ⟨b1, o1, s1⟩
          ·simp at he
          ·obtain ⟨hs1, hrw⟩ := hcells b1 o1 s1 rfl
           have := hs1 (by omega); subst this
           simp only [Option.map_some, addr_add, Option.some.injEq, Addr.mk.injEq] at he
           obtain ⟨rfl, rfl, rfl⟩ := he
           exact ⟨fun _ => rfl, hrw.cut (fun r hr => by rw [hrt.len r hr, htab]) _ _⟩
      ·simp at hsle
     ·simp at hsle
    ·simp at hseq
   ·simp at h
  ·simp at h
 ·simp at h
end
end Go.Proofs.YtimickglpboilaaGreat
/- Each operation does to a world what the executor says it does: structs and slices built, boxes, calls, append. No program in sight. -/
namespace Go.Proofs.YtimickglpboilaaGreat
open Go.RowKit
variable [GC]
section
variable {w : World} {M : Addr → Prop}
theorem take_setAll {α : Type} : ∀ (r l : List α) (i : Nat), i + r.length ≤ l.length → (setAll l i r).take (i + r.length) = l.take i ++ r
 | [], l, i, _ => by simp [setAll]
 | x :: r, l, i, h => by
  simp only [List.length_cons] at h
  have := take_setAll r (l.set i x) (i + 1) (by simp; omega)
  simp only [setAll, List.length_cons]
  rw [show i + (r.length + 1) = i + 1 + r.length by omega, this]
  have h1 : (l.set i x).take (i + 1) = l.take i ++ [x] := by
   rw [List.take_succ_eq_append_getElem (by simp; omega)]
   simp [List.take_set_of_le]
  rw [h1]; simp
theorem cells_c {tab : Nat → List CT} {t : CT} {d : D} {v : Value} (ht : HasTy tab t d) (h : R w M d v) : v.cells = #[v] ∧ v.oneCell' = true := by
 cases t with
 | bool => obtain ⟨b, rfl⟩ := hasTy_bool ht; simp only [R] at h; subst h; exact ⟨rfl, rfl⟩
 | int k => obtain ⟨n, rfl⟩ := hasTy_int ht; obtain ⟨rfl, _⟩ := h; exact ⟨rfl, rfl⟩
 | str => obtain ⟨s, rfl⟩ := hasTy_str ht; obtain ⟨rfl, _⟩ := h; exact ⟨rfl, rfl⟩
 | sl e => obtain ⟨r, rfl, _⟩ := hasTy_sl ht; obtain ⟨_, _, _, rfl, _⟩ := h; exact ⟨rfl, rfl⟩
 | mem => obtain ⟨n, rfl⟩ := hasTy_mem ht; obtain ⟨_, _, rfl, _⟩ := h; exact ⟨rfl, rfl⟩
 | fn => obtain ⟨f, caps, rfl⟩ := hasTy_fn ht; obtain ⟨_, rfl, _⟩ := h; exact ⟨rfl, rfl⟩
theorem cells_one {tab : Nat → List CT} : ∀ {ts : List CT} {l : List D} {vs : List Value}, RowTy tab ts l → Rs w M l vs → ∀ v ∈ vs, v.oneCell' = true
 | [], [], _, _, h, v, hv => by subst h; simp at hv
 | t :: ts, d :: ds, vs, ht, ⟨u, q, e, h1, h2⟩, v, hv => by
  subst e
  simp only [RowTy] at ht
  rcases List.mem_cons.1 hv with rfl | hv
  ·exact (cells_c ht.1 h1).2
  ·exact cells_one ht.2 h2 v hv
 | [], _ :: _, _, ht, _, _, _ => by simp [RowTy] at ht
 | _ :: _, [], _, ht, _, _, _ => by simp [RowTy] at ht
theorem fold_cells (off : Nat) : ∀ (l : List Value) (k : Nat) (cs : Array Value), (l.zipIdx k).foldl (fun cs (x : Value × Nat) => cs.setIfInBounds (off + x.2) x.1) cs = setAllA cs (off + k) l
 | [], _, _ => rfl
 | x :: r, k, cs => by
  simp only [List.zipIdx_cons, List.foldl_cons, setAllA]
  rw [fold_cells off r (k + 1)]; rfl
theorem fold_cells' (off : Nat) (v cs : Array Value) : v.zipIdx.foldl (fun cs (x : Value × Nat) => cs.setIfInBounds (off + x.2) x.1) cs = setAllA cs off v.toList := by
 rw [← Array.foldl_toList, Array.toList_zipIdx, fold_cells]; rfl
theorem fill_cons {place : Nat → Option (Nat × Nat)} {cs : Array Value} {i : Nat} {v : Value} {r : List (Nat × Value)} {off sz : Nat} (hp : place i = some (off, sz)) (hsz : v.cells.size = sz) (hle : off + sz ≤ cs.size) :
  Instr.fill place cs ((i, v) :: r) = Instr.fill place (setAllA cs off v.cells.toList) r := by
 have h1 := fold_cells' off v.cells cs
 simp only [Instr.fill, hp]
 rw [if_neg (by simp [hsz]; omega), ← h1]
theorem Rws.of_flat {b : Nat} : ∀ {rows : List (List D)} {vs : List Value} {o : Nat}, Rs w M rows.flatten vs → ∀ {w' : World} {M' : Addr → Prop}, Keeps w M w' M' → (∀ i u, vs[i]? = some u → w'.cell? ⟨b, o + i, none⟩ = some u ∧ ¬ M' ⟨b, o + i, none⟩) → Rws w' M' rows b o
 | [], _, _, _, _, _, _, _ => trivial
 | r :: l, vs, o, h, w', M', hk, hc => by
  simp only [List.flatten_cons] at h
  have h1 := h.take r.length
  have h2 := h.drop r.length
  rw [List.take_left'] at h1
  rw [List.drop_left'] at h2
  ·refine ⟨Rw.of fun i d hd => ?_, Rws.of_flat h2 hk fun i u hu => ?_⟩
   ·obtain ⟨v, hv, hr⟩ := h1.get hd
    simp only [List.getElem?_take] at hv
    split at hv
    ·exact ⟨v, (hc i v hv).1, (hc i v hv).2, hr.keep hk⟩
    ·simp at hv
   ·rw [List.getElem?_drop] at hu
    have := hc _ _ hu
    rwa [show o + (r.length + i) = o + r.length + i by omega] at this
  ·rfl
  ·rfl
end
section
variable {P : Program} {c : SC} {F : Nat → Prop} {σ : Nat → ST} {bm : Nat → Nat} {tm : Nat → Value} {a : Act} {w : World} {tb : TB} {Γ : List VT} {gs : Gd}
theorem Sim.M_lt (hs : Sim c F σ bm tm a w) : ∀ p, MM c.M0 bm tm σ p → p.block < w.heap.size := by
 rintro p (h | ⟨id, cs, h1, h2⟩ | ⟨g, n, h1, h2⟩)
 ·exact Nat.lt_of_lt_of_le (hs.m0.1 p h) hs.hB
 ·rw [h2]; exact (hs.box id cs h1).lt
 ·exact (hs.live g n h1).lt (ownA_blk h2)
theorem Sim.gi (hs : Sim c F σ bm tm a w) : GInv w := hs.m0.2.1.keep fun k hk => hs.fr.block k (Nat.lt_of_lt_of_le hk hs.m0.2.2.1) fun e => by have := hs.m0.2.2.2 k e.symm; omega
theorem Sim.rdy (hs : Sim c F σ bm tm a w) : Rdy w (MM c.M0 bm tm σ) := ⟨hs.M_lt, hs.gi, Nat.le_trans hs.m0.2.2.1 hs.hB⟩
theorem mem_setAll {α : Type} : ∀ (r l : List α) (i : Nat) {x : α}, x ∈ setAll l i r → x ∈ l ∨ x ∈ r
 | [], l, i, x, h => .inl h
 | y :: r, l, i, x, h => by
  rcases mem_setAll r _ _ h with h | h
  ·rcases List.mem_or_eq_of_mem_set h with h | h
   ·exact .inl h
   ·exact .inr (by simp [h])
  ·exact .inr (by simp [h])
theorem relCs_apart {M : Addr → Prop} {l : List D} {k : K} {e : E} {vs : List Value} (h : e.den c.env = .agg l) (hr : Rs w M l vs) (hk : relK w M tm c.env k e (.agg vs.toArray)) : relCs w M tm c.env (apart k l.length e) vs := by
 have key : ∀ (n : Nat) (l' : List D) (vs' : List Value), Rs w M l' vs' → (∀ i d, l'[i]? = some d → l[n + i]? = some d) → (∀ (i : Nat) (u : Value), vs'[i]? = some u → vs[n + i]? = some u) → relCs w M tm c.env ((List.range' n l'.length).map fun j => (k.nth j, E.cell e j)) vs' := by
  intro n l'
  induction l' generalizing n with
  | nil => intro vs' h _ _; subst h; simp [relCs]
  | cons d r ih =>
   intro vs' hr' hl hv
   obtain ⟨v, q, rfl, h1, h2⟩ := hr'
   simp only [List.length_cons, List.range'_succ, List.map_cons]
   refine ⟨v, q, rfl, ?_, ih (n + 1) q h2 (fun i d' hd => ?_) fun i u hu => ?_⟩
   ·have hd := hl 0 d rfl
    have hu := hv 0 v rfl
    rw [Nat.add_zero] at hd hu
    refine relK.ofn ?_ (hk.nth (by simpa [flatV, flat1] using hu))
    simp only [E.den, h, D.toA_agg, List.getD]
    rw [hd]; exact h1
   ·have := hl (i + 1) d' (by simpa using hd)
    rwa [show n + (i + 1) = n + 1 + i by omega] at this
   ·have := hv (i + 1) u (by simpa using hu)
    rwa [show n + (i + 1) = n + 1 + i by omega] at this
 have := key 0 l vs hr (by simp) (by simp)
 simpa [apart, List.range_eq_range'] using this
theorem apart_has {k : K} {n : Nat} {e : E} {x : Nat} (h : ∃ z ∈ apart k n e, z.1.has x) : k.has x := by
 obtain ⟨z, hz, hx⟩ := h
 obtain ⟨j, _, rfl⟩ := List.mem_map.1 hz
 exact K.has_nth hx
theorem parts_has (hs : Sim c F σ bm tm a w) {fs : List (Nat × Nat)} : ∀ (parts : List (Nat × Operand)) (es es' : List (K × E)), eParts tb Γ gs σ fs parts es = some es' → (∀ g, (∃ z ∈ es, z.1.has g) → F g) → ∀ g, (∃ z ∈ es', z.1.has g) → F g
 | [], es, es', h, h0, g, hg => by simp only [eParts, Option.some.injEq] at h; subst h; exact h0 g hg
 | (f, x) :: r, es, es', h, h0, g, hg => by
  simp only [eParts] at h
  split at h
  ·split at h
   ·rename_i fi kx e hfi hx
    have hm := (val_rel hs hx).2
    split at h
    ·split at h
     ·refine parts_has hs r _ es' h (fun g ⟨z, hz, hzg⟩ => ?_) g hg
      rcases List.mem_or_eq_of_mem_set hz with hz | rfl
      ·exact h0 g ⟨z, hz, hzg⟩
      ·exact hm g hzg
     ·simp at h
    ·split at h
     ·refine parts_has hs r _ es' h (fun g ⟨z, hz, hzg⟩ => ?_) g hg
      rcases mem_setAll _ _ _ hz with hz | hz
      ·exact h0 g ⟨z, hz, hzg⟩
      ·exact hm g (apart_has ⟨z, hz, hzg⟩)
     ·simp at h
    ·simp at h
   ·simp at h
  ·simp at h
theorem run_places (hcx : tbOk P tb tb = true) : ∀ (fs : List (Nat × Nat)) (fl : List Field), fieldsOk tb fs fl = true → ∃ pl : List (Nat × Nat), (fl.mapM (m := Sem) fun f => do pure (f.offset, ← sizeOf f.type)).run P w = .ok pl w ∧
  ∀ (f fo ft : Nat) (fi : TI) (v1 : V1), fs[f]? = some (fo, ft) → tb.get ft = some fi → fi.vt = .one v1 → pl[f]? = some (fo, v1.cells.length)
 | [], [], _ => ⟨[], by simp, fun f fo ft fi v1 h => by simp at h⟩
 | [], _ :: _, h => by simp [fieldsOk] at h
 | _ :: _, [], h => by simp [fieldsOk] at h
 | (fo, ft) :: r, x :: fl, h => by
  simp only [fieldsOk, Bool.and_eq_true, beq_iff_eq] at h
  obtain ⟨⟨⟨h1, h2⟩, h3⟩, h4⟩ := h
  obtain ⟨pl, hpl, hget⟩ := run_places hcx r fl h4
  split at h3
  ·rename_i ti hti
   split at h3
   ·rename_i v1 hv1
    obtain ⟨j, hj, hjs, _⟩ := ty_one hcx hti hv1
    refine ⟨(fo, v1.cells.length) :: pl, ?_, fun f fo' ft' fi' v' hf hfi hv' => ?_⟩
    ·rw [List.mapM_cons]
     simp only [Sem.run_bind, Sem.run_pure, ← h2, run_sizeOf hj, hjs, Result.andThen_ok, hpl, ← h1]
    ·cases f with
     | zero =>
      simp at hf; obtain ⟨rfl, rfl⟩ := hf
      rw [hti] at hfi; simp at hfi; subst hfi
      rw [hv1] at hv'; simp at hv'; subst hv'; rfl
     | succ f => simp at hf; simpa using hget f fo' ft' fi' v' hf hfi hv'
   ·simp at h3
  ·simp at h3
theorem fill_parts (hs : Sim c F σ bm tm a w) (hΓ : EnvTy tb.tab Γ c.env) (hg : gsH c.env gs) {fs : List (Nat × Nat)} {pl : List (Nat × Nat)} (hcx : tbOk P tb tb = true)
  (hpl : ∀ (f fo ft : Nat) (fi : TI) (v1 : V1), fs[f]? = some (fo, ft) → tb.get ft = some fi → fi.vt = .one v1 → pl[f]? = some (fo, v1.cells.length)) :
  ∀ (parts : List (Nat × Operand)) (es es' : List (K × E)) (cs : Array Value), eParts tb Γ gs σ fs parts es = some es' → relCs w (MM c.M0 bm tm σ) tm c.env es cs.toList →
   ∃ cs', Instr.fill (fun i => pl.toArray[i]?) cs (parts.map fun p => (p.1, a.eval p.2)) = some cs' ∧ relCs w (MM c.M0 bm tm σ) tm c.env es' cs'.toList
 | [], es, es', cs, h, hr => by simp only [eParts, Option.some.injEq] at h; subst h; exact ⟨cs, rfl, hr⟩
 | (f, x) :: r, es, es', cs, h, hr => by
  simp only [eParts] at h
  split at h
  ·rename_i fo ft hf
   split at h
   ·rename_i fi kx e hfi hx
    have hvr := (val_rel hs hx).1 hg
    split at h
    ·rename_i t t' hv he
     split at h
     ·rename_i hlt
      have hp := hpl f fo ft fi _ hf hfi hv
      have hty := E.inf_ok hΓ e _ he
      obtain ⟨hc1, hc2⟩ := cells_c hty hvr.rd
      have hlen := hr.length
      simp only [Array.length_toList] at hlen
      obtain ⟨cs', h1, h2⟩ := fill_parts hs hΓ hg hcx hpl r _ es' (setAllA cs fo [a.eval x]) h (by
       rw [setAllA_toList]
       exact hr.set fo (c := (kx, e)) hvr)
      refine ⟨cs', ?_, h2⟩
      simp only [List.map_cons]
      rw [fill_cons (off := fo) (sz := 1) (by simpa [V1.cells] using hp) (by rw [hc1]; rfl) (by omega), hc1]
      exact h1
     ·simp at h
    ·rename_i us ts hv he
     split at h
     ·rename_i hcnd
      have hp := hpl f fo ft fi _ hf hfi hv
      obtain ⟨l, hl, hlt⟩ := hasV1_agg (E.inf_ok hΓ e _ he)
      have hrd := hvr.rd
      rw [hl] at hrd
      obtain ⟨vs, hvs, hrs⟩ := hrd
      have hlen := hr.length
      have hlen2 := hrs.length
      have hlen3 := hlt.length
      simp only [Array.length_toList] at hlen hlen2
      obtain ⟨cs', h1, h2⟩ := fill_parts hs hΓ hg hcx hpl r _ es' (setAllA cs fo vs.toList) h (by
       rw [setAllA_toList, ← hlen3]
       exact relCs.setAll (relCs_apart hl hrs (by rw [hvs] at hvr; simpa using hvr)) fo hr)
      refine ⟨cs', ?_, h2⟩
      simp only [List.map_cons]
      have hcl : (a.eval x).cells = vs := by rw [hvs]; rfl
      rw [fill_cons (off := fo) (sz := us.length) (by simpa [V1.cells] using hp) (by rw [hcl, hlen2, hlen3]; exact hcnd.1.symm) (by omega), hcl]
      exact h1
     ·simp at h
    ·simp at h
   ·simp at h
  ·simp at h
theorem zero_rel {M : Addr → Prop} {t : CT} {v : Value} (h : zeroV t v = true) : R w M (zeroD t) v ∧ relK w M tm c.env (zeroE t).1 (zeroE t).2 v := by
 cases t with
 | mem => simp [zeroV] at h
 | fn => simp [zeroV] at h
 | bool => cases v <;> simp [zeroV] at h; subst h; exact ⟨rfl, rfl⟩
 | int k =>
  cases v <;> simp [zeroV] at h
  obtain ⟨rfl, rfl⟩ := h
  have : k.min ≤ 0 ∧ 0 ≤ k.max := by cases k <;> simp [IntKind.min, IntKind.max, IntKind.signed, IntKind.bits]
  exact ⟨⟨rfl, this⟩, ⟨rfl, this⟩⟩
 | str => cases v <;> simp [zeroV] at h; subst h; exact ⟨⟨rfl, by decide⟩, ⟨rfl, by decide⟩⟩
 | sl e =>
  rcases v with _ | _ | _ | _ | _ | _ | ⟨ad, len, cap⟩ | _ | _ | _ | _ | _ | _ | _ | _ <;> try (simp [zeroV] at h; done)
  rcases ad with _ | ad <;> rcases len with _ | len <;> rcases cap with _ | cap <;> simp [zeroV] at h
  have hr : R w M (.sl []) (.slice none 0 0) := ⟨none, 0, 0, rfl, rfl, Nat.le_refl _, by decide, fun _ => rfl, fun b o s h => by cases h⟩
  exact ⟨hr, hr, none, rfl⟩
theorem zeros_rel {M : Addr → Prop} : ∀ {ts : List CT} {vs : List Value}, zerosV ts vs = true → Rs w M (ts.map zeroD) vs ∧ relCs w M tm c.env (ts.map zeroE) vs
 | [], [], _ => ⟨rfl, rfl⟩
 | t :: ts, v :: vs, h => by
  simp only [zerosV, Bool.and_eq_true] at h
  have h1 := zero_rel (w := w) (M := M) (tm := tm) (c := c) h.1
  have h2 := zeros_rel (M := M) h.2
  exact ⟨⟨v, vs, rfl, h1.1, h2.1⟩, ⟨v, vs, rfl, h1.2, h2.2⟩⟩
 | [], _ :: _, h => by simp [zerosV] at h
 | _ :: _, [], h => by simp [zerosV] at h
theorem sBuild (hcx : tbOk P tb tb = true) (hs : Sim c F σ bm tm a w) (hΓ : EnvTy tb.tab Γ c.env) {n : Nat} {o : Oper} {T : Nat} {parts : Array (Nat × Operand)} (ho : o.op = .build T parts) {ti : TI} (hti : tb.get T = some ti) {eff : Eff}
  (h : eBuild tb Γ gs o.dst σ ti parts.toList = some eff) : PureSpec P c F gs σ bm tm a w n o eff := by
 unfold eBuild at h
 split at h
 ·rename_i ts hv
  simp only [Option.map_eq_some_iff] at h
  obtain ⟨es, hes, rfl⟩ := h
  refine ⟨_, rfl, rfl, fun g hg => ?_, fun hg _ => ?_⟩
  ·obtain ⟨q, hq, hx⟩ := K.has_pack (show (packK _).has g from hg)
   obtain ⟨z, hz, rfl⟩ := List.mem_map.1 hq
   exact parts_has hs parts.toList _ es hes (fun g ⟨x, hx, hg⟩ => by obtain ⟨t, _, rfl⟩ := List.mem_map.1 hx; cases t <;> simp [zeroE, K.has] at hg) g ⟨z, hz, hx⟩
  obtain ⟨i, fields, z, hi, hsz, _, hz, hzo, hu, hfo⟩ := ty_agg hcx hti hv
  obtain ⟨pl, hpl, hget⟩ := run_places (w := w) hcx ti.fs fields.toList hfo
  obtain ⟨cs', h1, h2⟩ := fill_parts hs hΓ hg hcx hget parts.toList _ es z hes (zeros_rel (w := w) (M := MM c.M0 bm tm σ) (tm := tm) (c := c) hzo).2
  refine ⟨.agg cs', w, ?_, Below.refl _ _, relT_v hg ?_⟩
  ·have hm : (fields.mapM (m := Sem) fun f => do pure (f.offset, ← sizeOf f.type)).run P w = .ok pl.toArray w := by
    rw [Array.mapM_eq_mapM_toList, Sem.run_map, hpl]; rfl
   simp only [execOp, ho, Instr.build, Sem.run_bind, zeroValue, run_typeInfo hi, hz, Result.andThen_ok, Sem.run_pure, run_underlying hu, hm, Value.cells]
   simp only [List.getElem?_toArray] at h1
   simp [h1]
  ·have e : cs' = cs'.toList.toArray := by simp
   rw [e]
   refine relK.pack ?_ fun j k u hk hu => ?_
   ·rw [den_pack hΓ]
    exact h2.rs.to_agg
   ·simp only [List.getElem?_map, Option.map_eq_some_iff] at hk
    obtain ⟨z, hz, rfl⟩ := hk
    obtain ⟨u', hu', hr'⟩ := h2.get hz
    rw [hu] at hu'; cases hu'
    exact hr'.kk
 ·simp at h
theorem fill_rows (hs : Sim c F σ bm tm a w) (hΓ : EnvTy tb.tab Γ c.env) (hg : gsH c.env gs) {el sz : Nat} (hsz : (tb.tab el).length = sz) :
  ∀ (parts : List (Nat × Operand)) (k : Nat) (acc e' : E) (rows : List (List D)) (cs : Array Value), eRows tb Γ gs σ el k parts acc = some e' → acc.den c.env = .sl rows → rows.length = k → (∀ r ∈ rows, r.length = sz) → (k + parts.length) * sz ≤ cs.size →
   Rs w (MM c.M0 bm tm σ) rows.flatten (cs.toList.take (k * sz)) →
   ∃ cs' rows', Instr.fill (fun i => some (i * sz, sz)) cs (parts.map fun p => (p.1, a.eval p.2)) = some cs' ∧ e'.den c.env = .sl rows' ∧ rows'.length = k + parts.length ∧ (∀ r ∈ rows', r.length = sz) ∧ cs'.size = cs.size ∧
    Rs w (MM c.M0 bm tm σ) rows'.flatten (cs'.toList.take ((k + parts.length) * sz))
 | [], k, acc, e', rows, cs, h, hacc, hk, hl, hle, hr => by
  simp only [eRows, Option.some.injEq] at h; subst h
  exact ⟨cs, rows, rfl, hacc, by simpa using hk, hl, rfl, by simpa using hr⟩
 | (i, x) :: r, k, acc, e', rows, cs, h, hacc, hk, hl, hle, hr => by
  simp only [eRows] at h
  split at h
  ·rename_i hik; subst hik
   split at h
   ·rename_i kx e hx
    have hvr := (val_rel hs hx).1 hg
    have hle2 : i * sz + sz ≤ cs.size := by
     have : (i + 1) * sz ≤ (i + (((i, x) :: r).length)) * sz := Nat.mul_le_mul_right _ (by simp)
     rw [Nat.add_mul, Nat.one_mul] at this; omega
    have hgo : ∀ (row : List D) (vals : List Value) (nx : E), nx.den c.env = .sl (rows ++ [row]) → row.length = sz → vals.length = sz → Rs w (MM c.M0 bm tm σ) row vals → (a.eval x).cells.toList = vals → eRows tb Γ gs σ el (i + 1) r nx = some e' →
      ∃ cs' rows', Instr.fill (fun i => some (i * sz, sz)) cs (((i, x) :: r).map fun p => (p.1, a.eval p.2)) = some cs' ∧ e'.den c.env = .sl rows' ∧ rows'.length = i + ((i, x) :: r).length ∧ (∀ r ∈ rows', r.length = sz) ∧ cs'.size = cs.size ∧
       Rs w (MM c.M0 bm tm σ) rows'.flatten (cs'.toList.take ((i + ((i, x) :: r).length) * sz)) := by
     intro row vals nx hnx hrow hvals hrs hcl hnext
     have htk : (setAllA cs (i * sz) vals).toList.take ((i + 1) * sz) = cs.toList.take (i * sz) ++ vals := by
      rw [setAllA_toList, Nat.add_mul, Nat.one_mul]
      have := take_setAll vals cs.toList (i * sz) (by simp; omega)
      rwa [hvals] at this
     obtain ⟨cs', rows', h1, h2, h3, h4, h5, h6⟩ := fill_rows hs hΓ hg hsz r (i + 1) nx e' (rows ++ [row]) (setAllA cs (i * sz) vals) hnext hnx (by simp [hk]) (fun q hq => (List.mem_append.1 hq).elim (hl q) fun h => by simp at h; subst h; exact hrow)
      (by rw [size_setAllA]; simp only [List.length_cons] at hle; rwa [show i + 1 + r.length = i + (r.length + 1) by omega])
      (by rw [htk, List.flatten_append]; simpa using hr.append hrs)
     refine ⟨cs', rows', ?_, h2, by simp only [List.length_cons]; omega, h4, by rw [h5, size_setAllA], by
      simp only [List.length_cons]; rwa [show i + (r.length + 1) = i + 1 + r.length by omega]⟩
     simp only [List.map_cons]
     have hcs : (a.eval x).cells.size = sz := by rw [← Array.length_toList, hcl, hvals]
     rw [fill_cons (off := i * sz) (sz := sz) rfl hcs hle2, hcl]
     exact h1
    split at h
    ·rename_i t he
     split at h
     ·rename_i htab
      have hs1 : sz = 1 := by rw [← hsz, htab]; rfl
      have hty := E.inf_ok hΓ e _ he
      obtain ⟨hc1, hc2⟩ := cells_c hty hvr.rd
      exact hgo [e.den c.env] [a.eval x] _ (by simp [E.den, hacc]) (by simp [hs1]) (by simp [hs1]) (Rs.one hvr.rd) (by rw [hc1]) h
     ·simp at h
    ·rename_i ts he
     split at h
     ·rename_i htab
      obtain ⟨l, hll, hlt⟩ := hasV1_agg (E.inf_ok hΓ e _ he)
      have hrd := hvr.rd
      rw [hll] at hrd
      obtain ⟨vs, hvs, hrs⟩ := hrd
      have hlen := hrs.length
      have hlen2 := hlt.length
      rw [← htab, hsz] at hlen2
      exact hgo l vs.toList _ (by simp [E.den, hacc, hll]) hlen2 (by rw [hlen, hlen2]) hrs (by rw [hvs]; rfl) h
     ·simp at h
    ·simp at h
   ·simp at h
  ·simp at h
theorem run_buildSlice (hcx : tbOk P tb tb = true) (hs : Sim c F σ bm tm a w) (hΓ : EnvTy tb.tab Γ c.env) {o : Oper} {T len el : Nat} {parts : Array (Nat × Operand)} (ho : o.op = .buildSlice T len parts) {ti : TI} (hti : tb.get T = some ti) (hv : ti.vt = .one (.c (.sl el))) {e : E}
  (hlen : parts.toList.length = len) (hok : eRowsOk tb el len = true) (he : eRows tb Γ gs σ el 0 parts.toList (.nilS el) = some e) (hg : gsH c.env gs) :
  ∃ w' cells, (execOp a.eval o).run P w = .ok (.value (.slice (some ⟨w.heap.size, 0, none⟩) len len)) w' ∧ Below w.heap.size w w' ∧ w'.heap[w.heap.size]? = some (.cells cells el (0, 0)) ∧ len * (tb.tab el).length ≤ cells.size ∧
   ∀ M' : Addr → Prop, (∀ p, M' p → MM c.M0 bm tm σ p) → R w' M' (e.den c.env) (.slice (some ⟨w.heap.size, 0, none⟩) len len) := by
 unfold eRowsOk at hok
 split at hok
 ·rename_i ei hei
  split at hok
  ·rename_i v1 hv1
   simp only [Bool.and_eq_true, decide_eq_true_eq] at hok
   obtain ⟨j, hj, hjs, _⟩ := ty_one hcx hei hv1
   have hcl : ei.cells = v1.cells := by simp [TI.cells, hv1]
   rw [hcl] at hok
   have htab : tb.tab el = v1.cells := by simp [TB.tab, hei, TI.cells, hv1]
   obtain ⟨_, d1, _, _, _, _, hd1, hdc1⟩ := ty_c hcx hti hv
   simp only [DescC] at hdc1; subst hdc1
   obtain ⟨z0, hz0⟩ : ∃ z, j.zero = some z := by
    cases v1 with
    | c t => obtain ⟨i', d', hi', _, _, ⟨z, hz, _⟩, _⟩ := ty_c hcx hei hv1; rw [hj] at hi'; simp at hi'; subst hi'; exact ⟨z, hz⟩
    | agg ts => obtain ⟨i', f', cs', hi', _, _, hz, _⟩ := ty_agg hcx hei hv1; rw [hj] at hi'; simp at hi'; subst hi'; exact ⟨_, hz⟩
   have hlen' : len * v1.cells.length ≤ 65536 := hok.1
   have hll : len ≤ 65536 := Nat.le_trans (Nat.le_mul_of_pos_right _ hok.2) hlen'
   have hfin : ∀ (z : Array Value), z.size = len * v1.cells.length → ∃ cs' rows', Instr.fill (fun i => some (i * v1.cells.length, v1.cells.length)) z (parts.toList.map fun p => (p.1, a.eval p.2)) = some cs' ∧ e.den c.env = .sl rows' ∧ rows'.length = len ∧ (∀ r ∈ rows', r.length = v1.cells.length) ∧ Rs w (MM c.M0 bm tm σ) rows'.flatten cs'.toList ∧ cs'.size = len * v1.cells.length := by
    intro z hz
    obtain ⟨cs', rows', h1, h2, h3, h4, h5, h6⟩ := fill_rows hs hΓ hg (by rw [htab]) parts.toList 0 (.nilS el) e [] z he rfl rfl (by simp) (by rw [Nat.zero_add, hlen, hz]; exact Nat.le_refl _) (by simp [Rs])
    refine ⟨cs', rows', h1, h2, by rw [h3, hlen]; omega, h4, ?_, by rw [h5, hz]⟩
    rw [Nat.zero_add, hlen, ← hz, ← h5, ← Array.length_toList, List.take_length] at h6
    exact h6
   have hrun : ∃ cs' rows', (Instr.buildSlice T len (parts.map fun x => (x.1, a.eval x.2))).run P w = .ok (.slice (some ⟨w.heap.size, 0, none⟩) len len) (w.alloc (.cells cs' el)) ∧ e.den c.env = .sl rows' ∧ rows'.length = len ∧ (∀ r ∈ rows', r.length = v1.cells.length) ∧ Rs w (MM c.M0 bm tm σ) rows'.flatten cs'.toList ∧ cs'.size = len * v1.cells.length := by
    by_cases h0 : len * v1.cells.length = 0
    ·obtain ⟨cs', rows', h1, h2, h3, h4, h5, h6⟩ := hfin #[] (by simp [h0])
     refine ⟨cs', rows', ?_, h2, h3, h4, h5, h6⟩
     have hr0 : Array.range 0 = #[] := rfl
     simp only [Instr.buildSlice, Sem.run_bind, run_underlying hd1, run_sizeOf hj, hjs, Result.andThen_ok, h0, hr0]
     simp [h1, newRow]
    ·obtain ⟨cs', rows', h1, h2, h3, h4, h5, h6⟩ := hfin ((Array.range (len * v1.cells.length)).map fun x => z0.cells[x % z0.cells.size]!) (by simp)
     refine ⟨cs', rows', ?_, h2, h3, h4, h5, h6⟩
     have hbig : ¬ (len * v1.cells.length > 2 ^ 24) := by omega
     simp only [Instr.buildSlice, Sem.run_bind, run_underlying hd1, run_sizeOf hj, hjs, Result.andThen_ok, if_neg hbig, if_neg h0, zeroValue, run_typeInfo hj, hz0, Sem.run_pure, Sem.run_ite]
     simp [h1, newRow]
   obtain ⟨cs', rows', h1, h2, h3, h4, h5, h6⟩ := hrun
   have hb : Below w.heap.size w (w.alloc (.cells cs' el)) := (Below.refl _ _).alloc (Nat.le_refl _) _
   refine ⟨_, cs', by simp only [execOp, ho]; rw [Sem.run_bind, h1]; rfl, hb, heap_alloc_new w _, by rw [h6, htab]; exact Nat.le_refl _, fun M' hM' => ?_⟩
   rw [h2]
   refine ⟨_, _, _, rfl, h3.symm, Nat.le_refl _, by unfold maxLen; omega, (fun h => by cases h), fun b o' s hbo => ?_⟩
   simp only [Option.some.injEq, Addr.mk.injEq] at hbo
   obtain ⟨rfl, rfl, rfl⟩ := hbo
   refine ⟨fun _ => rfl, Rws.of_flat h5 (Keeps.below hb fun p _ h => hM' p h) fun i u hu => ⟨?_, fun hm => ?_⟩⟩
   ·rw [World.cell?_alloc_new]; simpa using hu
   ·have := hs.M_lt _ (hM' _ hm)
    simp at this
  ·simp at hok
 ·simp at hok
theorem sBuildSlice (hcx : tbOk P tb tb = true) (hs : Sim c F σ bm tm a w) (hΓ : EnvTy tb.tab Γ c.env) {n : Nat} {o : Oper} {T len : Nat} {parts : Array (Nat × Operand)} (ho : o.op = .buildSlice T len parts) {ti : TI} (hti : tb.get T = some ti) {eff : Eff}
  (h : eBuildSlice tb Γ gs o.dst σ ti len parts.toList = some eff) : PureSpec P c F gs σ bm tm a w n o eff := by
 unfold eBuildSlice at h
 split at h
 ·rename_i el hv
  split at h
  ·rename_i hcnd
   obtain ⟨hlen, hok⟩ := hcnd
   simp only [Option.map_eq_some_iff] at h
   obtain ⟨e, he, rfl⟩ := h
   refine ⟨_, rfl, rfl, fun g hg => ?_, fun hg _ => ?_⟩
   ·cases hz : Nat.beq len 0 <;> rw [hz] at hg <;> simp [men, K.has] at hg
   ·obtain ⟨w', cells, h1, h2, _, _, h4⟩ := run_buildSlice hcx hs hΓ ho hti hv hlen hok he hg
    refine ⟨_, w', h1, h2, relT_v hg ?_⟩
    have hR := h4 _ fun _ h => h
    cases hz : Nat.beq len 0 with
    | true =>
     have h0 : len = 0 := Nat.eq_of_beq_eq_true hz
     subst h0
     exact ⟨hR, _, rfl⟩
    | false => exact hR
  ·simp at h
 ·simp at h
end
end Go.Proofs.YtimickglpboilaaGreat
