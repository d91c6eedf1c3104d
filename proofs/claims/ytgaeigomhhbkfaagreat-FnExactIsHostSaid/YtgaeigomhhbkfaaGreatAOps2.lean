/- Each operation does to a world what the executor says it does: arithmetic, slices, structs built, calls. No program in sight. -/
import Derived.Test.YtgaeigomhhbkfaaGreatAOps1
namespace Go.Proofs.YtgaeigomhhbkfaaGreat
open Go.RowKit
set_option linter.unusedVariables false
set_option linter.unusedSimpArgs false
set_option linter.unusedSectionVars false
variable [GC]

theorem tmod_in {k : IntKind} {a b : Int} (h1 : k.min ≤ a) (h2 : a ≤ k.max) : k.min ≤ a.tmod b ∧ a.tmod b ≤ k.max := by
  have hk : k.min ≤ 0 ∧ 0 ≤ k.max := by cases k <;> simp [IntKind.min, IntKind.max, IntKind.signed, IntKind.bits]
  have hn : (a.tmod b).natAbs ≤ a.natAbs := by rw [Int.natAbs_tmod]; exact Nat.mod_le _ _
  by_cases h0 : 0 ≤ a
  · have := Int.tmod_nonneg b h0; omega
  · have h3 := Int.tmod_nonneg b (show 0 ≤ -a by omega)
    rw [Int.neg_tmod] at h3
    omega
theorem fdiv_in {k : IntKind} {a : Int} (n : Nat) (h1 : k.min ≤ a) (h2 : a ≤ k.max) : k.min ≤ a.fdiv (2 ^ n) ∧ a.fdiv (2 ^ n) ≤ k.max := by
  have hk : k.min ≤ 0 ∧ 0 ≤ k.max := by cases k <;> simp [IntKind.min, IntKind.max, IntKind.signed, IntKind.bits]
  have hp : (0 : Int) < 2 ^ n := Int.pow_pos (by decide)
  rw [Int.fdiv_eq_ediv_of_nonneg _ (Int.le_of_lt hp)]
  by_cases h0 : 0 ≤ a
  · have h3 := Int.ediv_nonneg h0 (Int.le_of_lt hp)
    have h4 := Int.ediv_le_self (2 ^ n) h0
    omega
  · have h3 : a ≤ a / 2 ^ n := by
      rw [Int.le_ediv_iff_mul_le hp]
      have := Int.mul_le_mul_of_nonpos_left (show a ≤ 0 by omega) (show (1 : Int) ≤ 2 ^ n by omega)
      omega
    have h4 : a / 2 ^ n < 0 := Int.ediv_neg_of_neg_of_pos (by omega) hp
    omega

section
variable {P : Program} {c : SC} {F : Nat → Prop} {σ : Nat → ST} {bm : Nat → Nat} {tm : Nat → Value} {a : Act} {w : World} {tb : TB} {Γ : List VT} {gs : Gd}
theorem run_eqGuard_i {op : BinOp} {T : Nat} {x y : Operand} {k k' : IntKind} {m n : Int} : (eqGuard op T x y (.int k m) (.int k' n)).run P w = .ok () w := by
  cases op <;> simp [eqGuard]
theorem run_eqGuard_s {op : BinOp} {T : Nat} {x y : Operand} {s t : ByteArray} : (eqGuard op T x y (.string s) (.string t)).run P w = .ok () w := by
  cases op <;> simp [eqGuard]
theorem eqvL_append : ∀ {a b a' b' : List D}, a.length = b.length → eqvL (a ++ a') (b ++ b') = (eqvL a b && eqvL a' b')
  | [], [], _, _, _ => by simp [eqvL]
  | x :: a, y :: b, a', b', h => by simp only [List.cons_append, eqvL, eqvL_append (a := a) (b := b) (by simpa using h), Bool.and_assoc]
  | [], _ :: _, _, _, h => by simp at h
  | _ :: _, [], _, _, h => by simp at h
theorem run_part_c {t : Nat} {d : TypeDesc} {ct : CT} (h : P.underlying t = some d) (hd : DescC ct d) {cs : Array Value} {off : Nat} {v : Value} (hv : cs[off]? = some v) : (part t cs off).run P w = .ok v w := by
  simp [part, run_isAgg_c h hd, hv]
theorem run_part_s {t : Nat} {f : Array Field} (h : P.underlying t = some (.struct f)) {i : TypeInfo} (hi : P.info? t = some i) {cs : Array Value} {off : Nat} : (part t cs off).run P w = .ok (.agg (cs.extract off (off + i.size))) w := by
  simp [part, run_isAgg_s h, run_sizeOf hi]
theorem run_eq (hcx : tbOk P tb tb = true) {M : Addr → Prop} : ∀ (d T : Nat) (ti : TI) (v : V1), eqTy P tb d T = true → tb.get T = some ti → ti.vt = .one v → ∀ (dx dy : D) (x y : Value), HasV1 tb.tab v dx → HasV1 tb.tab v dy → R w M dx x → R w M dy y → ∀ e, d ≤ e →
    (Op.equalIn e T x y).run P w = .ok (match v with | .c _ => eqvD dx dy | .agg _ => eqvL dx.toA dy.toA) w
  | 0, T, ti, v, h, _, _, _, _, _, _, _, _, _, _, _, _ => by simp [eqTy] at h
  | d + 1, T, ti, v, h, hti, hv, dx, dy, x, y, hx, hy, rx, ry, e, he => by
    obtain ⟨e, rfl⟩ : ∃ e', e = e' + 1 := ⟨e - 1, by omega⟩
    simp only [eqTy, hti, hv] at h
    cases v with
    | c t =>
      obtain ⟨_, d1, _, _, _, _, hd1, hdc1⟩ := ty_c hcx hti hv
      cases t with
      | mem => exact hdc1.elim
      | fn => exact hdc1.elim
      | sl el => simp at h
      | bool =>
        obtain ⟨a, rfl⟩ := hasTy_bool hx
        obtain ⟨b, rfl⟩ := hasTy_bool hy
        simp only [R] at rx ry; subst rx ry
        simp only [DescC] at hdc1; subst hdc1
        rw [run_equalIn_bool' w e T a b hd1]; rfl
      | int k =>
        obtain ⟨a, rfl⟩ := hasTy_int hx
        obtain ⟨b, rfl⟩ := hasTy_int hy
        obtain ⟨rfl, _⟩ := rx
        obtain ⟨rfl, _⟩ := ry
        simp only [DescC] at hdc1; subst hdc1
        rw [run_equalIn_int w e T k k a b hd1]; rfl
      | str =>
        obtain ⟨a, rfl⟩ := hasTy_str hx
        obtain ⟨b, rfl⟩ := hasTy_str hy
        obtain ⟨rfl, _⟩ := rx
        obtain ⟨rfl, _⟩ := ry
        simp only [DescC] at hdc1; subst hdc1
        rw [run_equalIn_string w e T a b hd1]; rfl
    | agg ts =>
      simp only [Bool.and_eq_true, Bool.not_eq_true', List.all_eq_true] at h
      obtain ⟨⟨⟨h1, h2⟩, h3⟩, h4⟩ := h
      obtain ⟨i, fields, z, hi, hsz, _, _, _, hu, hfo⟩ := ty_agg hcx hti hv
      obtain ⟨l, rfl, hl⟩ := hasV1_agg hx
      obtain ⟨m, rfl, hm⟩ := hasV1_agg hy
      obtain ⟨xs, rfl, hxs⟩ := rx
      obtain ⟨ys, rfl, hys⟩ := ry
      have hfd : P.fieldsOf T = fields := by simp [Program.fieldsOf, hu]
      rw [run_equalIn_struct w e T xs ys (by rw [hfd]; exact hu) h1, hfd]
      rw [hfd] at h2
      have key : ∀ (fs : List (Nat × Nat)) (fl : List Field) (o : Nat), fieldsOk tb fs fl = true → (∀ f ∈ fl, (f.name == "_") = false) → (∀ q ∈ fs, eqTy P tb d q.2 = true) → contig tb o (ts.drop o) fs = true → (Op.eqFields e xs ys fl).run P w = .ok (eqvL (l.drop o) (m.drop o)) w := by
        have hll := hl.length
        have hml := hm.length
        intro fs
        induction fs with
        | nil =>
          intro fl o hfo' _ _ hco
          cases fl with
          | nil =>
            simp only [contig, List.isEmpty_iff] at hco
            have : ts.length ≤ o := by simpa using hco
            rw [List.drop_eq_nil_of_le (by omega), List.drop_eq_nil_of_le (by omega)]
            simp [Op.eqFields, eqvL]
          | cons _ _ => simp [fieldsOk] at hfo'
        | cons q r ih =>
          intro fl o hfo' hnm heq hco
          obtain ⟨o', ft⟩ := q
          cases fl with
          | nil => simp [fieldsOk] at hfo'
          | cons f fl =>
            simp only [fieldsOk, Bool.and_eq_true, beq_iff_eq] at hfo'
            obtain ⟨⟨⟨q1, q2⟩, q3⟩, q4⟩ := hfo'
            simp only [contig, Bool.and_eq_true] at hco
            obtain ⟨hb, hco⟩ := hco
            have : o = o' := Nat.eq_of_beq_eq_true hb
            subst this
            split at hco
            · rename_i fi hfi
              simp only [Bool.and_eq_true, decide_eq_true_eq] at hco
              obtain ⟨htk, hco⟩ := hco
              rw [List.drop_drop] at hco
              have hrest := ih fl (o + fi.cells.length) q4 (fun f' hf' => hnm f' (by simp [hf'])) (fun q hq => heq q (by simp [hq])) hco
              rw [hfi] at q3
              simp only at q3
              split at q3
              · rename_i v1 hv1
                have hcl : fi.cells = v1.cells := by simp [TI.cells, hv1]
                rw [hcl] at hrest htk
                have hle : o + v1.cells.length ≤ ts.length ∨ v1.cells.length = 0 := by
                  have := congrArg List.length htk
                  simp at this; omega
                have hne : f.name ≠ "_" := fun e' => by have := hnm f (by simp); rw [e'] at this; simp at this
                have heq1 := heq (o, ft) (by simp)
                have hsplit : eqvL (l.drop o) (m.drop o) = (eqvL ((l.drop o).take v1.cells.length) ((m.drop o).take v1.cells.length) && eqvL (l.drop (o + v1.cells.length)) (m.drop (o + v1.cells.length))) := by
                  rw [← eqvL_append (by simp; omega)]
                  rw [← List.drop_drop, ← List.drop_drop, List.take_append_drop, List.take_append_drop]
                have hlx := (hl.drop o).take v1.cells.length
                have hly := (hm.drop o).take v1.cells.length
                rw [htk] at hlx hly
                have hrx := (hxs.drop o).take v1.cells.length
                have hry := (hys.drop o).take v1.cells.length
                obtain ⟨j, hj, hjs, _⟩ := ty_one hcx hfi hv1
                have hpart : ∃ (px py : Value), (part f.type xs f.offset).run P w = .ok px w ∧ (part f.type ys f.offset).run P w = .ok py w ∧ (Op.equalIn e ft px py).run P w = .ok (eqvL ((l.drop o).take v1.cells.length) ((m.drop o).take v1.cells.length)) w := by
                  rw [← q1, ← q2]
                  cases v1 with
                  | c t =>
                    obtain ⟨_, d1, _, _, _, _, hd1, hdc1⟩ := ty_c hcx hfi hv1
                    simp only [V1.cells] at hlx hly hrx hry ⊢
                    generalize (l.drop o).take [t].length = la at hlx hrx ⊢
                    generalize (m.drop o).take [t].length = lb at hly hry ⊢
                    cases la with
                    | nil => simp [RowTy] at hlx
                    | cons ea ra =>
                      cases lb with
                      | nil => simp [RowTy] at hly
                      | cons eb rb =>
                        simp only [RowTy] at hlx hly
                        have hra : ra = [] := by cases ra with | nil => rfl | cons _ _ => simp [RowTy] at hlx
                        have hrb : rb = [] := by cases rb with | nil => rfl | cons _ _ => simp [RowTy] at hly
                        subst hra hrb
                        obtain ⟨px, qx, hpx, hrpx, _⟩ := hrx
                        obtain ⟨py, qy, hpy, hrpy, _⟩ := hry
                        have hx0 : xs[o]? = some px := by
                          have := congrArg (fun l => l[0]?) hpx
                          simpa using this
                        have hy0 : ys[o]? = some py := by
                          have := congrArg (fun l => l[0]?) hpy
                          simpa using this
                        refine ⟨px, py, run_part_c hd1 hdc1 hx0, run_part_c hd1 hdc1 hy0, ?_⟩
                        have := run_eq hcx d ft fi (.c t) heq1 hfi hv1 ea eb px py hlx.1 hly.1 hrpx hrpy e (by omega)
                        simpa [eqvL] using this
                  | agg us =>
                    obtain ⟨i', f', z', hi', hsz', _, _, _, hu', _⟩ := ty_agg hcx hfi hv1
                    simp only [V1.cells] at hlx hly hrx hry hle ⊢
                    have ex : ∀ zs : Array Value, (zs.extract o (o + i'.size)).toList = (zs.toList.drop o).take us.length := fun zs => by simp [hsz', List.extract_eq_take_drop]
                    refine ⟨.agg (xs.extract o (o + i'.size)), .agg (ys.extract o (o + i'.size)), run_part_s hu' hi', run_part_s hu' hi', ?_⟩
                    exact run_eq hcx d ft fi (.agg us) heq1 hfi hv1 (.agg _) (.agg _) _ _ hlx hly ⟨_, rfl, by rw [ex]; exact hrx⟩ ⟨_, rfl, by rw [ex]; exact hry⟩ e (by omega)
                obtain ⟨px, py, e1, e2, e4⟩ := hpart
                simp only [Op.eqFields, if_pos hne, Sem.run_bind, e1, e2, Result.andThen_ok]
                rw [← q2, e4]
                simp only [Result.andThen_ok, hsplit]
                cases eqvL ((l.drop o).take v1.cells.length) ((m.drop o).take v1.cells.length) with
                | true => simp [hrest]
                | false => simp
              · simp at q3
            · simp at hco
      have := key ti.fs fields.toList 0 hfo (fun f hf => by simpa using h2 f hf) h3 (by simpa using h4)
      simpa using this
theorem eq_ty (hcx : tbOk P tb tb = true) {T : Nat} {ti : TI} (hti : tb.get T = some ti) {ts : List CT} (hv : ti.vt = .one (.agg ts)) (he : ti.eq = true) : eqTy P tb 8 T = true ∧ P.eqGuardType P.depth T = false := by
  have h := tb_get_ok hcx hti
  simp only [tiOk, hv] at h
  split at h
  · simp at h
  · simp only [Bool.and_eq_true, Bool.or_eq_true, Bool.not_eq_true'] at h
    have h5 := h.2
    rw [he] at h5
    simpa using h5
theorem sBin (hcx : tbOk P tb tb = true) (hs : Sim c F σ bm tm a w) (hΓ : EnvTy tb.tab Γ c.env) {n : Nat} {o : Oper} {x y : Operand} {T T' : Nat} {op : BinOp} (ho : o.op = .binOp op T x y T') {eff : Eff}
    (h : eBin tb.tab Γ gs o.dst op (tb.get T) (opd tb σ T x) (opd tb σ T y) = some eff) : PureSpec P c F gs σ bm tm a w n o eff := by
  unfold eBin at h
  split at h
  · rename_i kx ea ky eb hx hy
    split at h
    · rename_i k k' hka hkb
      split at h
      · rename_i hop
        simp only [Option.some.injEq] at h; subst h
        refine ⟨_, rfl, rfl, fun g hg => by simp [men, K.has] at hg, fun hg hr => ?_⟩
        have hin : RqH P c.env n (.cond gs (.ic .geq eb (.li k' 0))) := hr _ (by simp)
        replace hin := hin hg
        obtain ⟨m, hm, hmv, hm1, hm2⟩ := eval_int hΓ hka ((val_rel hs hx).1 hg)
        obtain ⟨q, hq, hqv, hq1, hq2⟩ := eval_int hΓ hkb ((val_rel hs hy).1 hg)
        simp [E.den, hq, cmpI] at hin
        have hnl : ¬ q < 0 := by omega
        rcases hop with rfl | rfl
        · refine ⟨.int k (arI .shl k m q), w, ?_, Below.refl _ _, relT_v hg ?_⟩
          · simp [execOp, ho, hmv, hqv, run_eqGuard_i, binOp, Op.shift, hnl, arI]
          · simp only [relK, E.den, hm, hq, D.toI_int, R]; exact ⟨trivial, wrap_within _ _⟩
        · refine ⟨.int k (arI .shr k m q), w, ?_, Below.refl _ _, relT_v hg ?_⟩
          · simp [execOp, ho, hmv, hqv, run_eqGuard_i, binOp, Op.shift, hnl, arI]
          · simp only [relK, E.den, hm, hq, D.toI_int, R]; exact ⟨trivial, fdiv_in _ hm1 hm2⟩
      · rename_i hns
        split at h
        · simp at h
        · rename_i hkk
          have hkk : k = k' := by simpa using hkk
          subst hkk
          split at h
          · rename_i hop
            simp only [Option.some.injEq] at h; subst h
            refine ⟨_, rfl, rfl, fun g hg => by simp [men, K.has] at hg, fun hg _ => ?_⟩
            obtain ⟨m, hm, hmv, hm1, hm2⟩ := eval_int hΓ hka ((val_rel hs hx).1 hg)
            obtain ⟨q, hq, hqv, hq1, hq2⟩ := eval_int hΓ hkb ((val_rel hs hy).1 hg)
            refine ⟨.int k (arI op k m q), w, ?_, Below.refl _ _, relT_v hg ?_⟩
            · cases op <;> simp [isAr] at hop <;> simp [execOp, ho, hmv, hqv, run_eqGuard_i, binOp, Op.intArith, Op.intBits, arI]
            · simp only [relK, E.den, hm, hq, D.toI_int, R]
              refine ⟨trivial, ?_⟩
              cases op <;> simp [isAr] at hop <;> exact wrap_within _ _
          · split at h
            · rename_i hop
              simp only [Option.some.injEq] at h; subst h
              refine ⟨_, rfl, rfl, fun g hg => by simp [men, K.has] at hg, fun hg _ => ?_⟩
              obtain ⟨m, hm, hmv, hm1, hm2⟩ := eval_int hΓ hka ((val_rel hs hx).1 hg)
              obtain ⟨q, hq, hqv, hq1, hq2⟩ := eval_int hΓ hkb ((val_rel hs hy).1 hg)
              refine ⟨.bool (cmpI op m q), w, ?_, Below.refl _ _, relT_v hg ?_⟩
              · cases op <;> simp [isCmp] at hop <;> simp [execOp, ho, hmv, hqv, run_eqGuard_i, binOp, Op.intCmp, cmpI]
              · simp only [relK, E.den, hm, hq, D.toI_int, R]
            · split at h
              · rename_i hop
                simp only [Option.some.injEq] at h; subst h
                refine ⟨_, rfl, rfl, fun g hg => by simp [men, K.has] at hg, fun hg hr => ?_⟩
                have hin : RqH P c.env n (.cond gs (.ic .neq eb (.li k 0))) := hr _ (by simp)
                replace hin := hin hg
                obtain ⟨m, hm, hmv, hm1, hm2⟩ := eval_int hΓ hka ((val_rel hs hx).1 hg)
                obtain ⟨q, hq, hqv, hq1, hq2⟩ := eval_int hΓ hkb ((val_rel hs hy).1 hg)
                simp [E.den, hq, cmpI] at hin
                rcases hop with rfl | rfl
                · refine ⟨.int k (arI .quo k m q), w, ?_, Below.refl _ _, relT_v hg ?_⟩
                  · simp [execOp, ho, hmv, hqv, run_eqGuard_i, binOp, Op.intDiv, hin, arI]
                  · simp only [relK, E.den, hm, hq, D.toI_int, R]; exact ⟨trivial, wrap_within _ _⟩
                · refine ⟨.int k (arI .rem k m q), w, ?_, Below.refl _ _, relT_v hg ?_⟩
                  · simp [execOp, ho, hmv, hqv, run_eqGuard_i, binOp, Op.intDiv, hin, arI]
                  · simp only [relK, E.den, hm, hq, D.toI_int, R]; exact ⟨trivial, tmod_in hm1 hm2⟩
              · simp at h
    · rename_i hka hkb
      split at h
      · rename_i hop
        simp only [Option.some.injEq] at h; subst h
        refine ⟨_, rfl, rfl, fun g hg => by simp [men, K.has] at hg, fun hg _ => ?_⟩
        obtain ⟨m, hm, hmv, hm1⟩ := eval_str hΓ hka ((val_rel hs hx).1 hg)
        obtain ⟨q, hq, hqv, hq1⟩ := eval_str hΓ hkb ((val_rel hs hy).1 hg)
        refine ⟨.bool (cmpS op m q), w, ?_, Below.refl _ _, relT_v hg ?_⟩
        · cases op <;> simp [isCmp] at hop <;> simp [execOp, ho, hmv, hqv, run_eqGuard_s, binOp, Op.stringOp, cmpS]
        · simp only [relK, E.den, hm, hq, D.toS_str, R]
      · split at h
        · rename_i hop
          subst hop
          simp only [Option.some.injEq] at h; subst h
          refine ⟨_, rfl, rfl, fun g hg => by simp [men, K.has] at hg, fun hg hr => ?_⟩
          have hin : RqH P c.env n (.cond gs (.sok ea eb)) := hr _ (by simp)
          replace hin := hin hg
          obtain ⟨m, hm, hmv, hm1⟩ := eval_str hΓ hka ((val_rel hs hx).1 hg)
          obtain ⟨q, hq, hqv, hq1⟩ := eval_str hΓ hkb ((val_rel hs hy).1 hg)
          simp [E.den, hm, hq] at hin
          have h63 : ¬ (IntKind.i64.max < (m.size : Int) + (q.size : Int)) := by
            have := size_le_maxLen hin
            omega
          refine ⟨.string (m ++ q), w, ?_, Below.refl _ _, relT_v hg ?_⟩
          · simp [execOp, ho, hmv, hqv, run_eqGuard_s, binOp, Op.stringOp, h63]
            unfold maxLen at hin; omega
          · simp only [relK, E.den, hm, hq, D.toS_str, R, ByteArray.size_append]; exact ⟨trivial, hin⟩
        · simp at h
    · rename_i ts us hka hkb
      split at h
      · rename_i i hti
        split at h
        · rename_i hc
          obtain ⟨hce, hcv, hcu⟩ := hc
          obtain ⟨heq, hgd⟩ := eq_ty hcx hti hcv hce
          have hgo : gsH c.env gs → ∃ xs ys, a.eval x = .agg xs ∧ a.eval y = .agg ys ∧ ∃ q, (E.ae ea eb).den c.env = .bool q ∧ (Op.equalIn 10000 T (.agg xs) (.agg ys)).run P w = .ok q w := by
            intro hg
            obtain ⟨l, hl, hlt⟩ := hasV1_agg (E.inf_ok hΓ ea _ hka)
            obtain ⟨m, hm, hmt⟩ := hasV1_agg (E.inf_ok hΓ eb _ hkb)
            have hus : us = ts := by rw [hcv] at hcu; simpa using hcu.symm
            subst hus
            have rx := ((val_rel hs hx).1 hg).rd
            have ry := ((val_rel hs hy).1 hg).rd
            rw [hl] at rx; rw [hm] at ry
            have := run_eq hcx 8 T i (.agg us) heq hti hcv (.agg l) (.agg m) _ _ hlt hmt rx ry 10000 (by omega)
            obtain ⟨xs, hxs, _⟩ := rx
            obtain ⟨ys, hys, _⟩ := ry
            rw [hxs, hys] at this
            exact ⟨xs, ys, hxs, hys, _, by simp [E.den, hl, hm], this⟩
          split at h
          · rename_i hop
            subst hop
            simp only [Option.some.injEq] at h; subst h
            refine ⟨_, rfl, rfl, fun g hg => by simp [men, K.has] at hg, fun hg _ => ?_⟩
            obtain ⟨xs, ys, e1, e2, q, e3, e4⟩ := hgo hg
            refine ⟨.bool q, w, ?_, Below.refl _ _, relT_v hg ?_⟩
            · simp [execOp, ho, e1, e2, run_eqGuard_agg w .eql T x y xs ys hgd, run_eql_struct, e4]
            · simp only [relK, e3, R]
          · split at h
            · rename_i hop
              subst hop
              simp only [Option.some.injEq] at h; subst h
              refine ⟨_, rfl, rfl, fun g hg => by simp [men, K.has] at hg, fun hg _ => ?_⟩
              obtain ⟨xs, ys, e1, e2, q, e3, e4⟩ := hgo hg
              refine ⟨.bool (!q), w, ?_, Below.refl _ _, relT_v hg ?_⟩
              · simp [execOp, ho, e1, e2, run_eqGuard_agg w .neq T x y xs ys hgd, run_neq_struct, e4]
              · simp only [E.den, D.bool.injEq] at e3
                simp only [relK, E.den, e3, D.toB_bool, R]
            · simp at h
        · simp at h
      · simp at h
    · rename_i hka hkb
      split at h
      · rename_i i hti
        split at h
        · rename_i hv
          obtain ⟨_, d1, _, _, _, _, hd1, hdc1⟩ := ty_c hcx hti hv
          simp only [DescC] at hdc1; subst hdc1
          split at h
          · rename_i hop
            subst hop
            simp only [Option.some.injEq] at h; subst h
            refine ⟨_, rfl, rfl, fun g hg => by simp [men, K.has] at hg, fun hg _ => ?_⟩
            obtain ⟨m, hm, hmv⟩ := eval_bool hΓ hka ((val_rel hs hx).1 hg)
            obtain ⟨q, hq, hqv⟩ := eval_bool hΓ hkb ((val_rel hs hy).1 hg)
            refine ⟨.bool (m == q), w, ?_, Below.refl _ _, relT_v hg ?_⟩
            · simp [execOp, ho, hmv, hqv, eqGuard, binOp, Op.equal, Op.maxDepth, run_equalIn_bool' w 9999 T m q hd1]
            · simp only [relK, E.den, hm, hq, D.toB_bool, R]
          · split at h
            · rename_i hop
              subst hop
              simp only [Option.some.injEq] at h; subst h
              refine ⟨_, rfl, rfl, fun g hg => by simp [men, K.has] at hg, fun hg _ => ?_⟩
              obtain ⟨m, hm, hmv⟩ := eval_bool hΓ hka ((val_rel hs hx).1 hg)
              obtain ⟨q, hq, hqv⟩ := eval_bool hΓ hkb ((val_rel hs hy).1 hg)
              refine ⟨.bool (!(m == q)), w, ?_, Below.refl _ _, relT_v hg ?_⟩
              · simp [execOp, ho, hmv, hqv, eqGuard, binOp, Op.equal, Op.maxDepth, run_equalIn_bool' w 9999 T m q hd1]
              · simp only [relK, E.den, hm, hq, D.toB_bool, R]
            · simp at h
        · simp at h
      · simp at h
    · simp at h
  · simp at h

theorem Rws.cut {M : Addr → Prop} {m : Nat} {rows : List (List D)} {b o : Nat} (h : Rws w M rows b o) (hn : ∀ r ∈ rows, r.length = m) (l k : Nat) : Rws w M ((rows.drop l).take k) b (o + l * m) := by
  refine Rws.of (n := m) (fun r hr => hn r (List.mem_of_mem_drop (List.mem_of_mem_take hr))) fun i r hr => ?_
  simp only [List.getElem?_take, List.getElem?_drop] at hr
  split at hr
  · have := h.get hn hr
    rwa [show o + (l + i) * m = o + l * m + i * m by rw [Nat.add_mul]; omega] at this
  · simp at hr
theorem run_sliceBound {v : Value} {k : IntKind} {i : Int} (hv : v = .int k i) {y : Nat} {code : BoundsCode} (h0 : 0 ≤ i) (h1 : i ≤ y) : (Instr.sliceBound v y code).run P w = .ok i.toNat w := by
  subst hv; simp [Instr.sliceBound, asIntOf, h0, h1]
theorem bounds_run {isS : Bool} {len cap : Nat} {lo hi : Option Value} {l h : Int} (hl : (lo = none ∧ l = 0) ∨ ∃ k, lo = some (.int k l)) (hh : (hi = none ∧ h = len) ∨ ∃ k, hi = some (.int k h)) (h1 : 0 ≤ l) (h2 : l ≤ h) (h3 : h ≤ len) (h4 : len ≤ cap) :
    (Instr.sliceBounds isS len cap lo hi none).run P w = .ok (l.toNat, h.toNat, cap) w := by
  have hhc : h ≤ (cap : Int) := by omega
  have h0 : 0 ≤ h := by omega
  have e2 : ((h.toNat : Nat) : Int) = h := by omega
  rcases hl with ⟨rfl, rfl⟩ | ⟨k, rfl⟩ <;> rcases hh with ⟨rfl, rfl⟩ | ⟨k', rfl⟩
  · simp [Instr.sliceBounds]
  · simp [Instr.sliceBounds, run_sliceBound rfl h0 hhc]
  · simp [Instr.sliceBounds, run_sliceBound (P := P) (w := w) (v := .int k l) (y := len) (code := .sliceB) rfl h1 (by omega)]
  · simp [Instr.sliceBounds, run_sliceBound (P := P) (w := w) (v := .int k' h) (y := cap) (code := if isS = true then .sliceAcap else .sliceAlen) rfl h0 hhc, run_sliceBound (P := P) (w := w) (v := .int k l) (y := h.toNat) (code := .sliceB) rfl h1 (by omega)]
theorem sSlice (hcx : tbOk P tb tb = true) (hs : Sim c F σ bm tm a w) (hΓ : EnvTy tb.tab Γ c.env) {n : Nat} {o : Oper} {x : Operand} {lo hi : Option Operand} {T : Nat} (ho : o.op = .slice T x lo hi none) {ti : TI} (hti : tb.get T = some ti) {eff : Eff}
    (h : eSlice tb Γ gs o.dst ti (opd tb σ T x) (lo.map (opd tb σ 0)) (hi.map (opd tb σ 0)) = some eff) : PureSpec P c F gs σ bm tm a w n o eff := by
  unfold eSlice at h
  split at h
  · rename_i kx ex kl el hx hlo
    split at h
    · rename_i kh eh hhi
      split at h
      · rename_i hc
        simp only [Option.some.injEq] at h; subst h
        obtain ⟨hinf, hil, hih, hseq, hsle⟩ := hc
        refine ⟨_, rfl, rfl, fun g hg => by simp [men, K.has] at hg, fun hg hr => ?_⟩
        have hin : RqH P c.env n (.cond gs (.inc ex el eh)) := hr _ (by simp)
        replace hin := hin hg
        have hvr := (val_rel hs hx).1 hg
        have hL : ∃ l : Int, (el.den c.env).toI = l ∧ ((lo.map a.eval = none ∧ l = 0) ∨ ∃ k, lo.map a.eval = some (.int k l)) := by
          cases lo with
          | none => simp at hlo; obtain ⟨_, rfl⟩ := hlo; exact ⟨0, rfl, .inl ⟨rfl, rfl⟩⟩
          | some y =>
            simp only [Option.map_some] at hlo
            obtain ⟨kk, hkk⟩ := isInt_some hil
            obtain ⟨m, hm, hmv, _⟩ := eval_int hΓ hkk ((val_rel hs hlo).1 hg)
            exact ⟨m, by simp [hm], .inr ⟨kk, by simp [hmv]⟩⟩
        have hH : ∃ l : Int, (eh.den c.env).toI = l ∧ ((hi.map a.eval = none ∧ l = lenD (ex.den c.env)) ∨ ∃ k, hi.map a.eval = some (.int k l)) := by
          cases hi with
          | none => simp at hhi; obtain ⟨_, rfl⟩ := hhi; exact ⟨_, rfl, .inl ⟨rfl, by simp [E.den]⟩⟩
          | some y =>
            simp only [Option.map_some] at hhi
            obtain ⟨kk, hkk⟩ := isInt_some hih
            obtain ⟨m, hm, hmv, _⟩ := eval_int hΓ hkk ((val_rel hs hhi).1 hg)
            exact ⟨m, by simp [hm], .inr ⟨kk, by simp [hmv]⟩⟩
        obtain ⟨l, hl, hL⟩ := hL
        obtain ⟨u, hu, hH⟩ := hH
        simp only [E.den, hl, hu, D.bool.injEq, decide_eq_true_eq] at hin
        obtain ⟨hin1, hin2, hin3⟩ := hin
        unfold isSeq at hseq
        split at hseq
        · rename_i hv
          obtain ⟨_, d1, _, _, _, _, hd1, hdc1⟩ := ty_c hcx hti hv
          simp only [DescC] at hdc1; subst hdc1
          obtain ⟨s, hsd, hsv, hss⟩ := eval_str hΓ (by rw [hinf, hv]) hvr
          simp only [hsd, lenD] at hin3 hH
          refine ⟨.string (s.extract l.toNat u.toNat), w, ?_, Below.refl _ _, relT_v hg ?_⟩
          · simp [execOp, ho, hsv, Instr.sliceAt, Instr.slice, run_underlying hd1, bounds_run hL hH hin1 hin2 hin3 (Nat.le_refl _)]
          · simp only [relK, E.den, hsd, hl, hu, cutD, R]
            refine ⟨trivial, ?_⟩
            rw [ByteArray.size_extract]; omega
        · rename_i el' hv
          obtain ⟨_, d1, _, _, _, _, hd1, hdc1⟩ := ty_c hcx hti hv
          simp only [DescC] at hdc1; subst hdc1
          obtain ⟨rows, hrows, hrt, ad, len, cap, hval, hlen, hcap, hmax, hnone, hcells⟩ := eval_sl hΓ (by rw [hinf, hv]) hvr
          simp only [hrows, lenD] at hin3 hH
          rw [← hlen] at hin3 hH
          rw [hv] at hsle
          simp only [slElem] at hsle
          split at hsle
          · rename_i ei hei
            split at hsle
            · rename_i v1 hv1
              obtain ⟨j, hj, hjs, _⟩ := ty_one hcx hei hv1
              have htab : tb.tab el' = v1.cells := by simp [TB.tab, hei, TI.cells, hv1]
              refine ⟨.slice (if cap = l.toNat then ad else ad.map (·.add (l.toNat * v1.cells.length))) (u.toNat - l.toNat) (cap - l.toNat), w, ?_, Below.refl _ _, relT_v hg ?_⟩
              · simp [execOp, ho, hval, Instr.sliceAt, Instr.slice, run_underlying hd1, bounds_run hL hH hin1 hin2 hin3 hcap, run_sizeOf hj, hjs]
              · simp only [relK, E.den, hrows, hl, hu, cutD, R]
                refine ⟨_, _, _, rfl, by simp; omega, by omega, by omega, fun hn => ?_, fun b o' s he => ?_⟩
                · rcases ad with _ | ad
                  · have := hnone rfl; omega
                  · split at hn
                    · cases hn
                    · simp at hn
                · by_cases hz : u.toNat - l.toNat = 0
                  · rw [hz, List.take_zero]; exact ⟨fun h => absurd h (by omega), trivial⟩
                  · have hne : cap ≠ l.toNat := by omega
                    rw [if_neg hne] at he
                    rcases ad with _ | ⟨b1, o1, s1⟩
                    · simp at he
                    · obtain ⟨hs1, hrw⟩ := hcells b1 o1 s1 rfl
                      have := hs1 (by omega); subst this
                      simp only [Option.map_some, addr_add, Option.some.injEq, Addr.mk.injEq] at he
                      obtain ⟨rfl, rfl, rfl⟩ := he
                      exact ⟨fun _ => rfl, hrw.cut (fun r hr => by rw [hrt.len r hr, htab]) _ _⟩
            · simp at hsle
          · simp at hsle
        · simp at hseq
      · simp at h
    · simp at h
  · simp at h
end
end Go.Proofs.YtgaeigomhhbkfaaGreat
