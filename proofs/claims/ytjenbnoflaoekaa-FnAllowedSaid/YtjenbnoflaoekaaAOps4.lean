/- Each operation does to a world what the executor says it does: boxes, stores, calls. No program in sight. -/
import Derived.Test.YtjenbnoflaoekaaAOps3
namespace Go.Proofs.Ytjenbnoflaoekaa
open Go.RowKit
set_option linter.unusedVariables false
set_option linter.unusedSimpArgs false

section
variable {P : Program} {c : SC} {F : Nat → Prop} {σ : Nat → ST} {bm : Nat → Nat} {tm : Nat → Value} {a : Act} {w : World} {tb : TB} {Γ : List VT} {gs : Gd}
/-- What every operation owes. -/
def OpOk (P : Program) (c : SC) (F : Nat → Prop) (σ : Nat → ST) (bm : Nat → Nat) (tm : Nat → Value) (a : Act) (w : World) (g : Nat) (gs : Gd) (n : Nat) (o : Oper) (eff : Eff) : Prop :=
  (gsH c.env gs → (∀ r ∈ eff.rq, RqH P c.env n r) → ∀ (K : Act → World → Prop) (Q : Exit → Act → World → Prop),
    (∀ bm' tm' a' w', Sim c (fun x => F x ∨ x = g) (updL σ eff.wr) bm' tm' a' w' → K a' w') → o.wp P a w K Q) ∧
  (¬ gsH c.env gs → Sim c (fun x => F x ∨ x = g) (updL σ eff.wr) bm tm (a.put o.dst undef) w)
theorem OpOk.of_pure (hs : Sim c F σ bm tm a w) {g n : Nat} {o : Oper} {eff : Eff} (hd : ∀ d, o.dst = some d → d < c.nt) (h : PureSpec P c F gs σ bm tm a w n o eff) : OpOk P c F σ bm tm a w g gs n o eff := by
  obtain ⟨st, hwr, hst, hm, hrun⟩ := h
  refine ⟨fun hg hr K Q hK => ?_, fun hg => ?_⟩
  · obtain ⟨v, w', h1, h2, h3⟩ := hrun hg hr
    unfold Oper.wp
    rw [h1]
    refine hK bm tm _ _ ?_
    rw [hwr]
    exact ((hs.grow h2).putO hd h3 hm).mono fun x hx => .inl hx
  · rw [hwr]
    exact (hs.putO hd (relT_undef hst hg) hm).mono fun x hx => .inl hx
theorem upd_comm {l l' : Nat} (h : l ≠ l') (s s' : ST) : upd (upd σ l s) l' s' = upd (upd σ l' s') l s := by
  funext x
  simp only [upd]
  by_cases h1 : x = l <;> by_cases h2 : x = l' <;> simp_all
theorem updL_wv_box {dst : Option Nat} {st s : ST} {g : Nat} : updL σ (wv dst st ++ [(3 * g + 1, s)]) = updL (upd σ (3 * g + 1) s) (wv dst st) := by
  cases dst with
  | none => rfl
  | some d => exact upd_comm (by omega) _ _
theorem relCs_one {M : Addr → Prop} {k : K} {e : E} {v : Value} (h : relK w M tm c.env k e v) : relCs w M tm c.env [(k, e)] [v] := ⟨v, [], rfl, h, rfl⟩
/-- A box is made and its address put into a slot. -/
theorem box_made (hs : Sim c F σ bm tm a w) {g : Nat} (hg : ¬ F g) {dst : Option Nat} (hd : ∀ d, dst = some d → d < c.nt) {cs : List (K × E)} {vs : List Value} {T : TypeId} (hv : relCs w (MM c.M0 bm tm σ) tm c.env cs vs) (hm : ∀ x, (∃ y ∈ cs, y.1 = .own x) → F x) :
    Sim c (fun x => F x ∨ x = g) (updL σ (wv dst (.ptr [] g 0) ++ [(3 * g + 1, .box cs)])) (upd bm g w.heap.size) tm (a.put dst (.pointer (some ⟨w.heap.size, 0, none⟩))) (w.alloc (.cells vs.toArray T)) := by
  rw [updL_wv_box]
  refine (hs.newBox hg hv hm).putO hd ⟨fun _ => by rw [upd_same], fun h => absurd (gsH_nil _) h⟩ fun x hx => ?_
  simp only [men] at hx
  exact .inr hx
theorem sBox (hcx : tbOk P tb tb = true) (hs : Sim c F σ bm tm a w) (hΓ : EnvTy tb.tab Γ c.env) {g n : Nat} (hg : ¬ F g) {o : Oper} {x : Operand} {T : Nat} (ho : o.op = .box T x) (hd : ∀ d, o.dst = some d → d < c.nt) {eff : Eff}
    (h : eBox tb.tab Γ gs o.dst g (opd tb σ T x) = some eff) : OpOk P c F σ bm tm a w g gs n o eff := by
  unfold eBox at h
  split at h
  · rename_i k e hx
    have hvr := (val_rel hs hx).1 (gsH_nil _)
    have hmen := (val_rel hs hx).2
    refine ⟨fun _ _ K Q hK => ?_, fun hn => absurd (gsH_nil _) hn⟩
    split at h
    · rename_i t he
      simp only [Option.some.injEq] at h; subst h
      have hc := (cells_c (E.inf_ok hΓ e _ he) hvr.rd).1
      have hrun : (execOp a.eval o).run P w = .ok (.value (.pointer (some ⟨w.heap.size, 0, none⟩))) (w.alloc (.cells [a.eval x].toArray T)) := by
        simp [execOp, ho, Instr.box, newVar, newRow, hc]
      unfold Oper.wp; rw [hrun]
      exact hK _ _ _ _ (box_made hs hg hd (relCs_one hvr) fun y ⟨z, hz, hy⟩ => by simp at hz; subst hz; exact hmen y hy)
    · rename_i ts he
      simp only [Option.some.injEq] at h; subst h
      obtain ⟨l, hl, hlt⟩ := hasV1_agg (E.inf_ok hΓ e _ he)
      have hrd := hvr.rd
      rw [hl] at hrd
      obtain ⟨vs, hvs, hrs⟩ := hrd
      have hrun : (execOp a.eval o).run P w = .ok (.value (.pointer (some ⟨w.heap.size, 0, none⟩))) (w.alloc (.cells vs.toList.toArray T)) := by
        simp [execOp, ho, Instr.box, newVar, newRow, hvs, Value.cells]
      unfold Oper.wp; rw [hrun]
      refine hK _ _ _ _ (box_made hs hg hd (by rw [← hlt.length]; exact relCs_apart hl hrs) fun y ⟨z, hz, hy⟩ => ?_)
      simp only [apart, List.mem_map] at hz
      obtain ⟨j, _, rfl⟩ := hz
      cases hy
    · simp at h
  · simp at h
theorem sAlloc (hcx : tbOk P tb tb = true) (hs : Sim c F σ bm tm a w) {g n : Nat} (hg : ¬ F g) {o : Oper} {T : Nat} (ho : o.op = .alloc T) (hd : ∀ d, o.dst = some d → d < c.nt) {ti : TI} (hti : tb.get T = some ti) {eff : Eff}
    (h : eAlloc gs o.dst g ti = some eff) : OpOk P c F σ bm tm a w g gs n o eff := by
  unfold eAlloc at h
  split at h
  · rename_i v hv
    simp only [Option.some.injEq] at h; subst h
    refine ⟨fun _ _ K Q hK => ?_, fun hn => absurd (gsH_nil _) hn⟩
    have hno : ∀ x, (∃ y ∈ v.cells.map zeroE, y.1 = .own x) → F x := fun y ⟨z, hz, hy⟩ => by
      simp only [List.mem_map] at hz
      obtain ⟨t, _, rfl⟩ := hz
      cases t <;> simp [zeroE] at hy
    cases v with
    | c t =>
      obtain ⟨i, d, hi, _, _, ⟨z, hz, hzv⟩, _⟩ := ty_c hcx hti hv
      have hzr := (zero_rel (w := w) (M := MM c.M0 bm tm σ) (tm := tm) (c := c) hzv).2
      have hzc : z.cells = #[z] := by cases t <;> cases z <;> simp [zeroV] at hzv <;> rfl
      have hrun : (execOp a.eval o).run P w = .ok (.value (.pointer (some ⟨w.heap.size, 0, none⟩))) (w.alloc (.cells [z].toArray T)) := by
        simp [execOp, ho, Instr.alloc, zeroValue, run_typeInfo hi, hz, newVar, newRow, hzc]
      unfold Oper.wp; rw [hrun]
      exact hK _ _ _ _ (box_made hs hg hd (cs := [zeroE t]) (relCs_one hzr) hno)
    | agg ts =>
      obtain ⟨i, f, cs, hi, _, _, hz, hzv, _⟩ := ty_agg hcx hti hv
      have hzr := (zeros_rel (w := w) (M := MM c.M0 bm tm σ) (tm := tm) (c := c) hzv).2
      have hrun : (execOp a.eval o).run P w = .ok (.value (.pointer (some ⟨w.heap.size, 0, none⟩))) (w.alloc (.cells cs.toList.toArray T)) := by
        simp [execOp, ho, Instr.alloc, zeroValue, run_typeInfo hi, hz, newVar, newRow, Value.cells]
      unfold Oper.wp; rw [hrun]
      exact hK _ _ _ _ (box_made hs hg hd hzr hno)
  · simp at h
theorem setAll_one {α : Type} (l : List α) (i : Nat) (x : α) : setAll l i [x] = l.set i x := rfl
theorem mem_setAll {α : Type} : ∀ (r l : List α) (i : Nat) {x : α}, x ∈ setAll l i r → x ∈ l ∨ x ∈ r
  | [], l, i, x, h => .inl h
  | y :: r, l, i, x, h => by
    rcases mem_setAll r _ _ h with h | h
    · rcases List.mem_or_eq_of_mem_set h with h | h
      · exact .inl h
      · exact .inr (by simp [h])
    · exact .inr (by simp [h])
theorem sStore (hcx : tbOk P tb tb = true) (hs : Sim c F σ bm tm a w) (hΓ : EnvTy tb.tab Γ c.env) {g n : Nat} {o : Oper} {y x : Operand} {T T1 T2 : Nat} (ho : o.op = .store T y x) {ti : TI} (hti : tb.get T = some ti) {eff : Eff}
    (h : eStore tb.tab Γ gs o.dst σ ti (opd tb σ T1 y) (opd tb σ T2 x) = some eff) : OpOk P c F σ bm tm a w g gs n o eff := by
  unfold eStore at h
  split at h
  · rename_i dst g' id off k e hdst hy hx
    obtain ⟨st, h2, h3⟩ := bind_some' hy
    have hp := under_ptr h3 (opd_rel hs h2).1 (gsH_nil _)
    have hvr := (val_rel hs hx).1 (gsH_nil _)
    have hmen := (val_rel hs hx).2
    refine ⟨fun _ _ K Q hK => ?_, fun hn => absurd (gsH_nil _) hn⟩
    split at h
    · rename_i cs hbox
      obtain ⟨vs, T0, hblk, hrel, hBX⟩ := hs.box id cs hbox
      have hgo : ∀ (news : List (Go.Proofs.Ytjenbnoflaoekaa.K × E)) (vals : List Value) (i : TypeInfo), P.info? T = some i → (a.eval x).cells.toList = vals → vals.length = i.size → (∀ v ∈ vals, v.oneCell' = true) → off + vals.length ≤ cs.length → relCs w (MM c.M0 bm tm σ) tm c.env news vals → (∀ q, (∃ z ∈ news, z.1 = .own q) → F q) →
          eff = ⟨[(3 * id + 1, .box (setAll cs off news))], []⟩ → o.wp P a w K Q := by
        intro news vals i hi hcl hln hone hle hnew hnm heff
        subst heff
        have hlen := hrel.length
        obtain ⟨w', h1, h4, h5⟩ := run_storeCells (P := P) (bm id) T0 vals w vs.toArray off 0 hblk hone (by simp; omega)
        have hsz : (a.eval x).cells.size = i.size := by rw [← Array.length_toList, hcl, hln]
        have hrun : (execOp a.eval o).run P w = .ok .skip w' := by
          simp [execOp, ho, hp, Instr.storeAt, Instr.sureAddr, storeVar, run_sizeOf hi, hsz, hcl, h1]
        unfold Oper.wp; rw [hrun]
        simp only [Oper.upon, hdst, Act.put]
        refine hK bm tm a w' (Sim.mono (F := F) ?_ fun x hx => .inl hx)
        refine hs.setBox hbox (Fr.of_one h5 hBX) (fun k _ hk => h5.block k hk) (fun M' hM' hk => ?_) fun q ⟨z, hz, hq⟩ => ?_
        · refine ⟨(setAllA vs.toArray off vals).toList, T0, by simpa using h4, ?_, hBX⟩
          rw [setAllA_toList]
          exact relCs.keep (tm' := tm) hk (fun _ _ => rfl) (relCs.setAll hnew off hrel)
        · rcases mem_setAll _ _ _ hz with hz | hz
          · exact hs.f1 (3 * id + 1) q (by rw [hbox]; exact ⟨z, hz, hq⟩)
          · exact hnm q ⟨z, hz, hq⟩
      split at h
      · rename_i t t' hv he
        split at h
        · rename_i hoff
          simp only [Option.some.injEq] at h
          obtain ⟨i, d, hi, hsz, _⟩ := ty_c hcx hti hv
          obtain ⟨hc1, hc2⟩ := cells_c (E.inf_ok hΓ e _ he) hvr.rd
          exact hgo [(k, e)] [a.eval x] i hi (by rw [hc1]) (by simp [hsz]) (by simpa using hc2) (by simp only [List.length_cons, List.length_nil]; omega) (relCs_one hvr) (fun q ⟨z, hz, hq⟩ => by simp at hz; subst hz; exact hmen q hq) (by rw [← h]; rfl)
        · simp at h
      · rename_i ts us hv he
        split at h
        · rename_i hc
          simp only [Option.some.injEq] at h
          obtain ⟨i, f, z, hi, hsz, _⟩ := ty_agg hcx hti hv
          obtain ⟨l, hl, hlt⟩ := hasV1_agg (E.inf_ok hΓ e _ he)
          have hrd := hvr.rd
          rw [hl] at hrd
          obtain ⟨us', hus, hrs⟩ := hrd
          have hl1 := hrs.length
          have hl2 := hlt.length
          refine hgo (apart ts.length e) us'.toList i hi (by rw [hus]; rfl) (by rw [hl1, hl2, hsz]; exact hc.1.symm) (cells_one hlt hrs) (by rw [hl1, hl2, ← hc.1]; exact hc.2) ?_ (fun q ⟨z, hz, hq⟩ => ?_) h.symm
          · rw [hc.1, ← hl2]; exact relCs_apart hl hrs
          · unfold apart at hz
            simp only [List.mem_map] at hz
            obtain ⟨j, _, rfl⟩ := hz
            cases hq
        · simp at h
      · simp at h
    · simp at h
  · simp at h

theorem args_rel (hs : Sim c F σ bm tm a w) (hg : gsH c.env gs) : ∀ (xs : List Operand) (Ts : List Nat) (es : List E), eArgs tb Γ gs σ xs Ts = some es → Rs w (MM c.M0 bm tm σ) (es.map (·.den c.env)) (xs.map a.eval)
  | [], [], es, h => by simp [eArgs] at h; subst h; rfl
  | x :: xs, T :: Ts, es, h => by
    simp only [eArgs] at h
    split at h
    · rename_i k e es' h1 h2
      simp only [Option.some.injEq] at h; subst h
      exact ⟨_, _, rfl, ((val_rel hs h1).1 hg).rd, args_rel hs hg xs Ts es' h2⟩
    · simp at h
  | [], _ :: _, es, h => by simp [eArgs] at h
  | _ :: _, [], es, h => by simp [eArgs] at h
theorem run_call {f : FuncId} (hf : callable P f = true) {o : Oper} {cl : Call} (ho : o.op = .call cl) (hcl : cl.callee = .value (.func f)) : (execOp a.eval o).run P w = .ok (.enter f (cl.args.map a.eval)) w := by
  unfold callable at hf
  split at hf
  · rename_i fn hfn
    simp only [Bool.and_eq_true, Bool.not_eq_true'] at hf
    obtain ⟨h1, h2⟩ := hf
    obtain ⟨b, hb⟩ := Option.isSome_iff_exists.1 h2
    have h1' : (fn.name = "runtime.NumGoroutine") = False := by
      apply eq_false
      intro e
      rw [e] at h1
      exact absurd h1 (by decide)
    simp [execOp, ho, resolve, hcl, Deferred.ofValue, Act.eval, invoke, callFunc, hfn, hb, h1']
  · simp at hf
theorem sCall_args (hs : Sim c F σ bm tm a w) (hg : gsH c.env gs) {g n : Nat} {o : Oper} {cl : Call} {f : FuncId} (ho : o.op = .call cl) (hcl : cl.callee = .value (.func f)) (hd : ∀ d, o.dst = some d → d < c.nt) {es : List E} {Ts : List Nat} {vt : VT}
    (hes : eArgs tb Γ gs σ cl.args.toList Ts = some es) (hr : RqH P c.env n (.call gs f none es vt [])) (K : Act → World → Prop) (Q : Exit → Act → World → Prop)
    (hK : ∀ bm' tm' a' w', Sim c (fun x => F x ∨ x = g) (updL σ (wv o.dst (.v gs .d (.var n)))) bm' tm' a' w' → K a' w') : o.wp P a w K Q := by
  obtain ⟨hf, hrun⟩ := hr hg
  have hargs := args_rel hs hg _ _ _ hes
  unfold Oper.wp
  rw [run_call hf ho hcl]
  simp only [Oper.upon]
  have := hrun w (MM c.M0 bm tm σ) 0 (cl.args.toList.map a.eval) hs.M_lt hargs (fun cs h => by simp at h)
  simp only [Option.map_none] at this
  have e : (cl.args.toList.map a.eval).toArray = cl.args.map a.eval := by rw [← Array.toList_inj]; simp
  rw [e] at this
  refine this.mono ?_
  rintro e' w' ⟨v, rfl, h1, h2, _⟩
  refine hK bm tm _ _ (((hs.grow h2.to_below).putO hd (relT_v (k := .d) (e := .var n) hg h1) fun x hx => by simp [men] at hx).mono fun x hx => .inl hx)
theorem relCs_vars {M : Addr → Prop} : ∀ (nb : List CT) (m : Nat) (us : List Value), Rs w M ((List.range nb.length).map fun j => c.env.getD (m + j) .un) us → relCs w M tm c.env (vars m nb) us
  | [], m, us, h => by simpa [Rs, vars, relCs] using h
  | t :: nb, m, us, h => by
    simp only [List.length_cons, List.range_succ_eq_map, List.map_cons, List.map_map] at h
    obtain ⟨v, q, rfl, h1, h2⟩ := h
    refine ⟨v, q, rfl, by simpa [relK, E.den] using h1, relCs_vars nb (m + 1) q ?_⟩
    simpa [Function.comp_def, Nat.add_assoc, Nat.add_comm 1] using h2
theorem vars_d : ∀ (nb : List CT) (m : Nat) (q : Nat), ¬ ∃ z ∈ vars m nb, z.1 = .own q
  | [], _, _, ⟨z, hz, _⟩ => by simp [vars] at hz
  | t :: nb, m, q, ⟨z, hz, hq⟩ => by
    simp only [vars, List.mem_cons] at hz
    rcases hz with rfl | hz
    · cases hq
    · exact vars_d nb (m + 1) q ⟨z, hz, hq⟩
theorem sNew (hs : Sim c F σ bm tm a w) (hΓ : EnvTy tb.tab Γ c.env) {g n : Nat} (hgF : ¬ F g) {o : Oper} {cl : Call} {f : FuncId} {nb : List CT} (ho : o.op = .call cl) (hcl : cl.callee = .value (.func f)) (hd : ∀ d, o.dst = some d → d < c.nt) (hn : n = Γ.length) {eff : Eff}
    (h : eNew tb Γ gs o.dst σ g nb f cl.args.toList cl.argTypes.toList = some eff) : OpOk P c F σ bm tm a w g gs n o eff := by
  subst hn
  unfold eNew at h
  split at h
  · rename_i es hes
    simp only [Option.some.injEq] at h; subst h
    refine ⟨fun hg hr K Q hK => ?_, fun hn => absurd (gsH_nil _) hn⟩
    have hrq : RqH P c.env Γ.length (.new f es nb) := hr _ (by simp)
    obtain ⟨hf, hrun⟩ := hrq
    have hargs := args_rel hs (gsH_nil _) _ _ _ hes
    unfold Oper.wp
    rw [run_call hf ho hcl]
    simp only [Oper.upon]
    have := hrun w (MM c.M0 bm tm σ) (cl.args.toList.map a.eval) hs.M_lt hargs
    have e : (cl.args.toList.map a.eval).toArray = cl.args.map a.eval := by rw [← Array.toList_inj]; simp
    rw [e] at this
    refine this.mono ?_
    rintro e' w' ⟨g0, us, T, rfl, h1, h2, h3, h4⟩
    refine hK (upd bm g g0) tm _ w' ?_
    rw [updL_wv_box]
    refine (hs.newBoxAt hgF h4 h1 h2 (relCs_vars nb _ us h3) fun q hq => absurd hq (vars_d _ _ _)).putO hd ⟨fun _ => by rw [upd_same], fun h => absurd (gsH_nil _) h⟩ fun x hx => ?_
    simp only [men] at hx; exact .inr hx
  · simp at h
theorem sCall (hs : Sim c F σ bm tm a w) (hΓ : EnvTy tb.tab Γ c.env) {g n : Nat} {o : Oper} {cl : Call} {f : FuncId} {ti : TI} (ho : o.op = .call cl) (hcl : cl.callee = .value (.func f)) (hd : ∀ d, o.dst = some d → d < c.nt) (hn : n = Γ.length) {eff : Eff}
    (h : eCall tb Γ gs o.dst σ ti f cl.args.toList cl.argTypes.toList = some eff) : OpOk P c F σ bm tm a w g gs n o eff := by
  subst hn
  unfold eCall at h
  split at h
  · rename_i x xs T Ts hxs hTs
    split at h
    · rename_i g' id hp
      split at h
      · rename_i cs es hbox hes
        split at h
        · rename_i nb hnb
          simp only [Option.some.injEq] at h; subst h
          refine ⟨fun hg hr K Q hK => ?_, fun hn => absurd (gsH_nil _) hn⟩
          have hrq : RqH P c.env Γ.length (.call [] f (some (cs.map (·.2))) es ti.vt nb) := hr _ (by simp)
          obtain ⟨hf, hrun⟩ := hrq hg
          have hargs := args_rel hs (gsH_nil _) _ _ _ hes
          have hptr : a.eval x = .pointer (some ⟨bm id, 0, none⟩) := by
            unfold isPtr at hp
            split at hp
            · rename_i g2 id2 hst
              simp only [Option.some.injEq, Prod.mk.injEq] at hp
              obtain ⟨rfl, rfl⟩ := hp
              exact (opd_rel hs hst).1.1 (gsH_nil _)
            · simp at hp
          obtain ⟨vs, T0, hblk, hrel, hBX⟩ := hs.box id cs hbox
          unfold Oper.wp
          rw [run_call hf ho hcl]
          simp only [Oper.upon]
          have := hrun w (MM c.M0 bm tm σ) (bm id) (xs.map a.eval) hs.M_lt hargs (fun cs' h' => by
            simp only [Option.map_some, Option.some.injEq] at h'
            subst h'
            exact ⟨vs, T0, hblk, hrel.rs, fun p hp => .inr (.inl ⟨id, cs, hbox, hp⟩)⟩)
          simp only [Option.map_some] at this
          have e : (Value.pointer (some ⟨bm id, 0, none⟩) :: xs.map a.eval).toArray = cl.args.map a.eval := by
            rw [← Array.toList_inj]; simp [hxs, hptr]
          rw [e] at this
          refine this.mono ?_
          rintro e' w' ⟨v, rfl, h1, h2, h3⟩
          obtain ⟨us, T1, hu1, hu2⟩ := h3 rfl
          have hid : bm id < w.heap.size := (hs.box id cs hbox).lt
          have hfr : Fr c.B c.X w w' := ⟨h2.os, h2.tape, h2.output, h2.size, fun k hk hx => h2.block k (Nat.lt_of_lt_of_le hk hs.hB) (by
            rintro ⟨rfl⟩
            rcases hBX with hBX | hBX
            · omega
            · exact hx hBX.symm)⟩
          have hsb := hs.setBox (cs' := vars (Γ.length + 1) nb) hbox hfr (fun k hk hne => h2.block k hk (by simpa using hne)) (fun M' hM' hk => by
            subst hM'
            exact ⟨us, T1, hu1, relCs_vars nb _ us hu2, hBX⟩) fun q hq => absurd hq (vars_d _ _ _)
          refine hK bm tm _ _ ?_
          rw [updL_wv_box]
          refine Sim.mono (F := F) (hsb.putO hd (relT_v (gsH_nil _) ?_) fun x hx => by simp [men] at hx) fun x hx => .inl hx
          have hM : MM c.M0 bm tm (upd σ (3 * id + 1) (.box (vars (Γ.length + 1) nb))) = MM c.M0 bm tm σ := by
            funext p
            simp only [MM, upd_b_live]
            apply propext
            constructor
            · rintro (h | ⟨i, q, q1, q2⟩ | h)
              · exact .inl h
              · by_cases e : i = id
                · subst e; exact .inr (.inl ⟨i, cs, hbox, q2⟩)
                · rw [upd_b_box _ e] at q1; exact .inr (.inl ⟨i, q, q1, q2⟩)
              · exact .inr (.inr h)
            · rintro (h | ⟨i, q, q1, q2⟩ | h)
              · exact .inl h
              · by_cases e : i = id
                · subst e; exact .inr (.inl ⟨i, _, upd_same _ _ _, q2⟩)
                · exact .inr (.inl ⟨i, q, by rw [upd_b_box _ e]; exact q1, q2⟩)
              · exact .inr (.inr h)
          rw [hM]
          simpa [relK, E.den] using h1
        · simp at h
      · simp at h
    · split at h
      · rename_i es hes
        simp only [Option.some.injEq] at h; subst h
        refine ⟨fun hg hr K Q hK => sCall_args (vt := ti.vt) hs hg ho hcl hd hes (hr _ (by simp)) K Q hK, fun hg => ?_⟩
        exact Sim.mono (F := F) (hs.putO hd (relT_undef rfl hg) fun x hx => by simp [men] at hx) fun x hx => .inl hx
      · simp at h
  · rename_i hxs hTs
    simp only [Option.some.injEq] at h; subst h
    refine ⟨fun hg hr K Q hK => sCall_args (vt := ti.vt) (es := []) (Ts := []) hs hg ho hcl hd (by rw [hxs]; exact (rfl : eArgs tb Γ gs σ [] [] = some [])) (hr _ (by simp)) K Q hK, fun hg => ?_⟩
    exact Sim.mono (F := F) (hs.putO hd (relT_undef rfl hg) fun x hx => by simp [men] at hx) fun x hx => .inl hx
  · simp at h
end
end Go.Proofs.Ytjenbnoflaoekaa
