/- Each operation does to a world what the executor says it does: boxes, stores, calls. No program in sight. -/
import Derived.Test.YtmhfncdhplmomaaGreatDoorAOps3
namespace Go.Proofs.YtmhfncdhplmomaaGreatDoor
open Go.RowKit
set_option linter.unusedVariables false
set_option linter.unusedSimpArgs false
set_option linter.unusedSectionVars false
variable [GC]

section
variable {P : Program} {c : SC} {F : Nat → Prop} {σ : Nat → ST} {bm : Nat → Nat} {tm : Nat → Value} {a : Act} {w : World} {tb : TB} {Γ : List VT} {gs : Gd}
/-- The tags that an operation may make. -/
def NewT (g : Nat) : Nat → Prop := fun x => g ≤ x ∧ x < g + stride
theorem NewT.self (g : Nat) : NewT g g := ⟨Nat.le_refl _, by unfold stride; omega⟩
theorem Sim.tag {g : Nat} (h : Sim c (fun x => F x ∨ x = g) σ bm tm a w) : Sim c (fun x => F x ∨ NewT g x) σ bm tm a w :=
  h.mono fun x hx => hx.imp id (fun e => by subst e; exact NewT.self x)
/-- What every operation owes. -/
def OpOk (P : Program) (c : SC) (F : Nat → Prop) (σ : Nat → ST) (bm : Nat → Nat) (tm : Nat → Value) (a : Act) (w : World) (g : Nat) (gs : Gd) (n : Nat) (o : Oper) (eff : Eff) : Prop :=
  (gsH c.env gs → (∀ r ∈ eff.rq, RqH P c.env n r) → ∀ (K : Act → World → Prop) (Q : Exit → Act → World → Prop),
    (∀ bm' tm' a' w', Sim c (fun x => F x ∨ NewT g x) (updL σ eff.wr) bm' tm' a' w' → K a' w') → o.wp P a w K Q) ∧
  (¬ gsH c.env gs → Sim c (fun x => F x ∨ NewT g x) (updL σ eff.wr) bm tm (a.put o.dst undef) w)
theorem OpOk.of_pure (hs : Sim c F σ bm tm a w) {g n : Nat} {o : Oper} {eff : Eff} (hd : ∀ d, o.dst = some d → d < c.nt) (h : PureSpec P c F gs σ bm tm a w n o eff) : OpOk P c F σ bm tm a w g gs n o eff := by
  obtain ⟨st, hwr, hst, hm, hrun⟩ := h
  refine ⟨fun hg hr K Q hK => ?_, fun hg => ?_⟩
  · obtain ⟨v, w', h1, h2, h3⟩ := hrun hg hr
    unfold Oper.wp
    rw [h1]
    refine hK bm tm _ _ ?_
    rw [hwr]
    exact ((hs.grow h2).putO hd h3 hm).mono fun x hx => .inl hx
  · rw [hwr]
    exact (hs.putO hd (relT_undef hst hg) hm).mono fun x hx => .inl hx
theorem upd_comm {l l' : Nat} (h : l ≠ l') (s s' : ST) : upd (upd σ l s) l' s' = upd (upd σ l' s') l s := by
  funext x
  simp only [upd]
  by_cases h1 : x = l <;> by_cases h2 : x = l' <;> simp_all
theorem updL_wv_box {dst : Option Nat} {st s : ST} {g : Nat} : updL σ (wv dst st ++ [(3 * g + 1, s)]) = updL (upd σ (3 * g + 1) s) (wv dst st) := by
  cases dst with
  | none => rfl
  | some d => exact upd_comm (by omega) _ _
theorem relCs_one {M : Addr → Prop} {k : K} {e : E} {v : Value} (h : relK w M tm c.env k e v) : relCs w M tm c.env [(k, e)] [v] := ⟨v, [], rfl, h, rfl⟩
/-- A box is made and its address put into a slot. -/
theorem box_made (hs : Sim c F σ bm tm a w) {g : Nat} (hg : ¬ F g) {dst : Option Nat} (hd : ∀ d, dst = some d → d < c.nt) {cs : List (K × E)} {vs : List Value} {T : TypeId} (hv : relCs w (MM c.M0 bm tm σ) tm c.env cs vs) (hm : ∀ x, (∃ y ∈ cs, y.1.has x) → F x) :
    Sim c (fun x => F x ∨ NewT g x) (updL σ (wv dst (.ptr [] g 0) ++ [(3 * g + 1, .box cs)])) (upd bm g w.heap.size) tm (a.put dst (.pointer (some ⟨w.heap.size, 0, none⟩))) (w.alloc (.cells vs.toArray T)) := by
  rw [updL_wv_box]
  refine Sim.tag ((hs.newBox hg hv hm).putO hd ⟨fun _ => by rw [upd_same], fun h => absurd (gsH_nil _) h⟩ fun x hx => ?_)
  simp only [men] at hx
  exact .inr hx
theorem sBox (hcx : tbOk P tb tb = true) (hs : Sim c F σ bm tm a w) (hΓ : EnvTy tb.tab Γ c.env) {g n : Nat} (hg : ¬ F g) {o : Oper} {x : Operand} {T : Nat} (ho : o.op = .box T x) (hd : ∀ d, o.dst = some d → d < c.nt) {eff : Eff}
    (h : eBox tb.tab Γ gs o.dst g (opd tb σ T x) = some eff) : OpOk P c F σ bm tm a w g gs n o eff := by
  unfold eBox at h
  split at h
  · rename_i k e hx
    have hvr := (val_rel hs hx).1 (gsH_nil _)
    have hmen := (val_rel hs hx).2
    refine ⟨fun _ _ K Q hK => ?_, fun hn => absurd (gsH_nil _) hn⟩
    split at h
    · rename_i t he
      simp only [Option.some.injEq] at h; subst h
      have hc := (cells_c (E.inf_ok hΓ e _ he) hvr.rd).1
      have hrun : (execOp a.eval o).run P w = .ok (.value (.pointer (some ⟨w.heap.size, 0, none⟩))) (w.alloc (.cells [a.eval x].toArray T)) := by
        simp [execOp, ho, Instr.box, newVar, newRow, hc]
      unfold Oper.wp; rw [hrun]
      exact hK _ _ _ _ (box_made hs hg hd (relCs_one hvr) fun y ⟨z, hz, hy⟩ => by simp at hz; subst hz; exact hmen y hy)
    · rename_i ts he
      simp only [Option.some.injEq] at h; subst h
      obtain ⟨l, hl, hlt⟩ := hasV1_agg (E.inf_ok hΓ e _ he)
      have hrd := hvr.rd
      rw [hl] at hrd
      obtain ⟨vs, hvs, hrs⟩ := hrd
      have hrun : (execOp a.eval o).run P w = .ok (.value (.pointer (some ⟨w.heap.size, 0, none⟩))) (w.alloc (.cells vs.toList.toArray T)) := by
        simp [execOp, ho, Instr.box, newVar, newRow, hvs, Value.cells]
      unfold Oper.wp; rw [hrun]
      refine hK _ _ _ _ (box_made hs hg hd (by rw [← hlt.length]; exact relCs_apart hl hrs (by rw [hvs] at hvr; simpa using hvr)) fun y hy => hmen y (apart_has hy))
    · simp at h
  · simp at h
theorem sAlloc (hcx : tbOk P tb tb = true) (hs : Sim c F σ bm tm a w) {g n : Nat} (hg : ¬ F g) {o : Oper} {T : Nat} (ho : o.op = .alloc T) (hd : ∀ d, o.dst = some d → d < c.nt) {ti : TI} (hti : tb.get T = some ti) {eff : Eff}
    (h : eAlloc gs o.dst g ti = some eff) : OpOk P c F σ bm tm a w g gs n o eff := by
  unfold eAlloc at h
  split at h
  · rename_i v hv
    simp only [Option.some.injEq] at h; subst h
    refine ⟨fun _ _ K Q hK => ?_, fun hn => absurd (gsH_nil _) hn⟩
    have hno : ∀ x, (∃ y ∈ v.cells.map zeroE, y.1.has x) → F x := fun y ⟨z, hz, hy⟩ => by
      simp only [List.mem_map] at hz
      obtain ⟨t, _, rfl⟩ := hz
      cases t <;> simp [zeroE, Go.Proofs.YtmhfncdhplmomaaGreatDoor.K.has] at hy
    cases v with
    | c t =>
      obtain ⟨i, d, hi, _, _, ⟨z, hz, hzv⟩, _⟩ := ty_c hcx hti hv
      have hzr := (zero_rel (w := w) (M := MM c.M0 bm tm σ) (tm := tm) (c := c) hzv).2
      have hzc : z.cells = #[z] := by cases t <;> cases z <;> simp [zeroV] at hzv <;> rfl
      have hrun : (execOp a.eval o).run P w = .ok (.value (.pointer (some ⟨w.heap.size, 0, none⟩))) (w.alloc (.cells [z].toArray T)) := by
        simp [execOp, ho, Instr.alloc, zeroValue, run_typeInfo hi, hz, newVar, newRow, hzc]
      unfold Oper.wp; rw [hrun]
      exact hK _ _ _ _ (box_made hs hg hd (cs := [zeroE t]) (relCs_one hzr) hno)
    | agg ts =>
      obtain ⟨i, f, cs, hi, _, _, hz, hzv, _⟩ := ty_agg hcx hti hv
      have hzr := (zeros_rel (w := w) (M := MM c.M0 bm tm σ) (tm := tm) (c := c) hzv).2
      have hrun : (execOp a.eval o).run P w = .ok (.value (.pointer (some ⟨w.heap.size, 0, none⟩))) (w.alloc (.cells cs.toList.toArray T)) := by
        simp [execOp, ho, Instr.alloc, zeroValue, run_typeInfo hi, hz, newVar, newRow, Value.cells]
      unfold Oper.wp; rw [hrun]
      exact hK _ _ _ _ (box_made hs hg hd hzr hno)
  · simp at h
theorem setAll_one {α : Type} (l : List α) (i : Nat) (x : α) : setAll l i [x] = l.set i x := rfl
theorem sStore (hcx : tbOk P tb tb = true) (hs : Sim c F σ bm tm a w) (hΓ : EnvTy tb.tab Γ c.env) {g n : Nat} {o : Oper} {y x : Operand} {T T1 T2 : Nat} (ho : o.op = .store T y x) {ti : TI} (hti : tb.get T = some ti) {eff : Eff}
    (h : eStore tb.tab Γ gs o.dst σ ti (opd tb σ T1 y) (opd tb σ T2 x) = some eff) : OpOk P c F σ bm tm a w g gs n o eff := by
  unfold eStore at h
  split at h
  · rename_i dst g' id off k e hdst hy hx
    obtain ⟨st, h2, h3⟩ := bind_some' hy
    have hp := under_ptr h3 (opd_rel hs h2).1 (gsH_nil _)
    have hvr := (val_rel hs hx).1 (gsH_nil _)
    have hmen := (val_rel hs hx).2
    refine ⟨fun _ _ K Q hK => ?_, fun hn => absurd (gsH_nil _) hn⟩
    split at h
    · rename_i cs hbox
      obtain ⟨vs, T0, hblk, hrel, hBX⟩ := hs.box id cs hbox
      have hgo : ∀ (news : List (Go.Proofs.YtmhfncdhplmomaaGreatDoor.K × E)) (vals : List Value) (i : TypeInfo), P.info? T = some i → (a.eval x).cells.toList = vals → vals.length = i.size → (∀ v ∈ vals, v.oneCell' = true) → off + vals.length ≤ cs.length → relCs w (MM c.M0 bm tm σ) tm c.env news vals → (∀ q, (∃ z ∈ news, z.1.has q) → F q) →
          eff = ⟨[(3 * id + 1, .box (setAll cs off news))], []⟩ → o.wp P a w K Q := by
        intro news vals i hi hcl hln hone hle hnew hnm heff
        subst heff
        have hlen := hrel.length
        obtain ⟨w', h1, h4, h5⟩ := run_storeCells (P := P) (bm id) T0 vals w vs.toArray off 0 hblk hone (by simp; omega)
        have hsz : (a.eval x).cells.size = i.size := by rw [← Array.length_toList, hcl, hln]
        have hrun : (execOp a.eval o).run P w = .ok .skip w' := by
          simp [execOp, ho, hp, Instr.storeAt, Instr.sureAddr, storeVar, run_sizeOf hi, hsz, hcl, h1]
        unfold Oper.wp; rw [hrun]
        simp only [Oper.upon, hdst, Act.put]
        refine hK bm tm a w' (Sim.mono (F := F) ?_ fun x hx => .inl hx)
        refine hs.setBox hbox (Fr.of_one h5 hBX) (fun k _ hk => h5.block k hk) (fun M' hM' hk => ?_) fun q ⟨z, hz, hq⟩ => ?_
        · refine ⟨(setAllA vs.toArray off vals).toList, T0, by simpa using h4, ?_, hBX⟩
          rw [setAllA_toList]
          exact relCs.keep (tm' := tm) hk (fun _ _ => rfl) (relCs.setAll hnew off hrel)
        · rcases mem_setAll _ _ _ hz with hz | hz
          · exact hs.f1 (3 * id + 1) q (by rw [hbox]; exact ⟨z, hz, hq⟩)
          · exact hnm q ⟨z, hz, hq⟩
      split at h
      · rename_i t t' hv he
        split at h
        · rename_i hoff
          simp only [Option.some.injEq] at h
          obtain ⟨i, d, hi, hsz, _⟩ := ty_c hcx hti hv
          obtain ⟨hc1, hc2⟩ := cells_c (E.inf_ok hΓ e _ he) hvr.rd
          exact hgo [(k, e)] [a.eval x] i hi (by rw [hc1]) (by simp [hsz]) (by simpa using hc2) (by simp only [List.length_cons, List.length_nil]; omega) (relCs_one hvr) (fun q ⟨z, hz, hq⟩ => by simp at hz; subst hz; exact hmen q hq) (by rw [← h]; rfl)
        · simp at h
      · rename_i ts us hv he
        split at h
        · rename_i hc
          simp only [Option.some.injEq] at h
          obtain ⟨i, f, z, hi, hsz, _⟩ := ty_agg hcx hti hv
          obtain ⟨l, hl, hlt⟩ := hasV1_agg (E.inf_ok hΓ e _ he)
          have hrd := hvr.rd
          rw [hl] at hrd
          obtain ⟨us', hus, hrs⟩ := hrd
          have hl1 := hrs.length
          have hl2 := hlt.length
          refine hgo (apart k ts.length e) us'.toList i hi (by rw [hus]; rfl) (by rw [hl1, hl2, hsz]; exact hc.1.symm) (cells_one hlt hrs) (by rw [hl1, hl2, ← hc.1]; exact hc.2) ?_ (fun q hq => hmen q (apart_has hq)) h.symm
          rw [hc.1, ← hl2]; exact relCs_apart hl hrs (by rw [hus] at hvr; simpa using hvr)
        · simp at h
      · simp at h
    · simp at h
  · simp at h

theorem args_rel (hs : Sim c F σ bm tm a w) (hg : gsH c.env gs) : ∀ (xs : List Operand) (Ts : List Nat) (es : List E), eArgs tb Γ gs σ xs Ts = some es → Rs w (MM c.M0 bm tm σ) (es.map (·.den c.env)) (xs.map a.eval)
  | [], [], es, h => by simp [eArgs] at h; subst h; rfl
  | x :: xs, T :: Ts, es, h => by
    simp only [eArgs] at h
    split at h
    · rename_i k e es' h1 h2
      simp only [Option.some.injEq] at h; subst h
      exact ⟨_, _, rfl, ((val_rel hs h1).1 hg).rd, args_rel hs hg xs Ts es' h2⟩
    · simp at h
  | [], _ :: _, es, h => by simp [eArgs] at h
  | _ :: _, [], es, h => by simp [eArgs] at h
theorem run_call {f : FuncId} (hf : callable P f = true) {o : Oper} {cl : Call} (ho : o.op = .call cl) (hcl : cl.callee = .value (.func f)) : (execOp a.eval o).run P w = .ok (.enter f (cl.args.map a.eval)) w := by
  unfold callable at hf
  split at hf
  · rename_i fn hfn
    simp only [Bool.and_eq_true, Bool.not_eq_true'] at hf
    obtain ⟨h1, h2⟩ := hf
    obtain ⟨b, hb⟩ := Option.isSome_iff_exists.1 h2
    have h1' : (fn.name = "runtime.NumGoroutine") = False := by
      apply eq_false
      intro e
      rw [e] at h1
      exact absurd h1 (by decide)
    simp [execOp, ho, resolve, hcl, Deferred.ofValue, Act.eval, invoke, callFunc, hfn, hb, h1']
  · simp at hf
theorem sCall_args (hs : Sim c F σ bm tm a w) (hg : gsH c.env gs) {g n : Nat} {o : Oper} {cl : Call} {f : FuncId} (ho : o.op = .call cl) (hcl : cl.callee = .value (.func f)) (hd : ∀ d, o.dst = some d → d < c.nt) {es : List E} {Ts : List Nat} {vt : VT}
    (hes : eArgs tb Γ gs σ cl.args.toList Ts = some es) (hr : RqH P c.env n (.call gs f none es vt [])) (K : Act → World → Prop) (Q : Exit → Act → World → Prop)
    (hK : ∀ bm' tm' a' w', Sim c (fun x => F x ∨ NewT g x) (updL σ (wv o.dst (.v gs .d (.var n)))) bm' tm' a' w' → K a' w') : o.wp P a w K Q := by
  obtain ⟨hf, hrun⟩ := hr hg
  have hargs := args_rel hs hg _ _ _ hes
  unfold Oper.wp
  rw [run_call hf ho hcl]
  simp only [Oper.upon]
  have := hrun w (MM c.M0 bm tm σ) 0 (cl.args.toList.map a.eval) hs.rdy hargs (fun cs h => by simp at h)
  simp only [Option.map_none] at this
  have e : (cl.args.toList.map a.eval).toArray = cl.args.map a.eval := by rw [← Array.toList_inj]; simp
  rw [e] at this
  refine this.mono ?_
  rintro e' w' ⟨v, rfl, h1, h2, _⟩
  refine hK bm tm _ _ (((hs.grow h2.to_below).putO hd (relT_v (k := .d) (e := .var n) hg h1) fun x hx => by simp [men, Go.Proofs.YtmhfncdhplmomaaGreatDoor.K.has] at hx).mono fun x hx => .inl hx)
theorem relCs_vars {M : Addr → Prop} : ∀ (nb : List CT) (m : Nat) (us : List Value), Rs w M ((List.range nb.length).map fun j => c.env.getD (m + j) .un) us → relCs w M tm c.env (vars m nb) us
  | [], m, us, h => by simpa [Rs, vars, relCs] using h
  | t :: nb, m, us, h => by
    simp only [List.length_cons, List.range_succ_eq_map, List.map_cons, List.map_map] at h
    obtain ⟨v, q, rfl, h1, h2⟩ := h
    refine ⟨v, q, rfl, by simpa [relK, E.den] using h1, relCs_vars nb (m + 1) q ?_⟩
    simpa [Function.comp_def, Nat.add_assoc, Nat.add_comm 1] using h2
theorem vars_d : ∀ (nb : List CT) (m : Nat) (q : Nat), ¬ ∃ z ∈ vars m nb, z.1.has q
  | [], _, _, ⟨z, hz, _⟩ => by simp [vars] at hz
  | t :: nb, m, q, ⟨z, hz, hq⟩ => by
    simp only [vars, List.mem_cons] at hz
    rcases hz with rfl | hz
    · cases hq
    · exact vars_d nb (m + 1) q ⟨z, hz, hq⟩
theorem sNew (hs : Sim c F σ bm tm a w) (hΓ : EnvTy tb.tab Γ c.env) {g n : Nat} (hgF : ¬ F g) {o : Oper} {cl : Call} {f : FuncId} {nb : List CT} (ho : o.op = .call cl) (hcl : cl.callee = .value (.func f)) (hd : ∀ d, o.dst = some d → d < c.nt) (hn : n = Γ.length) {eff : Eff}
    (h : eNew tb Γ gs o.dst σ g nb f cl.args.toList cl.argTypes.toList = some eff) : OpOk P c F σ bm tm a w g gs n o eff := by
  subst hn
  unfold eNew at h
  split at h
  · rename_i es hes
    simp only [Option.some.injEq] at h; subst h
    refine ⟨fun hg hr K Q hK => ?_, fun hn => absurd (gsH_nil _) hn⟩
    have hrq : RqH P c.env Γ.length (.new f es nb) := hr _ (by simp)
    obtain ⟨hf, hrun⟩ := hrq
    have hargs := args_rel hs (gsH_nil _) _ _ _ hes
    unfold Oper.wp
    rw [run_call hf ho hcl]
    simp only [Oper.upon]
    have := hrun w (MM c.M0 bm tm σ) (cl.args.toList.map a.eval) hs.rdy hargs
    have e : (cl.args.toList.map a.eval).toArray = cl.args.map a.eval := by rw [← Array.toList_inj]; simp
    rw [e] at this
    refine this.mono ?_
    rintro e' w' ⟨g0, us, T, rfl, h1, h2, h3, h4⟩
    refine hK (upd bm g g0) tm _ w' ?_
    rw [updL_wv_box]
    refine Sim.tag ((hs.newBoxAt hgF h4 h1 h2 (relCs_vars nb _ us h3) fun q hq => absurd hq (vars_d _ _ _)).putO hd ⟨fun _ => by rw [upd_same], fun h => absurd (gsH_nil _) h⟩ fun x hx => ?_)
    simp only [men] at hx; exact .inr hx
  · simp at h
theorem updL_ups {dst : Option Nat} {st : ST} : ∀ {ups : List (Nat × ST)} {σ : Nat → ST}, (∀ p ∈ ups, ∀ d, p.1 ≠ 3 * d) → updL σ (wv dst st ++ ups) = updL (updL σ ups) (wv dst st) := by
  intro ups σ h
  cases dst with
  | none => rfl
  | some d =>
    show updL (upd σ (3 * d) st) ups = upd (updL σ ups) (3 * d) st
    induction ups generalizing σ with
    | nil => rfl
    | cons p r ih =>
      obtain ⟨l, s⟩ := p
      show updL (upd (upd σ (3 * d) st) l s) r = _
      rw [upd_comm (Ne.symm (h (l, s) (by simp) d))]
      exact ih fun q hq => h q (by simp [hq])
theorem rtLive_t : ∀ {rt : List (Nat × Nat)} {g : Nat} {σ : Nat → ST} (t : Nat), updL σ (rtLive g rt) (3 * t) = σ (3 * t)
  | [], _, _, _ => rfl
  | (q, m) :: r, g, σ, t => by
    show updL (upd σ (3 * g + 2) (.live m)) (rtLive (g + 1) r) (3 * t) = _
    rw [rtLive_t t, upd_r_t]
theorem rtLive_b : ∀ {rt : List (Nat × Nat)} {g : Nat} {σ : Nat → ST} (t : Nat), updL σ (rtLive g rt) (3 * t + 1) = σ (3 * t + 1)
  | [], _, _, _ => rfl
  | (q, m) :: r, g, σ, t => by
    show updL (upd σ (3 * g + 2) (.live m)) (rtLive (g + 1) r) (3 * t + 1) = _
    rw [rtLive_b t, upd_r_box]
theorem rtLive_r : ∀ {rt : List (Nat × Nat)} {g : Nat} {σ : Nat → ST} (x : Nat), updL σ (rtLive g rt) (3 * x + 2) = if g ≤ x ∧ x < g + rt.length then .live (rt.getD (x - g) (0, 0)).2 else σ (3 * x + 2)
  | [], g, σ, x => by rw [if_neg (by simp only [List.length_nil]; omega)]; rfl
  | (q, m) :: r, g, σ, x => by
    show updL (upd σ (3 * g + 2) (.live m)) (rtLive (g + 1) r) (3 * x + 2) = _
    rw [rtLive_r x]
    by_cases h : x = g
    · subst h
      rw [if_neg (by omega), upd_same, if_pos (by simp only [List.length_cons]; omega)]; simp
    · rw [upd_r_live _ h]
      by_cases h1 : g + 1 ≤ x ∧ x < g + 1 + r.length
      · rw [if_pos h1, if_pos (by simp only [List.length_cons]; omega), show x - g = (x - (g + 1)) + 1 by omega]; rfl
      · rw [if_neg h1, if_neg (by simp only [List.length_cons]; omega)]
def tmR (tm : Nat → Value) (g : Nat) (v : Value) (rt : List (Nat × Nat)) : Nat → Value := fun x => if g ≤ x ∧ x < g + rt.length then rtV v (rt.getD (x - g) (0, 0)) else tm x
theorem spare_lt {v : Value} {n : Nat} {p : Addr} (h : spareIn v n p) : ∃ o s len cap, v = .slice (some ⟨p.block, o, s⟩) len cap ∧ 0 < cap := by
  obtain ⟨b, o, s, len, cap, h1, h2, h3, h4⟩ := h
  refine ⟨o, s, len, cap, by rw [h2]; exact h1, ?_⟩
  rcases Nat.lt_or_ge 0 cap with h | h
  · exact h
  · have e : cap = 0 := by omega
    subst e; omega
def boxO (σ : Nat → ST) (cs : List (K × E)) : Option Nat → Nat → ST
  | none => σ
  | some id => upd σ (3 * id + 1) (.box cs)
/-- An answer with rights comes; the box that the callee had may have turned. -/
theorem Sim.rights {w' : World} (hs : Sim c F σ bm tm a w) {g : Nat} (hg : ∀ x, NewT g x → ¬ F x) {rt : List (Nat × Nat)} (hl : rt.length ≤ stride) {v : Value} (hrt : RtOk w.heap.size w' v rt) (oid : Option Nat) {cs' : List (K × E)}
    (hid : ∀ id, oid = some id → ∃ cs, σ (3 * id + 1) = .box cs) (hfr : Fr c.B c.X w w') (hob : ∀ k, k < w.heap.size → (∀ id, oid = some id → k ≠ bm id) → w'.heap[k]? = w.heap[k]?)
    (hbox : ∀ id M' tm', oid = some id → (∀ p, M' p → MM c.M0 bm tm σ p ∨ RtM v rt p) → BoxOk c w' M' bm tm' id cs') (hno : ∀ x, ¬ ∃ z ∈ cs', z.1.has x) :
    Sim c (fun x => F x ∨ NewT g x) (updL (boxO σ cs' oid) (rtLive g rt)) bm (tmR tm g v rt) a w' ∧ (∀ p, MM c.M0 bm (tmR tm g v rt) (updL (boxO σ cs' oid) (rtLive g rt)) p → MM c.M0 bm tm σ p ∨ RtM v rt p) := by
  have hO_t : ∀ t, boxO σ cs' oid (3 * t) = σ (3 * t) := fun t => by cases oid with | none => rfl | some id => exact upd_b_t _ _ _
  have hO_r : ∀ t, boxO σ cs' oid (3 * t + 2) = σ (3 * t + 2) := fun t => by cases oid with | none => rfl | some id => exact upd_b_live _ _ _
  have hO_b : ∀ id cs, boxO σ cs' oid (3 * id + 1) = .box cs → (oid = some id ∧ cs = cs') ∨ (oid ≠ some id ∧ σ (3 * id + 1) = .box cs) := fun id cs h => by
    cases oid with
    | none => exact .inr ⟨by simp, h⟩
    | some i =>
      simp only [boxO] at h
      by_cases e : id = i
      · subst e; rw [upd_same] at h; simp at h; exact .inl ⟨rfl, h.symm⟩
      · rw [upd_b_box _ e] at h; exact .inr ⟨fun e' => e (by simp at e'; exact e'.symm), h⟩
  have hO_bo : ∀ id cs, boxO σ cs' oid (3 * id + 1) = .box cs → ∃ cs0, σ (3 * id + 1) = .box cs0 := fun id cs h => by
    rcases hO_b id cs h with ⟨h1, _⟩ | ⟨_, h1⟩
    · exact hid id h1
    · exact ⟨cs, h1⟩
  have hin : ∀ x, g ≤ x ∧ x < g + rt.length → ∃ y, rt[x - g]? = some y ∧ rt.getD (x - g) (0, 0) = y ∧ y ∈ rt := fun x hx => by
    have : x - g < rt.length := by omega
    exact ⟨rt[x - g], List.getElem?_eq_getElem this, by simp [List.getD, List.getElem?_eq_getElem this], List.getElem_mem this⟩
  have hlv : ∀ x n, updL (boxO σ cs' oid) (rtLive g rt) (3 * x + 2) = .live n → (∃ y, rt[x - g]? = some y ∧ y ∈ rt ∧ (g ≤ x ∧ x < g + rt.length) ∧ y.2 = n ∧ tmR tm g v rt x = rtV v y) ∨ (¬ (g ≤ x ∧ x < g + rt.length) ∧ σ (3 * x + 2) = .live n ∧ tmR tm g v rt x = tm x) := fun x n h => by
    rw [rtLive_r] at h
    by_cases hc : g ≤ x ∧ x < g + rt.length
    · obtain ⟨y, h1, h2, h3⟩ := hin x hc
      rw [if_pos hc, h2] at h
      simp at h
      exact .inl ⟨y, h1, h3, hc, h, by unfold tmR; rw [if_pos hc, h2]⟩
    · rw [if_neg hc, hO_r] at h
      exact .inr ⟨hc, h, if_neg hc⟩
  have hMM : ∀ p, MM c.M0 bm (tmR tm g v rt) (updL (boxO σ cs' oid) (rtLive g rt)) p → MM c.M0 bm tm σ p ∨ RtM v rt p := by
    rintro p (h | ⟨id, cs, h1, h2⟩ | ⟨x, n, h1, h2⟩)
    · exact .inl (.inl h)
    · rw [rtLive_b] at h1
      obtain ⟨cs0, h3⟩ := hO_bo id cs h1
      exact .inl (.inr (.inl ⟨id, cs0, h3, h2⟩))
    · rcases hlv x n h1 with ⟨y, q1, q2, q3, q4, q5⟩ | ⟨q1, q2, q3⟩
      · rw [q5, ← q4] at h2; exact .inr ⟨y, q2, h2⟩
      · rw [q3] at h2; exact .inl (.inr (.inr ⟨x, n, q2, h2⟩))
  have hnew : ∀ y ∈ rt, ∀ b o s len cap, rtV v y = .slice (some ⟨b, o, s⟩) len cap → 0 < cap → w.heap.size ≤ b := fun y hy b o s len cap he hlt => (hrt.1 y hy b o s len cap he hlt).2.1
  have hk : Keeps w (MM c.M0 bm tm σ) w' (MM c.M0 bm (tmR tm g v rt) (updL (boxO σ cs' oid) (rtLive g rt))) := fun p u hp hn => by
    have hlt := block_lt_of_cell hp
    refine ⟨?_, fun h => ?_⟩
    · rw [← hp]
      refine World.cell?_of_block (hob _ hlt fun id hi e => ?_)
      obtain ⟨cs, hc⟩ := hid id hi
      exact hn (.inr (.inl ⟨id, cs, hc, e⟩))
    · rcases hMM p h with h | ⟨y, hy, h⟩
      · exact hn h
      · obtain ⟨o, s, len, cap, h1, h2⟩ := spare_lt h
        have := hnew y hy _ _ _ _ _ h1 h2
        omega
  have htm : ∀ x, F x → tmR tm g v rt x = tm x := fun x hx => if_neg fun hc => hg x ⟨hc.1, by omega⟩ hx
  refine ⟨?_, hMM⟩
  refine hs.turn (fun t => by rw [rtLive_t, hO_t]) (fun x hx => ⟨rfl, htm x hx⟩) (fun _ h => .inl h) hfr hk ?_ ?_ ?_ ?_ ?_ ?_ ?_ ?_
  · intro id cs h
    rw [rtLive_b] at h
    rcases hO_b id cs h with ⟨h1, rfl⟩ | ⟨h1, h2⟩
    · exact hbox id _ _ h1 hMM
    · refine (hs.box id cs h2).keep hk rfl (hob _ (hs.box id cs h2).lt fun i hi e => ?_) fun x hx => htm x (hs.f1 (3 * id + 1) x (by rw [h2]; exact hx))
      obtain ⟨cs0, hc⟩ := hid i hi
      exact hs.dbb id i cs cs0 h2 hc (fun e' => h1 (by rw [e']; exact hi)) e
  · intro x n h
    rcases hlv x n h with ⟨y, q1, q2, q3, q4, q5⟩ | ⟨q1, q2, q3⟩
    · intro b o s len cap he hlt
      rw [q5] at he
      obtain ⟨z1, z2, z3⟩ := hrt.1 y q2 b o s len cap he hlt
      rw [q4] at z3
      exact ⟨z1, Nat.le_trans hs.hB z2, z3⟩
    · refine (hs.live x n q2).keep (fun b o s len cap he hlt => hob _ ((hs.live x n q2).lt he hlt) fun i hi e => ?_) q3
      obtain ⟨cs0, hc⟩ := hid i hi
      exact hs.dbl i cs0 x n b o s len cap hc q2 he hlt e.symm
  · intro i j cs1 cs2 h h' hne
    rw [rtLive_b] at h h'
    obtain ⟨d, hd⟩ := hO_bo i cs1 h
    obtain ⟨d', hd'⟩ := hO_bo j cs2 h'
    exact hs.dbb i j d d' hd hd' hne
  · intro i cs1 x n b o s len cap h hx he hlt
    rw [rtLive_b] at h
    obtain ⟨d, hd⟩ := hO_bo i cs1 h
    rcases hlv x n hx with ⟨y, q1, q2, q3, q4, q5⟩ | ⟨q1, q2, q3⟩
    · rw [q5] at he
      have := hnew y q2 b o s len cap he hlt
      have := (hs.box i d hd).lt
      omega
    · rw [q3] at he; exact hs.dbl i d x n b o s len cap hd q2 he hlt
  · intro x n y m b o s len cap b' o' s' len' cap' hx hy hne he hlt he' hlt'
    rcases hlv x n hx with ⟨x1, q1, q2, q3, q4, q5⟩ | ⟨q1, q2, q3⟩ <;> rcases hlv y m hy with ⟨y1, p1, p2, p3, p4, p5⟩ | ⟨p1, p2, p3⟩
    · rw [q5] at he; rw [p5] at he'
      exact hrt.2 _ _ x1 y1 q1 p1 (by omega) _ _ _ _ _ _ _ _ _ _ he hlt he' hlt'
    · rw [q5] at he; rw [p3] at he'
      have h1 := hnew x1 q2 b o s len cap he hlt
      have h2 := (hs.live y m p2).lt he' hlt'
      omega
    · rw [q3] at he; rw [p5] at he'
      have h1 := hnew y1 p2 b' o' s' len' cap' he' hlt'
      have h2 := (hs.live x n q2).lt he hlt
      omega
    · rw [q3] at he; rw [p3] at he'
      exact hs.dll x n y m b o s len cap b' o' s' len' cap' q2 p2 hne he hlt he' hlt'
  · intro l x h
    refine .inl ?_
    have h3 : l = 3 * (l / 3) ∨ l = 3 * (l / 3) + 1 ∨ l = 3 * (l / 3) + 2 := by omega
    rcases h3 with e | e | e
    · rw [e, rtLive_t, hO_t] at h; exact hs.f1 _ x h
    · rw [e, rtLive_b] at h
      generalize hst : boxO σ cs' oid (3 * (l / 3) + 1) = st at h
      cases oid with
      | none => rw [← hst] at h; exact hs.f1 _ x h
      | some id =>
        by_cases e' : l / 3 = id
        · simp only [boxO] at hst
          rw [e', upd_same] at hst
          subst hst
          exact absurd h (hno x)
        · simp only [boxO] at hst
          rw [upd_b_box _ e'] at hst
          rw [← hst] at h; exact hs.f1 _ x h
    · rw [e, rtLive_r] at h
      split at h
      · exact h.elim
      · rw [hO_r] at h; exact hs.f1 _ x h
  · intro id cs h
    rw [rtLive_b] at h
    obtain ⟨d, hd⟩ := hO_bo id cs h
    exact .inl (hs.f2 id d hd)
  · intro x n h
    rcases hlv x n h with ⟨y, q1, q2, q3, q4, q5⟩ | ⟨q1, q2, q3⟩
    · exact .inr ⟨q3.1, by omega⟩
    · exact .inl (hs.f3 x n q2)
theorem rtAt_in : ∀ {rt : List (Nat × Nat)} {g p x : Nat}, rtAt g rt p = .own x → ∃ i y, rt[i]? = some y ∧ y.1 = p ∧ x = g + i
  | [], g, p, x, h => by simp [rtAt] at h
  | (q, m) :: r, g, p, x, h => by
    simp only [rtAt] at h
    cases e : Nat.beq q p with
    | true =>
      rw [e] at h; simp only [cond_true, KK.own.injEq] at h
      exact ⟨0, (q, m), rfl, Nat.eq_of_beq_eq_true e, by omega⟩
    | false =>
      rw [e] at h; simp only [cond_false] at h
      obtain ⟨i, y, h1, h2, h3⟩ := rtAt_in h
      exact ⟨i + 1, y, by simpa using h1, h2, by omega⟩
theorem rtAt_ok {rt : List (Nat × Nat)} {g p : Nat} {v u : Value} (hu : (flatV v)[p]? = some u) : kkOk (tmR tm g v rt) (rtAt g rt p) u := by
  cases h : rtAt g rt p with
  | d => trivial
  | full =>
    exfalso
    have : ∀ (rt : List (Nat × Nat)) (g : Nat), rtAt g rt p ≠ .full := by
      intro rt
      induction rt with
      | nil => intro g h; simp [rtAt] at h
      | cons a r ih =>
        intro g h
        obtain ⟨q, m⟩ := a
        simp only [rtAt] at h
        cases e : Nat.beq q p with
        | true => rw [e] at h; simp at h
        | false => rw [e] at h; exact ih _ h
    exact this rt g h
  | own x =>
    obtain ⟨i, y, h1, h2, rfl⟩ := rtAt_in h
    have hi : i < rt.length := (List.getElem?_eq_some_iff.1 h1).1
    show u = tmR tm g v rt (g + i)
    unfold tmR
    rw [if_pos (by omega), show g + i - g = i by omega]
    simp only [List.getD, h1, Option.getD_some, rtV, h2, hu]
theorem rtK_ok {rt : List (Nat × Nat)} {g : Nat} {v : Value} {vt : VT} {e : E} {M : Addr → Prop} {w : World} (hty : ShapeOk vt (e.den c.env)) (hr : R w M (e.den c.env) v) : relK w M (tmR tm g v rt) c.env (rtK g rt vt) e v := by
  have lst : ∀ (n j : Nat) (kk : KK) (u : Value), ((List.range n).map (rtAt g rt))[j]? = some kk → (flatV v)[j]? = some u → kkOk (tmR tm g v rt) kk u := fun n j kk u h1 h2 => by
    simp only [List.getElem?_map, Option.map_eq_some_iff] at h1
    obtain ⟨j', hj', rfl⟩ := h1
    have : j' = j := by
      rw [List.getElem?_eq_some_iff] at hj'
      obtain ⟨_, q2⟩ := hj'
      simpa using q2.symm
    subst this
    exact rtAt_ok h2
  rcases vt with (t | ts) | vs
  · exact relK.of hr (rtAt_ok (by rw [D.one_flat hty hr]; rfl))
  · exact ⟨hr, lst _⟩
  · exact ⟨hr, lst _⟩
theorem rtK_has {rt : List (Nat × Nat)} {g x : Nat} {vt : VT} (h : (rtK g rt vt).has x) : g ≤ x ∧ x < g + rt.length := by
  have key : ∀ p, rtAt g rt p = .own x → g ≤ x ∧ x < g + rt.length := fun p hp => by
    obtain ⟨i, y, h1, _, rfl⟩ := rtAt_in hp
    have : i < rt.length := (List.getElem?_eq_some_iff.1 h1).1
    omega
  have lst : ∀ n, KK.own x ∈ (List.range n).map (rtAt g rt) → g ≤ x ∧ x < g + rt.length := fun n hn => by
    obtain ⟨p, _, hp⟩ := List.mem_map.1 hn
    exact key p hp
  rcases vt with (t | ts) | vs
  · exact key 0 (K.has_k h)
  · exact lst _ h
  · exact lst _ h
theorem rtLive_nt : ∀ {rt : List (Nat × Nat)} {g : Nat}, ∀ p ∈ rtLive g rt, ∀ d, p.1 ≠ 3 * d
  | [], _, p, h, _ => by simp [rtLive] at h
  | (q, m) :: r, g, p, h, d => by
    simp only [rtLive, List.mem_cons] at h
    rcases h with rfl | h
    · show 3 * g + 2 ≠ 3 * d; omega
    · exact rtLive_nt p h d
theorem sCallR (hs : Sim c F σ bm tm a w) {g n : Nat} (hgF : ∀ x, NewT g x → ¬ F x) {o : Oper} {cl : Call} {f : FuncId} (ho : o.op = .call cl) (hcl : cl.callee = .value (.func f)) (hd : ∀ d, o.dst = some d → d < c.nt) {es : List E} {Ts : List Nat} {vt : VT} {rt : List (Nat × Nat)} (hl : rt.length ≤ stride)
    (hes : eArgs tb Γ [] σ cl.args.toList Ts = some es) (hr : RqH P c.env n (.callR f none es vt [] rt)) (K : Act → World → Prop) (Q : Exit → Act → World → Prop)
    (hK : ∀ bm' tm' a' w', Sim c (fun x => F x ∨ NewT g x) (updL σ (wv o.dst (.v [] (rtK g rt vt) (.var n)) ++ rtLive g rt)) bm' tm' a' w' → K a' w') : o.wp P a w K Q := by
  obtain ⟨hsh, hf, hrun⟩ := hr
  have hargs := args_rel hs (gsH_nil _) _ _ _ hes
  unfold Oper.wp
  rw [run_call hf ho hcl]
  simp only [Oper.upon]
  have := hrun w (MM c.M0 bm tm σ) 0 (cl.args.toList.map a.eval) hs.rdy hargs (fun cs h => by simp at h)
  simp only [Option.map_none] at this
  have e : (cl.args.toList.map a.eval).toArray = cl.args.map a.eval := by rw [← Array.toList_inj]; simp
  rw [e] at this
  refine this.mono ?_
  rintro e' w' ⟨v, rfl, h1, h2, h3, _⟩
  obtain ⟨hS, hMM⟩ := hs.rights hgF hl h3 none (cs' := []) (fun id h => by simp at h) (Fr.of_below h2.to_below hs.hB) (fun k hk _ => h2.block k hk (by simp)) (fun id M' tm' h => by simp at h) (fun x ⟨z, hz, _⟩ => by simp at hz)
  refine hK bm (tmR tm g v rt) _ w' ?_
  rw [updL_ups rtLive_nt]
  have hk : Keeps w' (fun p => MM c.M0 bm tm σ p ∨ RtM v rt p) w' (MM c.M0 bm (tmR tm g v rt) (updL σ (rtLive g rt))) := fun p u hp hn => ⟨hp, fun h => hn (hMM p h)⟩
  refine hS.putO hd (relT_v (gsH_nil _) (rtK_ok (vt := vt) (e := .var n) hsh (R.keep hk _ _ h1))) fun x hx => .inr ?_
  have := rtK_has (show (rtK g rt vt).has x from hx)
  exact ⟨this.1, by omega⟩
theorem sCall (hs : Sim c F σ bm tm a w) (hΓ : EnvTy tb.tab Γ c.env) {g n : Nat} (hgF : ∀ x, NewT g x → ¬ F x) {o : Oper} {cl : Call} {f : FuncId} {ti : TI} {rt : List (Nat × Nat)} (ho : o.op = .call cl) (hcl : cl.callee = .value (.func f)) (hd : ∀ d, o.dst = some d → d < c.nt) (hn : n = Γ.length) {eff : Eff}
    (h : eCall tb Γ gs o.dst σ g rt ti f cl.args.toList cl.argTypes.toList = some eff) : OpOk P c F σ bm tm a w g gs n o eff := by
  subst hn
  unfold eCall at h
  split at h
  · rename_i x xs T Ts hxs hTs
    split at h
    · rename_i g' id hp
      split at h
      · rename_i cs es hbox hes
        split at h
        · rename_i nb hnb
          have hptr : a.eval x = .pointer (some ⟨bm id, 0, none⟩) := by
            unfold isPtr at hp
            split at hp
            · rename_i g2 id2 hst
              simp only [Option.some.injEq, Prod.mk.injEq] at hp
              obtain ⟨rfl, rfl⟩ := hp
              exact (opd_rel hs hst).1.1 (gsH_nil _)
            · simp at hp
          obtain ⟨vs, T0, hblk, hrel, hBX⟩ := hs.box id cs hbox
          have hid : bm id < w.heap.size := (hs.box id cs hbox).lt
          have hfr : ∀ w', Fr w.heap.size (some (bm id)) w w' → Fr c.B c.X w w' := fun w' h2 => ⟨h2.os, h2.tape, h2.output, h2.size, fun k hk hx => h2.block k (Nat.lt_of_lt_of_le hk hs.hB) (by
            rintro ⟨rfl⟩
            rcases hBX with hBX | hBX
            · omega
            · exact hx hBX.symm)⟩
          have hargs := args_rel hs (gsH_nil _) _ _ _ hes
          have e : (Value.pointer (some ⟨bm id, 0, none⟩) :: xs.map a.eval).toArray = cl.args.map a.eval := by
            rw [← Array.toList_inj]; simp [hxs, hptr]
          split at h
          · simp only [Option.some.injEq] at h; subst h
            refine ⟨fun hg hr K Q hK => ?_, fun hn => absurd (gsH_nil _) hn⟩
            have hrq : RqH P c.env Γ.length (.call [] f (some (cs.map (·.2))) es ti.vt nb) := hr _ (by simp)
            obtain ⟨hf, hrun⟩ := hrq hg
            unfold Oper.wp
            rw [run_call hf ho hcl]
            simp only [Oper.upon]
            have := hrun w (MM c.M0 bm tm σ) (bm id) (xs.map a.eval) hs.rdy hargs (fun cs' h' => by
              simp only [Option.map_some, Option.some.injEq] at h'
              subst h'
              exact ⟨vs, T0, hblk, hrel.rs, hBX.elim (fun h => Nat.le_trans hs.m0.2.2.1 h) (fun h => hs.m0.2.2.2 _ h), fun p hp => .inr (.inl ⟨id, cs, hbox, hp⟩)⟩)
            simp only [Option.map_some] at this
            rw [e] at this
            refine this.mono ?_
            rintro e' w' ⟨v, rfl, h1, h2, h3⟩
            obtain ⟨us, T1, hu1, hu2⟩ := h3 rfl
            have hsb := hs.setBox (cs' := vars (Γ.length + 1) nb) hbox (hfr w' h2) (fun k hk hne => h2.block k hk (by simpa using hne)) (fun M' hM' hk => by
              subst hM'
              exact ⟨us, T1, hu1, relCs_vars nb _ us hu2, hBX⟩) fun q hq => absurd hq (vars_d _ _ _)
            refine hK bm tm _ _ ?_
            rw [updL_wv_box]
            refine Sim.mono (F := F) (hsb.putO hd (relT_v (gsH_nil _) ?_) fun x hx => by simp [men, Go.Proofs.YtmhfncdhplmomaaGreatDoor.K.has] at hx) fun x hx => .inl hx
            have hM : MM c.M0 bm tm (upd σ (3 * id + 1) (.box (vars (Γ.length + 1) nb))) = MM c.M0 bm tm σ := by
              funext p
              simp only [MM, upd_b_live]
              apply propext
              constructor
              · rintro (h | ⟨i, q, q1, q2⟩ | h)
                · exact .inl h
                · by_cases e : i = id
                  · subst e; exact .inr (.inl ⟨i, cs, hbox, q2⟩)
                  · rw [upd_b_box _ e] at q1; exact .inr (.inl ⟨i, q, q1, q2⟩)
                · exact .inr (.inr h)
              · rintro (h | ⟨i, q, q1, q2⟩ | h)
                · exact .inl h
                · by_cases e : i = id
                  · subst e; exact .inr (.inl ⟨i, _, upd_same _ _ _, q2⟩)
                  · exact .inr (.inl ⟨i, q, by rw [upd_b_box _ e]; exact q1, q2⟩)
                · exact .inr (.inr h)
            rw [hM]
            simpa [relK, E.den] using h1
          · split at h
            · rename_i hl
              simp only [Option.some.injEq] at h; subst h
              refine ⟨fun hg hr K Q hK => ?_, fun hn => absurd (gsH_nil _) hn⟩
              have hrq : RqH P c.env Γ.length (.callR f (some (cs.map (·.2))) es ti.vt nb rt) := hr _ (by simp)
              obtain ⟨hsh, hf, hrun⟩ := hrq
              unfold Oper.wp
              rw [run_call hf ho hcl]
              simp only [Oper.upon]
              have := hrun w (MM c.M0 bm tm σ) (bm id) (xs.map a.eval) hs.rdy hargs (fun cs' h' => by
                simp only [Option.map_some, Option.some.injEq] at h'
                subst h'
                exact ⟨vs, T0, hblk, hrel.rs, hBX.elim (fun h => Nat.le_trans hs.m0.2.2.1 h) (fun h => hs.m0.2.2.2 _ h), fun p hp => .inr (.inl ⟨id, cs, hbox, hp⟩)⟩)
              simp only [Option.map_some] at this
              rw [e] at this
              refine this.mono ?_
              rintro e' w' ⟨v, rfl, h1, h2, h4, h3⟩
              obtain ⟨us, T1, hu1, hu2⟩ := h3 rfl
              obtain ⟨hS, hMM⟩ := hs.rights hgF hl h4 (some id) (cs' := vars (Γ.length + 1) nb) (fun i h => by simp at h; subst h; exact ⟨cs, hbox⟩) (hfr w' h2) (fun k hk hne => h2.block k hk (by simpa using hne id rfl))
                (fun i M' tm' h hM' => by
                  simp at h; subst h
                  exact ⟨us, T1, hu1, relCs_vars nb _ us (Rs.keep (fun p u hp hn => ⟨hp, fun h => hn (hM' p h)⟩) _ _ hu2), hBX⟩) (fun x => vars_d _ _ x)
              refine hK bm (tmR tm g v rt) _ w' ?_
              have hnt : ∀ p ∈ ((3 * id + 1, ST.box (vars (Γ.length + 1) nb)) :: rtLive g rt), ∀ d, p.1 ≠ 3 * d := fun p hp d => by
                rcases List.mem_cons.1 hp with rfl | hp
                · show 3 * id + 1 ≠ 3 * d; omega
                · exact rtLive_nt p hp d
              rw [updL_ups hnt]
              show Sim _ _ (updL (updL (boxO σ (vars (Γ.length + 1) nb) (some id)) (rtLive g rt)) _) _ _ _ _
              have hk : Keeps w' (fun p => MM c.M0 bm tm σ p ∨ RtM v rt p) w' (MM c.M0 bm (tmR tm g v rt) (updL (boxO σ (vars (Γ.length + 1) nb) (some id)) (rtLive g rt))) := fun p u hp hn => ⟨hp, fun h => hn (hMM p h)⟩
              refine hS.putO hd (relT_v (gsH_nil _) (rtK_ok (vt := ti.vt) (e := .var Γ.length) hsh (R.keep hk _ _ h1))) fun x hx => .inr ?_
              have := rtK_has (show (rtK g rt ti.vt).has x from hx)
              exact ⟨this.1, by omega⟩
            · simp at h
        · simp at h
      · simp at h
    · split at h
      · rename_i es hes
        split at h
        · rename_i hc
          simp only [Option.some.injEq] at h; subst h
          obtain ⟨rfl, _, hl⟩ := hc
          exact ⟨fun hg hr K Q hK => sCallR hs hgF ho hcl hd hl hes (hr _ (by simp)) K Q hK, fun hn => absurd (gsH_nil _) hn⟩
        · simp only [Option.some.injEq] at h; subst h
          refine ⟨fun hg hr K Q hK => sCall_args (vt := ti.vt) hs hg ho hcl hd hes (hr _ (by simp)) K Q hK, fun hg => ?_⟩
          exact Sim.mono (F := F) (hs.putO hd (relT_undef rfl hg) fun x hx => by simp [men, Go.Proofs.YtmhfncdhplmomaaGreatDoor.K.has] at hx) fun x hx => .inl hx
      · simp at h
  · rename_i hxs hTs
    simp only [Option.some.injEq] at h; subst h
    refine ⟨fun hg hr K Q hK => sCall_args (vt := ti.vt) (es := []) (Ts := []) hs hg ho hcl hd (by rw [hxs]; exact (rfl : eArgs tb Γ gs σ [] [] = some [])) (hr _ (by simp)) K Q hK, fun hg => ?_⟩
    exact Sim.mono (F := F) (hs.putO hd (relT_undef rfl hg) fun x hx => by simp [men, Go.Proofs.YtmhfncdhplmomaaGreatDoor.K.has] at hx) fun x hx => .inl hx
  · simp at h
end
end Go.Proofs.YtmhfncdhplmomaaGreatDoor
