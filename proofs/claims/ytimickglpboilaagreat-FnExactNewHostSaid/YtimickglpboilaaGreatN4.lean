/- Each operation does to a world what the executor says it does: boxes, stores, calls. No program in sight. -/
import Derived.Test.YtimickglpboilaaGreatN3
set_option linter.unusedVariables false
set_option linter.unusedSimpArgs false
set_option linter.unusedSectionVars false
namespace Go.Proofs.YtimickglpboilaaGreat
open Go.RowKit
variable [GC]
section
variable {P : Program} {c : SC} {F : Nat → Prop} {σ : Nat → ST} {bm : Nat → Nat} {tm : Nat → Value} {a : Act} {w : World} {tb : TB} {Γ : List VT} {gs : Gd}
def NewT (g : Nat) : Nat → Prop := fun x => g ≤ x ∧ x < g + stride
theorem NewT.self (g : Nat) : NewT g g := ⟨Nat.le_refl _, by unfold stride; omega⟩
theorem Sim.tag {g : Nat} (h : Sim c (fun x => F x ∨ x = g) σ bm tm a w) : Sim c (fun x => F x ∨ NewT g x) σ bm tm a w :=
 h.mono fun x hx => hx.imp id (fun e => by subst e; exact NewT.self x)
def OpOk (P : Program) (c : SC) (F : Nat → Prop) (σ : Nat → ST) (bm : Nat → Nat) (tm : Nat → Value) (a : Act) (w : World) (g : Nat) (gs : Gd) (n : Nat) (o : Oper) (eff : Eff) : Prop :=
 (gsH c.env gs → (∀ r ∈ eff.rq, RqH P c.env n r) → ∀ (K : Act → World → Prop) (Q : Exit → Act → World → Prop),
  (∀ bm' tm' a' w', Sim c (fun x => F x ∨ NewT g x) (updL σ eff.wr) bm' tm' a' w' → K a' w') → o.wp P a w K Q) ∧
 (¬ gsH c.env gs → Sim c (fun x => F x ∨ NewT g x) (updL σ eff.wr) bm tm (a.put o.dst undef) w)
theorem OpOk.of_pure (hs : Sim c F σ bm tm a w) {g n : Nat} {o : Oper} {eff : Eff} (hd : ∀ d, o.dst = some d → d < c.nt) (h : PureSpec P c F gs σ bm tm a w n o eff) : OpOk P c F σ bm tm a w g gs n o eff := by
 obtain ⟨st, hwr, hst, hm, hrun⟩ := h
 refine ⟨fun hg hr K Q hK => ?_, fun hg => ?_⟩
 ·obtain ⟨v, w', h1, h2, h3⟩ := hrun hg hr
  unfold Oper.wp
  rw [h1]
  refine hK bm tm _ _ ?_
  rw [hwr]
  exact ((hs.grow h2).putO hd h3 hm).mono fun x hx => .inl hx
 ·rw [hwr]
  exact (hs.putO hd (relT_undef hst hg) hm).mono fun x hx => .inl hx
theorem upd_comm {l l' : Nat} (h : l ≠ l') (s s' : ST) : upd (upd σ l s) l' s' = upd (upd σ l' s') l s := by
 funext x
 simp only [upd]
 by_cases h1 : x = l <;> by_cases h2 : x = l' <;> simp_all
theorem updL_wv_box {dst : Option Nat} {st s : ST} {g : Nat} : updL σ (wv dst st ++ [(3 * g + 1, s)]) = updL (upd σ (3 * g + 1) s) (wv dst st) := by
 cases dst with
 | none => rfl
 | some d => exact upd_comm (by omega) _ _
theorem relCs_one {M : Addr → Prop} {k : K} {e : E} {v : Value} (h : relK w M tm c.env k e v) : relCs w M tm c.env [(k, e)] [v] := ⟨v, [], rfl, h, rfl⟩
theorem box_made (hs : Sim c F σ bm tm a w) {g : Nat} (hg : ¬ F g) {dst : Option Nat} (hd : ∀ d, dst = some d → d < c.nt) {cs : List (K × E)} {vs : List Value} {T : TypeId} (hv : relCs w (MM c.M0 bm tm σ) tm c.env cs vs) (hm : ∀ x, (∃ y ∈ cs, y.1.has x) → F x) :
  Sim c (fun x => F x ∨ NewT g x) (updL σ (wv dst (.ptr [] g 0) ++ [(3 * g + 1, .box cs)])) (upd bm g w.heap.size) tm (a.put dst (.pointer (some ⟨w.heap.size, 0, none⟩))) (w.alloc (.cells vs.toArray T)) := by
 rw [updL_wv_box]
 refine Sim.tag ((hs.newBox hg hv hm).putO hd ⟨fun _ => by rw [upd_same], fun h => absurd (gsH_nil _) h⟩ fun x hx => ?_)
 simp only [men] at hx
 exact .inr hx
theorem sBox (hcx : tbOk P tb tb = true) (hs : Sim c F σ bm tm a w) (hΓ : EnvTy tb.tab Γ c.env) {g n : Nat} (hg : ¬ F g) {o : Oper} {x : Operand} {T : Nat} (ho : o.op = .box T x) (hd : ∀ d, o.dst = some d → d < c.nt) {eff : Eff}
  (h : eBox tb.tab Γ gs o.dst g (opd tb σ T x) = some eff) : OpOk P c F σ bm tm a w g gs n o eff := by
 unfold eBox at h
 split at h
 ·rename_i k e hx
  have hvr := (val_rel hs hx).1 (gsH_nil _)
  have hmen := (val_rel hs hx).2
  refine ⟨fun _ _ K Q hK => ?_, fun hn => absurd (gsH_nil _) hn⟩
  split at h
  ·rename_i t he
   simp only [Option.some.injEq] at h; subst h
   have hc := (cells_c (E.inf_ok hΓ e _ he) hvr.rd).1
   have hrun : (execOp a.eval o).run P w = .ok (.value (.pointer (some ⟨w.heap.size, 0, none⟩))) (w.alloc (.cells [a.eval x].toArray T)) := by
    simp [execOp, ho, Instr.box, newVar, newRow, hc]
   unfold Oper.wp; rw [hrun]
   exact hK _ _ _ _ (box_made hs hg hd (relCs_one hvr) fun y ⟨z, hz, hy⟩ => by simp at hz; subst hz; exact hmen y hy)
  ·rename_i ts he
   simp only [Option.some.injEq] at h; subst h
   obtain ⟨l, hl, hlt⟩ := hasV1_agg (E.inf_ok hΓ e _ he)
   have hrd := hvr.rd
   rw [hl] at hrd
   obtain ⟨vs, hvs, hrs⟩ := hrd
   have hrun : (execOp a.eval o).run P w = .ok (.value (.pointer (some ⟨w.heap.size, 0, none⟩))) (w.alloc (.cells vs.toList.toArray T)) := by
    simp [execOp, ho, Instr.box, newVar, newRow, hvs, Value.cells]
   unfold Oper.wp; rw [hrun]
   refine hK _ _ _ _ (box_made hs hg hd (by rw [← hlt.length]; exact relCs_apart hl hrs (by rw [hvs] at hvr; simpa using hvr)) fun y hy => hmen y (apart_has hy))
  ·simp at h
 ·simp at h
theorem sAlloc (hcx : tbOk P tb tb = true) (hs : Sim c F σ bm tm a w) {g n : Nat} (hg : ¬ F g) {o : Oper} {T : Nat} (ho : o.op = .alloc T) (hd : ∀ d, o.dst = some d → d < c.nt) {ti : TI} (hti : tb.get T = some ti) {eff : Eff}
  (h : eAlloc gs o.dst g ti = some eff) : OpOk P c F σ bm tm a w g gs n o eff := by
 unfold eAlloc at h
 split at h
 ·rename_i v hv
  simp only [Option.some.injEq] at h; subst h
  refine ⟨fun _ _ K Q hK => ?_, fun hn => absurd (gsH_nil _) hn⟩
  have hno : ∀ x, (∃ y ∈ v.cells.map zeroE, y.1.has x) → F x := fun y ⟨z, hz, hy⟩ => by
   simp only [List.mem_map] at hz
   obtain ⟨t, _, rfl⟩ := hz
   cases t <;> simp [zeroE, Go.Proofs.YtimickglpboilaaGreat.K.has] at hy
  cases v with
  | c t =>
   obtain ⟨i, d, hi, _, _, ⟨z, hz, hzv⟩, _⟩ := ty_c hcx hti hv
   have hzr := (zero_rel (w := w) (M := MM c.M0 bm tm σ) (tm := tm) (c := c) hzv).2
   have hzc : z.cells = #[z] := by cases t <;> cases z <;> simp [zeroV] at hzv <;> rfl
   have hrun : (execOp a.eval o).run P w = .ok (.value (.pointer (some ⟨w.heap.size, 0, none⟩))) (w.alloc (.cells [z].toArray T)) := by
    simp [execOp, ho, Instr.alloc, zeroValue, run_typeInfo hi, hz, newVar, newRow, hzc]
   unfold Oper.wp; rw [hrun]
   exact hK _ _ _ _ (box_made hs hg hd (cs := [zeroE t]) (relCs_one hzr) hno)
  | agg ts =>
   obtain ⟨i, f, cs, hi, _, _, hz, hzv, _⟩ := ty_agg hcx hti hv
   have hzr := (zeros_rel (w := w) (M := MM c.M0 bm tm σ) (tm := tm) (c := c) hzv).2
   have hrun : (execOp a.eval o).run P w = .ok (.value (.pointer (some ⟨w.heap.size, 0, none⟩))) (w.alloc (.cells cs.toList.toArray T)) := by
    simp [execOp, ho, Instr.alloc, zeroValue, run_typeInfo hi, hz, newVar, newRow, Value.cells]
   unfold Oper.wp; rw [hrun]
   exact hK _ _ _ _ (box_made hs hg hd hzr hno)
 ·simp at h
theorem sStore (hcx : tbOk P tb tb = true) (hs : Sim c F σ bm tm a w) (hΓ : EnvTy tb.tab Γ c.env) {g n : Nat} {o : Oper} {y x : Operand} {T T1 T2 : Nat} (ho : o.op = .store T y x) {ti : TI} (hti : tb.get T = some ti) {eff : Eff}
  (h : eStore tb.tab Γ gs o.dst σ ti (opd tb σ T1 y) (opd tb σ T2 x) = some eff) : OpOk P c F σ bm tm a w g gs n o eff := by
 unfold eStore at h
 split at h
 ·rename_i dst g' id off k e hdst hy hx
  obtain ⟨st, h2, h3⟩ := bind_some' hy
  have hp := under_ptr h3 (opd_rel hs h2).1 (gsH_nil _)
  have hvr := (val_rel hs hx).1 (gsH_nil _)
  have hmen := (val_rel hs hx).2
  refine ⟨fun _ _ K Q hK => ?_, fun hn => absurd (gsH_nil _) hn⟩
  split at h
  ·rename_i cs hbox
   obtain ⟨vs, T0, hblk, hrel, hBX⟩ := hs.box id cs hbox
   have hgo : ∀ (news : List (Go.Proofs.YtimickglpboilaaGreat.K × E)) (vals : List Value) (i : TypeInfo), P.info? T = some i → (a.eval x).cells.toList = vals → vals.length = i.size → (∀ v ∈ vals, v.oneCell' = true) → off + vals.length ≤ cs.length → relCs w (MM c.M0 bm tm σ) tm c.env news vals → (∀ q, (∃ z ∈ news, z.1.has q) → F q) →
     eff = ⟨[(3 * id + 1, .box (setAll cs off news))], []⟩ → o.wp P a w K Q := by
    intro news vals i hi hcl hln hone hle hnew hnm heff
    subst heff
    have hlen := hrel.length
    obtain ⟨w', h1, h4, h5⟩ := run_storeCells (P := P) (bm id) T0 vals w vs.toArray off 0 hblk hone (by simp; omega)
    have hsz : (a.eval x).cells.size = i.size := by rw [← Array.length_toList, hcl, hln]
    have hrun : (execOp a.eval o).run P w = .ok .skip w' := by
     simp [execOp, ho, hp, Instr.storeAt, Instr.sureAddr, storeVar, run_sizeOf hi, hsz, hcl, h1]
    unfold Oper.wp; rw [hrun]
    simp only [Oper.upon, hdst, Act.put]
    refine hK bm tm a w' (Sim.mono (F := F) ?_ fun x hx => .inl hx)
    refine hs.setBox hbox (Fr.of_one h5 (hBX.imp (fun h => h) (fun h => h.2))) (fun k _ hk => h5.block k hk) (fun M' hM' hk => ?_) fun q ⟨z, hz, hq⟩ => ?_
    ·refine ⟨(setAllA vs.toArray off vals).toList, T0, by simpa using h4, ?_, hBX⟩
     rw [setAllA_toList]
     exact relCs.keep (tm' := tm) hk (fun _ _ => rfl) (relCs.setAll hnew off hrel)
    ·rcases mem_setAll _ _ _ hz with hz | hz
     ·exact hs.f1 (3 * id + 1) q (by rw [hbox]; exact ⟨z, hz, hq⟩)
     ·exact hnm q ⟨z, hz, hq⟩
   split at h
   ·rename_i t t' hv he
    split at h
    ·rename_i hoff
     simp only [Option.some.injEq] at h
     obtain ⟨i, d, hi, hsz, _⟩ := ty_c hcx hti hv
     obtain ⟨hc1, hc2⟩ := cells_c (E.inf_ok hΓ e _ he) hvr.rd
     exact hgo [(k, e)] [a.eval x] i hi (by rw [hc1]) (by simp [hsz]) (by simpa using hc2) (by simp only [List.length_cons, List.length_nil]; omega) (relCs_one hvr) (fun q ⟨z, hz, hq⟩ => by simp at hz; subst hz; exact hmen q hq) (by rw [← h]; rfl)
    ·simp at h
   ·rename_i ts us hv he
    split at h
    ·rename_i hc
     simp only [Option.some.injEq] at h
     obtain ⟨i, f, z, hi, hsz, _⟩ := ty_agg hcx hti hv
     obtain ⟨l, hl, hlt⟩ := hasV1_agg (E.inf_ok hΓ e _ he)
     have hrd := hvr.rd
     rw [hl] at hrd
     obtain ⟨us', hus, hrs⟩ := hrd
     have hl1 := hrs.length
     have hl2 := hlt.length
     refine hgo (apart k ts.length e) us'.toList i hi (by rw [hus]; rfl) (by rw [hl1, hl2, hsz]; exact hc.1.symm) (cells_one hlt hrs) (by rw [hl1, hl2, ← hc.1]; exact hc.2) ?_ (fun q hq => hmen q (apart_has hq)) h.symm
     rw [hc.1, ← hl2]; exact relCs_apart hl hrs (by rw [hus] at hvr; simpa using hvr)
    ·simp at h
   ·simp at h
  ·simp at h
 ·simp at h
def dropR (σ : Nat → ST) : Option Nat → Nat → ST
 | none => σ
 | some h => upd σ (3 * h + 2) .un
theorem dropR_t {oh : Option Nat} (t : Nat) : dropR σ oh (3 * t) = σ (3 * t) := by cases oh <;> simp only [dropR]; exact upd_r_t _ _ _
theorem dropR_box {oh : Option Nat} (id : Nat) : dropR σ oh (3 * id + 1) = σ (3 * id + 1) := by cases oh <;> simp only [dropR]; exact upd_r_box _ _ _
theorem dropR_live {oh : Option Nat} {g : Nat} {n : LV} (h : dropR σ oh (3 * g + 2) = .live n) : σ (3 * g + 2) = .live n ∧ oh ≠ some g := by
 cases oh with
 | none => exact ⟨h, by simp⟩
 | some k =>
  simp only [dropR] at h
  by_cases e : g = k
  ·subst e; rw [upd_same] at h; cases h
  ·rw [upd_r_live _ e] at h; exact ⟨h, fun x => e (by simpa using x.symm)⟩
theorem dropR_men {oh : Option Nat} {l x : Nat} (h : men (dropR σ oh l) x) : men (σ l) x := by
 cases oh with
 | none => exact h
 | some k =>
  simp only [dropR] at h
  by_cases e : l = 3 * k + 2
  ·subst e; rw [upd_same] at h; exact h.elim
  ·rwa [upd_ne _ _ e] at h
theorem ownA.congr {tm' : Nat → Value} {g : Nat} {n : LV} {p : Addr} (ht : tm' g = tm g) (hv : ∀ x, men (.live n) x → tm' x = tm x) (h : ownA tm' g n p) : ownA tm g n p := by
 unfold ownA at *
 rw [ht] at h
 rcases h with h | ⟨e, gv, ms, cells, u, h1, h2, h3⟩
 ·exact .inl h
 ·exact .inr ⟨e, gv, ms, cells, u, h1, by rw [← hv gv ⟨e, ms, h1⟩]; exact h2, h3⟩
theorem Sim.setOwn {w' : World} (hs : Sim c F σ bm tm a w) {F' : Nat → Prop} {g : Nat} {n0 n' : LV} (oh : Option Nat) (hg : σ (3 * g + 2) = .live n0) (hb0 : n0.body ≠ none)
  (hoh : ∀ h, oh = some h → h ≠ g ∧ ∃ nh, σ (3 * h + 2) = .live nh ∧ nh.body ≠ none) {tm' : Nat → Value} (htm : ∀ x, F x → tm' x = tm x) (hF : ∀ x, F x → F' x)
  (hblk : ∀ b, Blk tm' g n' b → Blk tm g n0 b ∨ ∃ h nh, oh = some h ∧ σ (3 * h + 2) = .live nh ∧ Blk tm h nh b)
  (hfr : Fr c.B c.X w w') (hob : ∀ k, k < w.heap.size → ¬ Blk tm g n0 k → w'.heap[k]? = w.heap[k]?)
  (hok : LiveOk c w' tm' g n') (hmen : ∀ x, men (.live n') x → F' x) :
  Sim c F' (upd (dropR σ oh) (3 * g + 2) (.live n')) bm tm' a w' := by
 have hlo : ∀ x m, x ≠ g → upd (dropR σ oh) (3 * g + 2) (.live n') (3 * x + 2) = .live m → σ (3 * x + 2) = .live m ∧ oh ≠ some x := fun x m e h => by
  rw [upd_r_live _ e] at h; exact dropR_live h
 have hbx : ∀ id cs, upd (dropR σ oh) (3 * g + 2) (.live n') (3 * id + 1) = .box cs → σ (3 * id + 1) = .box cs := fun id cs h => by
  rw [upd_r_box, dropR_box] at h; exact h
 have htv : ∀ x m, σ (3 * x + 2) = .live m → tm' x = tm x ∧ ∀ y, men (.live m) y → tm' y = tm y := fun x m h => ⟨htm x (hs.f3 x m h), fun y hy => htm y (hs.f1 (3 * x + 2) y (by rw [h]; exact hy))⟩
 have hM : ∀ p, MM c.M0 bm tm' (upd (dropR σ oh) (3 * g + 2) (.live n')) p → MM c.M0 bm tm σ p := by
  rintro p (h | ⟨id, cs, h1, h2⟩ | ⟨x, m, h1, h2⟩)
  ·exact .inl h
  ·exact .inr (.inl ⟨id, cs, hbx id cs h1, h2⟩)
  ·by_cases e : x = g
   ·subst e; rw [upd_same] at h1; simp at h1; subst h1
    rcases hblk _ (ownA_blk h2) with h | ⟨h', nh, q1, q2, q3⟩
    ·exact .inr (.inr ⟨x, _, hg, ownA_body hb0 h⟩)
    ·obtain ⟨_, nh', q4, q5⟩ := hoh h' q1
     rw [q2] at q4; cases q4
     exact .inr (.inr ⟨h', nh, q2, ownA_body q5 q3⟩)
   ·obtain ⟨q1, _⟩ := hlo x m e h1
    exact .inr (.inr ⟨x, m, q1, ownA.congr (htv x m q1).1 (htv x m q1).2 h2⟩)
 have hk : Keeps w (MM c.M0 bm tm σ) w' (MM c.M0 bm tm' (upd (dropR σ oh) (3 * g + 2) (.live n'))) := fun p v hp hn => by
  refine ⟨?_, fun h => hn (hM p h)⟩
  rw [← hp]
  exact World.cell?_of_block (hob _ (block_lt_of_cell hp) fun hb => hn (.inr (.inr ⟨g, _, hg, ownA_body hb0 hb⟩)))
 have hb1 : ∀ id cs b, σ (3 * id + 1) = .box cs → Blk tm' g n' b → bm id ≠ b := fun id cs b h hb => by
  rcases hblk b hb with h1 | ⟨h', nh, _, q2, q3⟩
  ·exact hs.dbl id cs g n0 b h hg h1
  ·exact hs.dbl id cs h' nh b h q2 q3
 have hb2 : ∀ x m b b', x ≠ g → oh ≠ some x → σ (3 * x + 2) = .live m → Blk tm x m b → Blk tm' g n' b' → b ≠ b' := fun x m b b' e hx h hb hb' => by
  rcases hblk b' hb' with h1 | ⟨h', nh, q1, q2, q3⟩
  ·exact hs.dll x m g n0 b b' h hg e hb h1
  ·exact hs.dll x m h' nh b b' h q2 (fun e' => hx (by rw [e']; exact q1)) hb q3
 refine hs.turn (fun t => by rw [upd_r_t, dropR_t]) (fun x hx => ⟨rfl, htm x hx⟩) hF hfr hk ?_ ?_ ?_ ?_ ?_ ?_ ?_ ?_
 ·intro id cs h
  have h := hbx id cs h
  exact (hs.box id cs h).keep hk rfl (hob _ (hs.box id cs h).lt fun hb => hs.dbl id cs g n0 _ h hg hb rfl) fun x hx => htm x (hs.f1 (3 * id + 1) x (by rw [h]; exact hx))
 ·intro x m h
  by_cases e : x = g
  ·subst e; rw [upd_same] at h; simp at h; subst h; exact hok
  ·obtain ⟨q1, _⟩ := hlo x m e h
   exact (hs.live x m q1).keep (fun b hb => hob _ ((hs.live x m q1).lt hb) fun hb' => hs.dll x m g n0 b b q1 hg e hb hb' rfl) (htv x m q1).1 (htv x m q1).2
 ·intro id id' cs cs' h h'
  exact hs.dbb id id' cs cs' (hbx _ _ h) (hbx _ _ h')
 ·intro id cs x m b h hx hb
  by_cases e : x = g
  ·subst e; rw [upd_same] at hx; simp at hx; subst hx; exact hb1 id cs b (hbx _ _ h) hb
  ·obtain ⟨q1, _⟩ := hlo x m e hx
   exact hs.dbl id cs x m b (hbx _ _ h) q1 ((Blk.congr (htv x m q1).1 (htv x m q1).2).1 hb)
 ·intro x m y m' b b' hx hy hne hb hb'
  by_cases e : x = g <;> by_cases e' : y = g
  ·exact absurd (e.trans e'.symm) hne
  ·subst e; rw [upd_same] at hx; simp at hx; subst hx
   obtain ⟨q1, q2⟩ := hlo y m' e' hy
   exact (hb2 y m' b' b e' q2 q1 ((Blk.congr (htv y m' q1).1 (htv y m' q1).2).1 hb') hb).symm
  ·subst e'; rw [upd_same] at hy; simp at hy; subst hy
   obtain ⟨q1, q2⟩ := hlo x m e hx
   exact hb2 x m b b' e q2 q1 ((Blk.congr (htv x m q1).1 (htv x m q1).2).1 hb) hb'
  ·obtain ⟨q1, _⟩ := hlo x m e hx
   obtain ⟨p1, _⟩ := hlo y m' e' hy
   exact hs.dll x m y m' b b' q1 p1 hne ((Blk.congr (htv x m q1).1 (htv x m q1).2).1 hb) ((Blk.congr (htv y m' p1).1 (htv y m' p1).2).1 hb')
 ·intro l x h
  by_cases e : l = 3 * g + 2
  ·subst e; rw [upd_same] at h; exact hmen x h
  ·rw [upd_ne _ _ e] at h; exact hF _ (hs.f1 l x (dropR_men h))
 ·intro id cs h; exact hF _ (hs.f2 id cs (hbx _ _ h))
 ·intro x m h
  by_cases e : x = g
  ·subst e; exact hF _ (hs.f3 x n0 hg)
  ·exact hF _ (hs.f3 x m (hlo x m e h).1)
theorem setL_nth {α : Type} {l r : List α} {off : Nat} (hr : off + r.length ≤ l.length) : ∀ j x, (setL l off r)[j]? = some x → (off ≤ j ∧ j < off + r.length ∧ r[j - off]? = some x) ∨ ((j < off ∨ off + r.length ≤ j) ∧ l[j]? = some x) := by
 intro j x h
 rw [setL_get?] at h
 split at h
 ·rename_i hc; exact .inl ⟨hc.1, hc.2.1, h⟩
 ·rename_i hc
  refine .inr ⟨?_, h⟩
  have := (List.getElem?_eq_some_iff.1 h).1
  omega
theorem setAllA_get? (C : Array Value) (o : Nat) (vals : List Value) (x : Nat) : (setAllA C o vals)[x]? = if o ≤ x ∧ x < o + vals.length ∧ x < C.size then vals[x - o]? else C[x]? := by
 have : ∀ (l : List Value) (cs : List Value) (q : Nat), setAll cs q l = setL cs q l := by
  intro l
  induction l with
  | nil => intro cs q; rfl
  | cons y l ih => intro cs q; simp [setAll, setL, ih]
 rw [← Array.getElem?_toList, setAllA_toList, this, setL_get?]
 simp
theorem RowsOk.upd {w' : World} {v : Value} {n : Nat} {Q Q' : Nat → Nat → D → Value → Prop} {d0 : D} {k off : Nat} {l : List D} (hb : RowsOk w v n Q d0) {b o len cap : Nat} (hv : v = .slice (some ⟨b, o, none⟩) len cap) (hk : k < len) {C : Array Value} {T : TypeId}
  {vals : List Value} (hw : w.heap[b]? = some (.cells C T (0, 0))) (hl : vals.length = l.length) (hoff : off + vals.length ≤ n) (hsz : o + cap * n ≤ C.size)
  (hnew : ∀ (j : Nat) (d : D), l[j]? = some d → ∃ u, vals[j]? = some u ∧ Q' k (off + j) d u) (hold : ∀ (i j : Nat) (d : D) (u : Value), j < n → i ≠ k ∨ j < off ∨ off + l.length ≤ j → Q i j d u → Q' i j d u)
  (hw' : w'.heap[b]? = some (.cells (setAllA C (o + k * n + off) vals) T (0, 0))) : RowsOk w' v n Q' (.sl (updR d0.toR k off l)) := by
 obtain ⟨a', len', cap', rows, h1, h2, h3, h4, h5, h6, h7, h8⟩ := hb
 rw [hv] at h1
 simp only [Value.slice.injEq] at h1
 obtain ⟨rfl, rfl, rfl⟩ := h1
 subst h2
 have hkl : k < rows.length := by omega
 have p2 : rows[k]? = some rows[k] := List.getElem?_eq_getElem hkl
 have p3 : rows[k].length = n := h7 _ (List.getElem_mem hkl)
 have p6 := (h8 b o none rfl).2 k _ p2
 refine ⟨_, len, cap, updR rows k off l, hv, rfl, by simp [updR]; exact h3, h4, h5, h6, ?_, fun b' o' s' he => ⟨fun _ => by cases he; rfl, ?_⟩⟩
 ·intro z hz
  unfold updR at hz
  rcases List.mem_or_eq_of_mem_set hz with h | h
  ·exact h7 z h
  ·subst h; rw [length_setL]; simpa [List.getD, p2] using p3
 ·cases he
  intro x z hz j d hj
  have hx : x < rows.length := by
   have := (List.getElem?_eq_some_iff.1 hz).1
   simpa [updR] using this
  have hw0 : ∀ q, w.cell? ⟨b, q, none⟩ = C[q]? := fun q => cell_of_row w b q _ T _ hw
  have hw1 : ∀ q, w'.cell? ⟨b, q, none⟩ = (setAllA C (o + k * n + off) vals)[q]? := fun q => cell_of_row w' b q _ T _ hw'
  have hzl : z.length = n := by
   have : z ∈ updR rows k off l := List.mem_of_getElem? hz
   unfold updR at this
   rcases List.mem_or_eq_of_mem_set this with h | h
   ·exact h7 z h
   ·subst h; rw [length_setL]; simpa [List.getD, p2] using p3
  have hjn : j < n := by rw [← hzl]; exact (List.getElem?_eq_some_iff.1 hj).1
  rw [hw1, setAllA_get?]
  unfold updR at hz
  rw [List.getElem?_set] at hz
  by_cases e : k = x
  ·subst e
   rw [if_pos rfl, if_pos hx] at hz
   simp only [Option.some.injEq] at hz
   subst hz
   simp only [List.getD, p2, Option.getD_some] at hj
   rcases setL_nth (by rw [← hl, p3]; exact hoff) j d hj with ⟨q1, q2, q3⟩ | ⟨q1, q2⟩
   ·obtain ⟨u, hu, hlf⟩ := hnew _ d q3
    refine ⟨u, ?_, by rwa [show off + (j - off) = j by omega] at hlf⟩
    have hb2 : k * n + n ≤ cap * n := by
     have : (k + 1) * n ≤ cap * n := Nat.mul_le_mul_right _ (by omega)
     rwa [Nat.add_mul, Nat.one_mul] at this
    rw [if_pos (by omega), ← hu]
    congr 1; omega
   ·obtain ⟨u, hu, hlf⟩ := p6 j d q2
    refine ⟨u, ?_, hold _ _ _ _ hjn (.inr q1) hlf⟩
    rw [hw0] at hu
    rw [if_neg (by omega)]; exact hu
  ·rw [if_neg e] at hz
   obtain ⟨u, hu, hlf⟩ := (h8 b o none rfl).2 x z hz j d hj
   refine ⟨u, ?_, hold _ _ _ _ hjn (.inl (fun h => e h.symm)) hlf⟩
   rw [hw0] at hu
   have hne : ¬ (o + k * n + off ≤ o + x * n + j ∧ o + x * n + j < o + k * n + off + vals.length ∧ o + x * n + j < C.size) := by
    rintro ⟨g1, g2, _⟩
    rcases Nat.lt_or_gt_of_ne e with h | h
    ·have : (k + 1) * n ≤ x * n := Nat.mul_le_mul_right _ h
     rw [Nat.add_mul, Nat.one_mul] at this
     omega
    ·have : (x + 1) * n ≤ k * n := Nat.mul_le_mul_right _ h
     rw [Nat.add_mul, Nat.one_mul] at this
     omega
   rw [if_neg hne]; exact hu
theorem SpOk.store {w' : World} {B n b : Nat} {v : Value} {C : Array Value} {T : TypeId} {o : Nat} {vals : List Value} (h : SpOk B w v n) (h1 : OneBlock w w' b) (hw : w.heap[b]? = some (.cells C T (0, 0))) (hw' : w'.heap[b]? = some (.cells (setAllA C o vals) T (0, 0))) : SpOk B w' v n := fun b' o' s len cap he hl => by
 obtain ⟨q1, q2, cells, T', q3, q4⟩ := h b' o' s len cap he hl
 refine ⟨q1, q2, ?_⟩
 by_cases e : b' = b
 ·subst e
  rw [hw] at q3
  simp only [Option.some.injEq, Obj.cells.injEq] at q3
  obtain ⟨rfl, rfl, _⟩ := q3
  exact ⟨_, T, hw', by rw [size_setAllA]; exact q4⟩
 ·exact ⟨cells, T', by rw [h1.block _ e]; exact q3, q4⟩
theorem leaf_c {tab : Nat → List CT} {t : CT} {d : D} {v : Value} {M : Addr → Prop} (ht : HasTy tab t d) (hl : leafC t = true) (h : R w M d v) : Leaf d v := by
 cases t with
 | bool => obtain ⟨b, rfl⟩ := hasTy_bool ht; exact fun _ _ => h
 | int k => obtain ⟨n, rfl⟩ := hasTy_int ht; exact fun _ _ => h
 | str => obtain ⟨s, rfl⟩ := hasTy_str ht; exact fun _ _ => h
 | sl e => simp [leafC] at hl
 | mem => simp [leafC] at hl
 | fn => simp [leafC] at hl
theorem leaf_row {tab : Nat → List CT} {M : Addr → Prop} : ∀ {ts : List CT} {l : List D} {vs : List Value}, RowTy tab ts l → leafs ts = true → Rs w M l vs → ∀ (j : Nat) (d : D), l[j]? = some d → ∃ u, vs[j]? = some u ∧ Leaf d u
 | [], [], _, _, _, _, j, d, hd => by simp at hd
 | t :: ts, d :: ds, vs, ht, hl, ⟨u, q, e, h1, h2⟩, j, d', hd => by
  subst e
  simp only [RowTy] at ht
  simp only [leafs, List.all_cons, Bool.and_eq_true] at hl
  cases j with
  | zero => simp at hd; subst hd; exact ⟨u, rfl, leaf_c ht.1 hl.1 h1⟩
  | succ j => simp at hd; simpa using leaf_row ht.2 hl.2 h2 j d' hd
 | [], _ :: _, _, h, _, _, _, _, _ => by simp [RowTy] at h
 | _ :: _, [], _, h, _, _, _, _, _ => by simp [RowTy] at h
theorem mul_uniq {n i j k off : Nat} (hj : j < n) (ho : off < n) (h : i * n + j = k * n + off) : i = k ∧ j = off := by
 rcases Nat.lt_trichotomy i k with e | e | e
 ·have : (i + 1) * n ≤ k * n := Nat.mul_le_mul_right _ e
  rw [Nat.add_mul, Nat.one_mul] at this
  omega
 ·subst e; omega
 ·have : (k + 1) * n ≤ i * n := Nat.mul_le_mul_right _ e
  rw [Nat.add_mul, Nat.one_mul] at this
  omega
theorem sMStore (hcx : tbOk P tb tb = true) (hs : Sim c F σ bm tm a w) (hΓ : EnvTy tb.tab Γ c.env) {g0 n : Nat} (hg0 : ¬ F g0) {o : Oper} {y x : Operand} {T T1 T2 : Nat} (ho : o.op = .store T y x) (hdst : o.dst = none) {ti : TI} (hti : tb.get T = some ti) {g m : Nat} {i : E} {off : Nat} (hy : opd tb σ T1 y = some (.mp [] g m i off)) {eff : Eff}
  (h : eMStore tb Γ σ g0 ti g m i off (opd tb σ T2 x) = some eff) : OpOk P c F σ bm tm a w g0 [] n o eff := by
 unfold eMStore at h
 split at h
 ·rename_i n' e dp k ex hlv hx
  split at h
  ·rename_i el hinf
   split at h
   ·rename_i hc
    obtain ⟨rfl, hn⟩ := hc
    obtain ⟨h4, _⟩ := opd_rel hs hy
    obtain ⟨b, o', len, cap, q1, q2, q3, q4⟩ := h4.1 (gsH_nil _)
    have hvr := (val_rel hs hx).1 (gsH_nil _)
    have hlive := hs.live g _ hlv
    obtain ⟨_, _, rows0, r0, e0, hd0, hr0, hr0n, _, _, hlc, _⟩ := rows_at (hlive.bd e dp rfl) q1 q3
    have hcap : 0 < cap := by omega
    have hOut : OutB (tm g) b := ⟨o', none, len, cap, q1, hcap⟩
    obtain ⟨_, hBb, C, T0, hblk, hsz⟩ := hlive.sp b o' none len cap q1 hcap
    simp only at hsz
    have hden : ∀ r : E, (E.upd e i r off).den c.env = .sl (updR (e.den c.env).toR (i.den c.env).toI.toNat off (r.den c.env).toA) := fun _ => rfl
    have hb2 : (i.den c.env).toI.toNat * m + m ≤ cap * m := by
     have : ((i.den c.env).toI.toNat + 1) * m ≤ cap * m := Nat.mul_le_mul_right _ (by omega)
     rwa [Nat.add_mul, Nat.one_mul] at this
    have hst : ∀ (vals : List Value) (i' : TypeInfo), P.info? T = some i' → (a.eval x).cells.toList = vals → vals.length = i'.size → (∀ v ∈ vals, v.oneCell' = true) → off + vals.length ≤ m →
      ∃ w', (execOp a.eval o).run P w = .ok .skip w' ∧ w'.heap[b]? = some (.cells (setAllA C (o' + (i.den c.env).toI.toNat * m + off) vals) T0 (0, 0)) ∧ OneBlock w w' b := by
     intro vals i' hi hcl hln hone hle
     obtain ⟨w', h1, h4, h5⟩ := run_storeCells (P := P) b T0 vals w C (o' + (i.den c.env).toI.toNat * m + off) 0 hblk hone (by omega)
     have hsz' : (a.eval x).cells.size = i'.size := by rw [← Array.length_toList, hcl, hln]
     rw [Nat.add_zero] at h4
     exact ⟨w', by simp [execOp, ho, q4, Instr.storeAt, Instr.sureAddr, storeVar, run_sizeOf hi, hsz', hcl, h1], h4, h5⟩
    refine ⟨fun _ _ K Q hK => ?_, fun hn => absurd (gsH_nil _) hn⟩
    have hgo : ∀ (r : E) (vals : List Value) (i' : TypeInfo), P.info? T = some i' → (a.eval x).cells.toList = vals → vals.length = i'.size → (∀ v ∈ vals, v.oneCell' = true) → off + vals.length ≤ m → vals.length = (r.den c.env).toA.length → flatAt dp off vals.length = true →
      (∀ (j : Nat) (d : D), (r.den c.env).toA[j]? = some d → ∃ u, vals[j]? = some u ∧ Leaf d u) → eff = ⟨[(3 * g + 2, .live ⟨m, some (.upd e i r off, dp)⟩)], []⟩ → o.wp P a w K Q := by
     intro r vals i' hi hcl hln hone hle hrl hflat hleaf heff
     subst heff
     obtain ⟨w', hrun, h4, h5⟩ := hst vals i' hi hcl hln hone hle
     unfold Oper.wp; rw [hrun]
     simp only [Oper.upon, hdst, Act.put]
     refine hK bm tm a w' (Sim.mono (F := F) ?_ fun x hx => .inl hx)
     have hkeepin : ∀ gv ms cells u b', dp = some (gv, ms) → tm gv = .tuple cells → u ∈ cells.toList → OutB u b' → w'.heap[b']? = w.heap[b']? := fun gv ms cells u b' hd hcl hu hbu => by
      subst hd
      obtain ⟨cells', z1, _, _, z4⟩ := hlive.dp e gv ms rfl
      rw [hcl] at z1; cases z1
      exact h5.block _ fun eb => z4 u hu b' hbu (eb ▸ hOut)
     refine hs.setOwn none hlv (by simp) (by simp) (fun _ _ => rfl) (fun _ h => h) (fun b' hb' => .inl ?_) (Fr.of_one h5 (.inl hBb)) (fun k hk hnb => h5.block _ fun e' => hnb (e' ▸ .inl hOut)) ⟨?_, fun e' dp' he' => ?_, fun e' gv ms he' => ?_⟩ fun z hz => ?_
     ·rcases hb' with hb' | ⟨e', gv, ms, cells, u, z1, z2⟩
      ·exact .inl hb'
      ·simp only [Option.some.injEq, Prod.mk.injEq] at z1
       exact .inr ⟨e, gv, ms, cells, u, by rw [z1.2], z2⟩
     ·exact hlive.sp.store h5 hblk h4
     ·simp only [Option.some.injEq, Prod.mk.injEq] at he'
      obtain ⟨rfl, rfl⟩ := he'
      rw [hden]
      refine (hlive.bd e dp rfl).upd q1 q3 hblk hrl hle hsz (fun j d hj => ?_) (fun i2 j2 d u hj2 _ hq => ?_) h4
      ·obtain ⟨u, hu, hlf⟩ := hleaf j d hj
       refine ⟨u, hu, ?_⟩
       rcases dp with _ | ⟨gv, ms⟩
       ·exact hlf
       ·have hjl := (List.getElem?_eq_some_iff.1 hu).1
        simp only [flatAt, List.all_eq_true, List.mem_range] at hflat
        exact ⟨fun _ => hlf, fun hne => absurd (Nat.eq_of_beq_eq_true (hflat j hjl)) hne⟩
      ·exact hq.keep (fun _ _ _ => rfl) hkeepin
     ·simp only [Option.some.injEq, Prod.mk.injEq] at he'
      obtain ⟨cells, z1, z2, z3, z4⟩ := hlive.dp e gv ms (by rw [he'.2])
      refine ⟨cells, z1, fun u hu => ?_, z3, z4⟩
      obtain ⟨m', hm'⟩ := z2 u hu
      exact ⟨m', hm'.store h5 hblk h4⟩
     ·obtain ⟨e', ms, hz⟩ := hz
      simp only [Option.some.injEq, Prod.mk.injEq] at hz
      exact hs.f1 (3 * g + 2) z (by rw [hlv]; exact ⟨e, ms, by rw [hz.2]⟩)
    split at h
    · -- a row of our own goes into it
     rename_i t0 hv he
     rcases dp with _ | ⟨gv, ms⟩
     ·cases k <;> simp at h
     cases k with
     | own hh =>
      simp only at h
      split at h
      ·rename_i mm e' hlh
       split at h
       ·rename_i el' hinf'
        split at h
        ·rename_i hc
         simp only [Option.some.injEq] at h; subst h
         obtain ⟨hel, hms, hm0, hne⟩ := hc
         obtain ⟨i', d, hi, hsz1, _⟩ := ty_c hcx hti hv
         obtain ⟨hc1, hc2⟩ := cells_c (E.inf_ok hΓ ex _ he) hvr.rd
         have hoffm : off < m := by rw [← hn]; exact (List.getElem?_eq_some_iff.1 hel).1
         obtain ⟨w', hrun, h4, h5⟩ := hst [a.eval x] i' hi (by rw [hc1]) (by simp [hsz1]) (by simpa using hc2) (by simp only [List.length_cons, List.length_nil]; omega)
         have hxv : a.eval x = tm hh := hvr.2
         have hliveh := hs.live hh _ hlh
         obtain ⟨cells, z1, z2, z3, z4⟩ := hlive.dp e gv ms rfl
         have hFg0 : ∀ z, F z → upd tm g0 (.tuple (cells.setIfInBounds ((i.den c.env).toI.toNat * m + off) (tm hh))) z = tm z := fun z hz => upd_ne _ _ fun e => hg0 (e ▸ hz)
         have htmg : upd tm g0 (.tuple (cells.setIfInBounds ((i.den c.env).toI.toNat * m + off) (tm hh))) g = tm g := hFg0 g (hs.f3 g _ hlv)
         have hmemc : ∀ u ∈ (cells.setIfInBounds ((i.den c.env).toI.toNat * m + off) (tm hh)).toList, u ∈ cells.toList ∨ u = tm hh := fun u hu => by
          rw [Array.toList_setIfInBounds] at hu
          exact List.mem_or_eq_of_mem_set hu
         have hOh : ∀ b', OutB (tm hh) b' → b' ≠ b := fun b' hb' e' => hs.dll hh _ g _ b' b hlh hlv hne (.inl hb') (.inl hOut) e'
         have hOhc : ∀ u ∈ cells.toList, ∀ b', OutB u b' → ¬ OutB (tm hh) b' := fun u hu b' hb' hb'' => hs.dll hh _ g _ b' b' hlh hlv hne (.inl hb'') (.inr ⟨e, gv, ms, cells, u, rfl, z1, hu, hb'⟩) rfl
         have hkeepin : ∀ u ∈ cells.toList, ∀ b', OutB u b' → w'.heap[b']? = w.heap[b']? := fun u hu b' hb' => h5.block _ fun eb => z4 u hu b' hb' (eb ▸ hOut)
         unfold Oper.wp; rw [hrun]
         simp only [Oper.upon, hdst, Act.put]
         refine hK bm (upd tm g0 (.tuple (cells.setIfInBounds ((i.den c.env).toI.toNat * m + off) (tm hh)))) a w' ?_
         show Sim c _ (upd (dropR σ (some hh)) (3 * g + 2) _) bm _ a w'
         refine hs.setOwn (some hh) hlv (by simp) (fun h1 he1 => ?_) hFg0 (fun _ h => .inl h) (fun b' hb' => ?_) (Fr.of_one h5 (.inl hBb)) (fun k hk hnb => h5.block _ fun e' => hnb (e' ▸ .inl hOut)) ⟨?_, fun e1 dp1 he1 => ?_, fun e1 gv1 ms1 he1 => ?_⟩ fun z hz => ?_
         ·simp only [Option.some.injEq] at he1; subst he1
          exact ⟨hne, _, hlh, by simp⟩
         ·rcases hb' with hb' | ⟨e1, gv1, ms1, cells1, u, y1, y2, y3, y4⟩
          ·rw [htmg] at hb'; exact .inl (.inl hb')
          ·simp only [Option.some.injEq, Prod.mk.injEq] at y1
           obtain ⟨_, rfl, rfl⟩ := y1
           rw [upd_same] at y2; cases y2
           rcases hmemc u y3 with h | rfl
           ·exact .inl (.inr ⟨e, gv, ms, cells, u, rfl, z1, h, y4⟩)
           ·exact .inr ⟨hh, _, rfl, hlh, .inl y4⟩
         ·rw [htmg]; exact hlive.sp.store h5 hblk h4
         ·simp only [Option.some.injEq, Prod.mk.injEq] at he1
          obtain ⟨rfl, rfl⟩ := he1
          rw [hden, htmg]
          refine (hlive.bd e _ rfl).upd q1 q3 hblk (by simp [E.den]) (by simp only [List.length_cons, List.length_nil]; omega) hsz (fun j d hj => ?_) (fun i2 j2 d u hj2 hij hq => ?_) h4
          ·cases j with
           | succ j => simp [E.den] at hj
           | zero =>
            simp [E.den] at hj; subst hj
            refine ⟨_, rfl, fun h0 => absurd (hms ▸ h0) (by simpa using hm0), fun _ => ⟨⟨_, upd_same _ _ _, ?_⟩, ?_, ?_⟩⟩
            ·have hcs : (i.den c.env).toI.toNat * m + off < cells.size := by
              obtain ⟨_, _, rows1, r1, _, w1, w2, w3, _, _, _, w5⟩ := rows_at (hlive.bd e _ rfl) q1 q3
              obtain ⟨u1, _, hu1⟩ := w5 off _ (List.getElem?_eq_getElem (show off < r1.length by rw [w3]; exact hoffm))
              obtain ⟨⟨cells1, c1, c2⟩, _⟩ := hu1.2 (by rw [hms]; exact hm0)
              rw [z1] at c1; cases c1
              exact (Array.getElem?_eq_some_iff.1 c2).1
             rw [Nat.add_zero, hxv]
             simp [hcs]
            ·rw [Nat.add_zero, hms, hxv]
             exact hliveh.sp.keep fun b' hb' => h5.block _ (hOh b' hb')
            ·rw [Nat.add_zero, hms, hxv]
             exact (hliveh.bd e' none rfl).keep (fun b' hb' => h5.block _ (hOh b' hb')) fun _ _ _ _ h => h
          ·refine ⟨hq.1, fun hmz => ?_⟩
           obtain ⟨⟨cells1, c1, c2⟩, c3, c4⟩ := hq.2 hmz
           rw [z1] at c1; cases c1
           have hu : u ∈ cells.toList := by rw [← Array.getElem?_toList] at c2; exact List.mem_of_getElem? c2
           refine ⟨⟨_, upd_same _ _ _, ?_⟩, c3.keep (hkeepin u hu), c4.keep (hkeepin u hu) fun _ _ _ _ h => h⟩
           have hne2 : (i.den c.env).toI.toNat * m + off ≠ i2 * m + j2 := fun e2 => by
            obtain ⟨e3, e4⟩ := mul_uniq hj2 hoffm e2.symm
            rcases hij with h | h | h
            ·exact h e3
            ·omega
            ·simp only [E.den, D.toA_agg, List.length_cons, List.length_nil] at h
             omega
           rw [Array.getElem?_setIfInBounds_ne hne2]
           exact c2
         ·simp only [Option.some.injEq, Prod.mk.injEq] at he1
          obtain ⟨_, rfl, rfl⟩ := he1
          refine ⟨_, upd_same _ _ _, fun u hu => ?_, fun k k' u u' b' hk hk' hkk hb' hb'' => ?_, fun u hu b' hb' => ?_⟩
          ·rcases hmemc u hu with h | rfl
           ·obtain ⟨m', hm'⟩ := z2 u h
            exact ⟨m', hm'.keep (hkeepin u h)⟩
           ·exact ⟨_, hliveh.sp.keep fun b' hb' => h5.block _ (hOh b' hb')⟩
          ·have hget : ∀ q v, (cells.setIfInBounds ((i.den c.env).toI.toNat * m + off) (tm hh))[q]? = some v → (q = (i.den c.env).toI.toNat * m + off ∧ v = tm hh) ∨ (q ≠ (i.den c.env).toI.toNat * m + off ∧ cells[q]? = some v) := fun q v hq => by
            rw [Array.getElem?_setIfInBounds] at hq
            split at hq
            ·rename_i e3
             split at hq
             ·simp only [Option.some.injEq] at hq; exact .inl ⟨e3.symm, hq.symm⟩
             ·cases hq
            ·rename_i e3; exact .inr ⟨fun e4 => e3 e4.symm, hq⟩
           have hmem : ∀ q v, cells[q]? = some v → v ∈ cells.toList := fun q v hq => by rw [← Array.getElem?_toList] at hq; exact List.mem_of_getElem? hq
           rcases hget k u hk with ⟨e3, rfl⟩ | ⟨e3, hk⟩ <;> rcases hget k' u' hk' with ⟨e4, rfl⟩ | ⟨e4, hk'⟩
           ·omega
           ·exact hOhc u' (hmem _ _ hk') b' hb'' hb'
           ·exact hOhc u (hmem _ _ hk) b' hb' hb''
           ·exact z3 k k' u u' b' hk hk' hkk hb' hb''
          ·rw [htmg]
           rcases hmemc u hu with h | rfl
           ·exact z4 u h b' hb'
           ·exact fun hb'' => hs.dll hh _ g _ b' b' hlh hlv hne (.inl hb') (.inl hb'') rfl
         ·obtain ⟨e1, ms1, hz⟩ := hz
          simp only [Option.some.injEq, Prod.mk.injEq] at hz
          exact .inr (by rw [← hz.2.1]; exact NewT.self g0)
        ·simp at h
       ·simp at h
      ·simp at h
     | _ => simp at h
    ·rename_i t0 t _ hv he
     split at h
     ·rename_i hc
      simp only [Option.some.injEq] at h
      obtain ⟨i', d, hi, hsz1, _⟩ := ty_c hcx hti hv
      have hty := E.inf_ok hΓ ex _ he
      obtain ⟨hc1, hc2⟩ := cells_c hty hvr.rd
      have hlt := (List.getElem?_eq_some_iff.1 hc.1).1
      refine hgo (.ag1 ex) [a.eval x] i' hi (by rw [hc1]) (by simp [hsz1]) (by simpa using hc2) (by simp only [List.length_cons, List.length_nil]; omega) rfl hc.2.2 ?_ h.symm
      intro j d' hd
      cases j with
      | zero => simp [E.den] at hd; subst hd; exact ⟨_, rfl, leaf_c hty hc.2.1 hvr.rd⟩
      | succ j => simp [E.den] at hd
     ·simp at h
    ·rename_i ts us hv he
     split at h
     ·rename_i hc
      simp only [Option.some.injEq] at h
      obtain ⟨i', f, z, hi, hsz1, _⟩ := ty_agg hcx hti hv
      obtain ⟨l, hl, hlt⟩ := hasV1_agg (E.inf_ok hΓ ex _ he)
      have hrd := hvr.rd
      rw [hl] at hrd
      obtain ⟨us', hus, hrs⟩ := hrd
      have hl1 := hrs.length
      have hl2 := hlt.length
      refine hgo ex us'.toList i' hi (by rw [hus]; rfl) (by rw [hl1, hl2, hsz1]; exact hc.2.1.symm) (cells_one hlt hrs) (by rw [hl1, hl2]; exact hc.2.2.1) (by rw [hl]; exact hl1) (by rw [hl1, hl2]; exact hc.2.2.2.2) ?_ h.symm
      intro j d hd
      rw [hl] at hd
      exact leaf_row hlt hc.2.2.2.1 hrs j d hd
     ·simp at h
    ·simp at h
   ·simp at h
  ·simp at h
 ·simp at h
theorem sIStore (hcx : tbOk P tb tb = true) (hs : Sim c F σ bm tm a w) (hΓ : EnvTy tb.tab Γ c.env) {g0 q : Nat} {o : Oper} {y x : Operand} {T T1 T2 : Nat} (ho : o.op = .store T y x) (hdst : o.dst = none) {ti : TI} (hti : tb.get T = some ti) {g gv n : Nat} {i : E} {off : Nat} {j : E} {m o2 : Nat} (hy : opd tb σ T1 y = some (.ip [] g gv n i off j m o2)) {eff : Eff}
  (h : eIStore tb Γ σ ti g gv n i off j m o2 (opd tb σ T2 x) = some eff) : OpOk P c F σ bm tm a w g0 [] q o eff := by
 unfold eIStore at h
 split at h
 ·rename_i n' e gv' ms k ex hlv hx
  split at h
  ·rename_i el hinf
   split at h
   ·rename_i el' hel
    split at h
    ·rename_i hc
     obtain ⟨rfl, hn, rfl, hm, hm0, hel'⟩ := hc
     split at h
     ·rename_i t0 t hv he
      split at h
      ·rename_i hc
       simp only [Option.some.injEq] at h; subst h
       obtain ⟨ht, hlf⟩ := hc
       refine ⟨fun _ _ K Q hK => ?_, fun hn => absurd (gsH_nil _) hn⟩
       obtain ⟨h4, _⟩ := opd_rel hs hy
       obtain ⟨⟨ad, L, cap0, q1, q2, q3⟩, cells, b, o', len, cap, z1, z2, z3, z4, z5, z6⟩ := h4.1 (gsH_nil _)
       have hvr := (val_rel hs hx).1 (gsH_nil _)
       have hoffn : off < n := by rw [← hn]; exact (List.getElem?_eq_some_iff.1 hel).1
       obtain ⟨b0, o0, r, d, rfl, y1, y2, y3, y4, y5, y6⟩ := inner_at hs hlv q1 q3 hoffn hm hm0 z1 z2
       have hlive := hs.live g _ hlv
       obtain ⟨cells', x1, x2, x3, x4⟩ := hlive.dp e gv' ms rfl
       rw [z1] at x1; cases x1
       have hmem : ∀ q v, cells[q]? = some v → v ∈ cells.toList := fun q v hq => by rw [← Array.getElem?_toList] at hq; exact List.mem_of_getElem? hq
       have hcap : 0 < cap := by omega
       have hOi : OutB (.slice (some ⟨b, o', none⟩) len cap) b := ⟨o', none, len, cap, rfl, hcap⟩
       obtain ⟨_, hBb, C, T0, hblk, hsz⟩ := y5 b o' none len cap rfl hcap
       have hcap0 : 0 < cap0 := by
        obtain ⟨_, _, _, _, _, _, _, _, _, _, hlc, _⟩ := rows_at (hlive.bd e _ rfl) q1 q3
        omega
       have hbb0 : b ≠ b0 := fun e' => x4 _ (hmem _ _ z2) b hOi ⟨o0, none, L, cap0, by rw [e']; exact q1, hcap0⟩
       have hty := E.inf_ok hΓ ex _ he
       obtain ⟨hc1, hc2⟩ := cells_c hty hvr.rd
       have ho2 : o2 < m := by rw [← hel']; exact (List.getElem?_eq_some_iff.1 ht).1
       have hb2 : (j.den c.env).toI.toNat * m + m ≤ cap * m := by
        have : ((j.den c.env).toI.toNat + 1) * m ≤ cap * m := Nat.mul_le_mul_right _ (by omega)
        rwa [Nat.add_mul, Nat.one_mul] at this
       obtain ⟨i', d', hi, hsz1, _⟩ := ty_c hcx hti hv
       obtain ⟨w', h1, h6, h5⟩ := run_storeCells (P := P) b T0 [a.eval x] w C (o' + (j.den c.env).toI.toNat * m + o2) 0 hblk (by simpa using hc2) (by simp only [List.length_cons, List.length_nil]; omega)
       have hsz' : (a.eval x).cells.size = i'.size := by rw [hc1, hsz1]; rfl
       have hrun : (execOp a.eval o).run P w = .ok .skip w' := by
        simp [execOp, ho, z6, Instr.storeAt, Instr.sureAddr, storeVar, run_sizeOf hi, hsz', hc1, h1]
        rw [hsz1]
       rw [Nat.add_zero] at h6
       unfold Oper.wp; rw [hrun]
       simp only [Oper.upon, hdst, Act.put]
       refine hK bm tm a w' (Sim.mono (F := F) ?_ fun x hx => .inl hx)
       obtain ⟨_, hB0, C0, T00, hblk0, hsz0⟩ := hlive.sp b0 o0 none L cap0 q1 hcap0
       simp only at hsz0
       have hout : w'.heap[b0]? = w.heap[b0]? := h5.block _ (Ne.symm hbb0)
       have hC0 : C0[o0 + (i.den c.env).toI.toNat * n + off]? = some (.slice (some ⟨b, o', none⟩) len cap) := by
        rw [cell_of_row w b0 _ C0 T00 _ hblk0] at y4; exact y4
       have hC0' : setAllA C0 (o0 + (i.den c.env).toI.toNat * n + off) [.slice (some ⟨b, o', none⟩) len cap] = C0 := by
        apply Array.ext_getElem?
        intro z
        rw [setAllA_get?]
        split
        ·rename_i hz
         simp only [List.length_cons, List.length_nil] at hz
         obtain rfl : z = o0 + (i.den c.env).toI.toNat * n + off := by omega
         rw [hC0, Nat.sub_self]; rfl
        ·rfl
       have hother : ∀ q v, cells[q]? = some v → q ≠ (i.den c.env).toI.toNat * n + off → ∀ b', OutB v b' → w'.heap[b']? = w.heap[b']? := fun q v hq hne b' hb' => h5.block _ fun eb => x3 q _ v _ b' hq z2 hne hb' (eb ▸ hOi)
       refine hs.setOwn none hlv (by simp) (by simp) (fun _ _ => rfl) (fun _ h => h) (fun b' hb' => .inl ?_) (Fr.of_one h5 (.inl hBb)) (fun k hk hnb => h5.block _ fun e' => hnb (e' ▸ .inr ⟨e, gv', ms, cells, _, rfl, z1, hmem _ _ z2, hOi⟩)) ⟨?_, fun e1 dp1 he1 => ?_, fun e1 gv1 ms1 he1 => ?_⟩ fun z hz => ?_
       ·rcases hb' with hb' | ⟨e1, gv1, ms1, cells1, u, w1, w2⟩
        ·exact .inl hb'
        ·simp only [Option.some.injEq, Prod.mk.injEq] at w1
         obtain ⟨_, rfl, rfl⟩ := w1
         exact .inr ⟨e, _, _, cells1, u, rfl, w2⟩
       ·exact hlive.sp.store h5 hblk h6
       ·simp only [Option.some.injEq, Prod.mk.injEq] at he1
        obtain ⟨rfl, rfl⟩ := he1
        have hcell : (E.cell (.row (tb.tab el) e i) off).den c.env = d := by simp [E.den, y1, y3]
        have hden : (E.upd e i (.ag1 (.upd (.cell (.row (tb.tab el) e i) off) j (.ag1 ex) o2)) off).den c.env = .sl (updR (e.den c.env).toR (i.den c.env).toI.toNat off [.sl (updR d.toR (j.den c.env).toI.toNat o2 [ex.den c.env])]) := by
         show D.sl (updR _ _ _ [D.sl (updR ((E.cell (.row (tb.tab el) e i) off).den c.env).toR _ _ [ex.den c.env])]) = _
         rw [hcell]
        rw [hden]
        refine (hlive.bd e _ rfl).upd (vals := [.slice (some ⟨b, o', none⟩) len cap]) q1 q3 hblk0 rfl (by simp only [List.length_cons, List.length_nil]; omega) hsz0 (fun j1 d1 hj1 => ?_) (fun i2 j2 d2 u hj2 hij hq => ?_) (by rw [hC0', hout]; exact hblk0)
        ·cases j1 with
         | succ j1 => simp at hj1
         | zero =>
          simp at hj1; subst hj1
          refine ⟨_, rfl, fun h0 => absurd (hm ▸ h0) (by simpa using hm0), fun _ => ⟨⟨cells, z1, by rw [Nat.add_zero]; exact z2⟩, ?_, ?_⟩⟩
          ·rw [Nat.add_zero, hm]; exact y5.store h5 hblk h6
          ·rw [Nat.add_zero, hm]
           refine y6.upd rfl z4 hblk rfl (by simp only [List.length_cons, List.length_nil]; omega) hsz (fun j3 d3 hj3 => ?_) (fun _ _ _ _ _ _ h => h) h6
           cases j3 with
           | succ j3 => simp at hj3
           | zero => simp at hj3; subst hj3; exact ⟨_, rfl, leaf_c hty hlf hvr.rd⟩
        ·refine ⟨hq.1, fun hmz => ?_⟩
         obtain ⟨⟨cells1, c1, c2⟩, c3, c4⟩ := hq.2 hmz
         rw [z1] at c1; cases c1
         have hne2 : i2 * n + j2 ≠ (i.den c.env).toI.toNat * n + off := fun e2 => by
          obtain ⟨e3, e4⟩ := mul_uniq hj2 hoffn e2
          rcases hij with h | h | h
          ·exact h e3
          ·omega
          ·simp only [List.length_cons, List.length_nil] at h; omega
         exact ⟨⟨cells, z1, c2⟩, c3.keep (hother _ _ c2 hne2), c4.keep (hother _ _ c2 hne2) fun _ _ _ _ h => h⟩
       ·simp only [Option.some.injEq, Prod.mk.injEq] at he1
        obtain ⟨_, rfl, rfl⟩ := he1
        refine ⟨cells, z1, fun u hu => ?_, x3, x4⟩
        obtain ⟨m', hm'⟩ := x2 u hu
        exact ⟨m', hm'.store h5 hblk h6⟩
       ·obtain ⟨e1, ms1, hz⟩ := hz
        simp only [Option.some.injEq, Prod.mk.injEq] at hz
        exact hs.f1 (3 * g + 2) z (by rw [hlv]; exact ⟨e, ms, by rw [hz.2.1]⟩)
      ·simp at h
     ·simp at h
    ·simp at h
   ·simp at h
  ·simp at h
 ·simp at h
theorem sSt (hcx : tbOk P tb tb = true) (hs : Sim c F σ bm tm a w) (hΓ : EnvTy tb.tab Γ c.env) {g n : Nat} (hg : ¬ F g) {o : Oper} {y x : Operand} {T T1 T2 : Nat} (ho : o.op = .store T y x) {ti : TI} (hti : tb.get T = some ti) {eff : Eff}
  (h : eSt tb Γ gs o.dst σ g ti (opd tb σ T1 y) (opd tb σ T2 x) = some eff) : OpOk P c F σ bm tm a w g gs n o eff := by
 unfold eSt at h
 split at h
 ·rename_i g' m i off hdst hy
  exact sMStore hcx hs hΓ hg ho hdst hti hy h
 ·rename_i g' gv m i off j m2 o2 hdst hy
  exact sIStore hcx hs hΓ ho hdst hti hy h
 ·exact sStore hcx hs hΓ ho hti h
theorem args_rel (hs : Sim c F σ bm tm a w) (hg : gsH c.env gs) : ∀ (xs : List Operand) (Ts : List Nat) (es : List E), eArgs tb Γ gs σ xs Ts = some es → Rs w (MM c.M0 bm tm σ) (es.map (·.den c.env)) (xs.map a.eval)
 | [], [], es, h => by simp [eArgs] at h; subst h; rfl
 | x :: xs, T :: Ts, es, h => by
  simp only [eArgs] at h
  split at h
  ·rename_i k e es' h1 h2
   simp only [Option.some.injEq] at h; subst h
   exact ⟨_, _, rfl, ((val_rel hs h1).1 hg).rd, args_rel hs hg xs Ts es' h2⟩
  ·simp at h
 | [], _ :: _, es, h => by simp [eArgs] at h
 | _ :: _, [], es, h => by simp [eArgs] at h
theorem run_call {f : FuncId} (hf : callable P f = true) {o : Oper} {cl : Call} (ho : o.op = .call cl) (hcl : cl.callee = .value (.func f)) : (execOp a.eval o).run P w = .ok (.enter f (cl.args.map a.eval)) w := by
 unfold callable at hf
 split at hf
 ·rename_i fn hfn
  simp only [Bool.and_eq_true, Bool.not_eq_true'] at hf
  obtain ⟨h1, h2⟩ := hf
  obtain ⟨b, hb⟩ := Option.isSome_iff_exists.1 h2
  have h1' : (fn.name = "runtime.NumGoroutine") = False := by
   apply eq_false
   intro e
   rw [e] at h1
   exact absurd h1 (by decide)
  simp [execOp, ho, resolve, hcl, Deferred.ofValue, Act.eval, invoke, callFunc, hfn, hb, h1']
 ·simp at hf
theorem sCall_args (hs : Sim c F σ bm tm a w) (hg : gsH c.env gs) {g n : Nat} {o : Oper} {cl : Call} {f : FuncId} (ho : o.op = .call cl) (hcl : cl.callee = .value (.func f)) (hd : ∀ d, o.dst = some d → d < c.nt) {es : List E} {Ts : List Nat} {vt : VT}
  (hes : eArgs tb Γ gs σ cl.args.toList Ts = some es) (hr : RqH P c.env n (.call gs f none es vt [])) (K : Act → World → Prop) (Q : Exit → Act → World → Prop)
  (hK : ∀ bm' tm' a' w', Sim c (fun x => F x ∨ NewT g x) (updL σ (wv o.dst (.v gs .d (.var n)))) bm' tm' a' w' → K a' w') : o.wp P a w K Q := by
 obtain ⟨hf, hrun⟩ := hr hg
 have hargs := args_rel hs hg _ _ _ hes
 unfold Oper.wp
 rw [run_call hf ho hcl]
 simp only [Oper.upon]
 have := hrun w (MM c.M0 bm tm σ) 0 (cl.args.toList.map a.eval) hs.rdy hargs (fun cs h => by simp at h)
 simp only [Option.map_none] at this
 have e : (cl.args.toList.map a.eval).toArray = cl.args.map a.eval := by rw [← Array.toList_inj]; simp
 rw [e] at this
 refine this.mono ?_
 rintro e' w' ⟨v, rfl, h1, h2, _⟩
 refine hK bm tm _ _ (((hs.grow h2.to_below).putO hd (relT_v (k := .d) (e := .var n) hg h1) fun x hx => by simp [men, Go.Proofs.YtimickglpboilaaGreat.K.has] at hx).mono fun x hx => .inl hx)
theorem relCs_vars {M : Addr → Prop} : ∀ (nb : List CT) (m : Nat) (us : List Value), Rs w M ((List.range nb.length).map fun j => c.env.getD (m + j) .un) us → relCs w M tm c.env (vars m nb) us
 | [], m, us, h => by simpa [Rs, vars, relCs] using h
 | t :: nb, m, us, h => by
  simp only [List.length_cons, List.range_succ_eq_map, List.map_cons, List.map_map] at h
  obtain ⟨v, q, rfl, h1, h2⟩ := h
  refine ⟨v, q, rfl, by simpa [relK, E.den] using h1, relCs_vars nb (m + 1) q ?_⟩
  simpa [Function.comp_def, Nat.add_assoc, Nat.add_comm 1] using h2
theorem vars_d : ∀ (nb : List CT) (m : Nat) (q : Nat), ¬ ∃ z ∈ vars m nb, z.1.has q
 | [], _, _, ⟨z, hz, _⟩ => by simp [vars] at hz
 | t :: nb, m, q, ⟨z, hz, hq⟩ => by
  simp only [vars, List.mem_cons] at hz
  rcases hz with rfl | hz
  ·cases hq
  ·exact vars_d nb (m + 1) q ⟨z, hz, hq⟩
theorem sNew (hs : Sim c F σ bm tm a w) (hΓ : EnvTy tb.tab Γ c.env) {g n : Nat} (hgF : ¬ F g) {o : Oper} {cl : Call} {f : FuncId} {nb : List CT} (ho : o.op = .call cl) (hcl : cl.callee = .value (.func f)) (hd : ∀ d, o.dst = some d → d < c.nt) (hn : n = Γ.length) {eff : Eff}
  (h : eNew tb Γ gs o.dst σ g nb f cl.args.toList cl.argTypes.toList = some eff) : OpOk P c F σ bm tm a w g gs n o eff := by
 subst hn
 unfold eNew at h
 split at h
 ·rename_i es hes
  simp only [Option.some.injEq] at h; subst h
  refine ⟨fun hg hr K Q hK => ?_, fun hn => absurd (gsH_nil _) hn⟩
  have hrq : RqH P c.env Γ.length (.new f es nb) := hr _ (by simp)
  obtain ⟨hf, hrun⟩ := hrq
  have hargs := args_rel hs (gsH_nil _) _ _ _ hes
  unfold Oper.wp
  rw [run_call hf ho hcl]
  simp only [Oper.upon]
  have := hrun w (MM c.M0 bm tm σ) (cl.args.toList.map a.eval) hs.rdy hargs
  have e : (cl.args.toList.map a.eval).toArray = cl.args.map a.eval := by rw [← Array.toList_inj]; simp
  rw [e] at this
  refine this.mono ?_
  rintro e' w' ⟨g0, us, T, rfl, h1, h2, h3, h4⟩
  refine hK (upd bm g g0) tm _ w' ?_
  rw [updL_wv_box]
  refine Sim.tag ((hs.newBoxAt hgF h4 h1 h2 (relCs_vars nb _ us h3) fun q hq => absurd hq (vars_d _ _ _)).putO hd ⟨fun _ => by rw [upd_same], fun h => absurd (gsH_nil _) h⟩ fun x hx => ?_)
  simp only [men] at hx; exact .inr hx
 ·simp at h
theorem updL_ups {dst : Option Nat} {st : ST} : ∀ {ups : List (Nat × ST)} {σ : Nat → ST}, (∀ p ∈ ups, ∀ d, p.1 ≠ 3 * d) → updL σ (wv dst st ++ ups) = updL (updL σ ups) (wv dst st) := by
 intro ups σ h
 cases dst with
 | none => rfl
 | some d =>
  show updL (upd σ (3 * d) st) ups = upd (updL σ ups) (3 * d) st
  induction ups generalizing σ with
  | nil => rfl
  | cons p r ih =>
   obtain ⟨l, s⟩ := p
   show updL (upd (upd σ (3 * d) st) l s) r = _
   rw [upd_comm (Ne.symm (h (l, s) (by simp) d))]
   exact ih fun q hq => h q (by simp [hq])
theorem rtLive_t : ∀ {rt : List (Nat × Nat)} {g : Nat} {σ : Nat → ST} (t : Nat), updL σ (rtLive g rt) (3 * t) = σ (3 * t)
 | [], _, _, _ => rfl
 | (q, m) :: r, g, σ, t => by
  show updL (upd σ (3 * g + 2) (.live ⟨m, none⟩)) (rtLive (g + 1) r) (3 * t) = _
  rw [rtLive_t t, upd_r_t]
theorem rtLive_b : ∀ {rt : List (Nat × Nat)} {g : Nat} {σ : Nat → ST} (t : Nat), updL σ (rtLive g rt) (3 * t + 1) = σ (3 * t + 1)
 | [], _, _, _ => rfl
 | (q, m) :: r, g, σ, t => by
  show updL (upd σ (3 * g + 2) (.live ⟨m, none⟩)) (rtLive (g + 1) r) (3 * t + 1) = _
  rw [rtLive_b t, upd_r_box]
theorem rtLive_r : ∀ {rt : List (Nat × Nat)} {g : Nat} {σ : Nat → ST} (x : Nat), updL σ (rtLive g rt) (3 * x + 2) = if g ≤ x ∧ x < g + rt.length then .live ⟨(rt.getD (x - g) (0, 0)).2, none⟩ else σ (3 * x + 2)
 | [], g, σ, x => by rw [if_neg (by simp only [List.length_nil]; omega)]; rfl
 | (q, m) :: r, g, σ, x => by
  show updL (upd σ (3 * g + 2) (.live ⟨m, none⟩)) (rtLive (g + 1) r) (3 * x + 2) = _
  rw [rtLive_r x]
  by_cases h : x = g
  ·subst h
   rw [if_neg (by omega), upd_same, if_pos (by simp only [List.length_cons]; omega)]; simp
  ·rw [upd_r_live _ h]
   by_cases h1 : g + 1 ≤ x ∧ x < g + 1 + r.length
   ·rw [if_pos h1, if_pos (by simp only [List.length_cons]; omega), show x - g = (x - (g + 1)) + 1 by omega]; rfl
   ·rw [if_neg h1, if_neg (by simp only [List.length_cons]; omega)]
def tmR (tm : Nat → Value) (g : Nat) (v : Value) (rt : List (Nat × Nat)) : Nat → Value := fun x => if g ≤ x ∧ x < g + rt.length then rtV v (rt.getD (x - g) (0, 0)) else tm x
def boxO (σ : Nat → ST) (cs : List (K × E)) : Option Nat → Nat → ST
 | none => σ
 | some id => upd σ (3 * id + 1) (.box cs)
theorem Sim.rights {w' : World} (hs : Sim c F σ bm tm a w) {g : Nat} (hg : ∀ x, NewT g x → ¬ F x) {rt : List (Nat × Nat)} (hl : rt.length ≤ stride) {v : Value} (hrt : RtOk w.heap.size w' v rt) (oid : Option Nat) {cs' : List (K × E)}
  (hid : ∀ id, oid = some id → ∃ cs, σ (3 * id + 1) = .box cs) (hfr : Fr c.B c.X w w') (hob : ∀ k, k < w.heap.size → (∀ id, oid = some id → k ≠ bm id) → w'.heap[k]? = w.heap[k]?)
  (hbox : ∀ id M' tm', oid = some id → (∀ p, M' p → MM c.M0 bm tm σ p ∨ RtM v rt p) → BoxOk c w' M' bm tm' id cs') (hno : ∀ x, ¬ ∃ z ∈ cs', z.1.has x) :
  Sim c (fun x => F x ∨ NewT g x) (updL (boxO σ cs' oid) (rtLive g rt)) bm (tmR tm g v rt) a w' ∧ (∀ p, MM c.M0 bm (tmR tm g v rt) (updL (boxO σ cs' oid) (rtLive g rt)) p → MM c.M0 bm tm σ p ∨ RtM v rt p) := by
 have hO_t : ∀ t, boxO σ cs' oid (3 * t) = σ (3 * t) := fun t => by cases oid with | none => rfl | some id => exact upd_b_t _ _ _
 have hO_r : ∀ t, boxO σ cs' oid (3 * t + 2) = σ (3 * t + 2) := fun t => by cases oid with | none => rfl | some id => exact upd_b_live _ _ _
 have hO_b : ∀ id cs, boxO σ cs' oid (3 * id + 1) = .box cs → (oid = some id ∧ cs = cs') ∨ (oid ≠ some id ∧ σ (3 * id + 1) = .box cs) := fun id cs h => by
  cases oid with
  | none => exact .inr ⟨by simp, h⟩
  | some i =>
   simp only [boxO] at h
   by_cases e : id = i
   ·subst e; rw [upd_same] at h; simp at h; exact .inl ⟨rfl, h.symm⟩
   ·rw [upd_b_box _ e] at h; exact .inr ⟨fun e' => e (by simp at e'; exact e'.symm), h⟩
 have hO_bo : ∀ id cs, boxO σ cs' oid (3 * id + 1) = .box cs → ∃ cs0, σ (3 * id + 1) = .box cs0 := fun id cs h => by
  rcases hO_b id cs h with ⟨h1, _⟩ | ⟨_, h1⟩
  ·exact hid id h1
  ·exact ⟨cs, h1⟩
 have hin : ∀ x, g ≤ x ∧ x < g + rt.length → ∃ y, rt[x - g]? = some y ∧ rt.getD (x - g) (0, 0) = y ∧ y ∈ rt := fun x hx => by
  have : x - g < rt.length := by omega
  exact ⟨rt[x - g], List.getElem?_eq_getElem this, by simp [List.getD, List.getElem?_eq_getElem this], List.getElem_mem this⟩
 have hlv : ∀ x n, updL (boxO σ cs' oid) (rtLive g rt) (3 * x + 2) = .live n → (∃ y, rt[x - g]? = some y ∧ y ∈ rt ∧ (g ≤ x ∧ x < g + rt.length) ∧ (⟨y.2, none⟩ : LV) = n ∧ tmR tm g v rt x = rtV v y) ∨ (¬ (g ≤ x ∧ x < g + rt.length) ∧ σ (3 * x + 2) = .live n ∧ tmR tm g v rt x = tm x) := fun x n h => by
  rw [rtLive_r] at h
  by_cases hc : g ≤ x ∧ x < g + rt.length
  ·obtain ⟨y, h1, h2, h3⟩ := hin x hc
   rw [if_pos hc, h2] at h
   simp at h
   exact .inl ⟨y, h1, h3, hc, h, by unfold tmR; rw [if_pos hc, h2]⟩
  ·rw [if_neg hc, hO_r] at h
   exact .inr ⟨hc, h, if_neg hc⟩
 have htm : ∀ x, F x → tmR tm g v rt x = tm x := fun x hx => if_neg fun hc => hg x ⟨hc.1, by omega⟩ hx
 have hMM : ∀ p, MM c.M0 bm (tmR tm g v rt) (updL (boxO σ cs' oid) (rtLive g rt)) p → MM c.M0 bm tm σ p ∨ RtM v rt p := by
  rintro p (h | ⟨id, cs, h1, h2⟩ | ⟨x, n, h1, h2⟩)
  ·exact .inl (.inl h)
  ·rw [rtLive_b] at h1
   obtain ⟨cs0, h3⟩ := hO_bo id cs h1
   exact .inl (.inr (.inl ⟨id, cs0, h3, h2⟩))
  ·rcases hlv x n h1 with ⟨y, q1, q2, q3, q4, q5⟩ | ⟨q1, q2, q3⟩
   ·rw [← q4] at h2; exact .inr ⟨y, q2, by have := ownA_none h2; rwa [q5] at this⟩
   ·exact .inl (.inr (.inr ⟨x, n, q2, ownA.congr q3 (fun y hy => htm y (hs.f1 (3 * x + 2) y (by rw [q2]; exact hy))) h2⟩))
 have hnew : ∀ y ∈ rt, ∀ b o s len cap, rtV v y = .slice (some ⟨b, o, s⟩) len cap → 0 < cap → w.heap.size ≤ b := fun y hy b o s len cap he hlt => (hrt.1 y hy b o s len cap he hlt).2.1
 have hk : Keeps w (MM c.M0 bm tm σ) w' (MM c.M0 bm (tmR tm g v rt) (updL (boxO σ cs' oid) (rtLive g rt))) := fun p u hp hn => by
  have hlt := block_lt_of_cell hp
  refine ⟨?_, fun h => ?_⟩
  ·rw [← hp]
   refine World.cell?_of_block (hob _ hlt fun id hi e => ?_)
   obtain ⟨cs, hc⟩ := hid id hi
   exact hn (.inr (.inl ⟨id, cs, hc, e⟩))
  ·rcases hMM p h with h | ⟨y, hy, h⟩
   ·exact hn h
   ·obtain ⟨o, s, len, cap, h1, h2⟩ := spare_lt h
    have := hnew y hy _ _ _ _ _ h1 h2
    omega
 refine ⟨?_, hMM⟩
 refine hs.turn (fun t => by rw [rtLive_t, hO_t]) (fun x hx => ⟨rfl, htm x hx⟩) (fun _ h => .inl h) hfr hk ?_ ?_ ?_ ?_ ?_ ?_ ?_ ?_
 ·intro id cs h
  rw [rtLive_b] at h
  rcases hO_b id cs h with ⟨h1, rfl⟩ | ⟨h1, h2⟩
  ·exact hbox id _ _ h1 hMM
  ·refine (hs.box id cs h2).keep hk rfl (hob _ (hs.box id cs h2).lt fun i hi e => ?_) fun x hx => htm x (hs.f1 (3 * id + 1) x (by rw [h2]; exact hx))
   obtain ⟨cs0, hc⟩ := hid i hi
   exact hs.dbb id i cs cs0 h2 hc (fun e' => h1 (by rw [e']; exact hi)) e
 ·intro x n h
  rcases hlv x n h with ⟨y, q1, q2, q3, q4, q5⟩ | ⟨q1, q2, q3⟩
  ·subst q4
   refine ⟨fun b o s len cap he hlt => ?_, (fun e dp he => by cases he), (fun e gv ms he => by cases he)⟩
   rw [q5] at he
   obtain ⟨z1, z2, z3⟩ := hrt.1 y q2 b o s len cap he hlt
   exact ⟨z1, Nat.le_trans hs.hB z2, z3⟩
  ·refine (hs.live x n q2).keep (fun b hb => hob _ ((hs.live x n q2).lt hb) fun i hi e => ?_) q3 fun y hy => htm y (hs.f1 (3 * x + 2) y (by rw [q2]; exact hy))
   obtain ⟨cs0, hc⟩ := hid i hi
   exact hs.dbl i cs0 x n b hc q2 hb e.symm
 ·intro i j cs1 cs2 h h' hne
  rw [rtLive_b] at h h'
  obtain ⟨d, hd⟩ := hO_bo i cs1 h
  obtain ⟨d', hd'⟩ := hO_bo j cs2 h'
  exact hs.dbb i j d d' hd hd' hne
 ·intro i cs1 x n b h hx hb
  rw [rtLive_b] at h
  obtain ⟨d, hd⟩ := hO_bo i cs1 h
  rcases hlv x n hx with ⟨y, q1, q2, q3, q4, q5⟩ | ⟨q1, q2, q3⟩
  ·subst q4
   obtain ⟨o, s, len, cap, he, hlt⟩ := Blk_none hb
   rw [q5] at he
   have := hnew y q2 b o s len cap he hlt
   have := (hs.box i d hd).lt
   omega
  ·exact hs.dbl i d x n b hd q2 ((Blk.congr q3 fun y hy => htm y (hs.f1 (3 * x + 2) y (by rw [q2]; exact hy))).1 hb)
 ·intro x n y m b b' hx hy hne hb hb'
  rcases hlv x n hx with ⟨x1, q1, q2, q3, q4, q5⟩ | ⟨q1, q2, q3⟩ <;> rcases hlv y m hy with ⟨y1, p1, p2, p3, p4, p5⟩ | ⟨p1, p2, p3⟩
  ·subst q4 p4
   obtain ⟨o, s, len, cap, he, hlt⟩ := Blk_none hb
   obtain ⟨o', s', len', cap', he', hlt'⟩ := Blk_none hb'
   rw [q5] at he; rw [p5] at he'
   exact hrt.2 _ _ x1 y1 q1 p1 (by omega) _ _ _ _ _ _ _ _ _ _ he hlt he' hlt'
  ·subst q4
   obtain ⟨o, s, len, cap, he, hlt⟩ := Blk_none hb
   rw [q5] at he
   have h1 := hnew x1 q2 b o s len cap he hlt
   have h2 := (hs.live y m p2).lt ((Blk.congr p3 fun z hz => htm z (hs.f1 (3 * y + 2) z (by rw [p2]; exact hz))).1 hb')
   omega
  ·subst p4
   obtain ⟨o, s, len, cap, he, hlt⟩ := Blk_none hb'
   rw [p5] at he
   have h1 := hnew y1 p2 b' o s len cap he hlt
   have h2 := (hs.live x n q2).lt ((Blk.congr q3 fun z hz => htm z (hs.f1 (3 * x + 2) z (by rw [q2]; exact hz))).1 hb)
   omega
  ·exact hs.dll x n y m b b' q2 p2 hne ((Blk.congr q3 fun z hz => htm z (hs.f1 (3 * x + 2) z (by rw [q2]; exact hz))).1 hb) ((Blk.congr p3 fun z hz => htm z (hs.f1 (3 * y + 2) z (by rw [p2]; exact hz))).1 hb')
 ·intro l x h
  refine .inl ?_
  have h3 : l = 3 * (l / 3) ∨ l = 3 * (l / 3) + 1 ∨ l = 3 * (l / 3) + 2 := by omega
  rcases h3 with e | e | e
  ·rw [e, rtLive_t, hO_t] at h; exact hs.f1 _ x h
  ·rw [e, rtLive_b] at h
   generalize hst : boxO σ cs' oid (3 * (l / 3) + 1) = st at h
   cases oid with
   | none => rw [← hst] at h; exact hs.f1 _ x h
   | some id =>
    by_cases e' : l / 3 = id
    ·simp only [boxO] at hst
     rw [e', upd_same] at hst
     subst hst
     exact absurd h (hno x)
    ·simp only [boxO] at hst
     rw [upd_b_box _ e'] at hst
     rw [← hst] at h; exact hs.f1 _ x h
  ·rw [e, rtLive_r] at h
   split at h
   ·obtain ⟨_, _, h⟩ := h; cases h
   ·rw [hO_r] at h; exact hs.f1 _ x h
 ·intro id cs h
  rw [rtLive_b] at h
  obtain ⟨d, hd⟩ := hO_bo id cs h
  exact .inl (hs.f2 id d hd)
 ·intro x n h
  rcases hlv x n h with ⟨y, q1, q2, q3, q4, q5⟩ | ⟨q1, q2, q3⟩
  ·exact .inr ⟨q3.1, by omega⟩
  ·exact .inl (hs.f3 x n q2)
theorem rtAt_in : ∀ {rt : List (Nat × Nat)} {g p x : Nat}, rtAt g rt p = .own x → ∃ i y, rt[i]? = some y ∧ y.1 = p ∧ x = g + i
 | [], g, p, x, h => by simp [rtAt] at h
 | (q, m) :: r, g, p, x, h => by
  simp only [rtAt] at h
  cases e : Nat.beq q p with
  | true =>
   rw [e] at h; simp only [cond_true, KK.own.injEq] at h
   exact ⟨0, (q, m), rfl, Nat.eq_of_beq_eq_true e, by omega⟩
  | false =>
   rw [e] at h; simp only [cond_false] at h
   obtain ⟨i, y, h1, h2, h3⟩ := rtAt_in h
   exact ⟨i + 1, y, by simpa using h1, h2, by omega⟩
theorem rtAt_ok {rt : List (Nat × Nat)} {g p : Nat} {v u : Value} (hu : (flatV v)[p]? = some u) : kkOk (tmR tm g v rt) (rtAt g rt p) u := by
 cases h : rtAt g rt p with
 | d => trivial
 | full =>
  exfalso
  have : ∀ (rt : List (Nat × Nat)) (g : Nat), rtAt g rt p ≠ .full := by
   intro rt
   induction rt with
   | nil => intro g h; simp [rtAt] at h
   | cons a r ih =>
    intro g h
    obtain ⟨q, m⟩ := a
    simp only [rtAt] at h
    cases e : Nat.beq q p with
    | true => rw [e] at h; simp at h
    | false => rw [e] at h; exact ih _ h
  exact this rt g h
 | own x =>
  obtain ⟨i, y, h1, h2, rfl⟩ := rtAt_in h
  have hi : i < rt.length := (List.getElem?_eq_some_iff.1 h1).1
  show u = tmR tm g v rt (g + i)
  unfold tmR
  rw [if_pos (by omega), show g + i - g = i by omega]
  simp only [List.getD, h1, Option.getD_some, rtV, h2, hu]
theorem rtK_ok {rt : List (Nat × Nat)} {g : Nat} {v : Value} {vt : VT} {e : E} {M : Addr → Prop} {w : World} (hty : ShapeOk vt (e.den c.env)) (hr : R w M (e.den c.env) v) : relK w M (tmR tm g v rt) c.env (rtK g rt vt) e v := by
 have lst : ∀ (n j : Nat) (kk : KK) (u : Value), ((List.range n).map (rtAt g rt))[j]? = some kk → (flatV v)[j]? = some u → kkOk (tmR tm g v rt) kk u := fun n j kk u h1 h2 => by
  simp only [List.getElem?_map, Option.map_eq_some_iff] at h1
  obtain ⟨j', hj', rfl⟩ := h1
  have : j' = j := by
   rw [List.getElem?_eq_some_iff] at hj'
   obtain ⟨_, q2⟩ := hj'
   simpa using q2.symm
  subst this
  exact rtAt_ok h2
 rcases vt with (t | ts) | vs
 ·exact relK.of hr (rtAt_ok (by rw [D.one_flat hty hr]; rfl))
 ·exact ⟨hr, lst _⟩
 ·exact ⟨hr, lst _⟩
theorem rtK_has {rt : List (Nat × Nat)} {g x : Nat} {vt : VT} (h : (rtK g rt vt).has x) : g ≤ x ∧ x < g + rt.length := by
 have key : ∀ p, rtAt g rt p = .own x → g ≤ x ∧ x < g + rt.length := fun p hp => by
  obtain ⟨i, y, h1, _, rfl⟩ := rtAt_in hp
  have : i < rt.length := (List.getElem?_eq_some_iff.1 h1).1
  omega
 have lst : ∀ n, KK.own x ∈ (List.range n).map (rtAt g rt) → g ≤ x ∧ x < g + rt.length := fun n hn => by
  obtain ⟨p, _, hp⟩ := List.mem_map.1 hn
  exact key p hp
 rcases vt with (t | ts) | vs
 ·exact key 0 (K.has_k h)
 ·exact lst _ h
 ·exact lst _ h
theorem rtLive_nt : ∀ {rt : List (Nat × Nat)} {g : Nat}, ∀ p ∈ rtLive g rt, ∀ d, p.1 ≠ 3 * d
 | [], _, p, h, _ => by simp [rtLive] at h
 | (q, m) :: r, g, p, h, d => by
  simp only [rtLive, List.mem_cons] at h
  rcases h with rfl | h
  ·show 3 * g + 2 ≠ 3 * d; omega
  ·exact rtLive_nt p h d
theorem sCallR (hs : Sim c F σ bm tm a w) {g n : Nat} (hgF : ∀ x, NewT g x → ¬ F x) {o : Oper} {cl : Call} {f : FuncId} (ho : o.op = .call cl) (hcl : cl.callee = .value (.func f)) (hd : ∀ d, o.dst = some d → d < c.nt) {es : List E} {Ts : List Nat} {vt : VT} {rt : List (Nat × Nat)} (hl : rt.length ≤ stride)
  (hes : eArgs tb Γ [] σ cl.args.toList Ts = some es) (hr : RqH P c.env n (.callR f none es vt [] rt)) (K : Act → World → Prop) (Q : Exit → Act → World → Prop)
  (hK : ∀ bm' tm' a' w', Sim c (fun x => F x ∨ NewT g x) (updL σ (wv o.dst (.v [] (rtK g rt vt) (.var n)) ++ rtLive g rt)) bm' tm' a' w' → K a' w') : o.wp P a w K Q := by
 obtain ⟨hsh, hf, hrun⟩ := hr
 have hargs := args_rel hs (gsH_nil _) _ _ _ hes
 unfold Oper.wp
 rw [run_call hf ho hcl]
 simp only [Oper.upon]
 have := hrun w (MM c.M0 bm tm σ) 0 (cl.args.toList.map a.eval) hs.rdy hargs (fun cs h => by simp at h)
 simp only [Option.map_none] at this
 have e : (cl.args.toList.map a.eval).toArray = cl.args.map a.eval := by rw [← Array.toList_inj]; simp
 rw [e] at this
 refine this.mono ?_
 rintro e' w' ⟨v, rfl, h1, h2, h3, _⟩
 obtain ⟨hS, hMM⟩ := hs.rights hgF hl h3 none (cs' := []) (fun id h => by simp at h) (Fr.of_below h2.to_below hs.hB) (fun k hk _ => h2.block k hk (by simp)) (fun id M' tm' h => by simp at h) (fun x ⟨z, hz, _⟩ => by simp at hz)
 refine hK bm (tmR tm g v rt) _ w' ?_
 rw [updL_ups rtLive_nt]
 have hk : Keeps w' (fun p => MM c.M0 bm tm σ p ∨ RtM v rt p) w' (MM c.M0 bm (tmR tm g v rt) (updL σ (rtLive g rt))) := fun p u hp hn => ⟨hp, fun h => hn (hMM p h)⟩
 refine hS.putO hd (relT_v (gsH_nil _) (rtK_ok (vt := vt) (e := .var n) hsh (R.keep hk _ _ h1))) fun x hx => .inr ?_
 have := rtK_has (show (rtK g rt vt).has x from hx)
 exact ⟨this.1, by omega⟩
theorem gdE_den {env : List D} (hΓ : EnvTy tb.tab Γ env) : ∀ (gs : Gd), gs.all (fun x => isC .bool (x.1.inf tb.tab Γ)) = true → (((gdE gs).den env).toB = true ↔ gsH env gs)
 | [], _ => by simp [gdE, E.den, gsH]
 | (c, b) :: r, h => by
  simp only [List.all_cons, Bool.and_eq_true] at h
  have ih := gdE_den hΓ r h.2
  have hc : c.inf tb.tab Γ = some (.one (.c .bool)) := by simpa [isC] using h.1
  obtain ⟨x, hx⟩ : ∃ x, c.den env = .bool x := hasTy_bool (E.inf_ok hΓ c _ hc)
  have e : gsH env ((c, b) :: r) ↔ c.den env = .bool b ∧ gsH env r := by simp [gsH]
  rw [e, ← ih, hx]
  cases b <;> simp [gdE, E.den, hx]
theorem relCs_mixL {M : Addr → Prop} {g : E} (hg : (g.den c.env).toB = true) : ∀ {xs ys : List (K × E)} {vs : List Value}, xs.length = ys.length → relCs w M tm c.env xs vs → relCs w M tm c.env (mixB g xs ys) vs
 | [], [], _, _, h => h
 | x :: r, y :: q, vs, hl, ⟨v, z, e, h1, h2⟩ => ⟨v, z, e, by simp only [relK, E.den, hg, cond_true]; exact h1.rd, relCs_mixL hg (by simpa using hl) h2⟩
 | [], _ :: _, _, hl, _ => by simp at hl
 | _ :: _, [], _, hl, _ => by simp at hl
theorem relCs_mixR {M : Addr → Prop} {g : E} (hg : (g.den c.env).toB = false) : ∀ {xs ys : List (K × E)} {vs : List Value}, xs.length = ys.length → relCs w M tm c.env ys vs → relCs w M tm c.env (mixB g xs ys) vs
 | [], [], _, _, h => h
 | x :: r, y :: q, vs, hl, ⟨v, z, e, h1, h2⟩ => ⟨v, z, e, by simp only [relK, E.den, hg, cond_false]; exact h1.rd, relCs_mixR hg (by simpa using hl) h2⟩
 | [], _ :: _, _, hl, _ => by simp at hl
 | _ :: _, [], _, hl, _ => by simp at hl
theorem mixB_d (g : E) : ∀ (xs ys : List (K × E)) (q : Nat), ¬ ∃ z ∈ mixB g xs ys, z.1.has q
 | [], _, _, ⟨z, hz, _⟩ => by simp [mixB] at hz
 | _ :: _, [], _, ⟨z, hz, _⟩ => by simp [mixB] at hz
 | x :: r, y :: p, q, ⟨z, hz, hq⟩ => by
  simp only [mixB, List.mem_cons] at hz
  rcases hz with rfl | hz
  ·cases hq
  ·exact mixB_d g r p q ⟨z, hz, hq⟩
theorem infC_len : ∀ {cs : List (K × E)} {nb : List CT}, infC tb.tab Γ cs = some nb → nb.length = cs.length
 | [], nb, h => by simp [infC] at h; subst h; rfl
 | (k, e) :: r, nb, h => by
  unfold infC at h
  split at h
  ·rename_i t ts h1 h2
   simp only [Option.some.injEq] at h; subst h
   simp [infC_len h2]
  ·simp at h
theorem vars_len : ∀ (nb : List CT) (m : Nat), (vars m nb).length = nb.length
 | [], _ => rfl
 | _ :: r, m => by simp [vars, vars_len r (m + 1)]
theorem MM_box {id : Nat} {cs cs' : List (K × E)} (hbox : σ (3 * id + 1) = .box cs) {M0 : Addr → Prop} : MM M0 bm tm (upd σ (3 * id + 1) (.box cs')) = MM M0 bm tm σ := by
 funext p
 simp only [MM, upd_b_live]
 apply propext
 constructor
 ·rintro (h | ⟨i, q, q1, q2⟩ | h)
  ·exact .inl h
  ·by_cases e : i = id
   ·subst e; exact .inr (.inl ⟨i, cs, hbox, q2⟩)
   ·rw [upd_b_box _ e] at q1; exact .inr (.inl ⟨i, q, q1, q2⟩)
  ·exact .inr (.inr h)
 ·rintro (h | ⟨i, q, q1, q2⟩ | h)
  ·exact .inl h
  ·by_cases e : i = id
   ·subst e; exact .inr (.inl ⟨i, _, upd_same _ _ _, q2⟩)
   ·exact .inr (.inl ⟨i, q, by rw [upd_b_box _ e]; exact q1, q2⟩)
  ·exact .inr (.inr h)
theorem sCallG (hs : Sim c F σ bm tm a w) (hΓ : EnvTy tb.tab Γ c.env) {g : Nat} {o : Oper} {cl : Call} {f : FuncId} {ti : TI} {rt : List (Nat × Nat)} (ho : o.op = .call cl) (hcl : cl.callee = .value (.func f)) (hd : ∀ d, o.dst = some d → d < c.nt)
  {x : Operand} {xs : List Operand} {T : Nat} {Ts : List Nat} (hxs : cl.args.toList = x :: xs) {g' : Gd} {id : Nat} (hp : isPtr (opd tb σ T x) = some (g', id)) {eff : Eff}
  (h : eCallG tb Γ gs o.dst σ rt ti f xs Ts g' id = some eff) : OpOk P c F σ bm tm a w g gs Γ.length o eff := by
 unfold eCallG at h
 split at h
 ·rename_i cs es hbox hes
  split at h
  ·rename_i nb hnb
   split at h
   ·rename_i hc
    obtain ⟨hrt, hgi, hall⟩ := hc
    simp only [Option.some.injEq] at h; subst h
    have hlen : (vars (Γ.length + 1) nb).length = cs.length := by rw [vars_len, infC_len hnb]
    have hgd := gdE_den hΓ gs hall
    have hptr : gsH c.env gs → a.eval x = .pointer (some ⟨bm id, 0, none⟩) := fun hg => by
     unfold isPtr at hp
     split at hp
     ·rename_i g2 id2 hst
      simp only [Option.some.injEq, Prod.mk.injEq] at hp
      obtain ⟨rfl, rfl⟩ := hp
      exact (opd_rel hs hst).1.1 (gsH_sub hgi hg)
     ·simp at hp
    obtain ⟨vs, T0, hblk, hrel, hBX⟩ := hs.box id cs hbox
    have hfr : ∀ w', Fr w.heap.size (some (bm id)) w w' → Fr c.B c.X w w' := fun w' h2 => ⟨h2.os, h2.tape, h2.output, h2.size, fun k hk hx => h2.block k (Nat.lt_of_lt_of_le hk hs.hB) (by
     rintro ⟨rfl⟩
     rcases hBX with hBX | hBX
     ·omega
     ·exact hx hBX.2.symm)⟩
    refine ⟨fun hg hr K Q hK => ?_, fun hn => ?_⟩
    ·have e : (Value.pointer (some ⟨bm id, 0, none⟩) :: xs.map a.eval).toArray = cl.args.map a.eval := by
      rw [← Array.toList_inj]; simp [hxs, hptr hg]
     have hargs := args_rel hs hg _ _ _ hes
     have hrq : RqH P c.env Γ.length (.call gs f (some (cs.map (·.2))) es ti.vt nb) := hr _ (by simp)
     obtain ⟨hf, hrun⟩ := hrq hg
     unfold Oper.wp
     rw [run_call hf ho hcl]
     simp only [Oper.upon]
     have := hrun w (MM c.M0 bm tm σ) (bm id) (xs.map a.eval) hs.rdy hargs (fun cs' h' => by
      simp only [Option.map_some, Option.some.injEq] at h'
      subst h'
      exact ⟨vs, T0, hblk, hrel.rs, hBX.elim (fun h => Nat.le_trans hs.m0.2.2.1 h) (fun h => hs.m0.2.2.2 _ h.2), fun p hp => .inr (.inl ⟨id, cs, hbox, hp⟩)⟩)
     simp only [Option.map_some] at this
     rw [e] at this
     refine this.mono ?_
     rintro e' w' ⟨v, rfl, h1, h2, h3⟩
     obtain ⟨us, T1, hu1, hu2⟩ := h3 rfl
     have hsb := hs.setBox (cs' := mixB (gdE gs) (vars (Γ.length + 1) nb) cs) hbox (hfr w' h2) (fun k hk hne => h2.block k hk (by simpa using hne)) (fun M' hM' hk => by
      subst hM'
      exact ⟨us, T1, hu1, relCs_mixL (hgd.2 hg) hlen (relCs_vars nb _ us hu2), hBX⟩) fun q hq => absurd hq (mixB_d _ _ _ _)
     refine hK bm tm _ _ ?_
     rw [updL_wv_box]
     refine Sim.mono (F := F) (hsb.putO hd ⟨fun _ => ?_, fun h => absurd hg h⟩ fun x hx => by simp [men, Go.Proofs.YtimickglpboilaaGreat.K.has] at hx) fun x hx => .inl hx
     rw [MM_box hbox]
     simpa [relK, E.den] using h1
    ·have hb : ((gdE gs).den c.env).toB = false := by
      cases hq : ((gdE gs).den c.env).toB with
      | false => rfl
      | true => exact absurd (hgd.1 hq) hn
     have hsb := hs.setBox (cs' := mixB (gdE gs) (vars (Γ.length + 1) nb) cs) hbox ⟨rfl, rfl, rfl, Nat.le_refl _, fun _ _ _ => rfl⟩ (fun k hk hne => rfl) (fun M' hM' hk => by
      subst hM'
      exact ⟨vs, T0, hblk, relCs_mixR hb hlen hrel, hBX⟩) fun q hq => absurd hq (mixB_d _ _ _ _)
     rw [updL_wv_box]
     exact Sim.mono (F := F) (hsb.putO hd (relT_undef rfl hn) fun x hx => by simp [men, Go.Proofs.YtimickglpboilaaGreat.K.has] at hx) fun x hx => .inl hx
   ·simp at h
  ·simp at h
 ·simp at h
theorem sCall (hs : Sim c F σ bm tm a w) (hΓ : EnvTy tb.tab Γ c.env) {g n : Nat} (hgF : ∀ x, NewT g x → ¬ F x) {o : Oper} {cl : Call} {f : FuncId} {ti : TI} {rt : List (Nat × Nat)} (ho : o.op = .call cl) (hcl : cl.callee = .value (.func f)) (hd : ∀ d, o.dst = some d → d < c.nt) (hn : n = Γ.length) {eff : Eff}
  (h : eCall tb Γ gs o.dst σ g rt ti f cl.args.toList cl.argTypes.toList = some eff) : OpOk P c F σ bm tm a w g gs n o eff := by
 subst hn
 unfold eCall at h
 split at h
 ·rename_i x xs T Ts hxs hTs
  split at h
  ·rename_i g' id hp
   split at h
   ·rename_i cs es hbox hes
    split at h
    ·rename_i nb hnb
     have hptr : a.eval x = .pointer (some ⟨bm id, 0, none⟩) := by
      unfold isPtr at hp
      split at hp
      ·rename_i g2 id2 hst
       simp only [Option.some.injEq, Prod.mk.injEq] at hp
       obtain ⟨rfl, rfl⟩ := hp
       exact (opd_rel hs hst).1.1 (gsH_nil _)
      ·simp at hp
     obtain ⟨vs, T0, hblk, hrel, hBX⟩ := hs.box id cs hbox
     have hid : bm id < w.heap.size := (hs.box id cs hbox).lt
     have hfr : ∀ w', Fr w.heap.size (some (bm id)) w w' → Fr c.B c.X w w' := fun w' h2 => ⟨h2.os, h2.tape, h2.output, h2.size, fun k hk hx => h2.block k (Nat.lt_of_lt_of_le hk hs.hB) (by
      rintro ⟨rfl⟩
      rcases hBX with hBX | hBX
      ·omega
      ·exact hx hBX.2.symm)⟩
     have hargs := args_rel hs (gsH_nil _) _ _ _ hes
     have e : (Value.pointer (some ⟨bm id, 0, none⟩) :: xs.map a.eval).toArray = cl.args.map a.eval := by
      rw [← Array.toList_inj]; simp [hxs, hptr]
     split at h
     ·simp only [Option.some.injEq] at h; subst h
      refine ⟨fun hg hr K Q hK => ?_, fun hn => absurd (gsH_nil _) hn⟩
      have hrq : RqH P c.env Γ.length (.call [] f (some (cs.map (·.2))) es ti.vt nb) := hr _ (by simp)
      obtain ⟨hf, hrun⟩ := hrq hg
      unfold Oper.wp
      rw [run_call hf ho hcl]
      simp only [Oper.upon]
      have := hrun w (MM c.M0 bm tm σ) (bm id) (xs.map a.eval) hs.rdy hargs (fun cs' h' => by
       simp only [Option.map_some, Option.some.injEq] at h'
       subst h'
       exact ⟨vs, T0, hblk, hrel.rs, hBX.elim (fun h => Nat.le_trans hs.m0.2.2.1 h) (fun h => hs.m0.2.2.2 _ h.2), fun p hp => .inr (.inl ⟨id, cs, hbox, hp⟩)⟩)
      simp only [Option.map_some] at this
      rw [e] at this
      refine this.mono ?_
      rintro e' w' ⟨v, rfl, h1, h2, h3⟩
      obtain ⟨us, T1, hu1, hu2⟩ := h3 rfl
      have hsb := hs.setBox (cs' := vars (Γ.length + 1) nb) hbox (hfr w' h2) (fun k hk hne => h2.block k hk (by simpa using hne)) (fun M' hM' hk => by
       subst hM'
       exact ⟨us, T1, hu1, relCs_vars nb _ us hu2, hBX⟩) fun q hq => absurd hq (vars_d _ _ _)
      refine hK bm tm _ _ ?_
      rw [updL_wv_box]
      refine Sim.mono (F := F) (hsb.putO hd (relT_v (gsH_nil _) ?_) fun x hx => by simp [men, Go.Proofs.YtimickglpboilaaGreat.K.has] at hx) fun x hx => .inl hx
      have hM : MM c.M0 bm tm (upd σ (3 * id + 1) (.box (vars (Γ.length + 1) nb))) = MM c.M0 bm tm σ := by
       funext p
       simp only [MM, upd_b_live]
       apply propext
       constructor
       ·rintro (h | ⟨i, q, q1, q2⟩ | h)
        ·exact .inl h
        ·by_cases e : i = id
         ·subst e; exact .inr (.inl ⟨i, cs, hbox, q2⟩)
         ·rw [upd_b_box _ e] at q1; exact .inr (.inl ⟨i, q, q1, q2⟩)
        ·exact .inr (.inr h)
       ·rintro (h | ⟨i, q, q1, q2⟩ | h)
        ·exact .inl h
        ·by_cases e : i = id
         ·subst e; exact .inr (.inl ⟨i, _, upd_same _ _ _, q2⟩)
         ·exact .inr (.inl ⟨i, q, by rw [upd_b_box _ e]; exact q1, q2⟩)
        ·exact .inr (.inr h)
      rw [hM]
      simpa [relK, E.den] using h1
     ·split at h
      ·rename_i hl
       simp only [Option.some.injEq] at h; subst h
       refine ⟨fun hg hr K Q hK => ?_, fun hn => absurd (gsH_nil _) hn⟩
       have hrq : RqH P c.env Γ.length (.callR f (some (cs.map (·.2))) es ti.vt nb rt) := hr _ (by simp)
       obtain ⟨hsh, hf, hrun⟩ := hrq
       unfold Oper.wp
       rw [run_call hf ho hcl]
       simp only [Oper.upon]
       have := hrun w (MM c.M0 bm tm σ) (bm id) (xs.map a.eval) hs.rdy hargs (fun cs' h' => by
        simp only [Option.map_some, Option.some.injEq] at h'
        subst h'
        exact ⟨vs, T0, hblk, hrel.rs, hBX.elim (fun h => Nat.le_trans hs.m0.2.2.1 h) (fun h => hs.m0.2.2.2 _ h.2), fun p hp => .inr (.inl ⟨id, cs, hbox, hp⟩)⟩)
       simp only [Option.map_some] at this
       rw [e] at this
       refine this.mono ?_
       rintro e' w' ⟨v, rfl, h1, h2, h4, h3⟩
       obtain ⟨us, T1, hu1, hu2⟩ := h3 rfl
       obtain ⟨hS, hMM⟩ := hs.rights hgF hl h4 (some id) (cs' := vars (Γ.length + 1) nb) (fun i h => by simp at h; subst h; exact ⟨cs, hbox⟩) (hfr w' h2) (fun k hk hne => h2.block k hk (by simpa using hne id rfl))
        (fun i M' tm' h hM' => by
         simp at h; subst h
         exact ⟨us, T1, hu1, relCs_vars nb _ us (Rs.keep (fun p u hp hn => ⟨hp, fun h => hn (hM' p h)⟩) _ _ hu2), hBX⟩) (fun x => vars_d _ _ x)
       refine hK bm (tmR tm g v rt) _ w' ?_
       have hnt : ∀ p ∈ ((3 * id + 1, ST.box (vars (Γ.length + 1) nb)) :: rtLive g rt), ∀ d, p.1 ≠ 3 * d := fun p hp d => by
        rcases List.mem_cons.1 hp with rfl | hp
        ·show 3 * id + 1 ≠ 3 * d; omega
        ·exact rtLive_nt p hp d
       rw [updL_ups hnt]
       show Sim _ _ (updL (updL (boxO σ (vars (Γ.length + 1) nb) (some id)) (rtLive g rt)) _) _ _ _ _
       have hk : Keeps w' (fun p => MM c.M0 bm tm σ p ∨ RtM v rt p) w' (MM c.M0 bm (tmR tm g v rt) (updL (boxO σ (vars (Γ.length + 1) nb) (some id)) (rtLive g rt))) := fun p u hp hn => ⟨hp, fun h => hn (hMM p h)⟩
       refine hS.putO hd (relT_v (gsH_nil _) (rtK_ok (vt := ti.vt) (e := .var Γ.length) hsh (R.keep hk _ _ h1))) fun x hx => .inr ?_
       have := rtK_has (show (rtK g rt ti.vt).has x from hx)
       exact ⟨this.1, by omega⟩
      ·simp at h
    ·simp at h
   ·exact sCallG hs hΓ ho hcl hd hxs hp h
  ·split at h
   ·rename_i es hes
    split at h
    ·rename_i hc
     simp only [Option.some.injEq] at h; subst h
     obtain ⟨rfl, _, hl⟩ := hc
     exact ⟨fun hg hr K Q hK => sCallR hs hgF ho hcl hd hl hes (hr _ (by simp)) K Q hK, fun hn => absurd (gsH_nil _) hn⟩
    ·simp only [Option.some.injEq] at h; subst h
     refine ⟨fun hg hr K Q hK => sCall_args (vt := ti.vt) hs hg ho hcl hd hes (hr _ (by simp)) K Q hK, fun hg => ?_⟩
     exact Sim.mono (F := F) (hs.putO hd (relT_undef rfl hg) fun x hx => by simp [men, Go.Proofs.YtimickglpboilaaGreat.K.has] at hx) fun x hx => .inl hx
   ·simp at h
 ·rename_i hxs hTs
  simp only [Option.some.injEq] at h; subst h
  refine ⟨fun hg hr K Q hK => sCall_args (vt := ti.vt) (es := []) (Ts := []) hs hg ho hcl hd (by rw [hxs]; exact (rfl : eArgs tb Γ gs σ [] [] = some [])) (hr _ (by simp)) K Q hK, fun hg => ?_⟩
  exact Sim.mono (F := F) (hs.putO hd (relT_undef rfl hg) fun x hx => by simp [men, Go.Proofs.YtimickglpboilaaGreat.K.has] at hx) fun x hx => .inl hx
 ·simp at h
theorem run_callV {f : FuncId} (hf : callable P f = true) {o : Oper} {cl : Call} {t : Nat} {ps : Array Value} (ho : o.op = .call cl) (hcl : cl.callee = .value (.tmp t)) (hv : a.eval (.tmp t) = .func (.func f) #[] ps) : (execOp a.eval o).run P w = .ok (.enter f (cl.args.map a.eval ++ ps)) w := by
 unfold callable at hf
 split at hf
 ·rename_i fn hfn
  simp only [Bool.and_eq_true, Bool.not_eq_true'] at hf
  obtain ⟨h1, h2⟩ := hf
  obtain ⟨b, hb⟩ := Option.isSome_iff_exists.1 h2
  have h1' : (fn.name = "runtime.NumGoroutine") = False := by
   apply eq_false
   intro e
   rw [e] at h1
   exact absurd h1 (by decide)
  simp [execOp, ho, resolve, hcl, hv, Deferred.ofValue, invoke, callFunc, hfn, hb, h1']
 ·simp at hf
theorem sCallV (hs : Sim c F σ bm tm a w) (hΓ : EnvTy tb.tab Γ c.env) {g n : Nat} {o : Oper} {cl : Call} {t : Nat} {ti : TI} (ho : o.op = .call cl) (hcl : cl.callee = .value (.tmp t)) (hd : ∀ d, o.dst = some d → d < c.nt) (hn : n = Γ.length) {eff : Eff}
  (h : eCallV tb Γ gs o.dst σ ti (opd tb σ 0 (.tmp t)) cl.args.toList cl.argTypes.toList = some eff) : OpOk P c F σ bm tm a w g gs n o eff := by
 subst hn
 unfold eCallV at h
 split at h
 ·rename_i k e es hx hes
  split at h
  ·simp only [Option.some.injEq] at h; subst h
   refine ⟨fun hg hr K Q hK => ?_, fun hg => ?_⟩
   ·have hrq : RqH P c.env Γ.length (.callV gs e es ti.vt) := hr _ (by simp)
    obtain ⟨f, caps, hfe, hf, hrun⟩ := hrq hg
    have hv := ((val_rel hs hx).1 hg).rd
    rw [hfe] at hv
    obtain ⟨ps, hps, hrp⟩ := hv
    have hargs := args_rel hs hg _ _ _ hes
    unfold Oper.wp
    rw [run_callV hf ho hcl hps]
    simp only [Oper.upon]
    have := hrun w (MM c.M0 bm tm σ) (cl.args.toList.map a.eval) ps.toList hs.rdy hargs hrp
    have e1 : (cl.args.toList.map a.eval ++ ps.toList).toArray = cl.args.map a.eval ++ ps := by rw [← Array.toList_inj]; simp
    rw [e1] at this
    refine this.mono ?_
    rintro e' w' ⟨v, rfl, h1, h2⟩
    exact hK bm tm _ _ (((hs.grow h2).putO hd (relT_v (k := .d) (e := .var Γ.length) hg h1) fun x hx => by simp [men, Go.Proofs.YtimickglpboilaaGreat.K.has] at hx).mono fun x hx => .inl hx)
   ·exact Sim.mono (F := F) (hs.putO hd (relT_undef rfl hg) fun x hx => by simp [men, Go.Proofs.YtimickglpboilaaGreat.K.has] at hx) fun x hx => .inl hx
  ·simp at h
 ·simp at h
theorem MM_dropBox {id : Nat} {p : Addr} (h : MM c.M0 bm tm (upd σ (3 * id + 1) .un) p) : MM c.M0 bm tm σ p := by
 rcases h with h | ⟨i, q, h1, h2⟩ | ⟨x, m, h1, h2⟩
 ·exact .inl h
 ·by_cases e : i = id
  ·subst e; rw [upd_same] at h1; cases h1
  ·rw [upd_b_box _ e] at h1; exact .inr (.inl ⟨i, q, h1, h2⟩)
 ·rw [upd_b_live] at h1; exact .inr (.inr ⟨x, m, h1, h2⟩)
theorem Sim.dropBox (hs : Sim c F σ bm tm a w) {id : Nat} {cs : List (K × E)} (hid : σ (3 * id + 1) = .box cs) (h0 : id ≠ 0) :
  Sim c F (upd σ (3 * id + 1) .un) bm tm a w ∧ Rw w (MM c.M0 bm tm (upd σ (3 * id + 1) .un)) ((cs.map (·.2)).map (·.den c.env)) (bm id) 0 := by
 have hk : Keeps w (MM c.M0 bm tm σ) w (MM c.M0 bm tm (upd σ (3 * id + 1) .un)) := fun p v hp hn => ⟨hp, fun h => hn (MM_dropBox h)⟩
 have hbx : ∀ i q, upd σ (3 * id + 1) .un (3 * i + 1) = .box q → i ≠ id ∧ σ (3 * i + 1) = .box q := fun i q h => by
  by_cases e : i = id
  ·subst e; rw [upd_same] at h; cases h
  ·rw [upd_b_box _ e] at h; exact ⟨e, h⟩
 refine ⟨hs.turn (fun t => upd_b_t _ _ _) (fun _ _ => ⟨rfl, rfl⟩) (fun _ h => h) (Fr.refl _ _ _) hk (fun i q h => ?_) (fun g n h => ?_) (fun i i' q q' h h' hne => ?_) (fun i q g n b h hg hb => ?_) (fun g n g' n' b b' h h' hne hb hb' => ?_) (fun l g h => ?_) (fun i q h => ?_) (fun g n h => ?_), ?_⟩
 ·exact (hs.box i q (hbx i q h).2).keep hk rfl rfl fun _ _ => rfl
 ·rw [upd_b_live] at h; exact hs.live g n h
 ·exact hs.dbb _ _ _ _ (hbx i q h).2 (hbx i' q' h').2 hne
 ·rw [upd_b_live] at hg; exact hs.dbl _ _ _ _ _ (hbx i q h).2 hg hb
 ·rw [upd_b_live] at h h'; exact hs.dll _ _ _ _ _ _ h h' hne hb hb'
 ·by_cases e : l = 3 * id + 1
  ·subst e; rw [upd_same] at h; exact h.elim
  ·rw [upd_ne _ _ e] at h; exact hs.f1 l g h
 ·exact hs.f2 _ _ (hbx i q h).2
 ·rw [upd_b_live] at h; exact hs.f3 g n h
 ·obtain ⟨vs, T, hblk, hrel, hBX⟩ := hs.box id cs hid
  have hB : c.B ≤ bm id := hBX.elim (fun h => h) fun h => absurd h.1 h0
  have hrs := Rs.keep hk _ _ hrel.rs
  refine Rw.of fun i d hd => ?_
  obtain ⟨v, hv, hr⟩ := hrs.get hd
  refine ⟨v, ?_, ?_, hr⟩
  ·rw [Nat.zero_add, cell_of_row w _ i _ T _ hblk]; simpa using hv
  ·rintro (h | ⟨j, q, h1, h2⟩ | ⟨x, m, h1, h2⟩)
   ·have := hs.m0.1 _ h; simp only at this; omega
   ·obtain ⟨q1, q2⟩ := hbx j q h1
    exact hs.dbb _ _ _ _ hid q2 (Ne.symm q1) h2
   ·rw [upd_b_live] at h1
    exact hs.dbl id cs x m _ hid h1 (ownA_blk h2) rfl
theorem dropB_get : ∀ {ids : List Nat} {σ : Nat → ST} {l : Nat}, (∀ id ∈ ids, l ≠ 3 * id + 1) → updL σ (dropB ids) l = σ l
 | [], _, _, _ => rfl
 | id :: r, σ, l, h => by
  show updL (upd σ (3 * id + 1) .un) (dropB r) l = _
  rw [dropB_get fun i hi => h i (by simp [hi]), upd_ne _ _ (h id (by simp))]
theorem dropB_in : ∀ {ids : List Nat} {σ : Nat → ST} {l : Nat}, (∃ id ∈ ids, l = 3 * id + 1) → updL σ (dropB ids) l = .un
 | [], _, _, h => by simp at h
 | id :: r, σ, l, h => by
  show updL (upd σ (3 * id + 1) .un) (dropB r) l = _
  by_cases hr : ∃ id ∈ r, l = 3 * id + 1
  ·exact dropB_in hr
  ·rw [dropB_get fun i hi e => hr ⟨i, hi, e⟩]
   obtain ⟨i, hi, e⟩ := h
   rcases List.mem_cons.1 hi with rfl | hi
   ·subst e; exact upd_same _ _ _
   ·exact absurd ⟨i, hi, e⟩ hr
theorem dropB_cons {id : Nat} {ids : List Nat} : updL σ (dropB (id :: ids)) = upd (updL σ (dropB ids)) (3 * id + 1) .un := by
 funext l
 by_cases h : ∃ i ∈ id :: ids, l = 3 * i + 1
 ·rw [dropB_in h]
  simp only [upd]
  split
  ·rfl
  ·rename_i e
   obtain ⟨i, hi, rfl⟩ := h
   rcases List.mem_cons.1 hi with rfl | hi
   ·exact absurd rfl e
   ·rw [dropB_in ⟨i, hi, rfl⟩]
 ·rw [dropB_get fun i hi e => h ⟨i, hi, e⟩, upd_ne _ _ (fun e => h ⟨id, by simp, e⟩), dropB_get fun i hi e => h ⟨i, by simp [hi], e⟩]
theorem caps_sound (hΓ : EnvTy tb.tab Γ c.env) {f : FuncId} : ∀ (xs : List Operand) (ids : List Nat) (e : E) (ids' : List Nat) (e' : E) (vs : List Value), eCaps tb.tab Γ σ xs ids e = some (e', ids') → Sim c F (updL σ (dropB ids)) bm tm a w →
  R w (MM c.M0 bm tm (updL σ (dropB ids))) (e.den c.env) (.func (.func f) #[] vs.toArray) → Sim c F (updL σ (dropB ids')) bm tm a w ∧ R w (MM c.M0 bm tm (updL σ (dropB ids'))) (e'.den c.env) (.func (.func f) #[] (vs ++ xs.map a.eval).toArray)
 | [], ids, e, ids', e', vs, h, hs, hr => by
  simp only [eCaps, Option.some.injEq, Prod.mk.injEq] at h
  obtain ⟨rfl, rfl⟩ := h
  simpa using ⟨hs, hr⟩
 | x :: xs, ids, e, ids', e', vs, h, hs, hr => by
  cases x with
  | tmp t =>
   simp only [eCaps] at h
   split at h
   ·rename_i id hp
    split at h
    ·rename_i cs hb
     split at h
     ·rename_i hc
      obtain ⟨hc0, hcn⟩ := hc
      have hcn' : id ∉ ids := fun hm => by
       have : ids.contains id = true := by simpa using hm
       rw [this] at hcn; simp at hcn
      have hid : updL σ (dropB ids) (3 * id + 1) = .box cs := by rw [dropB_get fun i hi e => hcn' (by rw [show id = i by omega]; exact hi)]; exact hb
      obtain ⟨h1, h2⟩ := hs.dropBox hid hc0
      rw [← dropB_cons] at h1 h2
      have hk : Keeps w (MM c.M0 bm tm (updL σ (dropB ids))) w (MM c.M0 bm tm (updL σ (dropB (id :: ids)))) := fun p v hp hn => ⟨hp, fun h => hn (by rw [dropB_cons] at h; exact MM_dropBox h)⟩
      have hpt : a.eval (.tmp t) = .pointer (some ⟨bm id, 0, none⟩) := by
       have := hs.tmps t
       rw [dropB_get fun i _ => by omega, hp] at this
       exact this.1 (gsH_nil _)
      have hr' := R.keep hk _ _ hr
      refine (caps_sound (f := f) hΓ xs (id :: ids) _ ids' e' (vs ++ [a.eval (.tmp t)]) h h1 ?_).imp (fun h => h) fun hq => ?_
      ·simp only [E.den, den_pack hΓ]
       revert hr'
       generalize e.den c.env = x
       intro hr'
       cases x with
       | fn f' caps =>
        obtain ⟨ps, hps, hrp⟩ := hr'
        simp only [Value.func.injEq, Fn.func.injEq] at hps
        obtain ⟨rfl, _, rfl⟩ := hps
        refine ⟨_, rfl, ?_⟩
        rw [hpt]
        exact Rps.snoc h2 (by simpa using hrp)
       | bool _ => cases hr'
       | int _ _ => obtain ⟨hr', _⟩ := hr'; cases hr'
       | str _ => obtain ⟨hr', _⟩ := hr'; cases hr'
       | agg _ => obtain ⟨_, hr', _⟩ := hr'; cases hr'
       | tup _ => obtain ⟨_, hr', _⟩ := hr'; cases hr'
       | sl _ => obtain ⟨_, _, _, hr', _⟩ := hr'; cases hr'
       | mem _ => obtain ⟨_, _, hr', _⟩ := hr'; cases hr'
       | un => exact hr'.elim
      ·simpa using hq
     ·simp at h
    ·simp at h
   ·simp at h
  | _ => simp [eCaps] at h
theorem dropB_nt {ids : List Nat} : ∀ p ∈ dropB ids, ∀ d, p.1 ≠ 3 * d := fun p hp d => by
 obtain ⟨id, _, rfl⟩ := List.mem_map.1 hp
 show 3 * id + 1 ≠ 3 * d; omega
theorem sMakeFn (hs : Sim c F σ bm tm a w) (hΓ : EnvTy tb.tab Γ c.env) {g n : Nat} {o : Oper} {f : FuncId} {first caps : Array Operand} (ho : o.op = .makeFunc (.func f) first caps) (hd : ∀ d, o.dst = some d → d < c.nt) {eff : Eff}
  (h : eMakeFn tb.tab Γ gs o.dst σ f first.toList caps.toList = some eff) : OpOk P c F σ bm tm a w g gs n o eff := by
 unfold eMakeFn at h
 split at h
 ·rename_i hfirst
  split at h
  ·rename_i e ids hcap
   split at h
   ·simp only [Option.some.injEq] at h; subst h
    refine ⟨fun hg _ K Q hK => ?_, fun hn => absurd (gsH_nil _) hn⟩
    have hR0 : R w (MM c.M0 bm tm (updL σ (dropB []))) ((E.fn0 f).den c.env) (.func (.func f) #[] ([] : List Value).toArray) := ⟨#[], rfl, rfl⟩
    obtain ⟨h1, h2⟩ := caps_sound hΓ caps.toList [] (.fn0 f) ids e [] hcap hs hR0
    have hrun : (execOp a.eval o).run P w = .ok (.value (.func (.func f) #[] (caps.toList.map a.eval).toArray)) w := by
     have hf : first = #[] := by rw [← Array.toList_inj]; simpa using hfirst
     have hc : (caps.toList.map a.eval).toArray = caps.map a.eval := by rw [← Array.toList_inj]; simp
     rw [hc]
     simp [execOp, ho, hf, Instr.makeFunc]
    unfold Oper.wp; rw [hrun]
    refine hK bm tm _ _ ?_
    rw [updL_ups dropB_nt]
    refine Sim.mono (F := F) (h1.putO hd (relT_v (k := .d) (gsH_nil _) (by simpa [relK] using h2)) fun x hx => by simp [men, Go.Proofs.YtimickglpboilaaGreat.K.has] at hx) fun x hx => .inl hx
   ·simp at h
  ·simp at h
 ·simp at h
end
end Go.Proofs.YtimickglpboilaaGreat
