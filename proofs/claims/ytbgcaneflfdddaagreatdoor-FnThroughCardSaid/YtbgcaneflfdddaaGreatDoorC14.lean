/- Walks by hand over an environment: what the slots hold, as a list; one law an operation. No program in sight. -/
import Derived.Test.YtbgcaneflfdddaaGreatDoorC3
import Derived.Test.YtbgcaneflfdddaaGreatDoorC13
import Derived.Test.YtbgcaneflfdddaaGreatDoorC10
import Derived.Still
import Derived.OrdersHeld
import Derived.NoCompiler
import Derived.Deep.RegionHeld
import Derived.Deep.LoopGhost
import Derived.WalkKit
import Derived.BigQuiet
import Derived.Handy
set_option linter.unusedVariables false
set_option linter.unusedSimpArgs false
set_option linter.unusedSectionVars false
set_option maxRecDepth 100000
namespace Go.Proofs.YtbgcaneflfdddaaGreatDoor
open Go.RowKit Go
variable [GC]
abbrev PQ (b : Nat) : Value := .pointer (some ⟨b, 0, none⟩)
def lk : List (Nat × Value) → Nat → Option Value
 | [], _ => none
 | p :: r, t => bif Nat.beq p.1 t then some p.2 else lk r t
structure Env (n : Nat) (a : Act) (E : List (Nat × Value)) : Prop where
 size : a.tmps.size = n
 df : a.defers = []
 at' : ∀ t v, lk E t = some v → a.tmps.getD t undef = v
def ev (E : List (Nat × Value)) : Operand → Option Value
 | .tmp t => lk E t
 | .const v => some v
 | .global g => some (.pointer (some ⟨g, 0, none⟩))
 | .func f => some (.func (.func f) #[] #[])
theorem Env.ev {n : Nat} {a : Act} {E : List (Nat × Value)} (h : Env n a E) {x : Operand} {v : Value} (e : ev E x = some v) : a.eval x = v := by
 cases x with
 | tmp t => exact h.at' t v e
 | const u => simp [Go.Proofs.YtbgcaneflfdddaaGreatDoor.ev] at e; exact e
 | global g => simp [Go.Proofs.YtbgcaneflfdddaaGreatDoor.ev] at e; exact e
 | func f => simp [Go.Proofs.YtbgcaneflfdddaaGreatDoor.ev] at e; exact e
theorem Env.put {n : Nat} {a : Act} {E : List (Nat × Value)} (h : Env n a E) {d : Nat} (hd : d < n) (v : Value) : Env n (a.put (some d) v) ((d, v) :: E) := by
 refine ⟨by simp [Act.put, h.size], h.df, fun t u e => ?_⟩
 have hs := h.size
 simp only [lk] at e
 simp only [Act.put, Array.getD_eq_getD_getElem?, Array.getElem?_setIfInBounds]
 cases hb : Nat.beq d t with
 | true =>
  have : d = t := Nat.eq_of_beq_eq_true hb
  subst this
  rw [hb] at e; simp at e; subst e
  rw [if_pos rfl, if_pos (by omega)]; rfl
 | false =>
  rw [hb] at e; simp at e
  have hne : ¬ d = t := fun x => by subst x; simp at hb
  rw [if_neg hne]
  have := h.at' t u e
  rw [Array.getD_eq_getD_getElem?] at this
  exact this
def allLk (E : List (Nat × Value)) : List (Nat × Value) → Prop
 | [] => True
 | p :: r => lk E p.1 = some p.2 ∧ allLk E r
theorem allLk.get {E : List (Nat × Value)} : ∀ {E' : List (Nat × Value)}, allLk E E' → ∀ {t : Nat} {v : Value}, lk E' t = some v → lk E t = some v
 | [], _, t, v, h => by simp [lk] at h
 | p :: r, ⟨h1, h2⟩, t, v, h => by
  simp only [lk] at h
  cases hb : Nat.beq p.1 t with
  | true =>
   have : p.1 = t := Nat.eq_of_beq_eq_true hb
   subst this
   rw [hb] at h; simp at h; subst h; exact h1
  | false => rw [hb] at h; simp at h; exact h2.get h
theorem Env.sub {n : Nat} {a : Act} {E E' : List (Nat × Value)} (h : Env n a E) (hs : allLk E E') : Env n a E' := ⟨h.size, h.df, fun t v e => h.at' t v (hs.get e)⟩
theorem Env.of {n : Nat} {a : Act} {E : List (Nat × Value)} (h : a.tmps.size = n) (hd : a.defers = []) (hs : ∀ p ∈ E, a.tmps.getD p.1 undef = p.2) : Env n a E := by
 refine ⟨h, hd, fun t v e => ?_⟩
 induction E with
 | nil => simp [lk] at e
 | cons p r ih =>
  simp only [lk] at e
  cases hb : Nat.beq p.1 t with
  | true =>
   have : p.1 = t := Nat.eq_of_beq_eq_true hb
   subst this
   rw [hb] at e; simp at e; subst e
   exact hs p (by simp)
  | false => rw [hb] at e; simp at e; exact ih (fun q hq => hs q (by simp [hq])) e
section
variable {n : Nat} {P : Program} {ops : Array Oper} {Q : Exit → Act → World → Prop} {E : List (Nat × Value)} {w w' : World}
def NX (n : Nat) (K : Act → World → Prop) (E : List (Nat × Value)) (w : World) : Prop := ∀ a, Env n a E → K a w
def WL (n : Nat) (P : Program) (ops : Array Oper) (Q : Exit → Act → World → Prop) (l : List Oper) (E : List (Nat × Value)) (w : World) : Prop := ∀ a, Env n a E → wpList P ops Q l a w
def CW (n : Nat) (P : Program) (c : Code) (Q : Exit → Act → World → Prop) (E : List (Nat × Value)) (w : World) : Prop := ∀ a, Env n a E → c.wp P Q a w
theorem CW.seq {x y : Code} (h : CW n P x (Exit.then (y.wp P Q) Q) E w) : CW n P (.seq x y) Q E w := fun a hE => wp_seq (h a hE)
theorem CW.region {id : Nat} {l : List Oper} (h : WL n P l.toArray Q l E w) : CW n P (.region id l.toArray false) Q E w := fun a hE => wp_region_lit (h a hE)
theorem CW.skip (h : NX n (Q .normal) E w) : CW n P .skip Q E w := fun a hE => wp_skip (h a hE)
theorem CW.ret (h : NX n (Q .ret) E w) : CW n P .ret Q E w := fun a hE => wp_ret (h a hE)
theorem CW.exit {id : Nat} (h : NX n (Q (.exit id)) E w) : CW n P (.exit id) Q E w := fun a hE => wp_exit (h a hE)
theorem CW.block {id : Nat} {c : Code} (h : CW n P c (Exit.inBlock id Q) E w) : CW n P (.block id c) Q E w := fun a hE => wp_block (h a hE)
theorem CW.yes {c : Operand} {x y : Code} (hc : ev E c = some (.bool true)) (h : CW n P x Q E w) : CW n P (.cond c x y) Q E w := fun a hE => wp_cond_true (hE.ev hc) (h a hE)
theorem CW.no {c : Operand} {x y : Code} (hc : ev E c = some (.bool false)) (h : CW n P y Q E w) : CW n P (.cond c x y) Q E w := fun a hE => wp_cond_false (hE.ev hc) (h a hE)
theorem CW.sub {c : Code} {E' : List (Nat × Value)} (hs : allLk E E') (h : CW n P c Q E' w) : CW n P c Q E w := fun a hE => h a (hE.sub hs)
theorem WL.nil (h : NX n (Q .normal) E w) : WL n P ops Q [] E w := fun a hE => wpList_nil (h a hE)
theorem NX.next {y : Code} {Q' : Exit → Act → World → Prop} (h : CW n P y Q E w) : NX n (Exit.then (y.wp P Q) Q' .normal) E w := h
theorem NX.ret {K : Act → World → Prop} (h : NX n (Q .ret) E w) : NX n (Exit.then K Q .ret) E w := h
theorem NX.retB {id : Nat} (h : NX n (Q .ret) E w) : NX n (Exit.inBlock id Q .ret) E w := h
theorem NX.norB {id : Nat} (h : NX n (Q .normal) E w) : NX n (Exit.inBlock id Q .normal) E w := h
theorem NX.exi {K : Act → World → Prop} {id : Nat} (h : NX n (Q (.exit id)) E w) : NX n (Exit.then K Q (.exit id)) E w := h
theorem NX.exiB {id : Nat} (h : NX n (Q .normal) E w) : NX n (Exit.inBlock id Q (.exit id)) E w := fun a hE => by
 show if id = id then Q .normal a w else Q (.exit id) a w
 rw [if_pos rfl]; exact h a hE
theorem NX.body1 {fn : Func} {R : Ending → World → Prop} {p : Tmp} {ty : TypeId} {g : Nat} {t : TypeId} {cs : Array Value} {d : TypeDesc} (h : fn.results = #[.cell p ty]) (hp : lk E p = some (.pointer (some ⟨g, 0, none⟩))) (hg : RBlk w g t cs) (hu : P.underlying ty = some d)
  (hd : (match d with | .struct _ | .array _ _ => true | _ => false) = true) (hi : (P.info? ty).map (·.size) = some cs.size) (hR : R (.returned (.agg cs)) w) : NX n (bodyPost P fn R .ret) E w :=
 fun a hE => ⟨hE.df, _, results_blk h a.tmps w d (hE.at' p _ hp) hg hu hd hi, hR⟩
/- Operations. -/
def RunV (n : Nat) (P : Program) (E : List (Nat × Value)) (o : Oper) (w : World) (v : Value) (w' : World) : Prop := ∀ a, Env n a E → (execOp a.eval o).run P w = .ok (.value v) w'
def RunS (n : Nat) (P : Program) (E : List (Nat × Value)) (o : Oper) (w : World) (w' : World) : Prop := ∀ a, Env n a E → (execOp a.eval o).run P w = .ok .skip w'
theorem wanted_none {o : Oper} (hg : o.guard = none) (y : Nat → Option Bool) : Region.wanted o y = true := by simp [Region.wanted, hg]
theorem yielded_of {a : Act} (hE : Env n a E) {j d : Nat} {b : Bool} (hj : (ops[j]?).bind (·.dst) = some d) (hb : lk E d = some (.bool b)) : yielded ops a.tmps j = some b := by
 have h1 := hE.at' d _ hb
 unfold yielded
 rw [hj]
 rw [Array.getD_eq_getD_getElem?] at h1
 cases h2 : a.tmps[d]? with
 | none => rw [h2] at h1; simp [undef] at h1
 | some v => rw [h2] at h1; simp at h1; subst h1; simp [h2]
theorem wanted_yes {o : Oper} {a : Act} (hE : Env n a E) {j d : Nat} {b : Bool} (hg : o.guard = some (j, b)) (hj : (ops[j]?).bind (·.dst) = some d) (hb : lk E d = some (.bool b)) : Region.wanted o (yielded ops a.tmps) = true := by
 simp [Region.wanted, hg, yielded_of hE hj hb]
theorem wanted_no {o : Oper} {a : Act} (hE : Env n a E) {j d : Nat} {b : Bool} (hg : o.guard = some (j, !b)) (hj : (ops[j]?).bind (·.dst) = some d) (hb : lk E d = some (.bool b)) : Region.wanted o (yielded ops a.tmps) = false := by
 cases b <;> simp [Region.wanted, hg, yielded_of hE hj hb]
variable {o : Oper} {rest : List Oper} {v : Value} {d : Nat}
theorem WL.vv (hg : o.guard = none) (hd : o.dst = some d) (hr : RunV n P E o w v w') (hdn : d < n) (h : WL n P ops Q rest ((d, v) :: E) w') : WL n P ops Q (o :: rest) E w := fun a hE =>
 wpList_plain hg fun K hK => by unfold Oper.wp; rw [hr a hE, Oper.upon_value, hd]; exact hK _ _ (h _ (hE.put hdn v))
theorem WL.s (hg : o.guard = none) (hd : o.dst = none) (hr : RunS n P E o w w') (h : WL n P ops Q rest E w') : WL n P ops Q (o :: rest) E w := fun a hE =>
 wpList_plain hg fun K hK => by unfold Oper.wp; rw [hr a hE, Oper.upon_skip, hd]; exact hK _ _ (h _ hE)
theorem WL.vg {j e : Nat} {b : Bool} (hg : o.guard = some (j, b)) (hj : (ops[j]?).bind (·.dst) = some e) (hb : lk E e = some (.bool b)) (hd : o.dst = some d) (hr : RunV n P E o w v w') (hdn : d < n) (h : WL n P ops Q rest ((d, v) :: E) w') : WL n P ops Q (o :: rest) E w := fun a hE =>
 wpList_step fun K hK => by rw [if_pos (wanted_yes hE hg hj hb)]; unfold Oper.wp; rw [hr a hE, Oper.upon_value, hd]; exact hK _ _ (h _ (hE.put hdn v))
theorem WL.no {j e : Nat} {b : Bool} (hg : o.guard = some (j, !b)) (hj : (ops[j]?).bind (·.dst) = some e) (hb : lk E e = some (.bool b)) (hd : o.dst = some d) (hdn : d < n) (h : WL n P ops Q rest ((d, undef) :: E) w) : WL n P ops Q (o :: rest) E w := fun a hE =>
 wpList_step fun K hK => by rw [if_neg (by rw [wanted_no hE hg hj hb]; simp), hd]; exact hK _ _ (h _ (hE.put hdn undef))
def RunC (n : Nat) (P : Program) (E : List (Nat × Value)) (o : Oper) (w : World) (f : FuncId) (args : Array Value) : Prop := ∀ a, Env n a E → (execOp a.eval o).run P w = .ok (.enter f args) w
theorem WL.c {f : FuncId} {args : Array Value} {R : Ending → World → Prop} (hg : o.guard = none) (hd : o.dst = some d) (hr : RunC n P E o w f args) (hdn : d < n) (hC : Calls P f args w R)
  (h : ∀ e w', R e w' → ∃ v, e = .returned v ∧ WL n P ops Q rest ((d, v) :: E) w') : WL n P ops Q (o :: rest) E w := fun a hE =>
 wpList_plain hg fun K hK => by
  unfold Oper.wp
  rw [hr a hE]
  refine hC.mono fun e w' he => ?_
  obtain ⟨v, rfl, hv⟩ := h e w' he
  rw [hd]
  exact hK _ _ (hv _ (hE.put hdn v))
theorem WL.cg {f : FuncId} {args : Array Value} {R : Ending → World → Prop} {j e : Nat} {b : Bool} (hg : o.guard = some (j, b)) (hj : (ops[j]?).bind (·.dst) = some e) (hb : lk E e = some (.bool b)) (hd : o.dst = some d) (hr : RunC n P E o w f args) (hdn : d < n) (hC : Calls P f args w R)
  (h : ∀ e w', R e w' → ∃ v, e = .returned v ∧ WL n P ops Q rest ((d, v) :: E) w') : WL n P ops Q (o :: rest) E w := fun a hE =>
 wpList_step fun K hK => by
  rw [if_pos (wanted_yes hE hg hj hb)]
  unfold Oper.wp
  rw [hr a hE]
  refine hC.mono fun e w' he => ?_
  obtain ⟨v, rfl, hv⟩ := h e w' he
  rw [hd]
  exact hK _ _ (hv _ (hE.put hdn v))
/- What single operations do. -/
theorem r_move {x : Operand} (ho : o.op = .move x) (hx : ev E x = some v) : RunV n P E o w v w := fun a hE => by simp [execOp, ho, hE.ev hx]
theorem r_assign {x : Operand} (ho : o.op = .assign x) (hx : ev E x = some v) : RunV n P E o w v w := fun a hE => by simp [execOp, ho, hE.ev hx]
theorem r_nil {x : Operand} {ad : Addr} (ho : o.op = .nilCheck x) (hx : ev E x = some (.pointer (some ad))) : RunV n P E o w (.pointer (some ad)) w := fun a hE => by simp [execOp, ho, hE.ev hx]
def aggD : TypeDesc → Bool
 | .struct _ | .array _ _ => true
 | _ => false
theorem isAgg_no {T : TypeId} {ds : TypeDesc} (h : P.underlying T = some ds) (hd : aggD ds = false) : (isAgg T).run P w = .ok false w := by
 cases ds <;> simp [aggD] at hd <;> simp [isAgg, run_underlying h]
theorem r_load {T : TypeId} {ds : TypeDesc} {x : Operand} {ad : Addr} (ho : o.op = .load T x) (hx : ev E x = some (.pointer (some ad))) (hT : P.underlying T = some ds) (hd : aggD ds = false) (hc : w.cell? ad = some v) : RunV n P E o w v w := fun a hE => by
 simp [execOp, ho, hE.ev hx, Instr.loadAt, Instr.sureAddr, loadVar, isAgg_no hT hd, hc]
theorem r_loadS {T : TypeId} {ds : TypeDesc} {x : Operand} {b : Nat} {t : TypeId} {cs : Array Value} (ho : o.op = .load T x) (hx : ev E x = some (.pointer (some ⟨b, 0, none⟩))) (hT : P.underlying T = some ds) (hd : (match ds with | .struct _ | .array _ _ => true | _ => false) = true)
  (hb : RBlk w b t cs) (hi : (P.info? T).map (·.size) = some cs.size) : RunV n P E o w (.agg cs) w := fun a hE => by
 simp [execOp, ho, hE.ev hx, Instr.loadAt, Instr.sureAddr, run_loadVar_row w b t T cs (0, 0) ds hb hT hd hi]
def fieldOff (P : Program) (T : TypeId) (f : Nat) : Option Nat := match P.underlying T with
 | some (.struct fs) => match fs[f]? with
  | some fl => match P.info? fl.type with
   | some i => bif Nat.beq i.size 0 then none else some fl.offset
   | none => none
  | none => none
 | _ => none
theorem r_field {T : TypeId} {x : Operand} {f k b c : Nat} (ho : o.op = .fieldAddr T x f) (hx : ev E x = some (.pointer (some ⟨b, c, none⟩))) (hf : fieldOff P T f = some k) : RunV n P E o w (.pointer (some ⟨b, c + k, none⟩)) w := fun a hE => by
 unfold fieldOff at hf
 split at hf
 ·rename_i fs hu
  split at hf
  ·rename_i fl hfl
   split at hf
   ·rename_i i hi
    cases hz : Nat.beq i.size 0 with
    | true => rw [hz] at hf; simp at hf
    | false =>
     rw [hz] at hf; simp at hf; subst hf
     have hne : ¬ i.size = 0 := fun e => by rw [e] at hz; simp at hz
     have hs : (sizeOf fl.type).run P w = .ok i.size w := run_sizeOf hi
     simp [execOp, ho, hE.ev hx, Instr.fieldAt, run_underlying hu, hfl, Instr.sureAddr, fieldPlace, hs, hne, addr_add]
   ·simp at hf
  ·simp at hf
 ·simp at hf
def elemSize (P : Program) (T : TypeId) : Option Nat := match P.underlying T with
 | some (.slice e) => (P.info? e).map (·.size)
 | _ => none
theorem r_index {T : TypeId} {x i : Operand} {m b c len cap : Nat} {k : IntKind} {j : Int} (ho : o.op = .indexAddr T x i) (hx : ev E x = some (.slice (some ⟨b, c, none⟩) len cap)) (hi : ev E i = some (.int k j)) (h0 : 0 ≤ j) (h1 : j < len) (hT : elemSize P T = some m) :
  RunV n P E o w (.pointer (some ⟨b, c + j.toNat * m, none⟩)) w := fun a hE => by
 unfold elemSize at hT
 split at hT
 ·rename_i e hu
  simp only [Option.map_eq_some_iff] at hT
  obtain ⟨inf, hinf, rfl⟩ := hT
  simp [execOp, ho, hE.ev hx, hE.ev hi, Instr.indexAt, asIntOf, run_underlying hu, run_sizeOf hinf, h0, h1, addr_add]
 ·simp at hT
theorem r_eqS {T U : TypeId} {x y : Operand} {s t : ByteArray} (ho : o.op = .binOp .eql T x y U) (hx : ev E x = some (.string s)) (hy : ev E y = some (.string t)) : RunV n P E o w (.bool (cmpS .eql s t)) w := fun a hE => by
 simp [execOp, ho, hE.ev hx, hE.ev hy, eqGuard, binOp, Op.stringOp, cmpS]
theorem r_ar {op : BinOp} {T U : TypeId} {x y : Operand} {k : IntKind} {p q : Int} (ho : o.op = .binOp op T x y U) (hop : isAr op = true) (hx : ev E x = some (.int k p)) (hy : ev E y = some (.int k q)) : RunV n P E o w (.int k (arI op k p q)) w := fun a hE => by
 cases op <;> simp [isAr] at hop <;> simp [execOp, ho, hE.ev hx, hE.ev hy, eqGuard, binOp, Op.intArith, Op.intBits, arI]
theorem r_cmp {op : BinOp} {T U : TypeId} {x y : Operand} {k : IntKind} {p q : Int} (ho : o.op = .binOp op T x y U) (hop : isCmp op = true) (hx : ev E x = some (.int k p)) (hy : ev E y = some (.int k q)) : RunV n P E o w (.bool (cmpI op p q)) w := fun a hE => by
 cases op <;> simp [isCmp] at hop <;> simp [execOp, ho, hE.ev hx, hE.ev hy, eqGuard, binOp, Op.intCmp, cmpI]
theorem r_not {T : TypeId} {x : Operand} {b : Bool} (ho : o.op = .unOp .not T x) (hx : ev E x = some (.bool b)) : RunV n P E o w (.bool (!b)) w := fun a hE => by
 simp [execOp, ho, hE.ev hx, Op.unary]
theorem r_pickT {c x y : Operand} (ho : o.op = .pick c x y) (hc : ev E c = some (.bool true)) (hx : ev E x = some v) : RunV n P E o w v w := fun a hE => by
 simp [execOp, ho, hE.ev hc, hE.ev hx, asBool]
theorem r_pickF {c x y : Operand} (ho : o.op = .pick c x y) (hc : ev E c = some (.bool false)) (hy : ev E y = some v) : RunV n P E o w v w := fun a hE => by
 simp [execOp, ho, hE.ev hc, hE.ev hy, asBool]
theorem r_box {T : TypeId} {x : Operand} (ho : o.op = .box T x) (hx : ev E x = some v) : RunV n P E o w (.pointer (some ⟨w.heap.size, 0, none⟩)) (w.alloc (.cells v.cells T)) := fun a hE => by
 simp [execOp, ho, hE.ev hx, Instr.box, newVar, newRow]
theorem r_alloc {T : TypeId} {z : Value} (ho : o.op = .alloc T) (hz : (P.info? T).bind (·.zero) = some z) : RunV n P E o w (.pointer (some ⟨w.heap.size, 0, none⟩)) (w.alloc (.cells z.cells T)) := fun a hE => by
 simp only [Option.bind_eq_some_iff] at hz
 obtain ⟨i, hi, hz⟩ := hz
 simp [execOp, ho, Instr.alloc, zeroValue, run_typeInfo hi, hz, newVar, newRow]
theorem r_call {cl : Go.Call} {f : FuncId} {args : Array Value} (hf : callable P f = true) (ho : o.op = .call cl) (hcl : cl.callee = .value (.func f)) (ha : cl.args.toList.map (ev E) = args.toList.map some) : RunC n P E o w f args := fun a hE => by
 rw [run_call hf ho hcl]
 have : cl.args.map a.eval = args := by
  rw [← Array.toList_inj, Array.toList_map]
  have key : ∀ (l : List Operand) (m : List Value), l.map (ev E) = m.map some → l.map a.eval = m := by
   intro l
   induction l with
   | nil => intro m h; cases m <;> simp_all
   | cons x r ih =>
    intro m h
    cases m with
    | nil => simp at h
    | cons y q =>
     simp only [List.map_cons, List.cons.injEq] at h ⊢
     exact ⟨hE.ev h.1, ih q h.2⟩
  exact key _ _ ha
 rw [this]
theorem r_callv {cl : Go.Call} {t : Nat} {f : FuncId} {args ps : Array Value} (hf : callable P f = true) (ho : o.op = .call cl) (hcl : cl.callee = .value (.tmp t)) (ht : lk E t = some (.func (.func f) #[] ps)) (ha : cl.args.toList.map (ev E) = args.toList.map some) : RunC n P E o w f (args ++ ps) := fun a hE => by
 rw [run_callV hf ho hcl (hE.at' t _ ht)]
 have : cl.args.map a.eval = args := by
  rw [← Array.toList_inj, Array.toList_map]
  have key : ∀ (l : List Operand) (m : List Value), l.map (ev E) = m.map some → l.map a.eval = m := by
   intro l
   induction l with
   | nil => intro m h; cases m <;> simp_all
   | cons x r ih =>
    intro m h
    cases m with
    | nil => simp at h
    | cons y q =>
     simp only [List.map_cons, List.cons.injEq] at h ⊢
     exact ⟨hE.ev h.1, ih q h.2⟩
  exact key _ _ ha
 rw [this]
theorem r_mkfn {f : FuncId} {caps : Array Operand} {ps : Array Value} (ho : o.op = .makeFunc (.func f) #[] caps) (ha : caps.toList.map (ev E) = ps.toList.map some) : RunV n P E o w (.func (.func f) #[] ps) w := fun a hE => by
 have : caps.map a.eval = ps := by
  rw [← Array.toList_inj, Array.toList_map]
  have key : ∀ (l : List Operand) (m : List Value), l.map (ev E) = m.map some → l.map a.eval = m := by
   intro l
   induction l with
   | nil => intro m h; cases m <;> simp_all
   | cons x r ih =>
    intro m h
    cases m with
    | nil => simp at h
    | cons y q =>
     simp only [List.map_cons, List.cons.injEq] at h ⊢
     exact ⟨hE.ev h.1, ih q h.2⟩
  exact key _ _ ha
 simp [execOp, ho, this, Instr.makeFunc]
theorem r_len {cl : Go.Call} {x : Operand} {a0 : Option Addr} {len cap : Nat} (ho : o.op = .call cl) (hcl : cl.callee = .builtin .len) {T e : TypeId} (ha : cl.args = #[x]) (hat : cl.argTypes = #[T]) (hT : P.underlying T = some (.slice e)) (hx : ev E x = some (.slice a0 len cap)) : RunV n P E o w (.int .i64 len) w := fun a hE => by
 simp [execOp, ho, resolve, hcl, ha, hat, invoke, builtin, Builtin.len_, hE.ev hx, run_underlying hT, goInt]
theorem r_min {cl : Go.Call} {x y : Operand} {k : IntKind} {p q : Int} (ho : o.op = .call cl) (hcl : cl.callee = .builtin .min) (ha : cl.args = #[x, y]) (hx : ev E x = some (.int k p)) (hy : ev E y = some (.int k q)) : RunV n P E o w (.int k (min p q)) w := fun a hE => by
 have e : (if q < p then q else p) = min p q := by split <;> omega
 simp [execOp, ho, resolve, hcl, ha, invoke, builtin, Builtin.min_, Builtin.min2, hE.ev hx, hE.ev hy, e]
theorem r_store {T : TypeId} {x y : Operand} {ad : Addr} {u : Value} (ho : o.op = .store T x y) (hx : ev E x = some (.pointer (some ad))) (hy : ev E y = some v) (hsz : (P.info? T).map (·.size) = some 1) (hone : v.oneCell' = true) (hc : w.cell? ad = some u) (hf : w.frozen? ad = false) : RunS n P E o w (w.setCell ad v) := fun a hE => by
 simp only [Option.map_eq_some_iff] at hsz
 obtain ⟨i, hi, hs⟩ := hsz
 have hcs : v.cells = #[v] := by cases v <;> simp [Value.oneCell'] at hone <;> rfl
 have h1 : (storeVar T ad v).run P w = .ok () (w.setCell ad v) := by
  simp [storeVar, run_sizeOf hi, hs, hcs, storeCells, Addr.add, store_run hc hf hone]
 simp [execOp, ho, hE.ev hx, hE.ev hy, Instr.storeAt, Instr.sureAddr, h1]
theorem r_storeS {T : TypeId} {x y : Operand} {b : Nat} {t : TypeId} {C cs : Array Value} (ho : o.op = .store T x y) (hx : ev E x = some (.pointer (some ⟨b, 0, none⟩))) (hy : ev E y = some (.agg cs)) (hsz : (P.info? T).map (·.size) = some cs.size) (hone : ∀ u ∈ cs.toList, u.oneCell' = true) (hC : C.size = cs.size) (hb : RBlk w b t C) :
  ∃ w', RunS n P E o w w' ∧ RBlk w' b t cs ∧ OneBlock w w' b := by
 simp only [Option.map_eq_some_iff] at hsz
 obtain ⟨i, hi, hs⟩ := hsz
 obtain ⟨w', h1, h2, h3⟩ := run_storeCells (P := P) b t cs.toList w C 0 0 hb hone (by simp; omega)
 refine ⟨w', fun a hE => ?_, ?_, h3⟩
 ·have h4 : (storeVar T ⟨b, 0, none⟩ (.agg cs)).run P w = .ok () w' := by
   simp only [storeVar, Value.cells, Sem.run_bind, run_sizeOf hi, Result.andThen_ok, hs]
   simp [h1]
  simp [execOp, ho, hE.ev hx, hE.ev hy, Instr.storeAt, Instr.sureAddr, h4]
 ·have e : setAllA C (0 + 0) cs.toList = cs := by
   rw [← Array.toList_inj, setAllA_toList]
   have key : ∀ (l C : List Value) (k : Nat), C.length = k + l.length → setAll C k l = C.take k ++ l := by
    intro l
    induction l with
    | nil => intro C k h; simp [setAll]; exact (List.take_of_length_le (by simp at h; omega)).symm
    | cons x r ih =>
     intro C k h
     simp only [setAll, List.length_cons] at h ⊢
     rw [ih _ _ (by simp; omega)]
     have hk : k < C.length := by omega
     rw [List.take_add_one]
     simp [List.getElem?_set, hk, List.take_set_of_le]
   rw [key _ _ _ (by simp [hC])]
   simp
  rw [e] at h2
  exact h2
theorem r_eqSB {T U : TypeId} {x y : Operand} {s t : ByteArray} {b : Bool} (ho : o.op = .binOp .eql T x y U) (hx : ev E x = some (.string s)) (hy : ev E y = some (.string t)) (hb : cmpS .eql s t = b) : RunV n P E o w (.bool b) w := hb ▸ r_eqS ho hx hy
theorem r_cmpB {op : BinOp} {T U : TypeId} {x y : Operand} {k : IntKind} {p q : Int} {b : Bool} (ho : o.op = .binOp op T x y U) (hop : isCmp op = true) (hx : ev E x = some (.int k p)) (hy : ev E y = some (.int k q)) (hb : cmpI op p q = b) : RunV n P E o w (.bool b) w := hb ▸ r_cmp ho hop hx hy
theorem r_arB {op : BinOp} {T U : TypeId} {x y : Operand} {k : IntKind} {p q r : Int} (ho : o.op = .binOp op T x y U) (hop : isAr op = true) (hx : ev E x = some (.int k p)) (hy : ev E y = some (.int k q)) (hb : arI op k p q = r) : RunV n P E o w (.int k r) w := hb ▸ r_ar ho hop hx hy
theorem WL.st {T : TypeId} {x y : Operand} {b : Nat} {t : TypeId} {C cs : Array Value} (hg : o.guard = none) (hd : o.dst = none) (ho : o.op = .store T x y) (hx : ev E x = some (.pointer (some ⟨b, 0, none⟩))) (hy : ev E y = some (.agg cs)) (hb : RBlk w b t C) (hC : C.size = cs.size) (hone : ∀ u ∈ cs.toList, u.oneCell' = true) (hsz : (P.info? T).map (·.size) = some cs.size)
  (h : ∀ w', RBlk w' b t cs → OneBlock w w' b → WL n P ops Q rest E w') : WL n P ops Q (o :: rest) E w := by
 obtain ⟨w', h1, h2, h3⟩ := r_storeS (n := n) (P := P) (E := E) ho hx hy hsz hone hC hb
 exact WL.s hg hd h1 (h w' h2 h3)
theorem below_alloc_one {o : Obj} {w1 : World} (h : OneBlock (w.alloc o) w1 w.heap.size) : Below w.heap.size w w1 := by
 refine ⟨h.os, h.tape, h.output, by rw [h.size, World.size_alloc]; omega, fun i hi => ?_⟩
 rw [h.block i (by omega)]
 exact Below.heap_alloc w o i hi
def placesOf (P : Program) : List Field → Option (List (Nat × Nat))
 | [] => some []
 | f :: r => match P.info? f.type, placesOf P r with
  | some i, some q => some ((f.offset, i.size) :: q)
  | _, _ => none
theorem placesOf_run : ∀ {fl : List Field} {pl : List (Nat × Nat)}, placesOf P fl = some pl → (fl.mapM (m := Sem) fun f => do pure (f.offset, ← sizeOf f.type)).run P w = .ok pl w
 | [], pl, h => by simp [placesOf] at h; subst h; simp
 | f :: r, pl, h => by
  unfold placesOf at h
  split at h
  ·rename_i i q h1 h2
   simp only [Option.some.injEq] at h; subst h
   rw [List.mapM_cons]
   simp only [Sem.run_bind, Sem.run_pure, run_sizeOf h1, Result.andThen_ok, placesOf_run h2]
  ·simp at h
def buildB (P : Program) (T : TypeId) (parts : List (Nat × Value)) : Option (Array Value) := match (P.info? T).bind (·.zero), P.underlying T with
 | some z, some (.struct fields) => match placesOf P fields.toList with
  | some pl => Instr.fill (fun x => pl[x]?) z.cells parts
  | none => none
 | _, _ => none
theorem r_build {T : TypeId} {parts : Array (Nat × Operand)} {vs : List (Nat × Value)} {cs : Array Value} (ho : o.op = .build T parts) (ha : parts.toList.map (fun p => (p.1, ev E p.2)) = vs.map (fun p => (p.1, some p.2))) (hb : buildB P T vs = some cs) : RunV n P E o w (.agg cs) w := fun a hE => by
 have hp : (parts.map fun (x : Nat × Operand) => (x.1, a.eval x.2)).toList = vs := by
  rw [Array.toList_map]
  have key : ∀ (l : List (Nat × Operand)) (m : List (Nat × Value)), l.map (fun p => (p.1, ev E p.2)) = m.map (fun p => (p.1, some p.2)) → l.map (fun p => (p.1, a.eval p.2)) = m := by
   intro l
   induction l with
   | nil => intro m h; cases m <;> simp_all
   | cons x r ih =>
    intro m h
    cases m with
    | nil => simp at h
    | cons y q =>
     simp only [List.map_cons, List.cons.injEq, Prod.mk.injEq] at h ⊢
     refine ⟨?_, ih q h.2⟩
     rw [hE.ev h.1.2, h.1.1]
  exact key _ _ ha
 unfold buildB at hb
 split at hb
 ·rename_i z fields hz hu
  split at hb
  ·rename_i pl hpl
   simp only [Option.bind_eq_some_iff] at hz
   obtain ⟨i, hi, hz⟩ := hz
   have hm : (fields.mapM (m := Sem) fun f => do pure (f.offset, ← sizeOf f.type)).run P w = .ok pl.toArray w := by
    rw [Array.mapM_eq_mapM_toList, Sem.run_map, placesOf_run hpl]; rfl
   simp only [execOp, ho, Instr.build, Sem.run_bind, zeroValue, run_typeInfo hi, hz, Result.andThen_ok, Sem.run_pure, run_underlying hu, hm]
   rw [hp]
   simp [hb]
  ·simp at hb
 ·simp at hb
def WS (n : Nat) (P : Program) (ops : Array Oper) (w : World) (K : Act → Prop) (l : List Oper) (E : List (Nat × Value)) : Prop := ∀ a, Env n a E → wpStill P ops w K l a
theorem CW.still {id : Nat} {l : List Oper} (hm : P.follows .mixedOrders = true) (hB : Region.lexB .any l.toArray = true)
  (h : ∀ wd : World, wd.heap = w.heap → Below w.heap.size w wd → WS n P l.toArray wd (fun a' => Q .normal a' wd) l E) : CW n P (.region id l.toArray true) Q E w := fun a hE =>
 wp_region_still_lit hm hB (h { w with drawn := w.drawn + 1 } rfl ⟨rfl, rfl, rfl, Nat.le_refl _, fun _ _ => rfl⟩ a hE)
theorem WS.fin {wd : World} (h : NX n (Q .normal) E wd) : WS n P ops wd (fun a' => Q .normal a' wd) [] E := fun a hE => wpStill_nil (h a hE)
theorem WS.vv {K : Act → Prop} {o : Oper} {rest : List Oper} {d : Nat} {v : Value} (hg : o.guard = none) (hd : o.dst = some d) (hr : RunV n P E o w v w) (hdn : d < n) (h : WS n P ops w K rest ((d, v) :: E)) : WS n P ops w K (o :: rest) E := fun a hE =>
 wpStill_step fun K' hK => by rw [if_pos (wanted_none hg _)]; unfold Oper.still; rw [hr a hE, Oper.stillUpon_value, hd]; exact hK _ (h _ (hE.put hdn v))
theorem calls_CW {f : FuncId} {fn : Func} {c : Code} {args : Array Value} {R : Ending → World → Prop} {E : List (Nat × Value)} {n : Nat} (hf : P.funcs[f]? = some fn) (hb : fn.body = some c) (hnn : fn.ntmps = n) (hn : args.size ≤ n) (hE : ∀ p ∈ E, args[p.1]? = some p.2)
  (h : CW n P c (bodyPost P fn R) E w) : Calls P f args w R := by
 subst hnn
 refine calls_of_wp hf hb (h _ (Env.of ?_ rfl fun p hp => ?_))
 ·simp; omega
 ·have := hE p hp
  have hlt := (Array.getElem?_eq_some_iff.1 this).1
  simp only [Array.getD_eq_getD_getElem?]
  rw [Array.getElem?_append_left hlt, this]; rfl
/- Regions of a shape. -/
section
variable {l0 f0 m1 m2 t0 t1 t2 t3 t4 t5 t6 t7 t8 t9 t10 : Nat} {T S U A B : TypeId} {dA dB : TypeDesc} {o0 o1 o2 o3 o4 o5 o6 o7 o8 o9 o10 : Oper} {x2 : Nat} {ad ad2 : Addr} {b c b' c' k k' : Nat} {s u s1 u1 : ByteArray}
theorem test_and {xl xc : Operand} {TS TC A1 A2 A3 A4 : TypeId} {fS fC : Nat}
  (h0 : o0.op = .move xl) (g0 : o0.guard = none) (d0 : o0.dst = some t0)
  (h1 : o1.op = .nilCheck (.tmp t0)) (g1 : o1.guard = none) (d1 : o1.dst = some t1)
  (h2 : o2.op = .fieldAddr TS (.tmp t1) fS) (g2 : o2.guard = none) (d2 : o2.dst = some t2)
  (h3 : o3.op = .load A1 (.tmp t2)) (g3 : o3.guard = none) (d3 : o3.dst = some t3)
  (h4 : o4.op = .binOp .eql A2 (.tmp t3) (.const (.string u)) A3) (g4 : o4.guard = none) (d4 : o4.dst = some t4)
  (h5 : o5.op = .move (.tmp t4)) (g5 : o5.guard = none) (d5 : o5.dst = some t5)
  (h6 : o6.op = .fieldAddr TC xc fC) (g6 : o6.guard = some (5, true)) (d6 : o6.dst = some t6)
  (h7 : o7.op = .load A1 (.tmp t6)) (g7 : o7.guard = some (5, true)) (d7 : o7.dst = some t7)
  (h8 : o8.op = .binOp .eql A2 (.tmp t7) (.const (.string u1)) A4) (g8 : o8.guard = some (5, true)) (d8 : o8.dst = some t8)
  (h9 : o9.op = .pick (.tmp t5) (.tmp t8) (.const (.bool false))) (g9 : o9.guard = none) (d9 : o9.dst = some t9)
  (h10 : o10.op = .assign (.tmp t9)) (g10 : o10.guard = none) (d10 : o10.dst = some t10)
  (hn : t0 < n ∧ t1 < n ∧ t2 < n ∧ t3 < n ∧ t4 < n ∧ t5 < n ∧ t6 < n ∧ t7 < n ∧ t8 < n ∧ t9 < n ∧ t10 < n)
  (hxc : ∀ z0 z1 z2 z3 z4 z5, ev ((t5, z5) :: (t4, z4) :: (t3, z3) :: (t2, z2) :: (t1, z1) :: (t0, z0) :: E) xc = some (.pointer (some ⟨b', c', none⟩)))
  (hord : t1 ≠ t0 ∧ t5 ≠ t8 ∧ t5 ≠ t7 ∧ t5 ≠ t6)
  (hxl : ev E xl = some (.pointer (some ⟨b, c, none⟩))) (hfS : fieldOff P TS fS = some k) (hA : P.underlying A1 = some dA) (hAd : aggD dA = false) (hc1 : w.cell? ⟨b, c + k, none⟩ = some (.string s))
  (hfC : fieldOff P TC fC = some k') (hc2 : w.cell? ⟨b', c' + k', none⟩ = some (.string s1))
  (h : ∀ E', (∀ t, t ∉ [t0, t1, t2, t3, t4, t5, t6, t7, t8, t9, t10] → lk E' t = lk E t) → lk E' t10 = some (.bool (cmpS .eql s u && cmpS .eql s1 u1)) → NX n (Q .normal) E' w) :
  WL n P #[o0, o1, o2, o3, o4, o5, o6, o7, o8, o9, o10] Q [o0, o1, o2, o3, o4, o5, o6, o7, o8, o9, o10] E w := by
 obtain ⟨n0, n1, n2, n3, n4, n5, n6, n7, n8, n9, n10⟩ := hn
 have lkh : ∀ t v (F : List (Nat × Value)), lk ((t, v) :: F) t = some v := fun t v F => by simp [lk]
 have lkt : ∀ {t t' v} {F : List (Nat × Value)}, t ≠ t' → lk ((t', v) :: F) t = lk F t := fun {t t' v F} hne => by
  simp only [lk]
  cases hb : Nat.beq t' t with
  | false => rfl
  | true => exact absurd (Nat.eq_of_beq_eq_true hb).symm hne
 refine WL.vv g0 d0 (r_move h0 hxl) n0 ?_
 refine WL.vv g1 d1 (r_nil h1 (lkh _ _ _)) n1 ?_
 refine WL.vv g2 d2 (r_field h2 (lkh _ _ _) hfS) n2 ?_
 refine WL.vv g3 d3 (r_load h3 (lkh _ _ _) hA hAd hc1) n3 ?_
 refine WL.vv g4 d4 (r_eqS h4 (lkh _ _ _) rfl) n4 ?_
 refine WL.vv g5 d5 (r_move h5 (lkh _ _ _)) n5 ?_
 have fin : ∀ (vs : List (Nat × Value)) (t : Nat), t ∉ [t0, t1, t2, t3, t4, t5, t6, t7, t8, t9, t10] → (∀ p ∈ vs, p.1 ∈ [t0, t1, t2, t3, t4, t5, t6, t7, t8, t9, t10]) → lk (vs ++ E) t = lk E t := by
  intro vs t ht
  induction vs with
  | nil => intro _; rfl
  | cons p r ih =>
   intro hp
   obtain ⟨pt, pv⟩ := p
   have h1 : pt ∈ [t0, t1, t2, t3, t4, t5, t6, t7, t8, t9, t10] := hp (pt, pv) (by simp)
   rw [List.cons_append, lkt (fun e => ht (by rw [e]; exact h1))]
   exact ih fun q hq => hp q (by simp [hq])
 cases hb : cmpS .eql s u with
 | false =>
  refine WL.no (b := false) g6 (by simpa using d5) (by rw [lkh]) d6 n6 ?_
  refine WL.no (b := false) g7 (by simpa using d5) (by rw [lkt hord.2.2.2, lkh]) d7 n7 ?_
  refine WL.no (b := false) g8 (by simpa using d5) (by rw [lkt hord.2.2.1, lkt hord.2.2.2, lkh]) d8 n8 ?_
  refine WL.vv g9 d9 (r_pickF h9 (by show lk _ _ = _; rw [lkt hord.2.1, lkt hord.2.2.1, lkt hord.2.2.2, lkh]) rfl) n9 ?_
  refine WL.vv g10 d10 (r_assign h10 (lkh _ _ _)) n10 (WL.nil (h _ (fun t ht => ?_) (by rw [lkh, hb]; rfl)))
  exact fin [_, _, _, _, _, _, _, _, _, _, _] t ht (by simp)
 | true =>
  refine WL.vg (b := true) g6 (by simpa using d5) (by rw [lkh]) d6 (r_field h6 (hxc _ _ _ _ _ _) hfC) n6 ?_
  refine WL.vg (b := true) g7 (by simpa using d5) (by rw [lkt hord.2.2.2, lkh]) d7 (r_load h7 (lkh _ _ _) hA hAd hc2) n7 ?_
  refine WL.vg (b := true) g8 (by simpa using d5) (by rw [lkt hord.2.2.1, lkt hord.2.2.2, lkh]) d8 (r_eqS h8 (lkh _ _ _) rfl) n8 ?_
  refine WL.vv g9 d9 (r_pickT h9 (by show lk _ _ = _; rw [lkt hord.2.1, lkt hord.2.2.1, lkt hord.2.2.2, lkh]) (lkh _ _ _)) n9 ?_
  refine WL.vv g10 d10 (r_assign h10 (lkh _ _ _)) n10 (WL.nil (h _ (fun t ht => ?_) (by rw [lkh, hb, Bool.true_and])))
  exact fin [_, _, _, _, _, _, _, _, _, _, _] t ht (by simp)
theorem test_keep {xl xb : Operand} {bk : Bool} {TS A1 A2 A3 : TypeId} {fS : Nat}
  (h0 : o0.op = .move xl) (g0 : o0.guard = none) (d0 : o0.dst = some t0)
  (h1 : o1.op = .nilCheck (.tmp t0)) (g1 : o1.guard = none) (d1 : o1.dst = some t1)
  (h2 : o2.op = .fieldAddr TS (.tmp t1) fS) (g2 : o2.guard = none) (d2 : o2.dst = some t2)
  (h3 : o3.op = .load A1 (.tmp t2)) (g3 : o3.guard = none) (d3 : o3.dst = some t3)
  (h4 : o4.op = .binOp .eql A2 (.tmp t3) (.const (.string u)) A3) (g4 : o4.guard = none) (d4 : o4.dst = some t4)
  (h5 : o5.op = .move (.tmp t4)) (g5 : o5.guard = none) (d5 : o5.dst = some t5)
  (h6 : o6.op = .move xb) (g6 : o6.guard = some (5, true)) (d6 : o6.dst = some t6)
  (h7 : o7.op = .pick (.tmp t5) (.tmp t6) (.const (.bool false))) (g7 : o7.guard = none) (d7 : o7.dst = some t7)
  (h8 : o8.op = .assign (.tmp t7)) (g8 : o8.guard = none) (d8 : o8.dst = some t8)
  (hn : t0 < n ∧ t1 < n ∧ t2 < n ∧ t3 < n ∧ t4 < n ∧ t5 < n ∧ t6 < n ∧ t7 < n ∧ t8 < n)
  (hxb : ∀ z0 z1 z2 z3 z4 z5, ev ((t5, z5) :: (t4, z4) :: (t3, z3) :: (t2, z2) :: (t1, z1) :: (t0, z0) :: E) xb = some (.bool bk))
  (hord : t5 ≠ t6)
  (hxl : ev E xl = some (.pointer (some ⟨b, c, none⟩))) (hfS : fieldOff P TS fS = some k) (hA : P.underlying A1 = some dA) (hAd : aggD dA = false) (hc1 : w.cell? ⟨b, c + k, none⟩ = some (.string s))
  (h : ∀ E', (∀ t, t ∉ [t0, t1, t2, t3, t4, t5, t6, t7, t8] → lk E' t = lk E t) → lk E' t8 = some (.bool (cmpS .eql s u && bk)) → NX n (Q .normal) E' w) :
  WL n P #[o0, o1, o2, o3, o4, o5, o6, o7, o8] Q [o0, o1, o2, o3, o4, o5, o6, o7, o8] E w := by
 obtain ⟨n0, n1, n2, n3, n4, n5, n6, n7, n8⟩ := hn
 have lkh : ∀ t v (F : List (Nat × Value)), lk ((t, v) :: F) t = some v := fun t v F => by simp [lk]
 have lkt : ∀ {t t' v} {F : List (Nat × Value)}, t ≠ t' → lk ((t', v) :: F) t = lk F t := fun {t t' v F} hne => by
  simp only [lk]
  cases hb : Nat.beq t' t with
  | false => rfl
  | true => exact absurd (Nat.eq_of_beq_eq_true hb).symm hne
 refine WL.vv g0 d0 (r_move h0 hxl) n0 ?_
 refine WL.vv g1 d1 (r_nil h1 (lkh _ _ _)) n1 ?_
 refine WL.vv g2 d2 (r_field h2 (lkh _ _ _) hfS) n2 ?_
 refine WL.vv g3 d3 (r_load h3 (lkh _ _ _) hA hAd hc1) n3 ?_
 refine WL.vv g4 d4 (r_eqS h4 (lkh _ _ _) rfl) n4 ?_
 refine WL.vv g5 d5 (r_move h5 (lkh _ _ _)) n5 ?_
 have fin : ∀ (vs : List (Nat × Value)) (t : Nat), t ∉ [t0, t1, t2, t3, t4, t5, t6, t7, t8] → (∀ p ∈ vs, p.1 ∈ [t0, t1, t2, t3, t4, t5, t6, t7, t8]) → lk (vs ++ E) t = lk E t := by
  intro vs t ht
  induction vs with
  | nil => intro _; rfl
  | cons p r ih =>
   intro hp
   obtain ⟨pt, pv⟩ := p
   have h1 : pt ∈ [t0, t1, t2, t3, t4, t5, t6, t7, t8] := hp (pt, pv) (by simp)
   rw [List.cons_append, lkt (fun e => ht (by rw [e]; exact h1))]
   exact ih fun q hq => hp q (by simp [hq])
 cases hb : cmpS .eql s u with
 | false =>
  refine WL.no (b := false) g6 (by simpa using d5) (by rw [lkh]) d6 n6 ?_
  refine WL.vv g7 d7 (r_pickF h7 (by show lk _ _ = _; rw [lkt hord, lkh]) rfl) n7 ?_
  refine WL.vv g8 d8 (r_assign h8 (lkh _ _ _)) n8 (WL.nil (h _ (fun t ht => ?_) (by rw [lkh, hb]; rfl)))
  exact fin [_, _, _, _, _, _, _, _, _] t ht (by simp)
 | true =>
  refine WL.vg (b := true) g6 (by simpa using d5) (by rw [lkh]) d6 (r_move h6 (hxb _ _ _ _ _ _)) n6 ?_
  refine WL.vv g7 d7 (r_pickT h7 (by show lk _ _ = _; rw [lkt hord, lkh]) (lkh _ _ _)) n7 ?_
  refine WL.vv g8 d8 (r_assign h8 (lkh _ _ _)) n8 (WL.nil (h _ (fun t ht => ?_) (by rw [lkh, hb, Bool.true_and])))
  exact fin [_, _, _, _, _, _, _, _, _] t ht (by simp)
theorem test_or {xc : Operand} {TC A1 A2 A3 A4 : TypeId} {fC : Nat}
  (h0 : o0.op = .fieldAddr TC xc fC) (g0 : o0.guard = none) (d0 : o0.dst = some t0)
  (h1 : o1.op = .load A1 (.tmp t0)) (g1 : o1.guard = none) (d1 : o1.dst = some t1)
  (h2 : o2.op = .binOp .eql A2 (.tmp t1) (.const (.string u)) A3) (g2 : o2.guard = none) (d2 : o2.dst = some t2)
  (h3 : o3.op = .move (.tmp t2)) (g3 : o3.guard = none) (d3 : o3.dst = some t3)
  (h4 : o4.op = .fieldAddr TC xc fC) (g4 : o4.guard = some (3, false)) (d4 : o4.dst = some t4)
  (h5 : o5.op = .load A1 (.tmp t4)) (g5 : o5.guard = some (3, false)) (d5 : o5.dst = some t5)
  (h6 : o6.op = .binOp .eql A2 (.tmp t5) (.const (.string u1)) A4) (g6 : o6.guard = some (3, false)) (d6 : o6.dst = some t6)
  (h7 : o7.op = .pick (.tmp t3) (.const (.bool true)) (.tmp t6)) (g7 : o7.guard = none) (d7 : o7.dst = some t7)
  (h8 : o8.op = .assign (.tmp t7)) (g8 : o8.guard = none) (d8 : o8.dst = some t8)
  (hn : t0 < n ∧ t1 < n ∧ t2 < n ∧ t3 < n ∧ t4 < n ∧ t5 < n ∧ t6 < n ∧ t7 < n ∧ t8 < n)
  (hxc0 : ev E xc = some (.pointer (some ⟨b', c', none⟩)))
  (hxc : ∀ z0 z1 z2 z3, ev ((t3, z3) :: (t2, z2) :: (t1, z1) :: (t0, z0) :: E) xc = some (.pointer (some ⟨b', c', none⟩)))
  (hord : t3 ≠ t4 ∧ t3 ≠ t5 ∧ t3 ≠ t6)
  (hA : P.underlying A1 = some dA) (hAd : aggD dA = false) (hfC : fieldOff P TC fC = some k') (hc2 : w.cell? ⟨b', c' + k', none⟩ = some (.string s1))
  (h : ∀ E', (∀ t, t ∉ [t0, t1, t2, t3, t4, t5, t6, t7, t8] → lk E' t = lk E t) → lk E' t8 = some (.bool (cmpS .eql s1 u || cmpS .eql s1 u1)) → NX n (Q .normal) E' w) :
  WL n P #[o0, o1, o2, o3, o4, o5, o6, o7, o8] Q [o0, o1, o2, o3, o4, o5, o6, o7, o8] E w := by
 obtain ⟨n0, n1, n2, n3, n4, n5, n6, n7, n8⟩ := hn
 have lkh : ∀ t v (F : List (Nat × Value)), lk ((t, v) :: F) t = some v := fun t v F => by simp [lk]
 have lkt : ∀ {t t' v} {F : List (Nat × Value)}, t ≠ t' → lk ((t', v) :: F) t = lk F t := fun {t t' v F} hne => by
  simp only [lk]
  cases hb : Nat.beq t' t with
  | false => rfl
  | true => exact absurd (Nat.eq_of_beq_eq_true hb).symm hne
 refine WL.vv g0 d0 (r_field h0 hxc0 hfC) n0 ?_
 refine WL.vv g1 d1 (r_load h1 (lkh _ _ _) hA hAd hc2) n1 ?_
 refine WL.vv g2 d2 (r_eqS h2 (lkh _ _ _) rfl) n2 ?_
 refine WL.vv g3 d3 (r_move h3 (lkh _ _ _)) n3 ?_
 have fin : ∀ (vs : List (Nat × Value)) (t : Nat), t ∉ [t0, t1, t2, t3, t4, t5, t6, t7, t8] → (∀ p ∈ vs, p.1 ∈ [t0, t1, t2, t3, t4, t5, t6, t7, t8]) → lk (vs ++ E) t = lk E t := by
  intro vs t ht
  induction vs with
  | nil => intro _; rfl
  | cons p r ih =>
   intro hp
   obtain ⟨pt, pv⟩ := p
   have h1 : pt ∈ [t0, t1, t2, t3, t4, t5, t6, t7, t8] := hp (pt, pv) (by simp)
   rw [List.cons_append, lkt (fun e => ht (by rw [e]; exact h1))]
   exact ih fun q hq => hp q (by simp [hq])
 cases hb : cmpS .eql s1 u with
 | true =>
  refine WL.no (b := true) g4 (by simpa using d3) (by rw [lkh]) d4 n4 ?_
  refine WL.no (b := true) g5 (by simpa using d3) (by rw [lkt hord.1, lkh]) d5 n5 ?_
  refine WL.no (b := true) g6 (by simpa using d3) (by rw [lkt hord.2.1, lkt hord.1, lkh]) d6 n6 ?_
  refine WL.vv g7 d7 (r_pickT h7 (by show lk _ _ = _; rw [lkt hord.2.2, lkt hord.2.1, lkt hord.1, lkh]) rfl) n7 ?_
  refine WL.vv g8 d8 (r_assign h8 (lkh _ _ _)) n8 (WL.nil (h _ (fun t ht => ?_) (by rw [lkh, hb]; rfl)))
  exact fin [_, _, _, _, _, _, _, _, _] t ht (by simp)
 | false =>
  refine WL.vg (b := false) g4 (by simpa using d3) (by rw [lkh]) d4 (r_field h4 (hxc _ _ _ _) hfC) n4 ?_
  refine WL.vg (b := false) g5 (by simpa using d3) (by rw [lkt hord.1, lkh]) d5 (r_load h5 (lkh _ _ _) hA hAd hc2) n5 ?_
  refine WL.vg (b := false) g6 (by simpa using d3) (by rw [lkt hord.2.1, lkt hord.1, lkh]) d6 (r_eqS h6 (lkh _ _ _) rfl) n6 ?_
  refine WL.vv g7 d7 (r_pickF h7 (by show lk _ _ = _; rw [lkt hord.2.2, lkt hord.2.1, lkt hord.1, lkh]) (lkh _ _ _)) n7 ?_
  refine WL.vv g8 d8 (r_assign h8 (lkh _ _ _)) n8 (WL.nil (h _ (fun t ht => ?_) (by rw [lkh, hb, Bool.false_or])))
  exact fin [_, _, _, _, _, _, _, _, _] t ht (by simp)
end
end
end Go.Proofs.YtbgcaneflfdddaaGreatDoor
namespace Go.Proofs.YtbgcaneflfdddaaGreatDoor
open Go
section
variable {P : Program} {ops : Array Oper} {Q : Exit → Act → World → Prop} {md : Region.Mode} {S : World → Prop} {s : Nat}
def anyU (P : Program) (md : Region.Mode) (ops : Array Oper) (Q : Exit → Act → World → Prop) (S : World → Prop) (s : Nat) : Nat → Array Bool → Act → World → Prop
 | 0, L, a, w => Region.ready md ops L = [] ∧ Q .normal a w
 | n + 1, L, a, w => (Region.ready md ops L = [] → Q .normal a w) ∧
  ∀ i ∈ Region.ready md ops L, wpOp P ops Q i (fun a' w' => (i ≠ s → S w') ∧ anyU P md ops Q S s n (L.setIfInBounds i true) a' w') a w
theorem any_of_U : ∀ (n : Nat) (L : Array Bool) (a : Act) (w : World), anyU P md ops Q S s n L a w → wpAny P md ops Q n L a w
 | 0, _, _, _, h => h
 | n + 1, _, _, _, h => ⟨h.1, fun i hi => wpOp_mono (fun a' w' h' => any_of_U n _ a' w' h'.2) (h.2 i hi)⟩
def ClosedL (md : Region.Mode) (ops : Array Oper) (L : Array Bool) : Prop :=
 ∀ k ok, ops[k]? = some ok → L.getD k false = true → ∀ e ∈ ok.after, Region.binds md e = true → L.getD e.on false = true
theorem ClosedL.put {L : Array Bool} (h : ClosedL md ops L) {i : Nat} (hi : i ∈ Region.ready md ops L) : ClosedL md ops (L.setIfInBounds i true) := fun k ok hk hl e he hb => by
 by_cases hki : i = k
 ·subst hki
  obtain ⟨_, o, ho, hall⟩ := mem_ready.1 hi
  rw [hk] at ho; cases ho
  exact getD_set_true (hall e he hb)
 ·rw [getD_set_ne false hki] at hl
  exact getD_set_true (h k ok hk hl e he hb)
def closedB (md : Region.Mode) (ops : Array Oper) (L : Array Bool) : Bool :=
 (List.range ops.size).all fun k => !(L.getD k false) || ((ops[k]?).map fun o => o.after.all fun e => !Region.binds md e || L.getD e.on false).getD true
theorem closedB_spec {L : Array Bool} (h : closedB md ops L = true) : ClosedL md ops L := fun k ok hk hl e he hb => by
 have h1 := List.all_eq_true.1 h k (List.mem_range.2 (Array.getElem?_eq_some_iff.1 hk).1)
 simp only [hl, hk, Bool.not_true, Bool.false_or, Option.map_some, Option.getD_some] at h1
 have h2 := Array.all_eq_true_iff_forall_mem.1 h1 e he
 simpa [hb] using h2
def preB (md : Region.Mode) (ops : Array Oper) : Nat → Nat → Nat → Bool
 | 0, _, _ => false
 | n + 1, i, s => match ops[s]? with
  | none => false
  | some o => o.after.any fun e => Region.binds md e && (e.on == i || preB md ops n i e.on)
theorem pre_spec {L : Array Bool} (hc : ClosedL md ops L) {i : Nat} : ∀ (n s : Nat), preB md ops n i s = true →
  (∀ o, ops[s]? = some o → ∀ e ∈ o.after, Region.binds md e = true → L.getD e.on false = true) → L.getD i false = true := by
 intro n
 induction n with
 | zero => intro s h; cases h
 | succ n ih =>
  intro s h hs
  simp only [preB] at h
  cases ho : ops[s]? with
  | none => rw [ho] at h; cases h
  | some o =>
   rw [ho] at h
   obtain ⟨e, he, hb⟩ := Array.any_eq_true'.1 h
   simp only [Bool.and_eq_true, Bool.or_eq_true, beq_iff_eq] at hb
   have hl := hs o ho e he hb.1
   rcases hb.2 with h2 | h2
   ·rw [← h2]; exact hl
   ·exact ih e.on h2 (fun o' ho' => hc e.on o' ho' hl)
theorem anyU_first {i : Nat} {oi : Oper} {v : Value} (hi : ops[i]? = some oi) (hsel : ∀ (j : Nat) (o : Oper) cs b, ops[j]? = some o → o.op ≠ .select cs b)
  (hQ : ∀ c a w, Q (.panic c) (a.put oi.dst v) w → Q (.panic c) a w) (his : i ≠ s) (m : Nat) (hp : preB md ops m i s = true) :
  ∀ (n : Nat) (L : Array Bool) (a : Act) (w : World),
   (∀ j oj, ops[j]? = some oj → j ≠ i → L.getD j true = false → (∀ e ∈ oj.after, Region.binds md e = true → e.on ≠ i) → oi.apart ops oj = true) →
   i ∈ Region.ready md ops L → YieldsIf P ops S oi v a → S w → ClosedL md ops L →
   anyU P md ops Q S s n (L.setIfInBounds i true) (a.put oi.dst v) w → anyU P md ops Q S s (n + 1) L a w := by
 intro n
 induction n with
 | zero =>
  intro L a w _ hr hy hS _ H
  refine ⟨fun h => (by rw [h] at hr; cases hr), fun j hj => ?_⟩
  by_cases hji : j = i
  ·subst hji; exact hy.wpOp hi hS ⟨fun _ => hS, H⟩
  ·have := ready_mono hj hji
   rw [H.1] at this
   cases this
 | succ n ih =>
  intro L a w hfree hr hy hS hc H
  refine ⟨fun h => (by rw [h] at hr; cases hr), fun j hj => ?_⟩
  by_cases hji : j = i
  ·subst hji; exact hy.wpOp hi hS ⟨fun _ => hS, H⟩
  ·have hun := (mem_ready.1 hr).1
   have hni : L.getD i false ≠ true := fun h1 => by
    rcases Nat.lt_or_ge i L.size with h' | h'
    ·simp [h'] at hun h1; rw [hun] at h1; cases h1
    ·simp [Array.getElem?_eq_none h'] at h1
   have hjs : j ≠ s := fun e => by
    subst e
    obtain ⟨_, oj, hoj, hall⟩ := mem_ready.1 hj
    exact hni (pre_spec hc m j hp (fun o ho => by rw [hoj] at ho; cases ho; exact hall))
   have h1 := H.2 j (ready_mono hj hji)
   obtain ⟨hjun, oj, hoj, hall⟩ := mem_ready.1 hj
   have hnot : ∀ e ∈ oj.after, Region.binds md e = true → e.on ≠ i := fun e he hb heq => hni (by rw [← heq]; exact hall e he hb)
   have h2 := wpOp_putIf hoj (hfree j oj hoj hji hjun hnot) (fun cs b => hsel i oi cs b hi) (fun cs b => hsel j oj cs b hoj) hQ hy h1
   refine wpOp_mono (fun a' w' h3 => ⟨h3.2.1, ih (L.setIfInBounds j true) a' w' (fun k ok hk hki hun' hno => ?_) (ready_mono hr (Ne.symm hji)) h3.1 (h3.2.1 hjs) (hc.put hj) ?_⟩) h2
   ·refine hfree k ok hk hki ?_ hno
    by_cases hjk : j = k
    ·subst hjk; exact hjun
    ·rw [getD_set_ne true hjk] at hun'; exact hun'
   ·rw [Array.setIfInBounds_comm _ _ hji]
    exact h3.2.2
theorem anyU_take {i : Nat} {oi : Oper} {v : Value} {n : Nat} {L : Array Bool} {a : Act} {w : World} (hi : ops.toList[i]? = some oi)
  (hs : Region.noSelect ops = true) (hf : Region.free md ops L i = true) (hr : (Region.ready md ops L).contains i = true)
  (hp : (preB md ops 30 i s && !(i == s) && closedB md ops L) = true)
  (hQ : ∀ c a w, Q (.panic c) (a.put oi.dst v) w → Q (.panic c) a w) (hy : YieldsIf P ops S oi v a) (hS : S w)
  (h : anyU P md ops Q S s n (L.setIfInBounds i true) (a.put oi.dst v) w) : anyU P md ops Q S s (n + 1) L a w := by
 simp only [Bool.and_eq_true, Bool.not_eq_true', beq_eq_false_iff_ne] at hp
 exact anyU_first (by rw [← Array.getElem?_toList]; exact hi) (Region.noSelect_spec hs) hQ hp.1.2 30 hp.1.1 n L a w (Region.free_spec (by rw [← Array.getElem?_toList]; exact hi) hf) (by simpa using hr) hy hS (closedB_spec hp.2) h
def StepU (P : Program) (md : Region.Mode) (ops : Array Oper) (Q : Exit → Act → World → Prop) (S : World → Prop) (s n : Nat) (L : Array Bool) (a : Act) (w : World) (i : Nat) (o : Oper) : Prop :=
 ∀ K' : Act → World → Prop, (∀ a' w', (i ≠ s → S w') → ((i ≠ s → S w') → anyU P md ops Q S s n (L.setIfInBounds i true) a' w') → K' a' w') →
  if Region.wanted o (yielded ops a.tmps) = true then Oper.wp P o a w K' Q else K' (a.put o.dst undef) w
theorem StepU.op {i : Nat} {o : Oper} {n : Nat} {L : Array Bool} {a : Act} {w : World} (ho : ops[i]? = some o)
  (h : StepU P md ops Q S s n L a w i o) : wpOp P ops Q i (fun a' w' => (i ≠ s → S w') ∧ anyU P md ops Q S s n (L.setIfInBounds i true) a' w') a w := by
 have := h (fun a' w' => (i ≠ s → S w') ∧ anyU P md ops Q S s n (L.setIfInBounds i true) a' w') (fun a' w' h1 h2 => ⟨h1, h2 h1⟩)
 unfold wpOp
 rw [ho]
 show if Region.wanted o (yielded ops a.tmps) = true then _ else _
 split
 ·rename_i hw; rw [if_pos hw] at this; exact .inl this
 ·rename_i hw; rw [if_neg hw] at this; exact this
theorem anyU_one {i : Nat} {o : Oper} {n : Nat} {L : Array Bool} {a : Act} {w : World} (ho : ops.toList[i]? = some o) (hr : Region.ready md ops L = [i])
  (h : StepU P md ops Q S s n L a w i o) : anyU P md ops Q S s (n + 1) L a w :=
 ⟨fun e => (by rw [hr] at e; cases e), fun j hj => by
  have hj' := hj
  rw [hr] at hj'
  cases List.mem_singleton.1 hj'
  exact h.op (by rw [← Array.getElem?_toList]; exact ho)⟩
theorem anyU_two {i k : Nat} {o ok : Oper} {n : Nat} {L : Array Bool} {a : Act} {w : World} (ho : ops.toList[i]? = some o) (hk : ops.toList[k]? = some ok) (hr : Region.ready md ops L = [i, k])
  (h : StepU P md ops Q S s n L a w i o) (h2 : StepU P md ops Q S s n L a w k ok) : anyU P md ops Q S s (n + 1) L a w :=
 ⟨fun e => (by rw [hr] at e; cases e), fun j hj => by
  have hj' := hj
  rw [hr] at hj'
  rcases List.mem_cons.1 hj' with rfl | hj'
  ·exact h.op (by rw [← Array.getElem?_toList]; exact ho)
  ·cases List.mem_singleton.1 hj'
   exact h2.op (by rw [← Array.getElem?_toList]; exact hk)⟩
theorem anyU_done {L : Array Bool} {a : Act} {w : World} (hr : Region.ready md ops L = []) (h : Q .normal a w) : ∀ n, anyU P md ops Q S s n L a w
 | 0 => ⟨hr, h⟩
 | _ + 1 => ⟨fun _ => h, by rw [hr]; simp⟩
theorem wp_region_U {id : Nat} {a : Act} {w : World} (S : World → Prop) (s : Nat) (hm : P.follows .mixedOrders = true) (hS : S w.drew)
  (h : S w.drew → anyU P .any ops Q S s ops.size (Array.replicate ops.size false) a w.drew) : (Code.region id ops true).wp P Q a w :=
 wp_region_any hm (any_of_U _ _ _ _ (h hS))
end
end Go.Proofs.YtbgcaneflfdddaaGreatDoor
/- Walks over an environment: regions whose order is left open, with stores and calls. No program in sight. -/
namespace Go.Proofs.YtbgcaneflfdddaaGreatDoor
open Go.RowKit Go
variable [GC]
section
variable {n : Nat} {P : Program} {ops : Array Oper} {Q : Exit → Act → World → Prop} {S : World → Prop} {s k : Nat} {L : Array Bool} {E : List (Nat × Value)} {w w' : World} {i d : Nat} {o : Oper} {v : Value}
def AU (n : Nat) (P : Program) (ops : Array Oper) (Q : Exit → Act → World → Prop) (S : World → Prop) (s k : Nat) (L : Array Bool) (E : List (Nat × Value)) (w : World) : Prop := ∀ a, Env n a E → anyU P .any ops Q S s k L a w
theorem CW.any {id : Nat} {l : List Oper} (S : World → Prop) (s : Nat) (hm : P.follows .mixedOrders = true) (h : ∀ wd : World, wd.heap = w.heap → Below w.heap.size w wd → S wd ∧ AU n P l.toArray Q S s l.toArray.size (Array.replicate l.toArray.size false) E wd) : CW n P (.region id l.toArray true) Q E w := fun a hE => by
 have h1 := h w.drew rfl ⟨rfl, rfl, rfl, Nat.le_refl _, fun _ _ => rfl⟩
 exact wp_region_U S s hm h1.1 fun _ => h1.2 a hE
theorem AU.take (i : Nat) (hi : ops.toList[i]? = some o) (hs : Region.noSelect ops = true) (hf : Region.free .any ops L i = true) (hr : (Region.ready .any ops L).contains i = true) (hp : (preB .any ops 30 i s && !(i == s) && closedB .any ops L) = true)
  (hQ : ∀ c a w, Q (.panic c) (a.put o.dst v) w → Q (.panic c) a w) (hg : o.guard = none) (hd : o.dst = some d) (hrun : ∀ W, S W → RunV n P E o W v W) (hdn : d < n) (hS : S w) (h : AU n P ops Q S s k (L.setIfInBounds i true) ((d, v) :: E) w) : AU n P ops Q S s (k + 1) L E w := fun a hE =>
 anyU_take hi hs hf hr hp hQ (.inl ⟨wanted_none hg _, fun W hW => hrun W hW a hE⟩) hS (by rw [hd]; exact h _ (hE.put hdn v))
theorem AU.ss (i : Nat) (ho : ops.toList[i]? = some o) (hr : Region.ready .any ops L = [i]) (hg : o.guard = none) (hd : o.dst = none) (hrun : RunS n P E o w w') (hS : i ≠ s → S w') (h : AU n P ops Q S s k (L.setIfInBounds i true) E w') : AU n P ops Q S s (k + 1) L E w := fun a hE =>
 anyU_one ho hr fun K' hK => by
  rw [if_pos (wanted_none hg _)]
  unfold Oper.wp
  rw [hrun a hE, Oper.upon_skip, hd]
  exact hK _ _ hS fun _ => h _ hE
theorem AU.st (i : Nat) {T : TypeId} {x y : Operand} {b : Nat} {t : TypeId} {C cs : Array Value} (ho : ops.toList[i]? = some o) (hr : Region.ready .any ops L = [i]) (hg : o.guard = none) (hd : o.dst = none) (hop : o.op = .store T x y) (hx : ev E x = some (.pointer (some ⟨b, 0, none⟩))) (hy : ev E y = some (.agg cs)) (hb : RBlk w b t C) (hC : C.size = cs.size) (hone : ∀ u ∈ cs.toList, u.oneCell' = true) (hsz : (P.info? T).map (·.size) = some cs.size)
  (hS : ∀ w', OneBlock w w' b → i ≠ s → S w') (h : ∀ w', RBlk w' b t cs → OneBlock w w' b → AU n P ops Q S s k (L.setIfInBounds i true) E w') : AU n P ops Q S s (k + 1) L E w := by
 obtain ⟨w', h1, h2, h3⟩ := r_storeS (n := n) (P := P) (E := E) hop hx hy hsz hone hC hb
 exact AU.ss i ho hr hg hd h1 (hS w' h3) (h w' h2 h3)
theorem AU.vv (i : Nat) (ho : ops.toList[i]? = some o) (hr : Region.ready .any ops L = [i]) (hg : o.guard = none) (hd : o.dst = some d) (hrun : RunV n P E o w v w') (hdn : d < n) (hS : i ≠ s → S w') (h : AU n P ops Q S s k (L.setIfInBounds i true) ((d, v) :: E) w') : AU n P ops Q S s (k + 1) L E w := fun a hE =>
 anyU_one ho hr fun K' hK => by
  rw [if_pos (wanted_none hg _)]
  unfold Oper.wp
  rw [hrun a hE, Oper.upon_value, hd]
  exact hK _ _ hS fun _ => h _ (hE.put hdn v)
theorem AU.c (i : Nat) {f : FuncId} {args : Array Value} {R : Ending → World → Prop} (ho : ops.toList[i]? = some o) (hr : Region.ready .any ops L = [i]) (hg : o.guard = none) (hd : o.dst = some d) (hrun : RunC n P E o w f args) (hdn : d < n) (hC : Calls P f args w R)
  (h : ∀ e w', R e w' → ∃ v, e = .returned v ∧ (i ≠ s → S w') ∧ AU n P ops Q S s k (L.setIfInBounds i true) ((d, v) :: E) w') : AU n P ops Q S s (k + 1) L E w := fun a hE =>
 anyU_one ho hr fun K' hK => by
  rw [if_pos (wanted_none hg _)]
  unfold Oper.wp
  rw [hrun a hE]
  refine hC.mono fun e w' he => ?_
  obtain ⟨v, rfl, hS, hv⟩ := h e w' he
  rw [hd]
  exact hK _ _ hS fun _ => hv _ (hE.put hdn v)
theorem AU.done (hr : Region.ready .any ops L = []) (h : NX n (Q .normal) E w) : AU n P ops Q S s k L E w := fun a hE => anyU_done hr (h a hE) k
end
end Go.Proofs.YtbgcaneflfdddaaGreatDoor
/- Walks over an environment: loops whose rounds are counted down; a chain of steps each of which is there. No program in sight. -/
namespace Go.Proofs.YtbgcaneflfdddaaGreatDoor
open Go.RowKit Go
variable [GC]
section
variable {n : Nat} {P : Program} {Q : Exit → Act → World → Prop} {E : List (Nat × Value)} {w : World}
def Again (n : Nat) (I : Nat → List (Nat × Value) → World → Prop) (m : Nat) (a : Act) (w : World) : Prop := ∃ m' E', m' < m ∧ I m' E' w ∧ Env n a E'
theorem CW.loop {c : Code} (I : Nat → List (Nat × Value) → World → Prop) (n0 : Nat) (h0 : I n0 E w) (round : ∀ m E w, I m E w → CW n P c (Exit.then (Again n I m) Q) E w) : CW n P (.loop c) Q E w := fun a hE =>
 wp_loop_ghost (fun m a w => ∃ E', I m E' w ∧ Env n a E') n0 ⟨E, h0, hE⟩ fun m a w ⟨E', h, hE'⟩ => by
  refine wp_mono (round m E' w h a hE') ?_
  intro e a' w' hq
  cases e with
  | normal =>
   obtain ⟨m', E2, h1, h2, h3⟩ := hq
   exact ⟨m', h1, E2, h2, h3⟩
  | exit id => exact hq
  | goto l => exact hq
  | ret => exact hq
  | panic ch => exact hq
  | outgrown => exact hq
theorem NX.again {I : Nat → List (Nat × Value) → World → Prop} {m : Nat} (m' : Nat) (E' : List (Nat × Value)) (h1 : m' < m) (hs : allLk E E') (h2 : I m' E' w) : NX n (Exit.then (Again n I m) Q .normal) E w := fun a hE => ⟨m', E', h1, h2, hE.sub hs⟩
end
/- Several operations may come up. -/
section
variable {n : Nat} {P : Program} {ops : Array Oper} {Q : Exit → Act → World → Prop} {S : World → Prop} {s k : Nat} {L L' : Array Bool} {E E' : List (Nat × Value)} {w w' : World} {i j d : Nat} {o : Oper} {v : Value}
def AUi (n : Nat) (P : Program) (ops : Array Oper) (Q : Exit → Act → World → Prop) (S : World → Prop) (s k : Nat) (L : Array Bool) (E : List (Nat × Value)) (w : World) (i : Nat) : Prop := ∀ a, Env n a E → wpOp P ops Q i (fun a' w' => (i ≠ s → S w') ∧ anyU P .any ops Q S s k (L.setIfInBounds i true) a' w') a w
theorem AU.m1 (hr : Region.ready .any ops L = [i]) (h : AUi n P ops Q S s k L E w i) : AU n P ops Q S s (k + 1) L E w := fun a hE => ⟨fun e => (by rw [hr] at e; cases e), fun x hx => by
 rw [hr] at hx
 cases List.mem_singleton.1 hx
 exact h a hE⟩
theorem AU.m2 (hr : Region.ready .any ops L = [i, j]) (h : AUi n P ops Q S s k L E w i) (h2 : AUi n P ops Q S s k L E w j) : AU n P ops Q S s (k + 1) L E w := fun a hE => ⟨fun e => (by rw [hr] at e; cases e), fun x hx => by
 rw [hr] at hx
 rcases List.mem_cons.1 hx with rfl | hx
 ·exact h a hE
 ·cases List.mem_singleton.1 hx
  exact h2 a hE⟩
theorem AU.m3 {l : Nat} (hr : Region.ready .any ops L = [i, j, l]) (h : AUi n P ops Q S s k L E w i) (h2 : AUi n P ops Q S s k L E w j) (h3 : AUi n P ops Q S s k L E w l) : AU n P ops Q S s (k + 1) L E w := fun a hE => ⟨fun e => (by rw [hr] at e; cases e), fun x hx => by
 rw [hr] at hx
 rcases List.mem_cons.1 hx with rfl | hx
 ·exact h a hE
 rcases List.mem_cons.1 hx with rfl | hx
 ·exact h2 a hE
 ·cases List.mem_singleton.1 hx
  exact h3 a hE⟩
theorem AUi.vv (hi : ops.toList[i]? = some o) (hg : o.guard = none) (hd : o.dst = some d) (hrun : RunV n P E o w v w') (hdn : d < n) (hS : S w') (h : AU n P ops Q S s k (L.setIfInBounds i true) ((d, v) :: E) w') : AUi n P ops Q S s k L E w i := fun a hE =>
 StepU.op (by rw [← Array.getElem?_toList]; exact hi) fun K' hK => by
  rw [if_pos (wanted_none hg _)]
  unfold Oper.wp
  rw [hrun a hE, Oper.upon_value, hd]
  exact hK _ _ (fun _ => hS) fun _ => h _ (hE.put hdn v)
theorem AUi.sk (hi : ops.toList[i]? = some o) (hg : o.guard = none) (hd : o.dst = none) (hrun : RunS n P E o w w') (hS : i ≠ s → S w') (h : AU n P ops Q S s k (L.setIfInBounds i true) E w') : AUi n P ops Q S s k L E w i := fun a hE =>
 StepU.op (by rw [← Array.getElem?_toList]; exact hi) fun K' hK => by
  rw [if_pos (wanted_none hg _)]
  unfold Oper.wp
  rw [hrun a hE, Oper.upon_skip, hd]
  exact hK _ _ hS fun _ => h _ hE
theorem AUi.c {f : FuncId} {args : Array Value} {R : Ending → World → Prop} (hi : ops.toList[i]? = some o) (hg : o.guard = none) (hd : o.dst = some d) (hrun : RunC n P E o w f args) (hdn : d < n) (hC : Calls P f args w R)
  (h : ∀ e w', R e w' → ∃ v, e = .returned v ∧ S w' ∧ AU n P ops Q S s k (L.setIfInBounds i true) ((d, v) :: E) w') : AUi n P ops Q S s k L E w i := fun a hE =>
 StepU.op (by rw [← Array.getElem?_toList]; exact hi) fun K' hK => by
  rw [if_pos (wanted_none hg _)]
  unfold Oper.wp
  rw [hrun a hE]
  refine hC.mono fun e w' he => ?_
  obtain ⟨v, rfl, hS, hv⟩ := h e w' he
  rw [hd]
  exact hK _ _ (fun _ => hS) fun _ => hv _ (hE.put hdn v)
theorem AU.re (hL : L = L') (hs : allLk E E') (h : AU n P ops Q S s k L' E' w) : AU n P ops Q S s k L E w := fun a hE => hL ▸ h a (hE.sub hs)
def regs : Code → List (Nat × Array Oper)
 | .region id ops _ => [(id, ops)]
 | .seq a b => regs a ++ regs b
 | .cond _ a b => regs a ++ regs b
 | .block _ c => regs c
 | .loop c => regs c
 | _ => []
def regOf (fn : Func) (id : Nat) : Array Oper := match fn.body with
 | some c => (((regs c).find? fun p => Nat.beq p.1 id).map (·.2)).getD #[]
 | none => #[]
def noOp : Oper := { dst := none, op := .move (.const (.bool true)), type := 0, pos := "", after := #[], guard := none }
def opAt (ops : Array Oper) (i : Nat) : Oper := (ops.toList[i]?).getD noOp
theorem r_extract {x : Operand} {i : Nat} {vs : Array Value} (ho : o.op = .extract x i) (hx : ev E x = some (.tuple vs)) (hv : vs[i]? = some v) : RunV n P E o w v w := fun a hE => by
 simp [execOp, ho, hE.ev hx, Instr.extract, hv]
end
theorem chain_ex {α : Type} (I : Nat → α → Prop) (S : Nat → α → α → Prop) (h : ∀ k a, I k a → ∃ b, I (k + 1) b ∧ S k a b) {a : α} (ha : I 0 a) : ∃ σ : Nat → α, σ 0 = a ∧ ∀ k, I k (σ k) ∧ S k (σ k) (σ (k + 1)) := by
 classical
 let τ : ∀ k, { x : α // I k x } := fun k => Nat.rec ⟨a, ha⟩ (fun k x => ⟨(h k x.1 x.2).choose, (h k x.1 x.2).choose_spec.1⟩) k
 exact ⟨fun k => (τ k).1, rfl, fun k => ⟨(τ k).2, (h k (τ k).1 (τ k).2).choose_spec.2⟩⟩
end Go.Proofs.YtbgcaneflfdddaaGreatDoor
/- A drawn part as data: the steps by which it comes to be. -/
namespace Go.Proofs.YtbgcaneflfdddaaGreatDoor
open Go.RowKit Go
variable [GC]
def setLy (p : Part) (i : Nat) (v : Int) : Part := ⟨p.core, p.layers.set i ⟨(nth p.layers i).name, v⟩⟩
theorem setLy_sh {p : Part} {k : Nat} (v : Int) (hk : k < p.layers.length) : ShP p (setLy p k v) := by
 refine ⟨rfl, ?_⟩
 unfold setLy
 apply List.ext_getElem?
 intro i
 simp only [List.getElem?_map, List.getElem?_set]
 split
 ·rename_i e
  subst e
  (try rw [if_pos hk])
  rw [List.getElem?_eq_getElem hk]
  simp [nth, List.getD_eq_getElem?_getD, hk]
 ·rfl
theorem setLy_nth {p : Part} {k : Nat} (v : Int) (hk : k < p.layers.length) (i : Nat) : nth (setLy p k v).layers i = if i = k then ⟨(nth p.layers k).name, v⟩ else nth p.layers i := nthC_set _ _ _ _ hk
theorem setLy_ok {p : Part} {k : Nat} {v : Int} (hp : partB p = true) (hk : k < p.layers.length) (hn : (nth p.layers k).name = counts ∨ (nth p.layers k).name = hears) (hv : numB v = true) : partB (setLy p k v) = true := by
 obtain ⟨h1, h2, h3⟩ := partB_iff.1 hp
 refine partB_sh hp (setLy_sh v hk) h1 fun i hi => ?_
 rw [setLy_nth v hk]
 obtain ⟨_, _, c, d⟩ := h3 i hi
 split
 ·rename_i e
  subst e
  exact ⟨hv, .inr hn⟩
 ·exact ⟨c, d⟩
theorem setLy_len (p : Part) (i : Nat) (v : Int) : (setLy p i v).layers.length = p.layers.length := by simp [setLy]
def ndL (p : Part) (i : Nat) : Bool := decide ((nth p.layers i).name = counts) || decide ((nth p.layers i).name = hears)
def wrapIf (p : Part) (s : ByteArray) : Part := if (wrapP p s).2.code = 0 then (wrapP p s).1 else p
theorem wrapIf_ok {p : Part} {s : ByteArray} (hp : partB p = true) : partB (wrapIf p s) = true := by
 unfold wrapIf
 split
 ·rename_i h
  obtain ⟨_, _, _, _, e, h6⟩ := wrap_code h
  rw [e]; exact h6
 ·exact hp
def Wr (a b : Part × List D) : Prop := ∃ s : ByteArray, Fun Tryz.prog 88 (some a.2) [.int .i64 (faceOf a.1)] (.str s) b.2 ∧ b.1 = wrapIf a.1 s
def Nu (i : Nat) (a b : Part × List D) : Prop :=
 (ndL a.1 i = true ∧ i < a.1.layers.length → ∃ (v : Int) (x : Bool) (mid : List D), 0 ≤ v ∧ v ≤ 3 ∧ Cur mid ∧ Fun Tryz.prog 52 (some a.2) [.int .i64 4] (.int .i64 v) mid ∧ Fun Tryz.prog 89 (some mid) [.int .i64 15] (.bool x) b.2 ∧ b.1 = setLy a.1 i (if x = true then 999 else v)) ∧
 (¬ (ndL a.1 i = true ∧ i < a.1.layers.length) → b = a)
def DP (a : Part × List D) : Prop := partB a.1 = true ∧ Cur a.2
theorem wr_ex {a : Part × List D} (h : DP a) : ∃ b, DP b ∧ Wr a b := by
 obtain ⟨r, cs', ⟨s, rfl⟩, h2, h3⟩ := d_l4Fitting (faceOf a.1) a.2 h.2
 exact ⟨(wrapIf a.1 s, cs'), ⟨wrapIf_ok h.1, h2⟩, s, h3, rfl⟩
theorem nu_ex (i : Nat) {a : Part × List D} (h : DP a) : ∃ b, DP b ∧ Nu i a b := by
 by_cases hn : ndL a.1 i = true ∧ i < a.1.layers.length
 ·obtain ⟨r, mid, ⟨v, rfl, hv⟩, h2, h3⟩ := d_l1Below 4 a.2 h.2
  obtain ⟨r, cs', ⟨x, rfl⟩, h4, h5⟩ := d_l1Once 15 mid h2
  have hv2 := hv.2 (by omega)
  refine ⟨(setLy a.1 i (if x = true then 999 else v), cs'), ⟨setLy_ok h.1 hn.2 (by have := hn.1; unfold ndL at this; simpa using this) ?_, h4⟩, fun _ => ⟨v, x, mid, hv.1, by omega, h2, h3, h5, rfl⟩, fun h => absurd hn h⟩
  split
  ·decide
  ·exact numB_iff.2 ⟨hv.1, by omega⟩
 ·exact ⟨a, h, fun h => absurd h hn, fun _ => rfl⟩
end Go.Proofs.YtbgcaneflfdddaaGreatDoor
/- A part in a box, whose cells and layers lie in memory of its own: what it is, what single writes do to it. No program in sight, but its types. -/
namespace Go.Proofs.YtbgcaneflfdddaaGreatDoor
open Go.RowKit Go
variable [GC]
def prC (l : List Cell) : List (ByteArray × Int) := l.map fun c => (c.key, c.val)
def prL (l : List Layer) : List (ByteArray × Int) := l.map fun c => (c.name, c.count)
def rowP (x : ByteArray × Int) : List D := [.str x.1, .int .i64 x.2]
theorem prC_row (l : List Cell) : (prC l).map rowP = l.map Enc.cells := by simp [prC, rowP, cells_Cell, Function.comp_def]
theorem prL_row (l : List Layer) : (prL l).map rowP = l.map Enc.cells := by simp [prL, rowP, cells_Layer, Function.comp_def]
theorem prC_len (l : List Cell) : (prC l).length = l.length := by simp [prC]
theorem prL_len (l : List Layer) : (prL l).length = l.length := by simp [prL]
theorem nth_map' {α β : Type} [Inhabited α] [Inhabited β] (f : α → β) {l : List α} {k : Nat} (h : k < l.length) : nth (l.map f) k = f (nth l k) := by
 simp [nth, List.getD_eq_getElem?_getD, h]
theorem prC_nth {l : List Cell} {k : Nat} (h : k < l.length) : nth (prC l) k = ((nth l k).key, (nth l k).val) := nth_map' _ h
theorem prL_nth {l : List Layer} {k : Nat} (h : k < l.length) : nth (prL l) k = ((nth l k).name, (nth l k).count) := nth_map' _ h
def pOk (x : ByteArray × Int) : Prop := x.1.size ≤ maxLen ∧ IntKind.i64.min ≤ x.2 ∧ x.2 ≤ IntKind.i64.max
def Row2 (K : Nat → Prop) (w : World) (g : Nat) (S : Value) (l : List (ByteArray × Int)) : Prop :=
 ∃ a cap, S = .slice a l.length cap ∧ l.length ≤ cap ∧ cap ≤ maxLen ∧ (a = none → cap = 0) ∧ (∀ x ∈ l, pOk x) ∧
  ∀ b o s, a = some ⟨b, o, s⟩ → 0 < cap → s = none ∧ K b ∧ b ≠ g ∧ ∃ cells T, w.heap[b]? = some (.cells cells T (0, 0)) ∧ o + cap * 2 ≤ cells.size ∧
   ∀ i, i < l.length → cells[o + i * 2]? = some (.string (nth l i).1) ∧ cells[o + i * 2 + 1]? = some (.int .i64 (nth l i).2)
theorem Row2.keep {K K' : Nat → Prop} {w w' : World} {g : Nat} {S : Value} {l : List (ByteArray × Int)} (h : Row2 K w g S l) (hw : ∀ b, OutB S b → w'.heap[b]? = w.heap[b]?) (hK : ∀ b, K b → K' b) : Row2 K' w' g S l := by
 obtain ⟨a, cap, rfl, h1, h2, h3, h4, h5⟩ := h
 refine ⟨a, cap, rfl, h1, h2, h3, h4, fun b o s e hc => ?_⟩
 obtain ⟨q1, q2, q3, cells, T, q4, q5⟩ := h5 b o s e hc
 exact ⟨q1, hK _ q2, q3, cells, T, by rw [hw b ⟨o, s, _, cap, by rw [e], hc⟩]; exact q4, q5⟩
theorem Row2.out {K : Nat → Prop} {w : World} {g : Nat} {S : Value} {l : List (ByteArray × Int)} (h : Row2 K w g S l) {b : Nat} (hb : OutB S b) : K b ∧ b ≠ g ∧ b < w.heap.size := by
 obtain ⟨a, cap, rfl, h1, h2, h3, h4, h5⟩ := h
 obtain ⟨o, s, len, cap', e, hc⟩ := hb
 simp only [Value.slice.injEq] at e
 obtain ⟨rfl, rfl, rfl⟩ := e
 obtain ⟨q1, q2, q3, cells, T, q4, q5⟩ := h5 b o s rfl hc
 exact ⟨q2, q3, (Array.getElem?_eq_some_iff.1 q4).1⟩
theorem Row2.at {K : Nat → Prop} {w : World} {g : Nat} {S : Value} {l : List (ByteArray × Int)} (h : Row2 K w g S l) {i : Nat} (hi : i < l.length) :
  ∃ b o cap, S = .slice (some ⟨b, o, none⟩) l.length cap ∧ K b ∧ b ≠ g ∧ OutB S b ∧ w.cell? ⟨b, o + i * 2, none⟩ = some (.string (nth l i).1) ∧ w.cell? ⟨b, o + i * 2 + 1, none⟩ = some (.int .i64 (nth l i).2) ∧ (∀ x y, w.frozen? ⟨b, x, y⟩ = false) ∧ b < w.heap.size := by
 have h0 := h
 obtain ⟨a, cap, rfl, h1, h2, h3, h4, h5⟩ := h
 rcases a with _ | ⟨b, o, s⟩
 ·have := h3 rfl; omega
 ·have hc : 0 < cap := by omega
  obtain ⟨rfl, q2, q3, cells, T, q4, q5, q6⟩ := h5 b o s rfl hc
  refine ⟨b, o, cap, rfl, q2, q3, ⟨o, none, _, cap, rfl, hc⟩, ?_, ?_, fun x y => ?_, (Array.getElem?_eq_some_iff.1 q4).1⟩
  ·simp only [World.cell?, q4]; exact (q6 i hi).1
  ·simp only [World.cell?, q4]; exact (q6 i hi).2
  ·unfold World.frozen?; rw [q4]; simp
theorem Row2.ok {K : Nat → Prop} {w : World} {g : Nat} {S : Value} {l : List (ByteArray × Int)} (h : Row2 K w g S l) {x : ByteArray × Int} (hx : x ∈ l) : pOk x := by
 obtain ⟨a, cap, rfl, h1, h2, h3, h4, h5⟩ := h
 exact h4 x hx
theorem Row2.okn {K : Nat → Prop} {w : World} {g : Nat} {S : Value} {l : List (ByteArray × Int)} (h : Row2 K w g S l) {i : Nat} (hi : i < l.length) : pOk (nth l i) := h.ok (nth_mem hi)
theorem Row2.lenS {K : Nat → Prop} {w : World} {g : Nat} {S : Value} {l : List (ByteArray × Int)} (h : Row2 K w g S l) : ∃ a cap, S = .slice a l.length cap ∧ l.length ≤ cap ∧ cap ≤ maxLen := by
 obtain ⟨a, cap, rfl, h1, h2, _⟩ := h
 exact ⟨a, cap, rfl, h1, h2⟩
theorem Row2.put {K : Nat → Prop} {w : World} {g : Nat} {l : List (ByteArray × Int)} {b o cap : Nat} {s : Option Nat} (h : Row2 K w g (.slice (some ⟨b, o, s⟩) l.length cap) l) {i : Nat} (hi : i < l.length) {v : Int} (hv : IntKind.i64.min ≤ v ∧ v ≤ IntKind.i64.max) :
  Row2 K (w.setCell ⟨b, o + i * 2 + 1, none⟩ (.int .i64 v)) g (.slice (some ⟨b, o, s⟩) l.length cap) (l.set i ((nth l i).1, v)) := by
 obtain ⟨a, cap', e, h1, h2, h3, h4, h5⟩ := h
 cases e
 refine ⟨_, cap, by rw [List.length_set], by rw [List.length_set]; exact h1, h2, (fun e => by cases e), fun x hx => ?_, fun b' o' s' e hc => ?_⟩
 ·rcases List.mem_or_eq_of_mem_set hx with hx | rfl
  ·exact h4 x hx
  ·exact ⟨(h4 _ (nth_mem hi)).1, hv⟩
 ·cases e
  obtain ⟨q1, q2, q3, cells, T, q4, q5, q6⟩ := h5 b o s rfl hc
  refine ⟨q1, q2, q3, cells.setIfInBounds (o + i * 2 + 1) (.int .i64 v), T, ?_, by simpa using q5, fun j hj => ?_⟩
  ·unfold World.setCell
   simp [Array.getElem?_modify, q4]
  ·rw [List.length_set] at hj
   obtain ⟨z1, z2⟩ := q6 j hj
   rw [nthC_set _ _ _ _ hi]
   constructor
   ·rw [Array.getElem?_setIfInBounds_ne (by omega), z1]
    split
    ·rename_i e; rw [e]
    ·rfl
   ·by_cases e : j = i
    ·subst e
     have hlt := (Array.getElem?_eq_some_iff.1 z2).1
     rw [if_pos rfl, Array.getElem?_setIfInBounds_self_of_lt hlt]
    ·rw [if_neg e, Array.getElem?_setIfInBounds_ne (by omega), z2]
theorem Row2.of {K : Nat → Prop} {w : World} {M : Addr → Prop} {g B : Nat} {S : Value} {l : List (ByteArray × Int)} (hr : R w M (.sl (l.map rowP)) S) (hl : LiveAt B w S 2) (hK : ∀ b, B ≤ b → b < w.heap.size → K b) (hg : ∀ b, B ≤ b → b < w.heap.size → b ≠ g) : Row2 K w g S l := by
 have hr0 := hr
 have hn : ∀ r ∈ l.map rowP, r.length = 2 := fun r hr => by obtain ⟨x, _, rfl⟩ := List.mem_map.1 hr; rfl
 obtain ⟨a, len, cap, rfl, h1, h2, h3, h4, h5⟩ := hr
 rw [List.length_map] at h1
 subst h1
 refine ⟨a, cap, rfl, h2, h3, h4, fun x hx => ?_, fun b o s e hc => ?_⟩
 ·have hf := R.fits _ _ hr0
  have : ∀ (rows : List (List D)), FitsR rows → ∀ r ∈ rows, FitsL r := by
   intro rows
   induction rows with
   | nil => intro _ r hr; cases hr
   | cons a t ih => intro h r hr; rcases List.mem_cons.1 hr with rfl | hr; exact h.1; exact ih h.2 r hr
  have := this _ hf.2 _ (List.mem_map.2 ⟨x, hx, rfl⟩)
  exact ⟨this.1, this.2.1.1, this.2.1.2⟩
 ·subst e
  obtain ⟨q1, q2, cells, T, q3, q4⟩ := hl b o s _ cap rfl hc
  have hlt := (Array.getElem?_eq_some_iff.1 q3).1
  refine ⟨q1, hK b q2 hlt, hg b q2 hlt, cells, T, q3, q4, fun i hi => ?_⟩
  have hrow : (l.map rowP)[i]? = some (rowP (nth l i)) := by
   rw [List.getElem?_map, List.getElem?_eq_getElem hi]; simp [nth, hi]
  obtain ⟨u0, c1, _, c2⟩ := flat_cells hn hr0 hrow (j := 0) rfl
  obtain ⟨u1, d1, _, d2⟩ := flat_cells hn hr0 hrow (j := 1) rfl
  simp only [World.cell?, q3] at c1 d1
  have c3 : u0 = _ := c2.1
  have d3 : u1 = _ := d2.1
  subst c3 d3
  exact ⟨by simpa using c1, by simpa using d1⟩
theorem Row2.rd {K : Nat → Prop} {w : World} {M : Addr → Prop} {g : Nat} {S : Value} {l : List (ByteArray × Int)} (h : Row2 K w g S l) (hM : ∀ b o cap i, S = .slice (some ⟨b, o, none⟩) l.length cap → K b → i < l.length * 2 → ¬ M ⟨b, o + i, none⟩) : R w M (.sl (l.map rowP)) S := by
 have hn : ∀ r ∈ l.map rowP, r.length = 2 := fun r hr => by obtain ⟨x, _, rfl⟩ := List.mem_map.1 hr; rfl
 obtain ⟨a, cap, rfl, h1, h2, h3, h4, h5⟩ := h
 rcases a with _ | ⟨b, o, s⟩
 ·have : l = [] := List.eq_nil_of_length_eq_zero (by have := h3 rfl; omega)
  subst this
  exact ⟨none, _, cap, rfl, rfl, h1, h2, h3, fun b o s e => by cases e⟩
 ·refine flat_of hn (by simp) h1 h2 (fun hl => (h5 b o s rfl (by omega)).1) fun i j r d hi hj => ?_
  have hil : i < l.length := by have := (List.getElem?_eq_some_iff.1 hi).1; simpa using this
  obtain ⟨rfl, q2, q3, cells, T, q4, q5, q6⟩ := h5 b o s rfl (by omega)
  have hx := h4 _ (nth_mem hil)
  have hr : r = rowP (nth l i) := by
   rw [List.getElem?_map, List.getElem?_eq_getElem hil] at hi
   cases hi; simp [nth, hil]
  subst hr
  match j, hj with
  | 0, hj => cases hj; exact ⟨_, by simp only [World.cell?, q4]; exact (q6 i hil).1, hM b o cap (i * 2) rfl q2 (by omega), rfl, hx.1⟩
  | 1, hj => cases hj; exact ⟨_, by simp only [World.cell?, q4]; exact (q6 i hil).2, by have := hM b o cap (i * 2 + 1) rfl q2 (by omega); rwa [← Nat.add_assoc] at this, rfl, hx.2⟩
theorem Row2.owns {K : Nat → Prop} {w : World} {g B : Nat} {T : TypeId} {v : Value} {n : Nat} {xs : List Value} {l : List (ByteArray × Int)} (h : w.ownsRow B T 2 v n xs) (hx : xs = l.flatMap fun x => [.string x.1, .int .i64 x.2]) (hn : n = l.length) (hok : ∀ x ∈ l, pOk x) (hK : ∀ b, B ≤ b → b < w.heap.size → K b) (hg : ∀ b, B ≤ b → b < w.heap.size → b ≠ g) : Row2 K w g v l := by
 subst hx hn
 obtain ⟨h0, ⟨rfl, hz⟩ | ⟨g', cap, cur, rfl, h1, h2, h3, h4, h5, h6⟩⟩ := h
 ·have : l = [] := List.eq_nil_of_length_eq_zero hz
  subst this
  exact ⟨none, 0, rfl, Nat.le_refl _, by decide, fun _ => rfl, hok, fun b o s e => by cases e⟩
 ·have hlt := (Array.getElem?_eq_some_iff.1 h2).1
  refine ⟨_, cap, rfl, h3, h4, (fun e => by cases e), hok, fun b o s e hc => ?_⟩
  cases e
  refine ⟨rfl, hK _ h1 hlt, hg _ h1 hlt, cur, T, h2, by omega, fun i hi => ?_⟩
  have key : ∀ (l : List (ByteArray × Int)) (i : Nat), i < l.length → (l.flatMap fun x => [Value.string x.1, .int .i64 x.2])[i * 2]? = some (.string (nth l i).1) ∧ (l.flatMap fun x => [Value.string x.1, .int .i64 x.2])[i * 2 + 1]? = some (.int .i64 (nth l i).2) := by
   intro l
   induction l with
   | nil => intro i hi; simp at hi
   | cons x r ih =>
    intro i hi
    cases i with
    | zero => simp [nth]
    | succ i =>
     have := ih i (by simpa using hi)
     have e1 : (i + 1) * 2 = i * 2 + 1 + 1 := by omega
     rw [nth_cons, e1]
     simpa using this
  obtain ⟨k1, k2⟩ := key l i hi
  rw [← h6, List.getElem?_take, if_pos (by omega)] at k1 k2
  rw [Nat.zero_add]
  exact ⟨by simpa using k1, by simpa using k2⟩
theorem heap_set_ne {w : World} {q : Addr} {v : Value} {b : Nat} (h : b ≠ q.block) : (w.setCell q v).heap[b]? = w.heap[b]? := by
 unfold World.setCell
 simp only [Array.getElem?_modify]
 rw [if_neg (fun e => h e.symm)]
section
structure PB (K : Nat → Prop) (w : World) (g : Nat) (S2 : Value) (p : Part) : Prop where
 gi : GInv w ∧ NG ≤ w.heap.size
 kb : ∀ b, K b → NG ≤ b ∧ b < w.heap.size
 kg : K g
 bx : ∃ S1, RBlk w g 29 #[.string p.core.kind, .bool p.core.on, .bool p.core.broken, S1, .int .i64 p.core.count, S2] ∧ Row2 K w g S1 (prC p.core.cells) ∧ ∀ b, OutB S1 b → ¬ OutB S2 b
 ly : Row2 K w g S2 (prL p.layers)
 ks : p.core.kind.size ≤ maxLen
 ct : IntKind.i64.min ≤ p.core.count ∧ p.core.count ≤ IntKind.i64.max
structure FrK (K : Nat → Prop) (w w' : World) : Prop where
 os : w'.os = w.os
 tape : w'.tape = w.tape
 output : w'.output = w.output
 size : w.heap.size ≤ w'.heap.size
 block : ∀ b, b < w.heap.size → ¬ K b → w'.heap[b]? = w.heap[b]?
theorem FrK.refl (K : Nat → Prop) (w : World) : FrK K w w := ⟨rfl, rfl, rfl, Nat.le_refl _, fun _ _ _ => rfl⟩
def Gr (K : Nat → Prop) (w w' : World) : Nat → Prop := fun b => K b ∨ (w.heap.size ≤ b ∧ b < w'.heap.size)
section
variable {K K' : Nat → Prop} {w w' : World} {g : Nat} {S2 : Value} {p : Part}
theorem PB.mono (h : PB K w g S2 p) (hK : ∀ b, K b → K' b) (hb : ∀ b, K' b → NG ≤ b ∧ b < w.heap.size) : PB K' w g S2 p := by
 obtain ⟨S1, q1, q2, q3⟩ := h.bx
 exact ⟨h.gi, hb, hK _ h.kg, ⟨S1, q1, q2.keep (fun _ _ => rfl) hK, q3⟩, h.ly.keep (fun _ _ => rfl) hK, h.ks, h.ct⟩
theorem PB.glt (h : PB K w g S2 p) : g < w.heap.size := (h.kb _ h.kg).2
theorem PB.below (h : PB K w g S2 p) (hb : Below w.heap.size w w') : PB K w' g S2 p := by
 obtain ⟨S1, q1, q2, q3⟩ := h.bx
 refine ⟨⟨h.gi.1.keep fun k hk => hb.block k (Nat.lt_of_lt_of_le hk h.gi.2), Nat.le_trans h.gi.2 hb.size⟩, fun b hk => ⟨(h.kb b hk).1, Nat.lt_of_lt_of_le (h.kb b hk).2 hb.size⟩, h.kg, ⟨S1, q1.below hb h.glt, ?_, q3⟩, ?_, h.ks, h.ct⟩
 ·exact q2.keep (fun b ho => hb.block b (q2.out ho).2.2) fun _ h => h
 ·exact h.ly.keep (fun b ho => hb.block b (h.ly.out ho).2.2) fun _ h => h
theorem PB.cells (h : PB K w g S2 p) : ∃ S1 a n cap, S1 = .slice a n cap ∧ n = p.core.cells.length ∧ n ≤ cap ∧ cap ≤ maxLen ∧ w.cell? ⟨g, 0, none⟩ = some (.string p.core.kind) ∧ w.cell? ⟨g, 1, none⟩ = some (.bool p.core.on) ∧ w.cell? ⟨g, 2, none⟩ = some (.bool p.core.broken) ∧ w.cell? ⟨g, 3, none⟩ = some S1 ∧ w.cell? ⟨g, 4, none⟩ = some (.int .i64 p.core.count) ∧ w.cell? ⟨g, 5, none⟩ = some S2 ∧
  (∀ i, w.frozen? ⟨g, i, none⟩ = false) ∧ Row2 K w g S1 (prC p.core.cells) ∧ ∀ b, OutB S1 b → ¬ OutB S2 b := by
 obtain ⟨S1, q1, q2, q3⟩ := h.bx
 obtain ⟨a, cap, e, z1, z2⟩ := q2.lenS
 rw [prC_len] at e z1
 exact ⟨S1, a, _, cap, e, rfl, z1, z2, by rw [q1.cell]; rfl, by rw [q1.cell]; rfl, by rw [q1.cell]; rfl, by rw [q1.cell]; rfl, by rw [q1.cell]; rfl, by rw [q1.cell]; rfl, q1.frozen, q2, q3⟩
theorem giK (h : GInv w ∧ NG ≤ w.heap.size) {q : Addr} {v : Value} (hq : NG ≤ q.block) : GInv (w.setCell q v) ∧ NG ≤ (w.setCell q v).heap.size := by
 refine ⟨h.1.keep fun k hk => ?_, by simpa using h.2⟩
 exact heap_set_ne (by omega)
theorem PB.set (h : PB K w g S2 p) {i : Nat} {v : Value} {q : Part} (hl : q.layers = p.layers) (hks : q.core.kind.size ≤ maxLen) (hct : IntKind.i64.min ≤ q.core.count ∧ q.core.count ≤ IntKind.i64.max)
  (hbx : ∀ S1, Row2 K w g S1 (prC p.core.cells) → (∀ b, OutB S1 b → ¬ OutB S2 b) → ∃ S1', (#[Value.string p.core.kind, .bool p.core.on, .bool p.core.broken, S1, .int .i64 p.core.count, S2].setIfInBounds i v) = #[.string q.core.kind, .bool q.core.on, .bool q.core.broken, S1', .int .i64 q.core.count, S2] ∧ Row2 K w g S1' (prC q.core.cells) ∧ ∀ b, OutB S1' b → ¬ OutB S2 b) :
  PB K (w.setCell ⟨g, i, none⟩ v) g S2 q := by
 obtain ⟨S1, q1, q2, q3⟩ := h.bx
 obtain ⟨S1', z1, z2, z3⟩ := hbx S1 q2 q3
 refine ⟨giK h.gi (h.kb _ h.kg).1, fun b hb => by have := h.kb b hb; simpa using this, h.kg, ⟨S1', by have := q1.set_ i v; rw [z1] at this; exact this, ?_, z3⟩, ?_, hks, hct⟩
 ·exact z2.keep (fun b ho => heap_set_ne (z2.out ho).2.1) fun _ h => h
 ·rw [hl]; exact h.ly.keep (fun b ho => heap_set_ne (h.ly.out ho).2.1) fun _ h => h
theorem PB.setOn (h : PB K w g S2 p) (b : Bool) : PB K (w.setCell ⟨g, 1, none⟩ (.bool b)) g S2 ⟨⟨p.core.kind, b, p.core.broken, p.core.cells, p.core.count⟩, p.layers⟩ :=
 h.set rfl h.ks h.ct fun S1 q2 q3 => ⟨S1, rfl, q2, q3⟩
theorem PB.setBroken (h : PB K w g S2 p) (b : Bool) : PB K (w.setCell ⟨g, 2, none⟩ (.bool b)) g S2 ⟨⟨p.core.kind, p.core.on, b, p.core.cells, p.core.count⟩, p.layers⟩ :=
 h.set rfl h.ks h.ct fun S1 q2 q3 => ⟨S1, rfl, q2, q3⟩
theorem PB.setCount (h : PB K w g S2 p) (n : Int) (hn : IntKind.i64.min ≤ n ∧ n ≤ IntKind.i64.max) : PB K (w.setCell ⟨g, 4, none⟩ (.int .i64 n)) g S2 ⟨⟨p.core.kind, p.core.on, p.core.broken, p.core.cells, n⟩, p.layers⟩ :=
 h.set rfl h.ks hn fun S1 q2 q3 => ⟨S1, rfl, q2, q3⟩
theorem PB.setCells (h : PB K w g S2 p) {S1 : Value} {l : List Cell} (hr : Row2 K w g S1 (prC l)) (ha : ∀ b, OutB S1 b → ¬ OutB S2 b) : PB K (w.setCell ⟨g, 3, none⟩ S1) g S2 ⟨⟨p.core.kind, p.core.on, p.core.broken, l, p.core.count⟩, p.layers⟩ :=
 h.set rfl h.ks h.ct fun S0 q2 q3 => ⟨S1, rfl, hr, ha⟩
theorem PB.putCell (h : PB K w g S2 p) {b o n cap i : Nat} {s : Option Nat} (hc : w.cell? ⟨g, 3, none⟩ = some (.slice (some ⟨b, o, s⟩) n cap)) (hi : i < p.core.cells.length) {v : Int} (hv : IntKind.i64.min ≤ v ∧ v ≤ IntKind.i64.max) :
  PB K (w.setCell ⟨b, o + i * 2 + 1, none⟩ (.int .i64 v)) g S2 ⟨⟨p.core.kind, p.core.on, p.core.broken, p.core.cells.set i ⟨(nth p.core.cells i).key, v⟩, p.core.count⟩, p.layers⟩ := by
 obtain ⟨S1, q1, q2, q3⟩ := h.bx
 have e : S1 = .slice (some ⟨b, o, s⟩) n cap := by
  rw [q1.cell] at hc
  simpa using hc
 subst e
 obtain ⟨a, cap', e, z1, z2⟩ := q2.lenS
 have en : n = (prC p.core.cells).length := by cases e; rfl
 subst en
 have hil : i < (prC p.core.cells).length := by rw [prC_len]; exact hi
 have hob : OutB (.slice (some ⟨b, o, s⟩) (prC p.core.cells).length cap) b := ⟨o, s, _, cap, rfl, by cases e; omega⟩
 have hb := q2.out hob
 have hput := q2.put hil hv
 have hset : (prC p.core.cells).set i ((nth (prC p.core.cells) i).1, v) = prC (p.core.cells.set i ⟨(nth p.core.cells i).key, v⟩) := by
  rw [prC_nth hi]
  unfold prC
  rw [List.map_set]
 rw [hset] at hput
 refine ⟨giK h.gi (h.kb _ hb.1).1, fun x hx => by have := h.kb x hx; simpa using this, h.kg, ⟨_, q1.far (fun e => hb.2.1 e.symm) _, hput, q3⟩, ?_, h.ks, h.ct⟩
 exact h.ly.keep (fun x ho => heap_set_ne (fun e => q3 b hob (by have e : x = b := e; rw [← e]; exact ho))) fun _ h => h
theorem PB.putLayer {b o n cap i : Nat} {s : Option Nat} (h : PB K w g (.slice (some ⟨b, o, s⟩) n cap) p) (hi : i < p.layers.length) {v : Int} (hv : IntKind.i64.min ≤ v ∧ v ≤ IntKind.i64.max) :
  PB K (w.setCell ⟨b, o + i * 2 + 1, none⟩ (.int .i64 v)) g (.slice (some ⟨b, o, s⟩) n cap) ⟨p.core, p.layers.set i ⟨(nth p.layers i).name, v⟩⟩ := by
 obtain ⟨S1, q1, q2, q3⟩ := h.bx
 have hly := h.ly
 obtain ⟨a, cap', e, z1, z2⟩ := hly.lenS
 have en : n = (prL p.layers).length := by cases e; rfl
 subst en
 have hil : i < (prL p.layers).length := by rw [prL_len]; exact hi
 have hob : OutB (.slice (some ⟨b, o, s⟩) (prL p.layers).length cap) b := ⟨o, s, _, cap, rfl, by cases e; omega⟩
 have hb := hly.out hob
 have hput := hly.put hil hv
 have hset : (prL p.layers).set i ((nth (prL p.layers) i).1, v) = prL (p.layers.set i ⟨(nth p.layers i).name, v⟩) := by
  rw [prL_nth hi]
  unfold prL
  rw [List.map_set]
 rw [hset] at hput
 refine ⟨giK h.gi (h.kb _ hb.1).1, fun x hx => by have := h.kb x hx; simpa using this, h.kg, ⟨S1, q1.far (fun e => hb.2.1 e.symm) _, ?_, q3⟩, hput, h.ks, h.ct⟩
 exact q2.keep (fun x ho => heap_set_ne (fun e => q3 x ho (by have e : x = b := e; rw [e]; exact hob))) fun _ h => h
theorem PB.rdy (h : PB K w g S2 p) : Rdy w (fun _ => False) := ⟨fun _ h => h.elim, h.gi.1, h.gi.2⟩
end
end
end Go.Proofs.YtbgcaneflfdddaaGreatDoor
/- Regions that draw their order, whose operations read and whose callees only make memory: one walk in the order of the text, under a class of worlds: what lay there lies there, and the cells that are read hold what they hold. No program in sight. -/
namespace Go.Proofs.YtbgcaneflfdddaaGreatDoor
open Go.RowKit
theorem keep_cell {w w1 : World} {p : Addr} {v : Value} (hb : Below w.heap.size w w1) (h : w.cell? p = some v) : w1.cell? p = some v := by
 rw [hb.cell (block_lt_of_cell h)]; exact h
def HoldC : List (Addr × Value) → World → Prop
 | [], _ => True
 | p :: r, w => w.cell? p.1 = some p.2 ∧ HoldC r w
theorem HoldC.keep {w w1 : World} (hb : Below w.heap.size w w1) : ∀ {L : List (Addr × Value)}, HoldC L w → HoldC L w1
 | [], _ => trivial
 | _ :: _, h => ⟨keep_cell hb h.1, HoldC.keep hb h.2⟩
theorem HoldC.drew {w : World} : ∀ {L : List (Addr × Value)}, HoldC L w → HoldC L w.drew
 | [], _ => trivial
 | _ :: _, h => ⟨h.1, HoldC.drew h.2⟩
def Cls (w0 : World) (L : List (Addr × Value)) (w : World) : Prop := Below w0.heap.size w0 w ∧ HoldC L w
theorem Cls.start {w0 w : World} {L : List (Addr × Value)} (h : Below w0.heap.size w0 w) (hc : HoldC L w) : Cls w0 L w.drew := ⟨h.drew, hc.drew⟩
section
variable {P : Program} {o : Oper} {a : Act} {C : World → Prop} {K : Act → Prop}
theorem quiet_run {v : Value} (h : ∀ w, C w → (execOp a.eval o).run P w = .ok (.value v) w) (hK : K (a.put o.dst v)) : o.quiet P a C K :=
 ⟨v, fun w hw => by unfold Oper.quietAt; rw [h w hw]; exact ⟨rfl, rfl⟩, hK⟩
theorem region_quiet {id : Nat} {Q : Exit → Act → World → Prop} {w : World} {l : List Oper} {C : World → Prop} (hm : P.follows .mixedOrders = true) (hB : Region.lexB .any l.toArray = true) (hC : C w.drew)
  (h : wpQuiet P l.toArray C (fun a' => ∀ w', C w' → Q .normal a' w') l a) : (Code.region id l.toArray true).wp P Q a w :=
 wp_region_quiet (C := C) hm hB hC (by simpa using h)
end
end Go.Proofs.YtbgcaneflfdddaaGreatDoor
