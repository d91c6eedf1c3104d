/- A symbolic executor over the operations of a function: what each operation does to a state of expressions, and the condition that is left to be shown. Definitions alone. No program in sight. -/
import Derived.Test.YtgaeigomhhbkfaaGreatAExp
import Derived.Laws.StructEq
namespace Go.Proofs.YtgaeigomhhbkfaaGreat
open Go.RowKit
set_option linter.unusedVariables false
set_option linter.unusedSimpArgs false

/-- What is known of a type: how a value of it reads, a struct's fields (offset, type), bytes. -/
structure TI where
  vt : VT
  fs : List (Nat × Nat)
  bytes : Nat
  eq : Bool := false
abbrev TB := List (Nat × TI)
def TB.get : TB → Nat → Option TI
  | [], _ => none
  | (t, i) :: r, T => bif Nat.beq t T then some i else TB.get r T
def TI.cells (i : TI) : List CT := match i.vt with | .one v => v.cells | .tup _ => []
def TB.tab (tb : TB) (e : Nat) : List CT := match tb.get e with | some i => i.cells | none => []
def zeroV : CT → Value → Bool
  | .bool, .bool b => !b
  | .int k, .int k' n => k == k' && n == 0
  | .str, .string s => s.size == 0
  | .sl _, .slice none 0 0 => true
  | _, _ => false
def zerosV : List CT → List Value → Bool
  | [], [] => true
  | t :: ts, v :: vs => zeroV t v && zerosV ts vs
  | _, _ => false
def zeroOk : V1 → Option Value → Bool
  | .c t, some v => zeroV t v
  | .agg ts, some (.agg cs) => zerosV ts cs.toList
  | _, _ => false
def fieldsOk (tb : TB) : List (Nat × Nat) → List Field → Bool
  | [], [] => true
  | (o, t) :: r, f :: fs => o == f.offset && t == f.type && (match tb.get t with | some i => (match i.vt with | .one _ => true | .tup _ => false) | none => false) && fieldsOk tb r fs
  | _, _ => false
def descOk (tb : TB) (v : V1) (fs : List (Nat × Nat)) (d : Option TypeDesc) : Bool :=
  match v, d with
  | .c .bool, some .bool => true
  | .c (.int k), some (.int k') => k == k'
  | .c .str, some .string => true
  | .c (.sl e), some (.slice e') => e == e'
  | .agg _, some (.struct fields) => fieldsOk tb fs fields.toList
  | _, _ => false
/-- A type whose values may be compared cell by cell. -/
def contig (tb : TB) : Nat → List CT → List (Nat × Nat) → Bool
  | _, ts, [] => ts.isEmpty
  | o, ts, (o', t) :: r => Nat.beq o o' && match tb.get t with
    | some i => decide (ts.take i.cells.length = i.cells) && contig tb (o + i.cells.length) (ts.drop i.cells.length) r
    | none => false
def eqTy (P : Program) (tb : TB) : Nat → Nat → Bool
  | 0, _ => false
  | d + 1, T => match tb.get T with
    | none => false
    | some ti => match ti.vt with
      | .one (.c (.sl _)) => false
      | .one (.c _) => true
      | .one (.agg ts) => !P.stoodInHeld T && (P.fieldsOf T).toList.all (fun f => !(f.name == "_")) && ti.fs.all (fun x => eqTy P tb d x.2) && contig tb 0 ts ti.fs
      | .tup _ => false
def tiOk (P : Program) (tb : TB) (T : Nat) (ti : TI) : Bool :=
  match ti.vt with
  | .tup _ => (match ti.fs with
    | [] => true
    | [(n, e)] => (match P.underlying T with | some (.array n' e') => Nat.beq n n' && Nat.beq e e' | _ => false) && (match P.info? T with | some i => Nat.beq i.size n | none => false)
    | _ => false)
  | .one v => match P.info? T with
    | none => false
    | some i => i.size == v.cells.length && i.bytes == ti.bytes && zeroOk v i.zero && descOk tb v ti.fs (P.underlying T) && (!ti.eq || (eqTy P tb 8 T && !P.eqGuardType P.depth T))
def tbOk (P : Program) (tb : TB) : TB → Bool
  | [] => true
  | (T, ti) :: r => tiOk P tb T ti && tbOk P tb r

abbrev Gd := List (E × Bool)
/-- A slice value may have room behind it that is its own (a right), or none at all. -/
inductive KK where
  | d | own (g : Nat) | full
  deriving DecidableEq
/-- ag: of each cell of a value of many cells. -/
inductive K where
  | d | own (g : Nat) | full | ag (ks : List KK)
  deriving DecidableEq
def KK.k : KK → K
  | .d => .d | .own g => .own g | .full => .full
def K.kk : K → KK
  | .own g => .own g | .full => .full | _ => .d
/-- The kind of the j-th cell of a value. -/
def K.nth : K → Nat → K
  | .ag ks, j => (ks.getD j .d).k
  | _, _ => .d
/-- The kind of a value out of those of its cells. -/
def packK (ks : List K) : K := bif ks.all (fun k => decide (k.kk = .d)) then .d else .ag (ks.map K.kk)
def subK (k : K) (off : Nat) : Option V1 → K
  | some (.c _) => k.nth off
  | some (.agg ts) => packK ((List.range ts.length).map fun j => k.nth (off + j))
  | none => .d
/-- How many cells lie before the i-th part. -/
def offT : List V1 → Nat → Nat
  | v :: r, i + 1 => v.cells.length + offT r i
  | _, _ => 0
/-- A row's room that is ours (of cells a row has n); and what the row holds, if that is ours too; if cells of it are rows of our own in turn: the tag that names them, and how many cells a row of each column's has (0: no row stands there). -/
structure LV where
  n : Nat
  body : Option (E × Option (Nat × List Nat)) := none
  deriving DecidableEq
inductive ST where
  | un
  | v (gs : Gd) (k : K) (e : E)
  | ptr (gs : Gd) (id off : Nat)
  | ro (gs : Gd) (e : E) (off : Nat)
  | box (cs : List (K × E))
  | live (n : LV)
  | gp (gs : Gd) (g : Nat) (x i : E)
  | mp (gs : Gd) (g n : Nat) (i : E) (off : Nat)
  | iv (gs : Gd) (g gv n : Nat) (i : E) (off : Nat) (l : E)
  | ip (gs : Gd) (g gv n : Nat) (i : E) (off : Nat) (j : E) (m o2 : Nat)
  deriving DecidableEq
abbrev Sg := List (Nat × ST)
def Sg.get : Sg → Nat → ST
  | [], _ => .un
  | (l, s) :: r, x => bif Nat.beq l x then s else Sg.get r x

def gdIn (g gs : Gd) : Bool := g.all fun x => gs.contains x
def under (gs : Gd) : ST → Option ST
  | .v g k e => bif gdIn g gs then some (.v gs k e) else none
  | .ptr g id off => bif gdIn g gs then some (.ptr gs id off) else none
  | .ro g e off => bif gdIn g gs then some (.ro gs e off) else none
  | _ => none
/-- An operand that is a plain value. -/
def undV (gs : Gd) (s : Option ST) : Option (K × E) :=
  match s.bind (under gs) with
  | some (.v _ k e) => some (k, e)
  | _ => none

inductive Rq where
  | cond (gs : Gd) (c : E)
  | call (gs : Gd) (f : Nat) (bx : Option (List E)) (args : List E) (vt : VT) (nb : List CT)
  | callR (f : Nat) (bx : Option (List E)) (args : List E) (vt : VT) (nb : List CT) (rt : List (Nat × Nat))
  | new (f : Nat) (args : List E) (nb : List CT)
  | callV (gs : Gd) (e : E) (args : List E) (vt : VT)
  | glob (g : Nat) (vt : VT) (ix : Option (Gd × E × Nat))
structure Eff where
  wr : List (Nat × ST)
  rq : List Rq

/-- rb: which slices in a function's answer have room behind them that is its own: the cell's place, cells of an element. -/
abbrev RB := List (Nat × List (Nat × Nat))
def RB.get : RB → Nat → List (Nat × Nat)
  | [], _ => []
  | (f, r) :: q, x => bif Nat.beq f x then r else RB.get q x
structure Cx where
  tb : TB
  nt : Nat
  rb : RB := []
/-- How many rights one operation may make. -/
def stride : Nat := 8
def rtAt : Nat → List (Nat × Nat) → Nat → KK
  | _, [], _ => .d
  | g, (q, _) :: r, p => bif Nat.beq q p then .own g else rtAt (g + 1) r p
def cellsT : VT → Nat
  | .one v => v.cells.length
  | .tup vs => (vs.map fun v => v.cells.length).sum
/-- The kind of an answer with rights. -/
def rtK (g : Nat) (rt : List (Nat × Nat)) : VT → K
  | .one (.c _) => (rtAt g rt 0).k
  | vt => .ag ((List.range (cellsT vt)).map (rtAt g rt))
def rtLive : Nat → List (Nat × Nat) → List (Nat × ST)
  | _, [] => []
  | g, (_, m) :: r => (3 * g + 2, .live ⟨m, none⟩) :: rtLive (g + 1) r

def constST (tb : TB) (T : Nat) : Value → Option ST
  | .bool b => some (.v [] .d (.lb b))
  | .int k n => if k.min ≤ n ∧ n ≤ k.max then some (.v [] .d (.li k n)) else none
  | .string s => if s.size ≤ maxLen then some (.v [] .d (.ls s)) else none
  | .slice none 0 0 => match tb.get T with
    | some ⟨.one (.c (.sl e)), _, _, _⟩ => some (.v [] .full (.nilS e))
    | _ => none
  | _ => none
def opd (tb : TB) (σ : Nat → ST) (T : Nat) : Operand → Option ST
  | .tmp t => some (σ (3 * t))
  | .const v => constST tb T v
  | _ => none
def gsOf (tab : Nat → List CT) (Γ : List VT) (ops : Array Oper) (σ : Nat → ST) (o : Oper) : Option Gd :=
  match o.guard with
  | none => some []
  | some (j, b) => match (ops[j]?).bind (·.dst) with
    | some d => match σ (3 * d) with
      | .v gs _ c => bif isC .bool (c.inf tab Γ) then some (gs ++ [(c, b)]) else none
      | _ => none
    | none => none
def wv (dst : Option Nat) (st : ST) : List (Nat × ST) := match dst with | some d => [(3 * d, st)] | none => []
def mk : List E → E
  | [] => .ag0
  | e :: r => .cat (.ag1 e) (mk r)
/-- Cells as one aggregate; neighbours of one that was taken apart. -/
def pack (tab : Nat → List CT) (Γ : List VT) (es : List E) : E :=
  match es with
  | .cell x i :: r => match x.inf tab Γ with
    | some (.one (.agg us)) => if es = (List.range' i es.length).map (.cell x) ∧ i + es.length ≤ us.length then (if i = 0 ∧ es.length = us.length then x else .sub x i es.length) else mk es
    | _ => mk es
  | _ => mk es
def apart (k : K) (n : Nat) (e : E) : List (K × E) := (List.range n).map fun j => (k.nth j, .cell e j)
def setAll {α : Type} (cs : List α) (off : Nat) : List α → List α
  | [] => cs
  | x :: r => setAll (cs.set off x) (off + 1) r
def zeroE : CT → K × E
  | .bool => (.d, .lb false) | .int k => (.d, .li k 0) | .str => (.d, .ls .empty) | .sl e => (.full, .nilS e) | .mem => (.d, .mem (.li .i64 0)) | .fn => (.d, .fn0 0)

def eMove (gs : Gd) (dst : Option Nat) (s : Option ST) : Option Eff := (s.bind (under gs)).map fun s => ⟨wv dst s, []⟩
def eLoad (tab : Nat → List CT) (Γ : List VT) (gs : Gd) (dst : Option Nat) (σ : Nat → ST) (ti : TI) (s : Option ST) : Option Eff :=
  match s.bind (under gs) with
  | some (.ptr _ id off) => match σ (3 * id + 1) with
    | .box cs => match ti.vt with
      | .one (.c _) => match cs[off]? with
        | some (k, e) => some ⟨wv dst (.v gs k e), []⟩
        | none => none
      | .one (.agg ts) => if off + ts.length ≤ cs.length then some ⟨wv dst (.v gs (packK (((cs.drop off).take ts.length).map (·.1))) (pack tab Γ (((cs.drop off).take ts.length).map (·.2)))), []⟩ else none
      | _ => none
    | _ => none
  | some (.ro _ e off) => match e.inf tab Γ with
    | some (.one (.agg us)) => match ti.vt with
      | .one (.c _) => if off < us.length then some ⟨wv dst (.v gs .d (.cell e off)), []⟩ else none
      | .one (.agg ts) => if off = 0 ∧ ts.length = us.length then some ⟨wv dst (.v gs .d e), []⟩
          else if off + ts.length ≤ us.length then some ⟨wv dst (.v gs .d (.sub e off ts.length)), []⟩ else none
      | _ => none
    | _ => none
  | _ => none
def eStore (tab : Nat → List CT) (Γ : List VT) (gs : Gd) (dst : Option Nat) (σ : Nat → ST) (ti : TI) (s : Option ST) (x : Option ST) : Option Eff :=
  match gs, dst, s.bind (under []), undV [] x with
  | [], none, some (.ptr _ id off), some (k, e) => match σ (3 * id + 1) with
    | .box cs => match ti.vt, e.inf tab Γ with
      | .one (.c _), some (.one (.c _)) => if off < cs.length then some ⟨[(3 * id + 1, .box (cs.set off (k, e)))], []⟩ else none
      | .one (.agg ts), some (.one (.agg us)) => if ts.length = us.length ∧ off + ts.length ≤ cs.length then some ⟨[(3 * id + 1, .box (setAll cs off (apart k ts.length e)))], []⟩ else none
      | _, _ => none
    | _ => none
  | _, _, _, _ => none
def eField (tb : TB) (Γ : List VT) (gs : Gd) (dst : Option Nat) (ti : TI) (s : Option ST) (f : Nat) : Option Eff :=
  match ti.vt, ti.fs[f]? with
  | .one (.agg _), some (fo, ft) => match tb.get ft with
    | some fi => if fi.cells.length = 0 then none else match fi.vt with
      | .tup _ => none
      | .one _ => match s.bind (under gs) with
        | some (.ptr _ id off) => some ⟨wv dst (.ptr gs id (off + fo)), []⟩
        | some (.ro _ e off) => some ⟨wv dst (.ro gs e (off + fo)), []⟩
        | _ => none
    | none => none
  | _, _ => none
def eIndex (tb : TB) (Γ : List VT) (gs : Gd) (dst : Option Nat) (ti : TI) (x i : Option ST) : Option Eff :=
  match ti.vt, undV gs x, undV gs i with
  | .one (.c (.sl el)), some (_, ex), some (_, ei) => match tb.get el with
    | some ei' => match ei'.vt with
      | .tup _ => none
      | .one _ => if isC (.sl el) (ex.inf tb.tab Γ) ∧ (isInt (ei.inf tb.tab Γ)).isSome then some ⟨wv dst (.ro gs (.row (tb.tab el) ex ei) 0), [.cond gs (.inb ex ei)]⟩ else none
    | none => none
  | _, _, _ => none
def eBox (tab : Nat → List CT) (Γ : List VT) (gs : Gd) (dst : Option Nat) (g : Nat) (x : Option ST) : Option Eff :=
  match gs, undV [] x with
  | [], some (k, e) => match e.inf tab Γ with
    | some (.one (.c _)) => some ⟨wv dst (.ptr [] g 0) ++ [(3 * g + 1, .box [(k, e)])], []⟩
    | some (.one (.agg ts)) => some ⟨wv dst (.ptr [] g 0) ++ [(3 * g + 1, .box (apart k ts.length e))], []⟩
    | _ => none
  | _, _ => none
def eAlloc (gs : Gd) (dst : Option Nat) (g : Nat) (ti : TI) : Option Eff :=
  match gs, ti.vt with
  | [], .one v => some ⟨wv dst (.ptr [] g 0) ++ [(3 * g + 1, .box (v.cells.map zeroE))], []⟩
  | _, _ => none
def eParts (tb : TB) (Γ : List VT) (gs : Gd) (σ : Nat → ST) (fs : List (Nat × Nat)) : List (Nat × Operand) → List (K × E) → Option (List (K × E))
  | [], cs => some cs
  | (f, x) :: r, cs => match fs[f]? with
    | some (fo, ft) => match tb.get ft, undV gs (opd tb σ ft x) with
      | some fi, some (k, e) => match fi.vt, e.inf tb.tab Γ with
        | .one (.c _), some (.one (.c _)) => if fo < cs.length then eParts tb Γ gs σ fs r (cs.set fo (k, e)) else none
        | .one (.agg us), some (.one (.agg ts)) => if us.length = ts.length ∧ fo + ts.length ≤ cs.length then eParts tb Γ gs σ fs r (setAll cs fo (apart k ts.length e)) else none
        | _, _ => none
      | _, _ => none
    | none => none
def eBuild (tb : TB) (Γ : List VT) (gs : Gd) (dst : Option Nat) (σ : Nat → ST) (ti : TI) (parts : List (Nat × Operand)) : Option Eff :=
  match ti.vt with
  | .one (.agg ts) => (eParts tb Γ gs σ ti.fs parts (ts.map zeroE)).map fun cs => ⟨wv dst (.v gs (packK (cs.map (·.1))) (pack tb.tab Γ (cs.map (·.2)))), []⟩
  | _ => none
def eRows (tb : TB) (Γ : List VT) (gs : Gd) (σ : Nat → ST) (el : Nat) : Nat → List (Nat × Operand) → E → Option E
  | _, [], acc => some acc
  | n, (i, x) :: r, acc => if i = n then
      match undV gs (opd tb σ el x) with
      | some (_, e) => match e.inf tb.tab Γ with
        | some (.one (.c t)) => if tb.tab el = [t] then eRows tb Γ gs σ el (n + 1) r (.put acc (.ag1 e)) else none
        | some (.one (.agg ts)) => if tb.tab el = ts then eRows tb Γ gs σ el (n + 1) r (.put acc e) else none
        | _ => none
      | none => none
    else none
def eRowsOk (tb : TB) (el len : Nat) : Bool :=
  match tb.get el with
  | some i => match i.vt with | .one _ => decide (len * i.cells.length ≤ 65536) && decide (0 < i.cells.length) | _ => false
  | none => false
def eBuildSlice (tb : TB) (Γ : List VT) (gs : Gd) (dst : Option Nat) (σ : Nat → ST) (ti : TI) (len : Nat) (parts : List (Nat × Operand)) : Option Eff :=
  match ti.vt with
  | .one (.c (.sl el)) => if parts.length = len ∧ eRowsOk tb el len = true then (eRows tb Γ gs σ el 0 parts (.nilS el)).map fun e => ⟨wv dst (.v gs (bif Nat.beq len 0 then .full else .d) e), []⟩ else none
  | _ => none
/-- A row that is laid has a right: its array is new. -/
def eBuildOwn (tb : TB) (Γ : List VT) (gs : Gd) (dst : Option Nat) (σ : Nat → ST) (g : Nat) (ti : TI) (len : Nat) (parts : List (Nat × Operand)) : Option Eff :=
  match gs, ti.vt with
  | [], .one (.c (.sl el)) => if parts.length = len ∧ eRowsOk tb el len = true then (eRows tb Γ [] σ el 0 parts (.nilS el)).map fun e => ⟨wv dst (.v [] (.own g) e) ++ [(3 * g + 2, .live ⟨(tb.tab el).length, none⟩)], []⟩ else none
  | _, _ => none
def isSeq : VT → Bool
  | .one (.c .str) | .one (.c (.sl _)) => true
  | _ => false
def isSl : VT → Bool
  | .one (.c (.sl _)) => true
  | _ => false
/-- Cells without memory. -/
def leafC : CT → Bool
  | .sl _ | .mem | .fn => false
  | _ => true
def leafs (ts : List CT) : Bool := ts.all leafC
def slElem (tb : TB) : VT → Bool
  | .one (.c (.sl e)) => (match tb.get e with | some i => (match i.vt with | .one _ => true | .tup _ => false) | none => false)
  | _ => true
def eSlice (tb : TB) (Γ : List VT) (gs : Gd) (dst : Option Nat) (ti : TI) (x : Option ST) (lo hi : Option (Option ST)) : Option Eff :=
  match undV gs x, (match lo with | none => some (K.d, E.li .i64 0) | some s => undV gs s) with
  | some (_, ex), some (_, el) => match (match hi with | none => some (K.d, E.len ex) | some s => undV gs s) with
    | some (_, eh) => if ex.inf tb.tab Γ = some ti.vt ∧ (isInt (el.inf tb.tab Γ)).isSome ∧ (isInt (eh.inf tb.tab Γ)).isSome ∧ isSeq ti.vt = true ∧ slElem tb ti.vt = true then
        some ⟨wv dst (.v gs .d (.cut ex el eh)), [.cond gs (.inc ex el eh)]⟩ else none
    | none => none
  | _, _ => none
/-- The element of a row of bytes is a byte. -/
def u8In (tb : TB) (src : TI) : Bool := match src.vt with
  | .one (.c (.sl el)) => (match tb.get el with | some i => (match i.vt with | .one (.c (.int .u8)) => true | _ => false) | none => false)
  | _ => false
def eConv (tab : Nat → List CT) (Γ : List VT) (gs : Gd) (dst : Option Nat) (u8 : Bool) (src ti : TI) (x : Option ST) : Option Eff :=
  match src.vt, ti.vt, undV gs x with
  | .one (.c (.int _)), .one (.c (.int k)), some (_, e) => if (isInt (e.inf tab Γ)).isSome then some ⟨wv dst (.v gs .d (.conv k e)), []⟩ else none
  | .one (.c (.sl el)), .one (.c .str), some (_, e) => if isC (.sl el) (e.inf tab Γ) ∧ u8 = true ∧ tab el = [.int .u8] then some ⟨wv dst (.v gs .d (.bstr e)), []⟩ else none
  | _, _, _ => none
def eExtract (tab : Nat → List CT) (Γ : List VT) (gs : Gd) (dst : Option Nat) (x : Option ST) (i : Nat) : Option Eff :=
  match undV gs x with
  | some (k, e) => match e.inf tab Γ with
    | some (.tup vs) => if i < vs.length then some ⟨wv dst (.v gs (subK k (offT vs i) vs[i]?) (.proj e i)), []⟩ else none
    | _ => none
  | none => none
def eNot (tab : Nat → List CT) (Γ : List VT) (gs : Gd) (dst : Option Nat) (x : Option ST) : Option Eff :=
  match undV gs x with
  | some (_, e) => if isC .bool (e.inf tab Γ) then some ⟨wv dst (.v gs .d (.no e)), []⟩ else none
  | none => none
def eNeg (tab : Nat → List CT) (Γ : List VT) (gs : Gd) (dst : Option Nat) (x : Option ST) : Option Eff :=
  match undV gs x with
  | some (_, e) => match e.inf tab Γ with
    | some (.one (.c (.int k))) => some ⟨wv dst (.v gs .d (.ar .sub k (.li k 0) e)), []⟩
    | _ => none
  | none => none
def pickE (tab : Nat → List CT) (Γ : List VT) (ec ea eb : E) : E :=
  if ea = .lb true ∧ isC .bool (eb.inf tab Γ) = true then .or ec eb else if eb = .lb false ∧ isC .bool (ea.inf tab Γ) = true then .an ec ea else .ite ec ea eb
def ePick (tab : Nat → List CT) (Γ : List VT) (gs : Gd) (dst : Option Nat) (c a b : Option ST) : Option Eff :=
  match undV gs c with
  | some (_, ec) => if isC .bool (ec.inf tab Γ) then
      match undV (gs ++ [(ec, true)]) a, undV (gs ++ [(ec, false)]) b with
      | some (_, ea), some (_, eb) => some ⟨wv dst (.v gs .d (pickE tab Γ ec ea eb)), []⟩
      | _, _ => none
    else none
  | none => none
def eLen (tab : Nat → List CT) (Γ : List VT) (gs : Gd) (dst : Option Nat) (ti : TI) (x : Option ST) : Option Eff :=
  match undV gs x with
  | some (_, e) => if (e.inf tab Γ = some ti.vt ∧ isSeq ti.vt = true) ∨ (e.inf tab Γ = some (.one (.c .mem)) ∧ isSl ti.vt = true) then some ⟨wv dst (.v gs .d (.len e)), []⟩ else none
  | none => none
def eAppend (tb : TB) (Γ : List VT) (gs : Gd) (dst : Option Nat) (σ : Nat → ST) (g : Nat) (ti ti' : TI) (x y : Option ST) : Option Eff :=
  match gs, ti.vt, ti'.vt with
  | [], .one (.c (.sl el)), .one (.c (.sl _)) => match undV [] x, undV [] y, tb.get el with
    | some (k, ex), some (_, ey), some ei => if isC (.sl el) (ex.inf tb.tab Γ) ∧ isC (.sl el) (ey.inf tb.tab Γ) ∧ ei.bytes ≤ 1024 ∧ 0 < ei.bytes ∧ 0 < ei.cells.length then
        match ei.vt with
        | .tup _ => none
        | .one _ => match k with
          | .full => some ⟨wv dst (.v [] (.own g) (.app ex ey)) ++ [(3 * g + 2, .live ⟨ei.cells.length, none⟩)], [.cond [] (.few ex ey)]⟩
          | .own h => match σ (3 * h + 2) with
            | .live n => if n = ⟨ei.cells.length, none⟩ then some ⟨wv dst (.v [] (.own g) (.app ex ey)) ++ [(3 * h + 2, .un), (3 * g + 2, .live ⟨ei.cells.length, none⟩)], [.cond [] (.few ex ey)]⟩ else none
            | _ => none
          | _ => none
      else none
    | _, _, _ => none
  | _, _, _ => none
def eAt (tab : Nat → List CT) (Γ : List VT) (gs : Gd) (dst : Option Nat) (ti : TI) (x i : Option ST) : Option Eff :=
  match ti.vt, undV gs x, undV gs i with
  | .one (.c .str), some (_, ex), some (_, ei) => if isC .str (ex.inf tab Γ) ∧ (isInt (ei.inf tab Γ)).isSome then some ⟨wv dst (.v gs .d (.at ex ei)), [.cond gs (.inb ex ei)]⟩ else none
  | _, _, _ => none
def eNil (gs : Gd) (dst : Option Nat) (s : Option ST) : Option Eff :=
  match s.bind (under gs) with
  | some (.ptr _ id off) => some ⟨wv dst (.ptr gs id off), []⟩
  | some (.ro _ e off) => some ⟨wv dst (.ro gs e off), []⟩
  | _ => none
def isAr : BinOp → Bool
  | .add | .sub | .mul | .and | .or | .xor | .andNot => true
  | _ => false
def isCmp : BinOp → Bool
  | .eql | .neq | .lss | .leq | .gtr | .geq => true
  | _ => false
def eBin (tab : Nat → List CT) (Γ : List VT) (gs : Gd) (dst : Option Nat) (op : BinOp) (ti : Option TI) (x y : Option ST) : Option Eff :=
  match undV gs x, undV gs y with
  | some (_, a), some (_, b) => match a.inf tab Γ, b.inf tab Γ with
    | some (.one (.c (.int k))), some (.one (.c (.int k'))) =>
      if op = .shl ∨ op = .shr then some ⟨wv dst (.v gs .d (.ar op k a b)), [.cond gs (.ic .geq b (.li k' 0))]⟩
      else if k ≠ k' then none
      else if isAr op then some ⟨wv dst (.v gs .d (.ar op k a b)), []⟩
      else if isCmp op then some ⟨wv dst (.v gs .d (.ic op a b)), []⟩
      else if op = .quo ∨ op = .rem then some ⟨wv dst (.v gs .d (.ar op k a b)), [.cond gs (.ic .neq b (.li k 0))]⟩
      else none
    | some (.one (.c .str)), some (.one (.c .str)) =>
      if isCmp op then some ⟨wv dst (.v gs .d (.sc op a b)), []⟩
      else if op = .add then some ⟨wv dst (.v gs .d (.scat a b)), [.cond gs (.sok a b)]⟩
      else none
    | some (.one (.agg ts)), some (.one (.agg us)) => match ti with
      | some i => if i.eq = true ∧ i.vt = .one (.agg ts) ∧ i.vt = .one (.agg us) then
          if op = .eql then some ⟨wv dst (.v gs .d (.ae a b)), []⟩ else if op = .neq then some ⟨wv dst (.v gs .d (.no (.ae a b))), []⟩ else none
        else none
      | none => none
    | some (.one (.c .bool)), some (.one (.c .bool)) => match ti with
      | some i => if i.vt = .one (.c .bool) then
          if op = .eql then some ⟨wv dst (.v gs .d (.bc a b)), []⟩ else if op = .neq then some ⟨wv dst (.v gs .d (.no (.bc a b))), []⟩ else none
        else none
      | none => none
    | _, _ => none
  | _, _ => none
def eArgs (tb : TB) (Γ : List VT) (gs : Gd) (σ : Nat → ST) : List Operand → List Nat → Option (List E)
  | [], [] => some []
  | x :: xs, T :: Ts => match undV gs (opd tb σ T x), eArgs tb Γ gs σ xs Ts with
    | some (_, e), some es => some (e :: es)
    | _, _ => none
  | _, _ => none
def isPtr : Option ST → Option (Gd × Nat)
  | some (.ptr g id 0) => some (g, id)
  | _ => none
def vars (n : Nat) : List CT → List (K × E)
  | [] => []
  | _ :: r => (.d, .var n) :: vars (n + 1) r
def infC (tab : Nat → List CT) (Γ : List VT) : List (K × E) → Option (List CT)
  | [] => some []
  | (_, e) :: r => match e.inf tab Γ, infC tab Γ r with
    | some (.one (.c t)), some ts => some (t :: ts)
    | _, _ => none
def eCall (tb : TB) (Γ : List VT) (gs : Gd) (dst : Option Nat) (σ : Nat → ST) (g : Nat) (rt : List (Nat × Nat)) (ti : TI) (f : Nat) (args : List Operand) (tys : List Nat) : Option Eff :=
  match args, tys with
  | x :: xs, T :: Ts => match isPtr (opd tb σ T x) with
    | some (g', id) => match gs, g', σ (3 * id + 1), eArgs tb Γ [] σ xs Ts with
      | [], [], .box cs, some es => match infC tb.tab Γ cs with
        | some nb => if rt = [] then some ⟨wv dst (.v [] .d (.var Γ.length)) ++ [(3 * id + 1, .box (vars (Γ.length + 1) nb))], [.call [] f (some (cs.map (·.2))) es ti.vt nb]⟩
            else if rt.length ≤ stride then some ⟨wv dst (.v [] (rtK g rt ti.vt) (.var Γ.length)) ++ ((3 * id + 1, .box (vars (Γ.length + 1) nb)) :: rtLive g rt), [.callR f (some (cs.map (·.2))) es ti.vt nb rt]⟩ else none
        | none => none
      | _, _, _, _ => none
    | none => match eArgs tb Γ gs σ args tys with
      | some es => if gs = [] ∧ rt ≠ [] ∧ rt.length ≤ stride then some ⟨wv dst (.v [] (rtK g rt ti.vt) (.var Γ.length)) ++ rtLive g rt, [.callR f none es ti.vt [] rt]⟩
          else some ⟨wv dst (.v gs .d (.var Γ.length)), [.call gs f none es ti.vt []]⟩
      | none => none
  | [], [] => some ⟨wv dst (.v gs .d (.var Γ.length)), [.call gs f none [] ti.vt []]⟩
  | _, _ => none

/-- A table's entry of a pointer type: what a box behind it has. -/
def isNew (ti : TI) : Option (List CT) :=
  match ti.vt with
  | .tup [.agg nb] => bif ti.eq then some nb else none
  | _ => none
def eNew (tb : TB) (Γ : List VT) (gs : Gd) (dst : Option Nat) (σ : Nat → ST) (g : Nat) (nb : List CT) (f : Nat) (args : List Operand) (tys : List Nat) : Option Eff :=
  match gs, eArgs tb Γ [] σ args tys with
  | [], some es => some ⟨wv dst (.ptr [] g 0) ++ [(3 * g + 1, .box (vars Γ.length nb))], [.new f es nb]⟩
  | _, _ => none

/-- A table's entry of an array: how many elements, of which kind. -/
def arrOf (tb : TB) (ti : TI) : Option (Nat × CT) :=
  match ti.vt, ti.fs with
  | .tup _, [(n, e)] => match tb.get e with
    | some ei => match ei.vt with
      | .one (.c t) => some (n, t)
      | _ => none
    | none => none
  | _, _ => none
def eGlob (tb : TB) (Γ : List VT) (gs : Gd) (dst : Option Nat) (ti : TI) (g : Nat) : Option Eff :=
  match arrOf tb ti with
  | some (n, t) => some ⟨wv dst (.v gs .d (.var Γ.length)), [.glob g (.one (.agg (List.replicate n t))) none]⟩
  | none => none
def eGIdx (tb : TB) (Γ : List VT) (gs : Gd) (dst : Option Nat) (ti : TI) (g : Nat) (i : Option ST) : Option Eff :=
  match arrOf tb ti, undV gs i with
  | some (n, t), some (_, ei) => if (isInt (ei.inf tb.tab Γ)).isSome then some ⟨wv dst (.gp gs g (.var Γ.length) ei), [.glob g (.one (.agg (List.replicate n t))) (some (gs, ei, n))]⟩ else none
  | _, _ => none
/-- How many cells a row of each column's own has; 0 for cells without memory. -/
def colM (tb : TB) : List CT → Option (List Nat)
  | [] => some []
  | t :: r => match colM tb r with
    | none => none
    | some ms => match t with
      | .sl e => bif leafs (tb.tab e) && Nat.blt 0 (tb.tab e).length then some ((tb.tab e).length :: ms) else none
      | .mem => none
      | .fn => none
      | _ => some (0 :: ms)
/-- The columns from off on hold no rows of our own. -/
def flatAt (dp : Option (Nat × List Nat)) (off k : Nat) : Bool :=
  match dp with
  | none => true
  | some (_, ms) => (List.range k).all fun j => Nat.beq (ms.getD (off + j) 0) 0
/-- A place in a row of our own, read. -/
def eMLoad (tb : TB) (Γ : List VT) (gs : Gd) (dst : Option Nat) (σ : Nat → ST) (ti : TI) (g0 : Gd) (g n : Nat) (i : E) (off : Nat) : Option Eff :=
  match σ (3 * g + 2) with
  | .live ⟨n', some (e, dp)⟩ => match e.inf tb.tab Γ with
    | some (.one (.c (.sl el))) => if gdIn g0 gs = true ∧ n = n' ∧ (tb.tab el).length = n then
        match ti.vt with
        | .one (.c t) => if (tb.tab el)[off]? = some t then
            (if flatAt dp off 1 = true then some ⟨wv dst (.v gs .d (.cell (.row (tb.tab el) e i) off)), []⟩
            else match dp with
              | some (gv, _) => some ⟨wv dst (.iv gs g gv n i off (.len (.cell (.row (tb.tab el) e i) off))), []⟩
              | none => none)
            else none
        | .one (.agg ts) => if off + ts.length ≤ n ∧ flatAt dp off ts.length = true then some ⟨wv dst (.v gs .d (if off = 0 ∧ ts.length = n then .row (tb.tab el) e i else .sub (.row (tb.tab el) e i) off ts.length)), []⟩ else none
        | _ => none
      else none
    | _ => none
  | _ => none
/-- A place in a row of our own, written: with a value without memory, or with a row of our own. -/
def eMStore (tb : TB) (Γ : List VT) (σ : Nat → ST) (g0 : Nat) (ti : TI) (g n : Nat) (i : E) (off : Nat) (x : Option ST) : Option Eff :=
  match σ (3 * g + 2), undV [] x with
  | .live ⟨n', some (e, dp)⟩, some (k, ex) => match e.inf tb.tab Γ with
    | some (.one (.c (.sl el))) => if n = n' ∧ (tb.tab el).length = n then
        match ti.vt, ex.inf tb.tab Γ with
        | .one (.c _), some (.one (.c .mem)) => match k, dp with
          | .own h, some (_, ms) => match σ (3 * h + 2) with
            | .live ⟨m, some (e', none)⟩ => match e'.inf tb.tab Γ with
              | some (.one (.c (.sl el'))) => if (tb.tab el)[off]? = some (.sl el') ∧ ms.getD off 0 = m ∧ m ≠ 0 ∧ h ≠ g then
                  some ⟨[(3 * h + 2, .un), (3 * g + 2, .live ⟨n, some (.upd e i (.ag1 e') off, some (g0, ms))⟩)], []⟩ else none
              | _ => none
            | _ => none
          | _, _ => none
        | .one (.c _), some (.one (.c t)) => if (tb.tab el)[off]? = some t ∧ leafC t = true ∧ flatAt dp off 1 = true then some ⟨[(3 * g + 2, .live ⟨n, some (.upd e i (.ag1 ex) off, dp)⟩)], []⟩ else none
        | .one (.agg ts), some (.one (.agg us)) => if us = ((tb.tab el).drop off).take us.length ∧ ts.length = us.length ∧ off + us.length ≤ n ∧ leafs us = true ∧ flatAt dp off us.length = true then some ⟨[(3 * g + 2, .live ⟨n, some (.upd e i ex off, dp)⟩)], []⟩ else none
        | _, _ => none
      else none
    | _ => none
  | _, _ => none
/-- A place in a row within a row of our own: its place, what it holds, a store into it. -/
def eIIndex (tb : TB) (Γ : List VT) (gs : Gd) (dst : Option Nat) (ti : TI) (gd : Gd) (g gv n : Nat) (i : E) (off : Nat) (l : E) (x : Option ST) : Option Eff :=
  match ti.vt, undV gs x with
  | .one (.c (.sl el)), some (_, ej) => match tb.get el with
    | some e' => match e'.vt with
      | .tup _ => none
      | .one _ => if gdIn gd gs = true ∧ (isInt (ej.inf tb.tab Γ)).isSome then some ⟨wv dst (.ip gs g gv n i off ej (tb.tab el).length 0), [.cond gs (.inb (.mem l) ej)]⟩ else none
    | none => none
  | _, _ => none
def eILoad (tb : TB) (Γ : List VT) (gs : Gd) (dst : Option Nat) (σ : Nat → ST) (ti : TI) (gd : Gd) (g gv n : Nat) (i : E) (off : Nat) (j : E) (m o2 : Nat) : Option Eff :=
  match σ (3 * g + 2) with
  | .live ⟨n', some (e, some (gv', ms))⟩ => match e.inf tb.tab Γ with
    | some (.one (.c (.sl el))) => match (tb.tab el)[off]? with
      | some (.sl el') => if gdIn gd gs = true ∧ n = n' ∧ (tb.tab el).length = n ∧ gv' = gv ∧ ms.getD off 0 = m ∧ m ≠ 0 ∧ (tb.tab el').length = m then
          match ti.vt with
          | .one (.c t) => if (tb.tab el')[o2]? = some t then some ⟨wv dst (.v gs .d (.cell (.row (tb.tab el') (.cell (.row (tb.tab el) e i) off) j) o2)), []⟩ else none
          | _ => none
        else none
      | _ => none
    | _ => none
  | _ => none
def eIStore (tb : TB) (Γ : List VT) (σ : Nat → ST) (ti : TI) (g gv n : Nat) (i : E) (off : Nat) (j : E) (m o2 : Nat) (x : Option ST) : Option Eff :=
  match σ (3 * g + 2), undV [] x with
  | .live ⟨n', some (e, some (gv', ms))⟩, some (_, ex) => match e.inf tb.tab Γ with
    | some (.one (.c (.sl el))) => match (tb.tab el)[off]? with
      | some (.sl el') => if n = n' ∧ (tb.tab el).length = n ∧ gv' = gv ∧ ms.getD off 0 = m ∧ m ≠ 0 ∧ (tb.tab el').length = m then
          match ti.vt, ex.inf tb.tab Γ with
          | .one (.c _), some (.one (.c t)) => if (tb.tab el')[o2]? = some t ∧ leafC t = true then some ⟨[(3 * g + 2, .live ⟨n, some (.upd e i (.ag1 (.upd (.cell (.row (tb.tab el) e i) off) j (.ag1 ex) o2)) off, some (gv', ms))⟩)], []⟩ else none
          | _, _ => none
        else none
      | _ => none
    | _ => none
  | _, _ => none
def eMField (tb : TB) (gs : Gd) (dst : Option Nat) (ti : TI) (g0 : Gd) (g n : Nat) (i : E) (off f : Nat) : Option Eff :=
  match ti.vt, ti.fs[f]? with
  | .one (.agg _), some (fo, ft) => match tb.get ft with
    | some fi => if fi.cells.length = 0 ∨ gdIn g0 gs = false then none else match fi.vt with
      | .tup _ => none
      | .one _ => some ⟨wv dst (.mp gs g n i (off + fo)), []⟩
    | none => none
  | _, _ => none
/-- The place of a row of our own. -/
def eMIndex (tb : TB) (Γ : List VT) (gs : Gd) (dst : Option Nat) (ti : TI) (g0 : Gd) (g : Nat) (l : E) (i : Option ST) : Option Eff :=
  match ti.vt, undV gs i with
  | .one (.c (.sl el)), some (_, ei) => match tb.get el with
    | some e' => match e'.vt with
      | .tup _ => none
      | .one _ => if gdIn g0 gs = true ∧ isC .mem (l.inf tb.tab Γ) = true ∧ (isInt (ei.inf tb.tab Γ)).isSome then some ⟨wv dst (.mp gs g (tb.tab el).length ei 0), [.cond gs (.inb l ei)]⟩ else none
    | none => none
  | _, _ => none
/-- A new row of our own. -/
def eMake (tb : TB) (Γ : List VT) (gs : Gd) (dst : Option Nat) (g : Nat) (ti : TI) (l c : Option ST) : Option Eff :=
  match gs, ti.vt, undV [] l, undV [] c with
  | [], .one (.c (.sl el)), some (_, en), some (_, ec) => match tb.get el with
    | some ei => match ei.vt with
      | .tup _ => none
      | .one _ => if en = ec ∧ isInt (en.inf tb.tab Γ) = some .i64 ∧ ei.bytes ≤ 1024 ∧ 0 < ei.cells.length ∧ (leafs (tb.tab el) = true ∨ (colM tb (tb.tab el)).isSome = true) then
          some ⟨wv dst (.v [] (.own g) (.mem en)) ++ [(3 * g + 2, .live ⟨(tb.tab el).length, some (.rep el (tb.tab el) en, if leafs (tb.tab el) = true then none else (colM tb (tb.tab el)).map fun ms => (g + 1, ms))⟩)], [.cond [] (.an (.ic .leq (.li .i64 0) en) (.ic .leq en (.li .i64 4294967296)))]⟩
        else none
    | none => none
  | _, _, _, _ => none
/-- A row with a right, cut in front: the right stays. -/
def eCutOwn (tb : TB) (Γ : List VT) (dst : Option Nat) (σ : Nat → ST) (g : Nat) (ti : TI) (h : Nat) (ex : E) (lo : Option ST) : Option Eff :=
  match ti.vt, undV [] lo, σ (3 * h + 2) with
  | .one (.c (.sl el)), some (_, el0), .live ⟨n, none⟩ =>
    if ex.inf tb.tab Γ = some ti.vt ∧ (isInt (el0.inf tb.tab Γ)).isSome ∧ slElem tb ti.vt = true ∧ n = (tb.tab el).length then
      some ⟨wv dst (.v [] (.own g) (.cut ex el0 (.len ex))) ++ [(3 * h + 2, .un), (3 * g + 2, .live ⟨n, none⟩)], [.cond [] (.inc ex el0 (.len ex))]⟩
    else none
  | _, _, _ => none
def eSl (tb : TB) (Γ : List VT) (gs : Gd) (dst : Option Nat) (σ : Nat → ST) (g : Nat) (ti : TI) (x : Option ST) (lo hi : Option (Option ST)) : Option Eff :=
  match gs, x, lo, hi with
  | [], some (.v [] (.own h) ex), some l, none => match eCutOwn tb Γ dst σ g ti h ex l with
    | some e => some e
    | none => eSlice tb Γ gs dst ti x lo hi
  | _, _, _, _ => eSlice tb Γ gs dst ti x lo hi
/-- A row within a row of our own, appended to nothing: a new row of our own. -/
def eAppI (tb : TB) (Γ : List VT) (dst : Option Nat) (σ : Nat → ST) (g : Nat) (ti ui : TI) (x : Option ST) (h gv n : Nat) (i : E) (off : Nat) (l : E) : Option Eff :=
  match ti.vt, ui.vt with
  | .one (.c (.sl el)), .one (.c (.sl _)) => match undV [] x, tb.get el, σ (3 * h + 2) with
    | some (.full, ex), some ei, .live ⟨n', some (e, some (gv', ms))⟩ => match ei.vt, e.inf tb.tab Γ with
      | .one _, some (.one (.c (.sl e0))) =>
        if isC (.sl el) (ex.inf tb.tab Γ) = true ∧ ei.bytes ≤ 1024 ∧ 0 < ei.bytes ∧ 0 < ei.cells.length ∧ n = n' ∧ (tb.tab e0).length = n ∧ gv' = gv ∧ (tb.tab e0)[off]? = some (.sl el) ∧ ms.getD off 0 = (tb.tab el).length then
          some ⟨wv dst (.v [] (.own g) (.mem l)) ++ [(3 * g + 2, .live ⟨(tb.tab el).length, some (.cell (.row (tb.tab e0) e i) off, none)⟩)], [.cond [] (.ic .leq l (.li .i64 4294967296))]⟩
        else none
      | _, _ => none
    | _, _, _ => none
  | _, _ => none
def eApp (tb : TB) (Γ : List VT) (gs : Gd) (dst : Option Nat) (σ : Nat → ST) (g : Nat) (ti ui : TI) (x y : Option ST) : Option Eff :=
  match gs, y with
  | [], some (.iv [] h gv n i off l) => eAppI tb Γ dst σ g ti ui x h gv n i off l
  | _, _ => eAppend tb Γ gs dst σ g ti ui x y
def eLd (tb : TB) (Γ : List VT) (gs : Gd) (dst : Option Nat) (σ : Nat → ST) (ti : TI) (a : Operand) : Option Eff :=
  match a with
  | .global g => eGlob tb Γ gs dst ti g
  | a => match opd tb σ 0 a with
    | some (.gp g0 g x ei) => match ti.vt, x.inf tb.tab Γ with
      | .one (.c t), some (.one (.agg ts)) => if gdIn g0 gs = true ∧ ts.all (fun u => decide (u = t)) = true then some ⟨wv dst (.v gs .d (.sel t x ei)), []⟩ else none
      | _, _ => none
    | some (.mp g0 g n i off) => eMLoad tb Γ gs dst σ ti g0 g n i off
    | some (.ip gd g gv n i off j m o2) => eILoad tb Γ gs dst σ ti gd g gv n i off j m o2
    | s => eLoad tb.tab Γ gs dst σ ti s
def eSt (tb : TB) (Γ : List VT) (gs : Gd) (dst : Option Nat) (σ : Nat → ST) (g0 : Nat) (ti : TI) (s x : Option ST) : Option Eff :=
  match gs, dst, s with
  | [], none, some (.mp [] g n i off) => eMStore tb Γ σ g0 ti g n i off x
  | [], none, some (.ip [] g gv n i off j m o2) => eIStore tb Γ σ ti g gv n i off j m o2 x
  | _, _, _ => eStore tb.tab Γ gs dst σ ti s x
def eFld (tb : TB) (Γ : List VT) (gs : Gd) (dst : Option Nat) (ti : TI) (s : Option ST) (f : Nat) : Option Eff :=
  match s with
  | some (.mp g0 g n i off) => eMField tb gs dst ti g0 g n i off f
  | _ => eField tb Γ gs dst ti s f
def eIdx (tb : TB) (Γ : List VT) (gs : Gd) (dst : Option Nat) (σ : Nat → ST) (ti : TI) (T : Nat) (x i : Operand) : Option Eff :=
  match x with
  | .global g => eGIdx tb Γ gs dst ti g (opd tb σ 0 i)
  | x => match opd tb σ T x with
    | some (.v g0 (.own g) l) => bif isC .mem (l.inf tb.tab Γ) then eMIndex tb Γ gs dst ti g0 g l (opd tb σ 0 i) else eIndex tb Γ gs dst ti (opd tb σ T x) (opd tb σ 0 i)
    | some (.iv gd g gv n k off l) => eIIndex tb Γ gs dst ti gd g gv n k off l (opd tb σ 0 i)
    | s => eIndex tb Γ gs dst ti s (opd tb σ 0 i)
def eSel (tb : TB) (Γ : List VT) (gs : Gd) (dst : Option Nat) (ti : TI) (x i : Option ST) : Option Eff :=
  match arrOf tb ti with
  | some (n, t) => match undV gs x, undV gs i with
    | some (_, ex), some (_, ei) => if ex.inf tb.tab Γ = some (.one (.agg (List.replicate n t))) ∧ (isInt (ei.inf tb.tab Γ)).isSome = true then some ⟨wv dst (.v gs .d (.sel t ex ei)), [.cond gs (.an (.ic .leq (.li .i64 0) ei) (.ic .lss ei (.li .i64 n)))]⟩ else none
    | _, _ => none
  | none => eAt tb.tab Γ gs dst ti x i
/-- A function value is called. -/
def eCallV (tb : TB) (Γ : List VT) (gs : Gd) (dst : Option Nat) (σ : Nat → ST) (ti : TI) (x : Option ST) (args : List Operand) (tys : List Nat) : Option Eff :=
  match undV gs x, eArgs tb Γ gs σ args tys with
  | some (_, e), some es => if isC .fn (e.inf tb.tab Γ) = true then some ⟨wv dst (.v gs .d (.var Γ.length)), [.callV gs e es ti.vt]⟩ else none
  | _, _ => none
/-- The boxes that a function value captures: they are given away. -/
def eCaps (tab : Nat → List CT) (Γ : List VT) (σ : Nat → ST) : List Operand → List Nat → E → Option (E × List Nat)
  | [], ids, e => some (e, ids)
  | .tmp t :: r, ids, e => match σ (3 * t) with
    | .ptr [] id 0 => match σ (3 * id + 1) with
      | .box cs => if id ≠ 0 ∧ ids.contains id = false then eCaps tab Γ σ r (id :: ids) (.fnC e (pack tab Γ (cs.map (·.2)))) else none
      | _ => none
    | _ => none
  | _ :: _, _, _ => none
def dropB (ids : List Nat) : List (Nat × ST) := ids.map fun id => (3 * id + 1, .un)
def eMakeFn (tab : Nat → List CT) (Γ : List VT) (gs : Gd) (dst : Option Nat) (σ : Nat → ST) (f : Nat) (first caps : List Operand) : Option Eff :=
  match gs, first with
  | [], [] => match eCaps tab Γ σ caps [] (.fn0 f) with
    | some (e, ids) => if isC .fn (e.inf tab Γ) = true then some ⟨wv dst (.v [] .d e) ++ dropB ids, []⟩ else none
    | none => none
  | _, _ => none
def dstOk (nt : Nat) : Option Nat → Bool
  | some d => Nat.blt d nt
  | none => true
def opEff (cx : Cx) (ops : Array Oper) (Γ : List VT) (g : Nat) (o : Oper) (σ : Nat → ST) : Option Eff :=
  match gsOf cx.tb.tab Γ ops σ o with
  | none => none
  | some gs =>
    bif dstOk cx.nt o.dst then
      match o.op with
      | .move x | .assign x => eMove gs o.dst (opd cx.tb σ o.type x)
      | .load T a => match cx.tb.get T with | some ti => eLd cx.tb Γ gs o.dst σ ti a | none => none
      | .store T a x => match cx.tb.get T with | some ti => eSt cx.tb Γ gs o.dst σ g ti (opd cx.tb σ 0 a) (opd cx.tb σ T x) | none => none
      | .fieldAddr T a f => match cx.tb.get T with | some ti => eFld cx.tb Γ gs o.dst ti (opd cx.tb σ 0 a) f | none => none
      | .indexAddr T x i => match cx.tb.get T with | some ti => eIdx cx.tb Γ gs o.dst σ ti T x i | none => none
      | .index T x i => match cx.tb.get T with | some ti => eSel cx.tb Γ gs o.dst ti (opd cx.tb σ T x) (opd cx.tb σ 0 i) | none => none
      | .box T x => eBox cx.tb.tab Γ gs o.dst g (opd cx.tb σ T x)
      | .alloc T => match cx.tb.get T with | some ti => eAlloc gs o.dst g ti | none => none
      | .build T parts => match cx.tb.get T with | some ti => eBuild cx.tb Γ gs o.dst σ ti parts.toList | none => none
      | .makeSlice T l c => match cx.tb.get T with | some ti => eMake cx.tb Γ gs o.dst g ti (opd cx.tb σ 0 l) (opd cx.tb σ 0 c) | none => none
      | .buildSlice T len parts => match cx.tb.get T with | some ti => bif Nat.blt 0 len && gs.isEmpty then eBuildOwn cx.tb Γ gs o.dst σ g ti len parts.toList else eBuildSlice cx.tb Γ gs o.dst σ ti len parts.toList | none => none
      | .slice T x lo hi none => match cx.tb.get T with | some ti => eSl cx.tb Γ gs o.dst σ g ti (opd cx.tb σ T x) (lo.map (opd cx.tb σ 0)) (hi.map (opd cx.tb σ 0)) | none => none
      | .convert S T x => match cx.tb.get S, cx.tb.get T with | some si, some ti => eConv cx.tb.tab Γ gs o.dst (u8In cx.tb si) si ti (opd cx.tb σ S x) | _, _ => none
      | .extract t i => eExtract cx.tb.tab Γ gs o.dst (opd cx.tb σ 0 t) i
      | .unOp .not _ x => eNot cx.tb.tab Γ gs o.dst (opd cx.tb σ 0 x)
      | .unOp .neg _ x => eNeg cx.tb.tab Γ gs o.dst (opd cx.tb σ 0 x)
      | .pick c a b => ePick cx.tb.tab Γ gs o.dst (opd cx.tb σ 0 c) (opd cx.tb σ o.type a) (opd cx.tb σ o.type b)
      | .makeFunc (.func f) first caps => eMakeFn cx.tb.tab Γ gs o.dst σ f first.toList caps.toList
      | .nilCheck x => eNil gs o.dst (opd cx.tb σ 0 x)
      | .binOp op T x y _ => eBin cx.tb.tab Γ gs o.dst op (cx.tb.get T) (opd cx.tb σ T x) (opd cx.tb σ T y)
      | .call c => match c.callee with
        | .value (.func f) => match cx.tb.get o.type with
          | some ti => match isNew ti with
            | some nb => eNew cx.tb Γ gs o.dst σ g nb f c.args.toList c.argTypes.toList
            | none => eCall cx.tb Γ gs o.dst σ g (cx.rb.get f) ti f c.args.toList c.argTypes.toList
          | none => none
        | .value (.tmp t) => match cx.tb.get o.type with
          | some ti => eCallV cx.tb Γ gs o.dst σ ti (opd cx.tb σ 0 (.tmp t)) c.args.toList c.argTypes.toList
          | none => none
        | .builtin .len => match c.args.toList, c.argTypes.toList with
          | [x], [T] => match cx.tb.get T with | some ti => eLen cx.tb.tab Γ gs o.dst ti (opd cx.tb σ T x) | none => none
          | _, _ => none
        | .builtin .append => match c.args.toList, c.argTypes.toList with
          | [x, y], [T, U] => match cx.tb.get T, cx.tb.get U with | some ti, some ui => eApp cx.tb Γ gs o.dst σ g ti ui (opd cx.tb σ T x) (opd cx.tb σ U y) | _, _ => none
          | _, _ => none
        | _ => none
      | _ => none
    else none

/-- Where an operation looks. -/
def tmpsOf (ops : Array Oper) (o : Oper) : List Nat :=
  (o.op.operands.toList.filterMap fun | .tmp t => some t | _ => none) ++ (match o.guard with | none => [] | some (j, _) => ((ops[j]?).bind (·.dst)).toList)
def dynOf (σ : Nat → ST) : List Nat → List Nat
  | [] => []
  | t :: r => match σ (3 * t) with
    | .ptr _ id _ => (3 * id + 1) :: dynOf σ r
    | .v _ (.own g) _ => (3 * g + 2) :: dynOf σ r
    | .mp _ g _ _ _ => (3 * g + 2) :: dynOf σ r
    | .ip _ g _ _ _ _ _ _ _ => (3 * g + 2) :: dynOf σ r
    | .iv _ g _ _ _ _ _ => (3 * g + 2) :: dynOf σ r
    | _ => dynOf σ r
/-- Operations that look behind an address or at a right. -/
def looks : Op → Bool
  | .load _ _ | .store _ _ _ | .call _ | .slice .. | .makeFunc .. => true
  | _ => false
def readsOf (ops : Array Oper) (σ : Nat → ST) (o : Oper) : List Nat := (tmpsOf ops o).map (3 * ·) ++ bif looks o.op then dynOf σ (tmpsOf ops o) else []

/-- A symbolic state. -/
structure SS where
  Γ : List VT
  nt : Nat
  lv : Nat
  σ : Sg
def rqTys : List Rq → List VT
  | [] => []
  | .cond _ _ :: r => rqTys r
  | .call _ _ _ _ vt nb :: r => vt :: nb.map (fun t => .one (.c t)) ++ rqTys r
  | .callR _ _ _ vt nb _ :: r => vt :: nb.map (fun t => .one (.c t)) ++ rqTys r
  | .new _ _ nb :: r => nb.map (fun t => .one (.c t)) ++ rqTys r
  | .callV _ _ _ vt :: r => vt :: rqTys r
  | .glob _ vt _ :: r => vt :: rqTys r
def SS.step (ss : SS) (e : Eff) : SS := { ss with Γ := ss.Γ ++ rqTys e.rq, nt := ss.nt + stride, σ := e.wr.reverse ++ ss.σ }
def regRun (cx : Cx) (ops : Array Oper) : List Oper → SS → Option (List Eff × SS)
  | [], ss => some ([], ss)
  | o :: r, ss => match opEff cx ops ss.Γ ss.nt o ss.σ.get with
    | none => none
    | some e => match regRun cx ops r (ss.step e) with
      | none => none
      | some (es, s) => some (e :: es, s)

inductive VC where
  | fail (why : Nat)
  | ret (e : E) (bs : List E)
  | rq (r : Rq) (k : VC)
  | ite (c : E) (a b : VC)
  | loop (tys : List VT) (inits : List E) (body : VC)
  | again (d : Nat) (es : List E)
def rqs : List Eff → VC → VC
  | [], k => k
  | e :: r, k => e.rq.foldr .rq (rqs r k)
end Go.Proofs.YtgaeigomhhbkfaaGreat
