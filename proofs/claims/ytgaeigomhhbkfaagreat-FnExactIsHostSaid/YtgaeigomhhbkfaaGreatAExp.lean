/- Expressions over abstract data, their types and values. No program in sight. -/
import Derived.Test.YtgaeigomhhbkfaaGreatADat
import Derived.Laws.BytesArg
namespace Go.Proofs.YtgaeigomhhbkfaaGreat
open Go.RowKit
set_option linter.unusedVariables false
set_option linter.unusedSimpArgs false

def D.toI : D → Int | .int _ n => n | _ => 0
def D.toB : D → Bool | .bool b => b | _ => false
def D.toS : D → ByteArray | .str s => s | _ => .empty
def D.toA : D → List D | .agg l => l | _ => []
def D.toT : D → List D | .tup l => l | _ => []
def D.toR : D → List (List D) | .sl r => r | _ => []
@[simp] theorem D.toI_int (k : IntKind) (n : Int) : (D.int k n).toI = n := rfl
@[simp] theorem D.toB_bool (b : Bool) : (D.bool b).toB = b := rfl
@[simp] theorem D.toS_str (s : ByteArray) : (D.str s).toS = s := rfl
@[simp] theorem D.toA_agg (l : List D) : (D.agg l).toA = l := rfl
@[simp] theorem D.toT_tup (l : List D) : (D.tup l).toT = l := rfl
@[simp] theorem D.toR_sl (l : List (List D)) : (D.sl l).toR = l := rfl

def zeroD : CT → D
  | .bool => .bool false | .int k => .int k 0 | .str => .str .empty | .sl _ => .sl [] | .mem => .mem 0 | .fn => .fn 0 []
def lenD : D → Int
  | .str s => s.size
  | .sl r => r.length
  | .mem n => n
  | _ => 0
/-- Arithmetic as the machine has it. -/
def arI (op : BinOp) (k : IntKind) (x y : Int) : Int :=
  match op with
  | .add => k.wrap (x + y) | .sub => k.wrap (x - y) | .mul => k.wrap (x * y)
  | .quo => k.wrap (x.tdiv y) | .rem => x.tmod y
  | .and => k.wrap (BitVec.ofInt k.bits x &&& BitVec.ofInt k.bits y).toNat
  | .or => k.wrap (BitVec.ofInt k.bits x ||| BitVec.ofInt k.bits y).toNat
  | .xor => k.wrap (BitVec.ofInt k.bits x ^^^ BitVec.ofInt k.bits y).toNat
  | .andNot => k.wrap (BitVec.ofInt k.bits x &&& ~~~(BitVec.ofInt k.bits y)).toNat
  | .shl => k.wrap (x * 2 ^ (min y.toNat k.bits))
  | .shr => x.fdiv (2 ^ (min y.toNat k.bits))
  | _ => 0
def cmpI (op : BinOp) (x y : Int) : Bool :=
  match op with
  | .eql => x == y | .neq => x != y | .lss => decide (x < y) | .leq => decide (x ≤ y) | .gtr => decide (x > y) | .geq => decide (x ≥ y)
  | _ => false
def cmpS (op : BinOp) (x y : ByteArray) : Bool :=
  match op with
  | .eql => x.toList == y.toList | .neq => !(x.toList == y.toList)
  | .lss => Op.bytesLess x.toList y.toList
  | .leq => Op.bytesLess x.toList y.toList || x.toList == y.toList
  | .gtr => !(Op.bytesLess x.toList y.toList || x.toList == y.toList)
  | .geq => !Op.bytesLess x.toList y.toList
  | _ => false
def cutD (d : D) (lo hi : Int) : D :=
  match d with
  | .str s => .str (s.extract lo.toNat hi.toNat)
  | .sl r => .sl ((r.drop lo.toNat).take (hi.toNat - lo.toNat))
  | _ => .un
/-- Equality of cells without slices. -/
def eqvD : D → D → Bool
  | .bool a, .bool b => a == b
  | .int _ a, .int _ b => a == b
  | .str a, .str b => a.toList == b.toList
  | _, _ => false
def eqvL : List D → List D → Bool
  | [], [] => true
  | a :: l, b :: r => eqvD a b && eqvL l r
  | _, _ => false

/-- The text of a row of bytes. -/
def bytesD (d : D) : ByteArray := strOfNums (d.toR.map fun r => (r.headD .un).toI)
inductive E where
  | var (i : Nat)
  | lb (x : Bool) | li (k : IntKind) (n : Int) | ls (x : ByteArray) | nilS (e : Nat)
  | ar (op : BinOp) (k : IntKind) (x y : E)
  | ic (op : BinOp) (x y : E)
  | sc (op : BinOp) (x y : E)
  | scat (x y : E) | sok (x y : E)
  | bc (x y : E)
  | ae (x y : E)
  | no (x : E)
  | an (x y : E) | or (x y : E)
  | conv (k : IntKind) (x : E)
  | len (x : E)
  | bstr (x : E)
  | ite (c x y : E)
  | row (ts : List CT) (x i : E)
  | at (x i : E)
  | cell (x : E) (j : Nat)
  | sub (x : E) (j n : Nat)
  | proj (x : E) (j : Nat)
  | ag0 | ag1 (x : E) | cat (x y : E)
  | tp0 | tp1 (x y : E)
  | cut (x lo hi : E)
  | app (x y : E)
  | put (x r : E)
  | inb (x i : E)
  | inc (x lo hi : E)
  | few (x y : E)
  | sel (t : CT) (x i : E)
  | mem (l : E)
  | rep (e : Nat) (ts : List CT) (n : E)
  | upd (x i r : E) (off : Nat)
  | fn0 (f : Nat)
  | fnC (x r : E)
  deriving DecidableEq
/-- Cells replaced, from a place on. -/
def setL {α : Type} : List α → Nat → List α → List α
  | cs, _, [] => cs
  | cs, off, x :: r => setL (cs.set off x) (off + 1) r
/-- A row's cells replaced. -/
def updR (rows : List (List D)) (i off : Nat) (l : List D) : List (List D) := rows.set i (setL (rows.getD i []) off l)

/-- One more captured variable. -/
def addC : D → D → D
  | .fn f caps, r => .fn f (caps ++ [r.toA])
  | _, _ => .un
def E.den (env : List D) : E → D
  | .fn0 f => .fn f []
  | .fnC x r => addC (x.den env) (r.den env)
  | .mem l => .mem (l.den env).toI.toNat
  | .rep _ ts n => .sl (List.replicate (n.den env).toI.toNat (ts.map zeroD))
  | .upd x i r off => .sl (updR (x.den env).toR (i.den env).toI.toNat off (r.den env).toA)
  | .sel t x i => ((x.den env).toA[(i.den env).toI.toNat]?).getD (zeroD t)
  | .var i => env.getD i .un
  | .lb x => .bool x | .li k n => .int k n | .ls x => .str x | .nilS _ => .sl []
  | .ar op k x y => .int k (arI op k (x.den env).toI (y.den env).toI)
  | .ic op x y => .bool (cmpI op (x.den env).toI (y.den env).toI)
  | .sc op x y => .bool (cmpS op (x.den env).toS (y.den env).toS)
  | .scat x y => .str ((x.den env).toS ++ (y.den env).toS)
  | .sok x y => .bool (decide ((x.den env).toS.size + (y.den env).toS.size ≤ maxLen))
  | .bc x y => .bool ((x.den env).toB == (y.den env).toB)
  | .ae x y => .bool (eqvL (x.den env).toA (y.den env).toA)
  | .no x => .bool (!(x.den env).toB)
  | .an x y => .bool ((x.den env).toB && (y.den env).toB)
  | .or x y => .bool ((x.den env).toB || (y.den env).toB)
  | .conv k x => .int k (k.wrap (x.den env).toI)
  | .len x => .int .i64 (lenD (x.den env))
  | .bstr x => .str (bytesD (x.den env))
  | .ite c x y => bif (c.den env).toB then x.den env else y.den env
  | .row ts x i => .agg (((x.den env).toR[(i.den env).toI.toNat]?).getD (ts.map zeroD))
  | .at x i => .int .u8 ((((x.den env).toS[(i.den env).toI.toNat]?).map (fun (c : UInt8) => (c.toNat : Int))).getD 0)
  | .cell x j => (x.den env).toA.getD j .un
  | .sub x j n => .agg (((x.den env).toA.drop j).take n)
  | .proj x j => (x.den env).toT.getD j .un
  | .ag0 => .agg []
  | .ag1 x => .agg [x.den env]
  | .cat x y => .agg ((x.den env).toA ++ (y.den env).toA)
  | .tp0 => .tup []
  | .tp1 x y => .tup ((x.den env).toT ++ [y.den env])
  | .cut x lo hi => cutD (x.den env) (lo.den env).toI (hi.den env).toI
  | .app x y => .sl ((x.den env).toR ++ (y.den env).toR)
  | .put x r => .sl ((x.den env).toR ++ [(r.den env).toA])
  | .inb x i => .bool (decide (0 ≤ (i.den env).toI ∧ (i.den env).toI < lenD (x.den env)))
  | .inc x lo hi => .bool (decide (0 ≤ (lo.den env).toI ∧ (lo.den env).toI ≤ (hi.den env).toI ∧ (hi.den env).toI ≤ lenD (x.den env)))
  | .few x y => .bool (decide ((x.den env).toR.length + (y.den env).toR.length ≤ 4294967296))

/-- Types of values. -/
inductive V1 where
  | c (t : CT) | agg (l : List CT)
  deriving DecidableEq
inductive VT where
  | one (v : V1) | tup (l : List V1)
  deriving DecidableEq
def V1.cells : V1 → List CT | .c t => [t] | .agg l => l
def HasV1 (tab : Nat → List CT) : V1 → D → Prop
  | .c t, d => HasTy tab t d
  | .agg ts, .agg l => RowTy tab ts l
  | .agg _, _ => False
def HasVs (tab : Nat → List CT) : List V1 → List D → Prop
  | [], [] => True
  | v :: vs, d :: ds => HasV1 tab v d ∧ HasVs tab vs ds
  | _, _ => False
def HasVT (tab : Nat → List CT) : VT → D → Prop
  | .one v, d => HasV1 tab v d
  | .tup vs, .tup l => HasVs tab vs l
  | .tup _, _ => False
theorem HasVs.get {tab : Nat → List CT} : ∀ {vs : List V1} {l : List D}, HasVs tab vs l → ∀ {i : Nat} {v : V1}, vs[i]? = some v → ∃ d, l[i]? = some d ∧ HasV1 tab v d
  | [], _, _, i, t, ht => by simp at ht
  | t :: ts, d :: ds, h, 0, t', ht => by simp [HasVs] at h; simp at ht; subst ht; exact ⟨d, rfl, h.1⟩
  | t :: ts, d :: ds, h, i + 1, t', ht => by simp [HasVs] at h; simp at ht; obtain ⟨x, hx, h2⟩ := HasVs.get h.2 ht; exact ⟨x, by simpa using hx, h2⟩
  | _ :: _, [], h, _, _, _ => by simp [HasVs] at h
theorem HasVs.snoc {tab : Nat → List CT} {v : V1} {d : D} (hd : HasV1 tab v d) : ∀ {vs : List V1} {l : List D}, HasVs tab vs l → HasVs tab (vs ++ [v]) (l ++ [d])
  | [], [], _ => by simp [HasVs, hd]
  | t :: ts, e :: ds, h => by simp [HasVs] at h; simp only [List.cons_append, HasVs]; exact ⟨h.1, HasVs.snoc hd h.2⟩
  | [], _ :: _, h => by simp [HasVs] at h
  | _ :: _, [], h => by simp [HasVs] at h

def isInt : Option VT → Option IntKind
  | some (.one (.c (.int k))) => some k
  | _ => none
def isC (t : CT) (o : Option VT) : Bool := o == some (.one (.c t))
def E.inf (tab : Nat → List CT) (Γ : List VT) : E → Option VT
  | .mem l => if (isInt (l.inf tab Γ)).isSome then some (.one (.c .mem)) else none
  | .fn0 _ => some (.one (.c .fn))
  | .fnC x r => match x.inf tab Γ, r.inf tab Γ with | some (.one (.c .fn)), some (.one (.agg _)) => some (.one (.c .fn)) | _, _ => none
  | .rep e ts n => if tab e = ts ∧ (isInt (n.inf tab Γ)).isSome then some (.one (.c (.sl e))) else none
  | .upd x i r off => match x.inf tab Γ, r.inf tab Γ with
    | some (.one (.c (.sl e))), some (.one (.agg us)) => if us = ((tab e).drop off).take us.length ∧ (isInt (i.inf tab Γ)).isSome then some (.one (.c (.sl e))) else none
    | _, _ => none
  | .sel t x i => match x.inf tab Γ with | some (.one (.agg ts)) => if ts.all (fun u => decide (u = t)) = true ∧ (isInt (i.inf tab Γ)).isSome = true then some (.one (.c t)) else none | _ => none
  | .var i => Γ[i]?
  | .lb _ => some (.one (.c .bool))
  | .li k n => if k.min ≤ n ∧ n ≤ k.max then some (.one (.c (.int k))) else none
  | .ls x => if x.size ≤ maxLen then some (.one (.c .str)) else none
  | .nilS e => some (.one (.c (.sl e)))
  | .ar _ k x y => if (isInt (x.inf tab Γ)).isSome ∧ (isInt (y.inf tab Γ)).isSome then some (.one (.c (.int k))) else none
  | .ic _ x y => if (isInt (x.inf tab Γ)).isSome ∧ (isInt (y.inf tab Γ)).isSome then some (.one (.c .bool)) else none
  | .sc _ x y => if isC .str (x.inf tab Γ) ∧ isC .str (y.inf tab Γ) then some (.one (.c .bool)) else none
  | .scat x y => if isC .str (x.inf tab Γ) ∧ isC .str (y.inf tab Γ) then some (.one (.c .str)) else none
  | .sok _ _ => some (.one (.c .bool))
  | .bc x y => if isC .bool (x.inf tab Γ) ∧ isC .bool (y.inf tab Γ) then some (.one (.c .bool)) else none
  | .ae _ _ => some (.one (.c .bool))
  | .no x => if isC .bool (x.inf tab Γ) then some (.one (.c .bool)) else none
  | .an x y | .or x y => if isC .bool (x.inf tab Γ) ∧ isC .bool (y.inf tab Γ) then some (.one (.c .bool)) else none
  | .conv k x => if (isInt (x.inf tab Γ)).isSome then some (.one (.c (.int k))) else none
  | .len x => match x.inf tab Γ with | some (.one (.c .str)) | some (.one (.c (.sl _))) | some (.one (.c .mem)) => some (.one (.c (.int .i64))) | _ => none
  | .bstr x => match x.inf tab Γ with | some (.one (.c (.sl e))) => if tab e = [.int .u8] then some (.one (.c .str)) else none | _ => none
  | .ite c x y => if isC .bool (c.inf tab Γ) ∧ x.inf tab Γ = y.inf tab Γ then x.inf tab Γ else none
  | .row ts x i => match x.inf tab Γ with
    | some (.one (.c (.sl e))) => if tab e = ts ∧ (isInt (i.inf tab Γ)).isSome then some (.one (.agg ts)) else none
    | _ => none
  | .at x i => if isC .str (x.inf tab Γ) ∧ (isInt (i.inf tab Γ)).isSome then some (.one (.c (.int .u8))) else none
  | .cell x j => match x.inf tab Γ with | some (.one (.agg ts)) => (ts[j]?).map (fun t => .one (.c t)) | _ => none
  | .sub x j n => match x.inf tab Γ with | some (.one (.agg ts)) => if j + n ≤ ts.length then some (.one (.agg ((ts.drop j).take n))) else none | _ => none
  | .proj x j => match x.inf tab Γ with | some (.tup vs) => (vs[j]?).map .one | _ => none
  | .ag0 => some (.one (.agg []))
  | .ag1 x => match x.inf tab Γ with | some (.one (.c t)) => some (.one (.agg [t])) | _ => none
  | .cat x y => match x.inf tab Γ, y.inf tab Γ with | some (.one (.agg a)), some (.one (.agg b)) => some (.one (.agg (a ++ b))) | _, _ => none
  | .tp0 => some (.tup [])
  | .tp1 x y => match x.inf tab Γ, y.inf tab Γ with | some (.tup a), some (.one b) => some (.tup (a ++ [b])) | _, _ => none
  | .cut x lo hi => if (isInt (lo.inf tab Γ)).isSome ∧ (isInt (hi.inf tab Γ)).isSome then
      match x.inf tab Γ with | some (.one (.c .str)) => some (.one (.c .str)) | some (.one (.c (.sl e))) => some (.one (.c (.sl e))) | _ => none
    else none
  | .app x y => match x.inf tab Γ, y.inf tab Γ with | some (.one (.c (.sl e))), some (.one (.c (.sl f))) => if e = f then some (.one (.c (.sl e))) else none | _, _ => none
  | .put x r => match x.inf tab Γ, r.inf tab Γ with | some (.one (.c (.sl e))), some (.one (.agg ts)) => if tab e = ts then some (.one (.c (.sl e))) else none | _, _ => none
  | .inb _ _ | .inc _ _ _ | .few _ _ => some (.one (.c .bool))

/-- The environment has the types. -/
def EnvTy (tab : Nat → List CT) (Γ : List VT) (env : List D) : Prop := ∀ (i : Nat) (t : VT), Γ[i]? = some t → HasVT tab t (env.getD i .un)
theorem zeros_ty {tab : Nat → List CT} : ∀ ts : List CT, RowTy tab ts (ts.map zeroD)
  | [] => by simp [RowTy]
  | t :: ts => by
    simp only [List.map_cons, RowTy]
    refine ⟨?_, zeros_ty ts⟩
    cases t <;> simp [zeroD, HasTy, RowsTy]
theorem hasTy_int {tab : Nat → List CT} {k : IntKind} {d : D} (h : HasTy tab (.int k) d) : ∃ n, d = .int k n := by
  cases d <;> simp [HasTy] at h
  subst h; exact ⟨_, rfl⟩
theorem hasTy_bool {tab : Nat → List CT} {d : D} (h : HasTy tab .bool d) : ∃ b, d = .bool b := by
  cases d <;> simp [HasTy] at h; exact ⟨_, rfl⟩
theorem hasTy_str {tab : Nat → List CT} {d : D} (h : HasTy tab .str d) : ∃ s, d = .str s := by
  cases d <;> simp [HasTy] at h; exact ⟨_, rfl⟩
theorem hasTy_fn {tab : Nat → List CT} {d : D} (h : HasTy tab .fn d) : ∃ f caps, d = .fn f caps := by
  cases d <;> simp [HasTy] at h; exact ⟨_, _, rfl⟩
theorem hasTy_sl {tab : Nat → List CT} {e : Nat} {d : D} (h : HasTy tab (.sl e) d) : ∃ r, d = .sl r ∧ RowsTy tab (tab e) r := by
  cases d <;> simp [HasTy] at h; exact ⟨_, rfl, h⟩
theorem hasV1_agg {tab : Nat → List CT} {ts : List CT} {d : D} (h : HasV1 tab (.agg ts) d) : ∃ l, d = .agg l ∧ RowTy tab ts l := by
  cases d <;> simp [HasV1] at h; exact ⟨_, rfl, h⟩
theorem hasVT_tup {tab : Nat → List CT} {vs : List V1} {d : D} (h : HasVT tab (.tup vs) d) : ∃ l, d = .tup l ∧ HasVs tab vs l := by
  cases d <;> simp [HasVT] at h; exact ⟨_, rfl, h⟩
theorem isInt_some {o : Option VT} (h : (isInt o).isSome = true) : ∃ k, o = some (.one (.c (.int k))) := by
  unfold isInt at h; split at h
  · exact ⟨_, rfl⟩
  · simp at h
theorem isC_some {t : CT} {o : Option VT} (h : isC t o = true) : o = some (.one (.c t)) := by simpa [isC] using h
theorem zero_ty (tab : Nat → List CT) (t : CT) : HasTy tab t (zeroD t) := by
  cases t <;> simp [zeroD, HasTy, RowsTy]
theorem rowTy_get? {tab : Nat → List CT} : ∀ {ts : List CT} {l : List D}, l.length = ts.length → (∀ (i : Nat) (t : CT) (d : D), ts[i]? = some t → l[i]? = some d → HasTy tab t d) → RowTy tab ts l
  | [], [], _, _ => by simp [RowTy]
  | t :: ts, d :: ds, hl, h => by
    simp only [RowTy]
    exact ⟨h 0 t d rfl rfl, rowTy_get? (by simpa using hl) fun i t' d' h1 h2 => h (i + 1) t' d' (by simpa using h1) (by simpa using h2)⟩
  | [], _ :: _, h, _ => by simp at h
  | _ :: _, [], h, _ => by simp at h
theorem length_setL {α : Type} : ∀ (l : List α) (cs : List α) (off : Nat), (setL cs off l).length = cs.length
  | [], _, _ => rfl
  | x :: r, cs, off => by simp [setL, length_setL r]
theorem setL_get? {α : Type} : ∀ (l : List α) (cs : List α) (off i : Nat), (setL cs off l)[i]? = if off ≤ i ∧ i < off + l.length ∧ i < cs.length then l[i - off]? else cs[i]?
  | [], cs, off, i => by simp [setL]; omega
  | x :: r, cs, off, i => by
    rw [setL, setL_get? r]
    simp only [List.length_set, List.length_cons, List.getElem?_set]
    by_cases e : off = i
    · subst e
      by_cases h : off < cs.length
      · rw [if_neg (by omega), if_pos rfl, if_pos h, if_pos (by omega), Nat.sub_self]; rfl
      · rw [if_neg (by omega), if_pos rfl, if_neg h, if_neg (by omega), List.getElem?_eq_none (by omega)]
    · rw [if_neg e]
      by_cases h : off + 1 ≤ i ∧ i < off + 1 + r.length ∧ i < cs.length
      · rw [if_pos h, if_pos (by omega), show i - off = (i - (off + 1)) + 1 by omega]; rfl
      · rw [if_neg h, if_neg (by omega)]
theorem RowTy.get? {tab : Nat → List CT} {ts : List CT} {l : List D} (h : RowTy tab ts l) {i : Nat} {t : CT} {d : D} (h1 : ts[i]? = some t) (h2 : l[i]? = some d) : HasTy tab t d := by
  obtain ⟨d', h3, h4⟩ := h.get h1
  rw [h2] at h3; cases h3; exact h4
theorem setL_ty {tab : Nat → List CT} {ts us : List CT} {l r : List D} {off : Nat} (hu : us = (ts.drop off).take us.length) (hl : RowTy tab ts l) (hr : RowTy tab us r) : RowTy tab ts (setL l off r) := by
  refine rowTy_get? (by rw [length_setL, hl.length]) fun i t d h1 h2 => ?_
  rw [setL_get?] at h2
  split at h2
  · rename_i h
    have : us[i - off]? = some t := by
      rw [hu, List.getElem?_take, List.getElem?_drop, if_pos (by rw [← hr.length]; omega), show off + (i - off) = i by omega, h1]
    exact hr.get? this h2
  · exact hl.get? h1 h2
theorem updR_ty {tab : Nat → List CT} {ts us : List CT} {rows : List (List D)} {r : List D} {i off : Nat} (hu : us = (ts.drop off).take us.length) (hl : RowsTy tab ts rows) (hr : RowTy tab us r) : RowsTy tab ts (updR rows i off r) := by
  refine RowsTy.of fun z hz => ?_
  unfold updR at hz
  rcases List.mem_or_eq_of_mem_set hz with h | h
  · exact hl.mem z h
  · subst h
    by_cases hi : i < rows.length
    · refine setL_ty hu (hl.mem _ ?_) hr
      simp [List.getD, List.getElem?_eq_getElem hi]
    · rw [List.set_eq_of_length_le (by omega)] at hz
      exact hl.mem _ hz
theorem E.inf_ok {tab : Nat → List CT} {Γ : List VT} {env : List D} (h : EnvTy tab Γ env) : ∀ (e : E) (t : VT), e.inf tab Γ = some t → HasVT tab t (e.den env)
  | .sel c x i, t, ht => by
    simp only [E.inf] at ht
    split at ht
    · rename_i ts he
      split at ht
      · rename_i hc
        simp at ht; subst ht
        obtain ⟨l, hl, hlt⟩ := hasV1_agg (E.inf_ok h x _ he)
        simp only [E.den, hl, D.toA_agg, HasVT, HasV1]
        cases hg : l[(i.den env).toI.toNat]? with
        | none => exact zero_ty tab c
        | some d =>
          have hlt2 : (i.den env).toI.toNat < ts.length := by rw [← hlt.length]; exact (List.getElem?_eq_some_iff.1 hg).1
          obtain ⟨d', hd', hty⟩ := hlt.get (List.getElem?_eq_getElem hlt2)
          rw [hg] at hd'; cases hd'
          have := List.all_eq_true.1 hc.1 _ (List.getElem_mem hlt2)
          simp at this
          rw [this] at hty
          exact hty
      · simp at ht
    · simp at ht
  | .mem l, t, ht => by simp [E.inf] at ht; obtain ⟨_, rfl⟩ := ht; simp [E.den, HasVT, HasV1, HasTy]
  | .fn0 f, t, ht => by simp [E.inf] at ht; subst ht; simp [E.den, HasVT, HasV1, HasTy]
  | .fnC x r, t, ht => by
    simp only [E.inf] at ht
    split at ht
    · rename_i us hx hr
      simp at ht; subst ht
      obtain ⟨f, caps, hf⟩ := hasTy_fn (E.inf_ok h x _ hx)
      simp only [E.den, hf, addC, HasVT, HasV1, HasTy]
    · simp at ht
  | .rep e ts n, t, ht => by
    simp only [E.inf] at ht
    split at ht
    · rename_i hc
      simp at ht; subst ht
      simp only [E.den, HasVT, HasV1, HasTy]
      refine RowsTy.of fun z hz => ?_
      rw [List.eq_of_mem_replicate hz, hc.1]
      exact zeros_ty _
    · simp at ht
  | .upd x i r off, t, ht => by
    simp only [E.inf] at ht
    split at ht
    · rename_i e us hx hr
      split at ht
      · rename_i hc
        simp at ht; subst ht
        obtain ⟨q, hq, hqt⟩ := hasTy_sl (E.inf_ok h x _ hx)
        obtain ⟨l, hl, hlt⟩ := hasV1_agg (E.inf_ok h r _ hr)
        simp only [E.den, hq, hl, D.toR_sl, D.toA_agg, HasVT, HasV1, HasTy]
        exact updR_ty hc.1 hqt hlt
      · simp at ht
    · simp at ht
  | .var i, t, ht => h i t ht
  | .lb _, t, ht => by simp [E.inf] at ht; subst ht; simp [E.den, HasVT, HasV1, HasTy]
  | .li _ _, t, ht => by simp [E.inf] at ht; obtain ⟨_, rfl⟩ := ht; simp [E.den, HasVT, HasV1, HasTy]
  | .ls _, t, ht => by simp [E.inf] at ht; obtain ⟨_, rfl⟩ := ht; simp [E.den, HasVT, HasV1, HasTy]
  | .nilS _, t, ht => by simp [E.inf] at ht; subst ht; simp [E.den, HasVT, HasV1, HasTy, RowsTy]
  | .ar _ _ _ _, t, ht => by simp [E.inf] at ht; obtain ⟨_, rfl⟩ := ht; simp [E.den, HasVT, HasV1, HasTy]
  | .ic _ _ _, t, ht => by simp [E.inf] at ht; obtain ⟨_, rfl⟩ := ht; simp [E.den, HasVT, HasV1, HasTy]
  | .sc _ _ _, t, ht => by simp [E.inf] at ht; obtain ⟨_, rfl⟩ := ht; simp [E.den, HasVT, HasV1, HasTy]
  | .scat _ _, t, ht => by simp [E.inf] at ht; obtain ⟨_, rfl⟩ := ht; simp [E.den, HasVT, HasV1, HasTy]
  | .sok _ _, t, ht => by simp [E.inf] at ht; subst ht; simp [E.den, HasVT, HasV1, HasTy]
  | .bc _ _, t, ht => by simp [E.inf] at ht; obtain ⟨_, rfl⟩ := ht; simp [E.den, HasVT, HasV1, HasTy]
  | .ae _ _, t, ht => by simp [E.inf] at ht; subst ht; simp [E.den, HasVT, HasV1, HasTy]
  | .no _, t, ht => by simp [E.inf] at ht; obtain ⟨_, rfl⟩ := ht; simp [E.den, HasVT, HasV1, HasTy]
  | .an _ _, t, ht => by simp [E.inf] at ht; obtain ⟨_, rfl⟩ := ht; simp [E.den, HasVT, HasV1, HasTy]
  | .or _ _, t, ht => by simp [E.inf] at ht; obtain ⟨_, rfl⟩ := ht; simp [E.den, HasVT, HasV1, HasTy]
  | .conv _ _, t, ht => by simp [E.inf] at ht; obtain ⟨_, rfl⟩ := ht; simp [E.den, HasVT, HasV1, HasTy]
  | .len x, t, ht => by
    simp only [E.inf] at ht
    split at ht <;> first | (simp at ht; done) | (simp at ht; subst ht; simp [E.den, HasVT, HasV1, HasTy])
  | .bstr x, t, ht => by
    simp only [E.inf] at ht
    split at ht
    · split at ht
      · simp at ht; subst ht; simp [E.den, HasVT, HasV1, HasTy]
      · simp at ht
    · simp at ht
  | .ite c x y, t, ht => by
    simp only [E.inf] at ht
    split at ht
    · rename_i hc
      have h1 := E.inf_ok h x t ht
      have h2 := E.inf_ok h y t (hc.2 ▸ ht)
      simp only [E.den]
      cases (c.den env).toB <;> simpa
    · simp at ht
  | .row ts x i, t, ht => by
    simp only [E.inf] at ht
    split at ht
    · rename_i e he
      split at ht
      · rename_i hc
        simp at ht; subst ht
        have h1 := E.inf_ok h x _ he
        obtain ⟨r, hr, hrt⟩ := hasTy_sl h1
        simp only [E.den, hr, D.toR_sl, HasVT, HasV1]
        rw [← hc.1]
        cases hg : r[(i.den env).toI.toNat]? with
        | none => simp; exact zeros_ty _
        | some z => simp; exact hrt.mem z (List.mem_of_getElem? hg)
      · simp at ht
    · simp at ht
  | .at _ _, t, ht => by simp [E.inf] at ht; obtain ⟨_, rfl⟩ := ht; simp [E.den, HasVT, HasV1, HasTy]
  | .cell x j, t, ht => by
    simp only [E.inf] at ht
    split at ht
    · rename_i ts he
      simp at ht
      obtain ⟨c, hc, rfl⟩ := ht
      obtain ⟨l, hl, hlt⟩ := hasV1_agg (E.inf_ok h x _ he)
      obtain ⟨d, hd, hdt⟩ := hlt.get hc
      simp [E.den, hl, List.getD, hd, HasVT, HasV1, hdt]
    · simp at ht
  | .sub x j n, t, ht => by
    simp only [E.inf] at ht
    split at ht
    · rename_i ts he
      split at ht
      · simp at ht; subst ht
        obtain ⟨l, hl, hlt⟩ := hasV1_agg (E.inf_ok h x _ he)
        simp only [E.den, hl, D.toA_agg, HasVT, HasV1]
        exact (hlt.drop j).take n
      · simp at ht
    · simp at ht
  | .proj x j, t, ht => by
    simp only [E.inf] at ht
    split at ht
    · rename_i vs he
      simp at ht
      obtain ⟨c, hc, rfl⟩ := ht
      obtain ⟨l, hl, hlt⟩ := hasVT_tup (E.inf_ok h x _ he)
      obtain ⟨d, hd, hdt⟩ := hlt.get hc
      simp [E.den, hl, List.getD, hd, HasVT, hdt]
    · simp at ht
  | .ag0, t, ht => by simp [E.inf] at ht; subst ht; simp [E.den, HasVT, HasV1, RowTy]
  | .ag1 x, t, ht => by
    simp only [E.inf] at ht
    split at ht
    · rename_i c he
      simp at ht; subst ht
      have := E.inf_ok h x _ he
      simp only [E.den, HasVT, HasV1, RowTy]
      exact ⟨this, trivial⟩
    · simp at ht
  | .cat x y, t, ht => by
    simp only [E.inf] at ht
    split at ht
    · rename_i a b ha hb
      simp at ht; subst ht
      obtain ⟨l, hl, hlt⟩ := hasV1_agg (E.inf_ok h x _ ha)
      obtain ⟨m, hm, hmt⟩ := hasV1_agg (E.inf_ok h y _ hb)
      simp only [E.den, hl, hm, D.toA_agg, HasVT, HasV1]
      exact hlt.append hmt
    · simp at ht
  | .tp0, t, ht => by simp [E.inf] at ht; subst ht; simp [E.den, HasVT, HasVs]
  | .tp1 x y, t, ht => by
    simp only [E.inf] at ht
    split at ht
    · rename_i a b ha hb
      simp at ht; subst ht
      obtain ⟨l, hl, hlt⟩ := hasVT_tup (E.inf_ok h x _ ha)
      have hy := E.inf_ok h y _ hb
      simp only [E.den, hl, D.toT_tup, HasVT]
      exact hlt.snoc hy
    · simp at ht
  | .cut x lo hi, t, ht => by
    simp only [E.inf] at ht
    split at ht
    · split at ht
      · rename_i he
        simp at ht; subst ht
        obtain ⟨s, hs⟩ := hasTy_str (E.inf_ok h x _ he)
        simp [E.den, hs, cutD, HasVT, HasV1, HasTy]
      · rename_i e he
        simp at ht; subst ht
        obtain ⟨r, hr, hrt⟩ := hasTy_sl (E.inf_ok h x _ he)
        simp only [E.den, hr, cutD, HasVT, HasV1, HasTy]
        exact RowsTy.of fun z hz => hrt.mem z (List.mem_of_mem_drop (List.mem_of_mem_take hz))
      · simp at ht
    · simp at ht
  | .app x y, t, ht => by
    simp only [E.inf] at ht
    split at ht
    · rename_i e f he hf
      split at ht
      · rename_i hef
        simp at ht; subst ht; subst hef
        obtain ⟨r, hr, hrt⟩ := hasTy_sl (E.inf_ok h x _ he)
        obtain ⟨q, hq, hqt⟩ := hasTy_sl (E.inf_ok h y _ hf)
        simp only [E.den, hr, hq, D.toR_sl, HasVT, HasV1, HasTy]
        exact RowsTy.of fun z hz => (List.mem_append.1 hz).elim (hrt.mem z) (hqt.mem z)
      · simp at ht
    · simp at ht
  | .put x r, t, ht => by
    simp only [E.inf] at ht
    split at ht
    · rename_i e ts he hr
      split at ht
      · rename_i hts
        simp at ht; subst ht; subst hts
        obtain ⟨q, hq, hqt⟩ := hasTy_sl (E.inf_ok h x _ he)
        obtain ⟨l, hl, hlt⟩ := hasV1_agg (E.inf_ok h r _ hr)
        simp only [E.den, hq, hl, D.toR_sl, D.toA_agg, HasVT, HasV1, HasTy]
        exact RowsTy.of fun z hz => (List.mem_append.1 hz).elim (hqt.mem z) (fun e => by simp at e; subst e; exact hlt)
      · simp at ht
    · simp at ht
  | .inb _ _, t, ht => by simp [E.inf] at ht; subst ht; simp [E.den, HasVT, HasV1, HasTy]
  | .inc _ _ _, t, ht => by simp [E.inf] at ht; subst ht; simp [E.den, HasVT, HasV1, HasTy]
  | .few _ _, t, ht => by simp [E.inf] at ht; subst ht; simp [E.den, HasVT, HasV1, HasTy]
end Go.Proofs.YtgaeigomhhbkfaaGreat
