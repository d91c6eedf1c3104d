/- Code: the executor over sequences, tests, blocks, loops; what is left to be shown; and that it suffices. No program in sight. -/
import Derived.Test.YtgaeigomhhbkfaaGreatAAny
import Derived.Deep.LoopGhost
namespace Go.Proofs.YtgaeigomhhbkfaaGreat
open Go.RowKit
set_option linter.unusedVariables false
set_option linter.unusedSimpArgs false
set_option linter.unusedSectionVars false
variable [GC]

/-- All values that an expression names have numbers below n. -/
def E.bel (n : Nat) : E → Bool
  | .var i => Nat.blt i n
  | .lb _ | .li _ _ | .ls _ | .nilS _ | .ag0 | .tp0 | .fn0 _ => true
  | .ar _ _ x y | .ic _ x y | .sc _ x y | .scat x y | .sok x y | .bc x y | .ae x y | .an x y | .or x y | .row _ x y | .at x y | .cat x y | .tp1 x y | .app x y | .put x y | .inb x y | .few x y | .sel _ x y | .fnC x y => x.bel n && y.bel n
  | .no x | .conv _ x | .len x | .bstr x | .cell x _ | .sub x _ _ | .proj x _ | .ag1 x | .mem x | .rep _ _ x => x.bel n
  | .ite x y z | .cut x y z | .inc x y z | .upd x y z _ => x.bel n && y.bel n && z.bel n
theorem E.den_bel {env more : List D} {n : Nat} (hn : n ≤ env.length) : ∀ (e : E), e.bel n = true → e.den (env ++ more) = e.den env := by
  intro e
  induction e <;> intro h <;> simp only [E.bel, Bool.and_eq_true] at h <;> simp only [E.den]
  case var i =>
    have : i < env.length := Nat.lt_of_lt_of_le (Nat.le_of_ble_eq_true h) hn
    simp [List.getD, List.getElem?_append_left this]
  all_goals simp_all
def gdBel (n : Nat) (gs : Gd) : Bool := gs.all fun x => x.1.bel n
def stBel (n : Nat) : ST → Bool
  | .v gs _ e => gdBel n gs && e.bel n
  | .ptr gs _ _ => gdBel n gs
  | .ro gs e _ => gdBel n gs && e.bel n
  | .gp gs _ x i => gdBel n gs && x.bel n && i.bel n
  | .mp gs _ _ i _ => gdBel n gs && i.bel n
  | .iv gs _ _ _ i _ l => gdBel n gs && i.bel n && l.bel n
  | .ip gs _ _ _ i _ j _ _ => gdBel n gs && i.bel n && j.bel n
  | .box cs => cs.all fun x => x.2.bel n
  | .live m => (match m.body with | some (e, _) => e.bel n | none => true)
  | _ => true
def kTag (n : Nat) : K → Bool
  | .own g => Nat.blt g n
  | .ag ks => ks.all fun k => match k with | .own g => Nat.blt g n | _ => true
  | _ => true
def stTag (n : Nat) : ST → Bool
  | .v _ k _ => kTag n k
  | .ptr _ id _ => Nat.blt id n
  | .mp _ g _ _ _ => Nat.blt g n
  | .iv _ g gv _ _ _ _ => Nat.blt g n && Nat.blt gv n
  | .ip _ g gv _ _ _ _ _ _ => Nat.blt g n && Nat.blt gv n
  | .live m => (match m.body with | some (_, some (gv, _)) => Nat.blt gv n | _ => true)
  | .box cs => cs.all fun x => kTag n x.1
  | _ => true
inductive Slot where
  | t (t : Nat) | b (id j : Nat) | m (g : Nat)
  deriving DecidableEq
def slotGet (σ : Nat → ST) : Slot → Option (K × E)
  | .t t => match σ (3 * t) with | .v [] k e => some (k, e) | _ => none
  | .b id j => match σ (3 * id + 1) with | .box cs => cs[j]? | _ => none
  | .m g => match σ (3 * g + 2) with | .live ⟨_, some (e, _)⟩ => some (.d, e) | _ => none
structure Head where
  slots : List Slot
  ks : List K
  tys : List VT
  hd : SS
def kOk (tab : Nat → List CT) (σ : Nat → ST) (ty : VT) : K → K → Bool
  | .d, _ => true
  | .own _, .full => (match ty with | .one (.c (.sl _)) => true | _ => false)
  | .own _, .own g => (match ty with | .one (.c (.sl el)) => decide (σ (3 * g + 2) = .live ⟨(tab el).length, none⟩) | _ => false)
  | _, _ => false
/-- The slots' values at the end of a round, if they are of the kinds that the head asks. -/
def slotVals (tab : Nat → List CT) (Γ : List VT) (σ : Nat → ST) : List Slot → List K → List VT → Option (List (K × E))
  | [], [], [] => some []
  | s :: ss, k :: ks, ty :: tys => match slotGet σ s, slotVals tab Γ σ ss ks tys with
    | some (k', e'), some r => bif decide (e'.inf tab Γ = some ty) && kOk tab σ ty k k' then some ((k', e') :: r) else none
    | _, _ => none
  | _, _, _ => none
def usedTags : List K → List (K × E) → List Nat
  | .own _ :: ks, (.own g, _) :: r => g :: usedTags ks r
  | _ :: ks, _ :: r => usedTags ks r
  | _, _ => []
def nodupB : List Nat → Bool
  | [] => true
  | x :: r => !r.contains x && nodupB r
def ksOk (nt : Nat) : Nat → List K → Bool
  | _, [] => true
  | i, .d :: r => ksOk nt (i + 1) r
  | i, .own g :: r => Nat.beq g (nt + i) && ksOk nt (i + 1) r
  | _, _ :: _ => false
def plainOk (n nt : Nat) (σ : Nat → ST) (l : Nat) (h : ST) : Bool := decide (σ l = h) && stBel n h && stTag nt h
/-- The rows within: at the head they have a tag of their own. -/
def dpOk (k : Nat) : Option (Nat × List Nat) → Option (Nat × List Nat) → Bool
  | none, none => true
  | some (gv, ms), some (_, ms') => Nat.beq gv k && decide (ms = ms')
  | _, _ => false
/-- At the head: what a row of our own holds is a value of its own. -/
def mOk (n nt : Nat) (H : Head) (σ : Nat → ST) (l : Nat) (m : LV) : Bool :=
  match m.body, σ l with
  | some (.var v, dp), .live ⟨n', some (_, dp')⟩ => Nat.ble n v && decide (H.slots[v - n]? = some (.m (l / 3))) && Nat.beq n' m.n && dpOk (nt + (v - n)) dp dp'
  | _, _ => false
def entryOk (tab : Nat → List CT) (n nt : Nat) (H : Head) (σ : Nat → ST) (used : List Nat) (l : Nat) (h : ST) : Bool :=
  match h with
  | .un => true
  | .v [] k (.var v) => (Nat.ble n v && Nat.beq (l % 3) 0 && decide (H.slots[v - n]? = some (.t (l / 3))) && decide (H.ks[v - n]? = some k)) || plainOk n nt σ l h
  | .box cs => Nat.beq (l % 3) 1 && Nat.blt (l / 3) nt && (((match σ l with | .box cs' => Nat.beq cs'.length cs.length | _ => false) && cs.zipIdx.all fun x => match x.1.2 with
      | .var v => Nat.ble n v && decide (H.slots[v - n]? = some (.b (l / 3) x.2)) && decide (H.ks[v - n]? = some x.1.1)
      | _ => false) || plainOk n nt σ l h)
  | .live m => Nat.beq (l % 3) 2 && ((m.body.isNone && Nat.ble nt (l / 3) && decide (H.ks[l / 3 - nt]? = some (.own (l / 3))) && (match H.tys[l / 3 - nt]? with | some (.one (.c (.sl el))) => Nat.beq m.n (tab el).length | _ => false))
      || (Nat.blt (l / 3) nt && !used.contains (l / 3) && (plainOk n nt σ l h || mOk n nt H σ l m)))
  | _ => plainOk n nt σ l h
def back (tab : Nat → List CT) (n nt : Nat) (H : Head) (s : SS) : Option (List E) :=
  match slotVals tab s.Γ s.σ.get H.slots H.ks H.tys with
  | some vs => bif nodupB (usedTags H.ks vs) && ksOk nt 0 H.ks && Nat.beq H.hd.nt (nt + H.slots.length) && Nat.ble nt s.nt && Nat.blt 0 nt && H.hd.σ.all (fun x => entryOk tab n nt H s.σ.get (usedTags H.ks vs) x.1 (H.hd.σ.get x.1)) then some (vs.map (·.2)) else none
  | none => none

/-- Code that surely returns. -/
def retB : Code → Bool
  | .ret => true
  | .seq a b => plainB a && retB b
  | .cond _ a b => retB a && retB b
  | _ => false
where plainB : Code → Bool
  | .region _ _ _ | .skip => true
  | .seq a b => plainB a && plainB b
  | .cond _ a b => (plainB a || retB a) && (plainB b || retB b)
  | .ret => true
  | _ => false
/-- The operations of a piece of code behind which it may go on. -/
def opsOf : Code → List Oper
  | .region _ ops _ => ops.toList
  | .seq a b => bif retB (.seq a b) then [] else opsOf a ++ opsOf b
  | .cond _ a b => opsOf a ++ opsOf b
  | .block _ c | .loop c => opsOf c
  | _ => []
def memN (x : Nat) : List Nat → Bool
  | [] => false
  | y :: r => Nat.beq x y || memN x r
def asgOf (l : List Oper) : List Nat := l.filterMap (·.dst)
/-- The box that an address in a slot leads to. -/
def rootOf (l : List Oper) (asg : List Nat) (σ : Nat → ST) : Nat → Nat → Option Nat
  | 0, _ => none
  | f + 1, t => bif memN t asg then
      match l.find? (fun o => decide (o.dst = some t)) with
      | some o => match o.op with
        | .fieldAddr _ (.tmp u) _ | .move (.tmp u) | .assign (.tmp u) | .nilCheck (.tmp u) => rootOf l asg σ f u
        | _ => none
      | none => none
    else match σ (3 * t) with
      | .ptr _ id _ => some id
      | _ => none
def boxesOf (l : List Oper) (asg : List Nat) (σ : Nat → ST) : List Oper → List Nat
  | [] => []
  | o :: r =>
    let more := boxesOf l asg σ r
    let one (t : Nat) := match rootOf l asg σ 20 t with | some id => bif memN id more then more else id :: more | none => more
    match o.op with
    | .store _ (.tmp t) _ => one t
    | .call c => match c.callee, c.args.toList with
      | .value (.func _), .tmp t :: _ => one t
      | _, _ => more
    | _ => more
def dedup : List Nat → List Nat
  | [] => []
  | x :: r => bif memN x r then dedup r else x :: dedup r
def slotsT (σ : Nat → ST) : List Nat → List Slot
  | [] => []
  | t :: r => match σ (3 * t) with
    | .v [] _ _ => .t t :: slotsT σ r
    | _ => slotsT σ r
def slotsB (σ : Nat → ST) : List Nat → List Slot
  | [] => []
  | id :: r => match σ (3 * id + 1) with
    | .box cs => (List.range cs.length).map (.b id) ++ slotsB σ r
    | _ => slotsB σ r
def headKs (nt : Nat) : Nat → List (K × E) → List K
  | _, [] => []
  | i, (.d, _) :: r => .d :: headKs nt (i + 1) r
  | i, (.ag _, _) :: r => .d :: headKs nt (i + 1) r
  | i, (_, _) :: r => .own (nt + i) :: headKs nt (i + 1) r
def headTys (tab : Nat → List CT) (Γ : List VT) : List (K × E) → List VT
  | [] => []
  | (_, e) :: r => (e.inf tab Γ).getD (.tup []) :: headTys tab Γ r
def headBoxes (n : Nat) (slots : List Slot) (ks : List K) (σ : Nat → ST) : List Nat → Sg
  | [] => []
  | id :: r => match σ (3 * id + 1) with
    | .box cs => (3 * id + 1, .box ((List.range cs.length).map fun j => match slots.idxOf? (.b id j) with
        | some i => (ks.getD i .d, .var (n + i))
        | none => (.d, .ag0))) :: headBoxes n slots ks σ r
    | _ => headBoxes n slots ks σ r
def headTmps (n : Nat) (slots : List Slot) (ks : List K) : List Nat → Sg
  | [] => []
  | t :: r => (3 * t, match slots.idxOf? (.t t) with | some i => .v [] (ks.getD i .d) (.var (n + i)) | none => .un) :: headTmps n slots ks r
def headLive (tab : Nat → List CT) : List K → List VT → Sg
  | .own g :: ks, .one (.c (.sl el)) :: tys => (3 * g + 2, .live ⟨(tab el).length, none⟩) :: headLive tab ks tys
  | _ :: ks, _ :: tys => headLive tab ks tys
  | _, _ => []
/-- A store in the code whose address leads to no box: then all rows of our own may turn. -/
def storesM (l : List Oper) (asg : List Nat) (σ : Nat → ST) : List Oper → Bool
  | [] => false
  | o :: r => (match o.op with | .store _ (.tmp t) _ => (rootOf l asg σ 20 t).isNone | _ => false) || storesM l asg σ r
def mutTags (σ : Sg) : List Nat := dedup ((σ.filter fun x => Nat.beq (x.1 % 3) 2 && (match σ.get x.1 with | .live ⟨_, some _⟩ => true | _ => false)).map fun x => x.1 / 3)
def headM (n nt : Nat) (slots : List Slot) (σ : Nat → ST) : List Nat → Sg
  | [] => []
  | g :: r => match slots.idxOf? (.m g), σ (3 * g + 2) with
    | some i, .live ⟨k, some (_, dp)⟩ => (3 * g + 2, .live ⟨k, some (.var (n + i), dp.map fun x => (nt + i, x.2))⟩) :: headM n nt slots σ r
    | _, _ => headM n nt slots σ r
def headDead : List (K × E) → Sg
  | [] => []
  | (.own g, _) :: r => (3 * g + 2, .un) :: headDead r
  | _ :: r => headDead r
def mkHead (tab : Nat → List CT) (c : Code) (ss : SS) : Head :=
  let l := opsOf c
  let asg := dedup (asgOf l)
  let bs := dedup (boxesOf l asg ss.σ.get l)
  let ms := bif storesM l asg ss.σ.get l then mutTags ss.σ else []
  let slots := slotsT ss.σ.get asg ++ slotsB ss.σ.get bs ++ ms.map .m
  let vs := slots.filterMap (slotGet ss.σ.get)
  let ks := headKs ss.nt 0 vs
  let tys := headTys tab ss.Γ vs
  let n := ss.Γ.length
  { slots, ks, tys, hd := { Γ := ss.Γ ++ tys, nt := ss.nt + slots.length, lv := ss.lv + 1, σ := headTmps n slots ks asg ++ headBoxes n slots ks ss.σ.get bs ++ headM n ss.nt slots ss.σ.get ms ++ headLive tab ks tys ++ headDead vs ++ ss.σ } }

def paramsSg : Nat → Nat → List VT → Sg
  | _, _, [] => []
  | k, j, _ :: r => (3 * k, .v [] .d (.var j)) :: paramsSg (k + 1) (j + 1) r
/-- A function type's entry is marked as a tuple, for nothing else is asked of it. -/
def vtP : VT → VT
  | .tup [.c .fn] => .one (.c .fn)
  | vt => vt
def allVT (tb : TB) : List Nat → Option (List VT)
  | [] => some []
  | T :: r => match tb.get T, allVT tb r with
    | some i, some l => some (vtP i.vt :: l)
    | _, _ => none
/-- The state at a function's start. -/
def initSS (tb : TB) (params : List Nat) (bx : Option (List CT)) : Option SS :=
  match bx, params with
  | none, ps => match allVT tb ps with
    | some Γ => some { Γ, nt := 0, lv := 0, σ := paramsSg 0 0 Γ }
    | none => none
  | some cs, _ :: ps => match allVT tb ps with
    | some Γ => some { Γ := Γ ++ cs.map (fun t => .one (.c t)), nt := 1, lv := 0, σ := (0, .ptr [] 0 0) :: (1, .box (vars Γ.length cs)) :: paramsSg 1 0 Γ }
    | none => none
  | some _, [] => none
structure Fx where
  cx : Cx
  res : List ResultVar
  bx : Bool
  rt : List (Nat × Nat) := []
/-- All rows of our own are given away. -/
def frzS (σ : Nat → ST) : Nat → ST := fun l => match σ l with | .live m => .live ⟨m.n, none⟩ | st => st
/-- What a row of our own holds. -/
def bodyOf (σ : Nat → ST) (g : Nat) : Option E := match σ (3 * g + 2) with | .live ⟨_, some (b, _)⟩ => some b | _ => none
def kkBody (σ : Nat → ST) : KK → Option E
  | .own g => bodyOf σ g
  | _ => none
/-- A row of our own that is given away: as data. -/
def frz (tab : Nat → List CT) (Γ : List VT) (σ : Nat → ST) : K → E → E
  | .own g, e => (bodyOf σ g).getD e
  | .ag ks, e => bif (ks.any fun kk => (kkBody σ kk).isSome) && (match e.inf tab Γ with | some (.one (.agg us)) => Nat.beq us.length ks.length | _ => false) then mk ((List.range ks.length).map fun j => (kkBody σ (ks.getD j .d)).getD (.cell e j)) else e
  | _, e => e
def retE (tb : TB) (ss : SS) : ResultVar → Option (K × E)
  | .tmp t => match ss.σ.get (3 * t) with | .v [] k e => some (k, frz tb.tab ss.Γ ss.σ.get k e) | _ => none
  | .cell t T => match ss.σ.get (3 * t), tb.get T with
    | .ptr [] id 0, some ti => match ss.σ.get (3 * id + 1), ti.vt with
      | .box cs, .one (.agg ts) => bif Nat.beq ts.length cs.length then some (packK (cs.map (·.1)), pack tb.tab ss.Γ (cs.map fun x => frz tb.tab ss.Γ ss.σ.get x.1 x.2)) else none
      | .box [(k, e)], .one (.c _) => some (k, e)
      | _, _ => none
    | _, _ => none
def retEs (tb : TB) (ss : SS) : List ResultVar → Option (List (K × E))
  | [] => some []
  | r :: rs => match retE tb ss r, retEs tb ss rs with
    | some e, some es => some (e :: es)
    | _, _ => none
/-- The kinds of the answer's cells. -/
def cellsK (tab : Nat → List CT) (Γ : List VT) : List (K × E) → Option (List KK)
  | [] => some []
  | (k, e) :: r => match e.inf tab Γ, cellsK tab Γ r with
    | some (.one (.c _)), some l => some (k.kk :: l)
    | some (.one (.agg ts)), some l => some ((List.range ts.length).map (fun j => (k.nth j).kk) ++ l)
    | _, _ => none
def rtTags (σ : Nat → ST) (l : List KK) : List (Nat × Nat) → Option (List Nat)
  | [] => some []
  | (p, m) :: r => match l[p]?, rtTags σ l r with
    | some .full, some q => some q
    | some (.own g), some q => if σ (3 * g + 2) = .live ⟨m, none⟩ ∧ memN g q = false then some (g :: q) else none
    | _, _ => none
/-- The answer has the rights that are promised. -/
def rtChk (tab : Nat → List CT) (Γ : List VT) (σ : Nat → ST) (es : List (K × E)) : List (Nat × Nat) → Bool
  | [] => true
  | rt => match cellsK tab Γ es with | some l => (rtTags σ l rt).isSome | none => false
def tups : List E → E → E
  | [], acc => acc
  | e :: r, acc => tups r (.tp1 acc e)
def oneE : List E → E
  | [e] => e
  | es => tups es .tp0
def retVC (fx : Fx) (ss : SS) : VC :=
  match retEs fx.cx.tb ss fx.res with
  | some es =>
    bif rtChk fx.cx.tb.tab ss.Γ (frzS ss.σ.get) es fx.rt then
      bif fx.bx then match ss.σ.get 1 with
        | .box cs => .ret (oneE (es.map (·.2))) (cs.map (·.2))
        | _ => .fail 1
      else .ret (oneE (es.map (·.2))) []
    else .fail 10
  | none => .fail 0
def lookupE (id : Nat) : List (Nat × (SS → VC)) → Option (SS → VC)
  | [] => none
  | (i, k) :: r => bif Nat.beq i id then some k else lookupE id r
def againVC (tab : Nat → List CT) (n nt lv : Nat) (H : Head) (s : SS) : VC :=
  match back tab n nt H s with
  | some es => bif Nat.blt lv s.lv then .again (s.lv - lv - 1) es else .fail 2
  | none => .fail 3
/-- The requirements' expressions name values that are there. -/
def rqBel (n : Nat) : Rq → Bool
  | .cond gs c => gdBel n gs && c.bel n
  | .callR _ bx args _ _ _ => (match bx with | none => true | some l => l.all (·.bel n)) && args.all (·.bel n)
  | .call gs _ bx args _ _ => gdBel n gs && (match bx with | none => true | some l => l.all (·.bel n)) && args.all (·.bel n)
  | .new _ args _ => args.all (·.bel n)
  | .callV gs e args _ => gdBel n gs && e.bel n && args.all (·.bel n)
  | .glob _ _ ix => (match ix with | none => true | some (gs, e, _) => gdBel n gs && e.bel n)
def effsBel : Nat → List Eff → Bool
  | _, [] => true
  | n, e :: r => e.rq.all (rqBel n) && effsBel (n + (rqTys e.rq).length) r
def oneRq (es : List Eff) : Bool := es.all fun e => Nat.ble e.rq.length 1
def isRet : List Eff → Bool
  | [] => true
  | e :: r => (match e.rq with | [] => true | _ => false) && isRet r
def sx (fx : Fx) : Code → SS → List (Nat × (SS → VC)) → (SS → VC) → VC
  | .skip, ss, _, k => k ss
  | .region id ops draw, ss, _, k => match regRun fx.cx ops ops.toList ss with
    | some (es, s) => bif (!draw || drawOk ops es ss) && (isRet es || ss.σ.all fun x => stBel ss.Γ.length (ss.σ.get x.1)) && effsBel ss.Γ.length es && oneRq es then rqs es (k s) else .fail (1000 + id)
    | none => .fail (2000 + id)
  | .seq a b, ss, ex, k => sx fx a ss ex fun s => sx fx b s ex k
  | .cond x a b, ss, ex, k => match undV [] (opd fx.cx.tb ss.σ.get 0 x) with
    | some (_, e) => bif isC .bool (e.inf fx.cx.tb.tab ss.Γ) then .ite e (sx fx a ss ex k) (sx fx b ss ex k) else .fail 4
    | none => .fail 5
  | .block id c, ss, ex, k => sx fx c ss ((id, k) :: ex) k
  | .exit id, ss, ex, _ => match lookupE id ex with
    | some k => k ss
    | none => .fail 6
  | .loop c, ss, ex, _ =>
    let H := mkHead fx.cx.tb.tab c ss
    match back fx.cx.tb.tab ss.Γ.length ss.nt H ss with
    | some es => bif Nat.beq H.hd.lv (ss.lv + 1) && decide (H.hd.Γ = ss.Γ ++ H.tys) && Nat.beq H.slots.length H.tys.length then .loop H.tys es (sx fx c H.hd ex (againVC fx.cx.tb.tab ss.Γ.length ss.nt ss.lv H)) else .fail 7
    | none => .fail 8
  | .ret, ss, _, _ => retVC fx ss
  | _, _, _, _ => .fail 9

/-- The condition that is left. -/
def HasTys (tab : Nat → List CT) : List VT → List D → Prop
  | [], [] => True
  | t :: ts, d :: ds => HasVT tab t d ∧ HasTys tab ts ds
  | _, _ => False
def VC.den (P : Program) (tab : Nat → List CT) : VC → List D → (D → List D → Prop) → List (List D → Prop) → Prop
  | .fail _, _, _, _ => False
  | .ret e bs, env, Q, _ => Q (e.den env) (bs.map (·.den env))
  | .rq (.cond gs c) k, env, Q, L => (gsH env gs → c.den env = .bool true) ∧ k.den P tab env Q L
  | .rq (.call gs f bx args vt nb) k, env, Q, L => ∃ d cs, HasVT tab vt d ∧ RowTy tab nb cs ∧ (gsH env gs → Fun P f (bx.map (·.map (·.den env))) (args.map (·.den env)) d cs) ∧ k.den P tab (env ++ d :: cs) Q L
  | .rq (.callR f bx args vt nb rt) k, env, Q, L => ∃ d cs, HasVT tab vt d ∧ RowTy tab nb cs ∧ FunR P f (bx.map (·.map (·.den env))) (args.map (·.den env)) d cs rt ∧ k.den P tab (env ++ d :: cs) Q L
  | .rq (.new f args nb) k, env, Q, L => ∃ cs, RowTy tab nb cs ∧ FunN P f (args.map (·.den env)) cs ∧ k.den P tab (env ++ cs) Q L
  | .rq (.callV gs e args vt) k, env, Q, L => ∃ d, HasVT tab vt d ∧ (gsH env gs → FunV P (e.den env) (args.map (·.den env)) d) ∧ k.den P tab (env ++ [d]) Q L
  | .rq (.glob g vt ix) k, env, Q, L => ∃ d, HasVT tab vt d ∧ GlobIs g d ∧ IxOk env ix ∧ k.den P tab (env ++ [d]) Q L
  | .ite c a b, env, Q, L => ((c.den env).toB = true → a.den P tab env Q L) ∧ ((c.den env).toB = false → b.den P tab env Q L)
  | .loop tys inits body, env, Q, L => ∃ (I : List D → Prop) (μ : List D → Nat), I (inits.map (·.den env)) ∧
      ∀ xs, HasTys tab tys xs → FitsL xs → I xs → body.den P tab (env ++ xs) Q ((fun ys => I ys ∧ μ ys < μ xs) :: L)
  | .again d es, env, _, L => match L[d]? with
    | some p => p (es.map (·.den env))
    | none => False
end Go.Proofs.YtgaeigomhhbkfaaGreat
