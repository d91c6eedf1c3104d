/- Walks by hand over an environment: what the slots hold, as a list; one law an operation. No program in sight. -/
import Derived.Test.YtimickglpboilaaGreatDoorG4
import Derived.Test.YtimickglpboilaaGreatDoorG11
import Derived.Test.YtimickglpboilaaGreatDoorG0
import Derived.Still
import Derived.Test.YtimickglpboilaaGreatDoorG14
import Derived.OrdersHeld
import Derived.NoCompiler
import Derived.Deep.RegionHeld
set_option linter.unusedVariables false
set_option linter.unusedSimpArgs false
set_option linter.unusedSectionVars false
set_option maxRecDepth 100000
namespace Go.Proofs.YtimickglpboilaaGreatDoor
section
open Go.RowKit Go
variable [GC]
abbrev PQ(b:Nat):Value:= .pointer (some ⟨b,0,none⟩)
def lk:List (Nat×Value)->Nat->Option Value
 | [],_=>none
 | p::r,t=>bif Nat.beq p.1 t then some p.2 else lk r t
structure Env(n:Nat)(a:Act)(E:List (Nat×Value)):Prop where
 size:a.tmps.size=n
 df:a.defers=[]
 at': ∀t v,lk E t=some v->a.tmps.getD t undef=v
def ev(E:List (Nat×Value)):Operand->Option Value
 | .tmp t=>lk E t
 | .const v=>some v
 | .global g=>some (.pointer (some ⟨g,0,none⟩))
 | .func f=>some (.func (.func f) #[] #[])
theorem Env.ev{n:Nat}{a:Act}{E:List (Nat×Value)}(h:Env n a E){x:Operand}{v:Value}(e:ev E x=some v):a.eval x=v:=by
 cases x with
 | tmp t=>exact h.at' t v e
 | const u=>simp [Go.Proofs.YtimickglpboilaaGreatDoor.ev] at e;exact e
 | global g=>simp [Go.Proofs.YtimickglpboilaaGreatDoor.ev] at e;exact e
 | func f=>simp [Go.Proofs.YtimickglpboilaaGreatDoor.ev] at e;exact e
theorem Env.put{n:Nat}{a:Act}{E:List (Nat×Value)}(h:Env n a E){d:Nat}(hd:d<n)(v:Value):Env n (a.put (some d) v) ((d,v)::E):=by
 refine ⟨by simp [Act.put,h.size],h.df,fun t u e=> ?_⟩
 have hs:=h.size
 simp only [lk] at e
 simp only [Act.put,Array.getD_eq_getD_getElem?,Array.getElem?_setIfInBounds]
 cases hb:Nat.beq d t with
 | true =>
  have:d=t:=Nat.eq_of_beq_eq_true hb
  subst this
  rw [hb] at e;simp at e;subst e
  rw [if_pos rfl,if_pos (by omega)];rfl
 | false =>
  rw [hb] at e;simp at e
  have hne: ¬d=t:=fun x=>by subst x;simp at hb
  rw [if_neg hne]
  have:=h.at' t u e
  rw [Array.getD_eq_getD_getElem?] at this
  exact this
def eK(E:List (Nat×Value)):List (Nat×Value)->Prop
 | []=>True
 | p::r=>lk E p.1=some p.2/\eK E r
theorem eK.get{E:List (Nat×Value)}: ∀{E':List (Nat×Value)},eK E E'-> ∀{t:Nat} {v:Value},lk E' t=some v->lk E t=some v
 | [],_,t,v,h=>by simp [lk] at h
 | p::r,⟨h1,h2⟩,t,v,h=>by
  simp only [lk] at h
  cases hb:Nat.beq p.1 t with
  | true =>
   have:p.1=t:=Nat.eq_of_beq_eq_true hb
   subst this
   rw [hb] at h;simp at h;subst h;exact h1
  | false=>rw [hb] at h;simp at h;exact h2.get h
theorem Env.sub{n:Nat}{a:Act}{E E':List (Nat×Value)}(h:Env n a E)(hs:eK E E'):Env n a E':=⟨h.size,h.df,fun t v e=>h.at' t v (hs.get e)⟩
theorem Env.of{n:Nat}{a:Act}{E:List (Nat×Value)}(h:a.tmps.size=n)(hd:a.defers=[])(hs: ∀p∈E,a.tmps.getD p.1 undef=p.2):Env n a E:=by
 refine ⟨h,hd,fun t v e=> ?_⟩
 induction E with
 | nil=>simp [lk] at e
 | cons p r ih =>
  simp only [lk] at e
  cases hb:Nat.beq p.1 t with
  | true =>
   have:p.1=t:=Nat.eq_of_beq_eq_true hb
   subst this
   rw [hb] at e;simp at e;subst e
   exact hs p (by simp)
  | false=>rw [hb] at e;simp at e;exact ih (fun q hq=>hs q (by simp [hq])) e
section
variable {n:Nat}{P:Program}{ops:Array Oper}{Q:Exit->Act->World->Prop}{E:List (Nat×Value)}{w w':World}
def NX(n:Nat)(K:Act->World->Prop)(E:List (Nat×Value))(w:World):Prop:= ∀a,Env n a E->K a w
def WL(n:Nat)(P:Program)(ops:Array Oper)(Q:Exit->Act->World->Prop)(l:List Oper)(E:List (Nat×Value))(w:World):Prop:= ∀a,Env n a E->wpList P ops Q l a w
def CW(n:Nat)(P:Program)(c:Code)(Q:Exit->Act->World->Prop)(E:List (Nat×Value))(w:World):Prop:= ∀a,Env n a E->c.wp P Q a w
theorem CW.seq{x y:Code}(h:CW n P x (Exit.then (y.wp P Q) Q) E w):CW n P (.seq x y) Q E w:=fun a hE=>wp_seq (h a hE)
theorem CW.region{id:Nat}{l:List Oper}(h:WL n P l.toArray Q l E w):CW n P (.region id l.toArray false) Q E w:=fun a hE=>wp_region_lit (h a hE)
theorem CW.skip(h:NX n (Q .normal) E w):CW n P .skip Q E w:=fun a hE=>wp_skip (h a hE)
theorem CW.ret(h:NX n (Q .ret) E w):CW n P .ret Q E w:=fun a hE=>wp_ret (h a hE)
theorem CW.block{id:Nat}{c:Code}(h:CW n P c (Exit.inBlock id Q) E w):CW n P (.block id c) Q E w:=fun a hE=>wp_block (h a hE)
theorem CW.yes{c:Operand}{x y:Code}(hc:ev E c=some (.bool true))(h:CW n P x Q E w):CW n P (.cond c x y) Q E w:=fun a hE=>wp_cond_true (hE.ev hc) (h a hE)
theorem CW.no{c:Operand}{x y:Code}(hc:ev E c=some (.bool false))(h:CW n P y Q E w):CW n P (.cond c x y) Q E w:=fun a hE=>wp_cond_false (hE.ev hc) (h a hE)
theorem CW.sub{c:Code}{E':List (Nat×Value)}(hs:eK E E')(h:CW n P c Q E' w):CW n P c Q E w:=fun a hE=>h a (hE.sub hs)
theorem WL.nil(h:NX n (Q .normal) E w):WL n P ops Q [] E w:=fun a hE=>wpList_nil (h a hE)
theorem NX.next{y:Code}{Q':Exit->Act->World->Prop}(h:CW n P y Q E w):NX n (Exit.then (y.wp P Q) Q' .normal) E w:=h
theorem NX.ret{K:Act->World->Prop}(h:NX n (Q .ret) E w):NX n (Exit.then K Q .ret) E w:=h
theorem NX.fT{id:Nat}(h:NX n (Q .ret) E w):NX n (Exit.inBlock id Q .ret) E w:=h
theorem NX.HU{id:Nat}(h:NX n (Q .normal) E w):NX n (Exit.inBlock id Q .normal) E w:=h
theorem NX.nr{fn:Func}{R:Ending->World->Prop}{p:Tmp}{ty:TypeId}{g:Nat}{t:TypeId}{cs:Array Value}{d:TypeDesc}(h:fn.results= #[.cell p ty])(hp:lk E p=some (.pointer (some ⟨g,0,none⟩)))(hg:aJ w g t cs)(hu:P.underlying ty=some d)
  (hd:(match d with| .struct _| .array _ _=>true|_=>false)=true) (hi:(P.info? ty).map (·.size)=some cs.size) (hR:R (.returned (.agg cs)) w):NX n (bodyPost P fn R .ret) E w :=
 fun a hE=>⟨hE.df,_,iF h a.tmps w d (hE.at' p _ hp) hg hu hd hi,hR⟩
theorem NX.zO{fn:Func}{R:Ending->World->Prop}{p:Tmp}{v:Value}(h:fn.results= #[.tmp p])(hp:lk E p=some v)(hR:R (.returned v) w):NX n (bodyPost P fn R .ret) E w :=
 fun a hE=>⟨hE.df,_,results_tmp h a.tmps P w,by rw [hE.at' p _ hp];exact hR⟩
def fk(n:Nat)(P:Program)(E:List (Nat×Value))(o:Oper)(w:World)(v:Value)(w':World):Prop:= ∀a,Env n a E->(execOp a.eval o).run P w= .ok (.value v) w'
def zF(n:Nat)(P:Program)(E:List (Nat×Value))(o:Oper)(w:World)(w':World):Prop:= ∀a,Env n a E->(execOp a.eval o).run P w= .ok .skip w'
theorem wR{o:Oper}(hg:o.guard=none)(y:Nat->Option Bool):Region.wanted o y=true:=by simp [Region.wanted,hg]
theorem S8{a:Act}(hE:Env n a E){j d:Nat}{b:Bool}(hj:(ops[j]?).bind (·.dst)=some d)(hb:lk E d=some (.bool b)):yielded ops a.tmps j=some b:=by
 have h1:=hE.at' d _ hb
 unfold yielded
 rw [hj]
 rw [Array.getD_eq_getD_getElem?] at h1
 cases h2:a.tmps[d]? with
 | none=>rw [h2] at h1;simp [undef] at h1
 | some v=>rw [h2] at h1;simp at h1;subst h1;simp [h2]
theorem S6{o:Oper}{a:Act}(hE:Env n a E){j d:Nat}{b:Bool}(hg:o.guard=some (j,b))(hj:(ops[j]?).bind (·.dst)=some d)(hb:lk E d=some (.bool b)):Region.wanted o (yielded ops a.tmps)=true:=by
 simp [Region.wanted,hg,S8 hE hj hb]
theorem ai7{o:Oper}{a:Act}(hE:Env n a E){j d:Nat}{b:Bool}(hg:o.guard=some (j,!b))(hj:(ops[j]?).bind (·.dst)=some d)(hb:lk E d=some (.bool b)):Region.wanted o (yielded ops a.tmps)=false:=by
 cases b<;>simp [Region.wanted,hg,S8 hE hj hb]
variable {o:Oper}{rest:List Oper}{v:Value}{d:Nat}
theorem WL.vv(hg:o.guard=none)(hd:o.dst=some d)(hr:fk n P E o w v w')(fP:d<n)(h:WL n P ops Q rest ((d,v)::E) w'):WL n P ops Q (o::rest) E w:=fun a hE =>
 wpList_plain hg fun K hK=>by unfold Oper.wp;rw [hr a hE,Oper.upon_value,hd];exact hK _ _ (h _ (hE.put fP v))
theorem WL.s(hg:o.guard=none)(hd:o.dst=none)(hr:zF n P E o w w')(h:WL n P ops Q rest E w'):WL n P ops Q (o::rest) E w:=fun a hE =>
 wpList_plain hg fun K hK=>by unfold Oper.wp;rw [hr a hE,Oper.upon_skip,hd];exact hK _ _ (h _ hE)
theorem WL.vg{j e:Nat}{b:Bool}(hg:o.guard=some (j,b))(hj:(ops[j]?).bind (·.dst)=some e)(hb:lk E e=some (.bool b))(hd:o.dst=some d)(hr:fk n P E o w v w')(fP:d<n)(h:WL n P ops Q rest ((d,v)::E) w'):WL n P ops Q (o::rest) E w:=fun a hE =>
 wpList_step fun K hK=>by rw [if_pos (S6 hE hg hj hb)];unfold Oper.wp;rw [hr a hE,Oper.upon_value,hd];exact hK _ _ (h _ (hE.put fP v))
theorem WL.no{j e:Nat}{b:Bool}(hg:o.guard=some (j,!b))(hj:(ops[j]?).bind (·.dst)=some e)(hb:lk E e=some (.bool b))(hd:o.dst=some d)(fP:d<n)(h:WL n P ops Q rest ((d,undef)::E) w):WL n P ops Q (o::rest) E w:=fun a hE =>
 wpList_step fun K hK=>by rw [if_neg (by rw [ai7 hE hg hj hb];simp),hd];exact hK _ _ (h _ (hE.put fP undef))
def xn(n:Nat)(P:Program)(E:List (Nat×Value))(o:Oper)(w:World)(f:FuncId)(args:Array Value):Prop:= ∀a,Env n a E->(execOp a.eval o).run P w= .ok (.enter f args) w
theorem WL.c{f:FuncId}{args:Array Value}{R:Ending->World->Prop}(hg:o.guard=none)(hd:o.dst=some d)(hr:xn n P E o w f args)(fP:d<n)(hC:Calls P f args w R)
  (h: ∀e w',R e w'-> ∃v,e= .returned v/\WL n P ops Q rest ((d,v)::E) w'):WL n P ops Q (o::rest) E w:=fun a hE =>
 wpList_plain hg fun K hK=>by
  unfold Oper.wp
  rw [hr a hE]
  refine hC.mono fun e w' he=> ?_
  obtain ⟨v,rfl,hv⟩:=h e w' he
  rw [hd]
  exact hK _ _ (hv _ (hE.put fP v))
theorem WL.cg{f:FuncId}{args:Array Value}{R:Ending->World->Prop}{j e:Nat}{b:Bool}(hg:o.guard=some (j,b))(hj:(ops[j]?).bind (·.dst)=some e)(hb:lk E e=some (.bool b))(hd:o.dst=some d)(hr:xn n P E o w f args)(fP:d<n)(hC:Calls P f args w R)
  (h: ∀e w',R e w'-> ∃v,e= .returned v/\WL n P ops Q rest ((d,v)::E) w'):WL n P ops Q (o::rest) E w:=fun a hE =>
 wpList_step fun K hK=>by
  rw [if_pos (S6 hE hg hj hb)]
  unfold Oper.wp
  rw [hr a hE]
  refine hC.mono fun e w' he=> ?_
  obtain ⟨v,rfl,hv⟩:=h e w' he
  rw [hd]
  exact hK _ _ (hv _ (hE.put fP v))
theorem aU{x:Operand}(ho:o.op= .move x)(hx:ev E x=some v):fk n P E o w v w:=fun a hE=>by simp [execOp,ho,hE.ev hx]
theorem cq{x:Operand}(ho:o.op= .assign x)(hx:ev E x=some v):fk n P E o w v w:=fun a hE=>by simp [execOp,ho,hE.ev hx]
theorem pL{x:Operand}{ad:Addr}(ho:o.op= .nilCheck x)(hx:ev E x=some (.pointer (some ad))):fk n P E o w (.pointer (some ad)) w:=fun a hE=>by simp [execOp,ho,hE.ev hx]
def uO:TypeDesc->Bool
 | .struct _| .array _ _=>true
 | _=>false
theorem Zv{T:TypeId}{ds:TypeDesc}(h:P.underlying T=some ds)(hd:uO ds=false):(isAgg T).run P w= .ok false w:=by
 cases ds<;>simp [uO] at hd<;>simp [isAgg,run_underlying h]
theorem cr{T:TypeId}{ds:TypeDesc}{x:Operand}{ad:Addr}(ho:o.op= .load T x)(hx:ev E x=some (.pointer (some ad)))(hT:P.underlying T=some ds)(hd:uO ds=false)(hc:w.cell? ad=some v):fk n P E o w v w:=fun a hE=>by
 simp [execOp,ho,hE.ev hx,Instr.loadAt,Instr.sureAddr,loadVar,Zv hT hd,hc]
theorem bz{T:TypeId}{ds:TypeDesc}{x:Operand}{b:Nat}{t:TypeId}{cs:Array Value}(ho:o.op= .load T x)(hx:ev E x=some (.pointer (some ⟨b,0,none⟩)))(hT:P.underlying T=some ds)(hd:(match ds with| .struct _| .array _ _=>true|_=>false)=true)
  (hb:aJ w b t cs) (hi:(P.info? T).map (·.size)=some cs.size):fk n P E o w (.agg cs) w:=fun a hE=>by
 simp [execOp,ho,hE.ev hx,Instr.loadAt,Instr.sureAddr,run_loadVar_row w b t T cs (0,0) ds hb hT hd hi]
def kO(P:Program)(T:TypeId)(f:Nat):Option Nat:=match P.underlying T with
 | some (.struct fs)=>match fs[f]? with
  | some fl=>match P.info? fl.type with
   | some i=>bif Nat.beq i.size 0 then none else some fl.offset
   | none=>none
  | none=>none
 | _=>none
theorem cO{T:TypeId}{x:Operand}{f k b c:Nat}(ho:o.op= .fieldAddr T x f)(hx:ev E x=some (.pointer (some ⟨b,c,none⟩)))(hf:kO P T f=some k):fk n P E o w (.pointer (some ⟨b,c+k,none⟩)) w:=fun a hE=>by
 unfold kO at hf
 split at hf
 ·rename_i fs hu
  split at hf
  ·rename_i fl hfl
   split at hf
   ·rename_i i hi
    cases hz:Nat.beq i.size 0 with
    | true=>rw [hz] at hf;simp at hf
    | false =>
     rw [hz] at hf;simp at hf;subst hf
     have hne: ¬i.size=0:=fun e=>by rw [e] at hz;simp at hz
     have hs:(sizeOf fl.type).run P w= .ok i.size w:=run_sizeOf hi
     simp [execOp,ho,hE.ev hx,Instr.fieldAt,run_underlying hu,hfl,Instr.sureAddr,fieldPlace,hs,hne,addr_add]
   ·simp at hf
  ·simp at hf
 ·simp at hf
def CO(P:Program)(T:TypeId):Option Nat:=match P.underlying T with
 | some (.slice e)=>(P.info? e).map (·.size)
 | _=>none
theorem oK{T:TypeId}{x i:Operand}{m b c len cap:Nat}{k:IntKind}{j:Int}(ho:o.op= .indexAddr T x i)(hx:ev E x=some (.slice (some ⟨b,c,none⟩) len cap))(hi:ev E i=some (.int k j))(h0:0<=j)(h1:j<len)(hT:CO P T=some m) :
  fk n P E o w (.pointer (some ⟨b,c+j.toNat*m,none⟩)) w:=fun a hE=>by
 unfold CO at hT
 split at hT
 ·rename_i e hu
  simp only [Option.map_eq_some_iff] at hT
  obtain ⟨inf,mL,rfl⟩:=hT
  simp [execOp,ho,hE.ev hx,hE.ev hi,Instr.indexAt,asIntOf,run_underlying hu,run_sizeOf mL,h0,h1,addr_add]
 ·simp at hT
theorem rX{T U:TypeId}{x y:Operand}{s t:ByteArray}(ho:o.op= .binOp .eql T x y U)(hx:ev E x=some (.string s))(hy:ev E y=some (.string t)):fk n P E o w (.bool (fM .eql s t)) w:=fun a hE=>by
 simp [execOp,ho,hE.ev hx,hE.ev hy,eqGuard,binOp,Op.stringOp,fM]
theorem Pm{op:BinOp}{T U:TypeId}{x y:Operand}{k:IntKind}{p q:Int}(ho:o.op= .binOp op T x y U)(hop:yO op=true)(hx:ev E x=some (.int k p))(hy:ev E y=some (.int k q)):fk n P E o w (.int k (cv op k p q)) w:=fun a hE=>by
 cases op<;>simp [yO] at hop<;>simp [execOp,ho,hE.ev hx,hE.ev hy,eqGuard,binOp,Op.intArith,Op.intBits,cv]
theorem ab0{op:BinOp}{T U:TypeId}{x y:Operand}{k:IntKind}{p q:Int}(ho:o.op= .binOp op T x y U)(hop:vT op=true)(hx:ev E x=some (.int k p))(hy:ev E y=some (.int k q)):fk n P E o w (.bool (aS op p q)) w:=fun a hE=>by
 cases op<;>simp [vT] at hop<;>simp [execOp,ho,hE.ev hx,hE.ev hy,eqGuard,binOp,Op.intCmp,aS]
theorem wu{T:TypeId}{x:Operand}{b:Bool}(ho:o.op= .unOp .not T x)(hx:ev E x=some (.bool b)):fk n P E o w (.bool (!b)) w:=fun a hE=>by
 simp [execOp,ho,hE.ev hx,Op.unary]
theorem wz{c x y:Operand}(ho:o.op= .pick c x y)(hc:ev E c=some (.bool true))(hx:ev E x=some v):fk n P E o w v w:=fun a hE=>by
 simp [execOp,ho,hE.ev hc,hE.ev hx,asBool]
theorem pM{c x y:Operand}(ho:o.op= .pick c x y)(hc:ev E c=some (.bool false))(hy:ev E y=some v):fk n P E o w v w:=fun a hE=>by
 simp [execOp,ho,hE.ev hc,hE.ev hy,asBool]
theorem jH{T:TypeId}{x:Operand}(ho:o.op= .box T x)(hx:ev E x=some v):fk n P E o w (.pointer (some ⟨w.heap.size,0,none⟩)) (w.alloc (.cells v.cells T)):=fun a hE=>by
 simp [execOp,ho,hE.ev hx,Instr.box,newVar,newRow]
theorem cJ{T:TypeId}{z:Value}(ho:o.op= .alloc T)(hz:(P.info? T).bind (·.zero)=some z):fk n P E o w (.pointer (some ⟨w.heap.size,0,none⟩)) (w.alloc (.cells z.cells T)):=fun a hE=>by
 simp only [Option.bind_eq_some_iff] at hz
 obtain ⟨i,hi,hz⟩:=hz
 simp [execOp,ho,Instr.alloc,zeroValue,run_typeInfo hi,hz,newVar,newRow]
theorem bT{cl:Go.Call}{f:FuncId}{args:Array Value}(hf:iy P f=true)(ho:o.op= .call cl)(hcl:cl.callee= .value (.func f))(ha:cl.args.toList.map (ev E)=args.toList.map some):xn n P E o w f args:=fun a hE=>by
 rw [wG hf ho hcl]
 have:cl.args.map a.eval=args:=by
  rw [<-Array.toList_inj,Array.toList_map]
  have key: ∀(l:List Operand) (m:List Value),l.map (ev E)=m.map some->l.map a.eval=m:=by
   intro l
   induction l with
   | nil=>intro m h;cases m<;>simp_all
   | cons x r ih =>
    intro m h
    cases m with
    | nil=>simp at h
    | cons y q =>
     simp only [List.map_cons,List.cons.injEq] at h ⊢
     exact ⟨hE.ev h.1,ih q h.2⟩
  exact key _ _ ha
 rw [this]
theorem BA{cl:Go.Call}{t:Nat}{f:FuncId}{args ps:Array Value}(hf:iy P f=true)(ho:o.op= .call cl)(hcl:cl.callee= .value (.tmp t))(ht:lk E t=some (.func (.func f) #[] ps))(ha:cl.args.toList.map (ev E)=args.toList.map some):xn n P E o w f (args++ps):=fun a hE=>by
 rw [acI hf ho hcl (hE.at' t _ ht)]
 have:cl.args.map a.eval=args:=by
  rw [<-Array.toList_inj,Array.toList_map]
  have key: ∀(l:List Operand) (m:List Value),l.map (ev E)=m.map some->l.map a.eval=m:=by
   intro l
   induction l with
   | nil=>intro m h;cases m<;>simp_all
   | cons x r ih =>
    intro m h
    cases m with
    | nil=>simp at h
    | cons y q =>
     simp only [List.map_cons,List.cons.injEq] at h ⊢
     exact ⟨hE.ev h.1,ih q h.2⟩
  exact key _ _ ha
 rw [this]
theorem ab3{f:FuncId}{fW:Array Operand}{ps:Array Value}(ho:o.op= .makeFunc (.func f) #[] fW)(ha:fW.toList.map (ev E)=ps.toList.map some):fk n P E o w (.func (.func f) #[] ps) w:=fun a hE=>by
 have:fW.map a.eval=ps:=by
  rw [<-Array.toList_inj,Array.toList_map]
  have key: ∀(l:List Operand) (m:List Value),l.map (ev E)=m.map some->l.map a.eval=m:=by
   intro l
   induction l with
   | nil=>intro m h;cases m<;>simp_all
   | cons x r ih =>
    intro m h
    cases m with
    | nil=>simp at h
    | cons y q =>
     simp only [List.map_cons,List.cons.injEq] at h ⊢
     exact ⟨hE.ev h.1,ih q h.2⟩
  exact key _ _ ha
 simp [execOp,ho,this,Instr.makeFunc]
theorem Pn{cl:Go.Call}{x:Operand}{a0:Option Addr}{len cap:Nat}(ho:o.op= .call cl)(hcl:cl.callee= .builtin .len){T e:TypeId}(ha:cl.args= #[x])(hat:cl.argTypes= #[T])(hT:P.underlying T=some (.slice e))(hx:ev E x=some (.slice a0 len cap)):fk n P E o w (.int .i64 len) w:=fun a hE=>by
 simp [execOp,ho,resolve,hcl,ha,hat,invoke,builtin,Builtin.len_,hE.ev hx,run_underlying hT,goInt]
theorem ab2{cl:Go.Call}{x y:Operand}{k:IntKind}{p q:Int}(ho:o.op= .call cl)(hcl:cl.callee= .builtin .min)(ha:cl.args= #[x,y])(hx:ev E x=some (.int k p))(hy:ev E y=some (.int k q)):fk n P E o w (.int k (min p q)) w:=fun a hE=>by
 have e:(if q<p then q else p)=min p q:=by split<;>omega
 simp [execOp,ho,resolve,hcl,ha,invoke,builtin,Builtin.min_,Builtin.min2,hE.ev hx,hE.ev hy,e]
theorem ze{T:TypeId}{x y:Operand}{ad:Addr}{u:Value}(ho:o.op= .store T x y)(hx:ev E x=some (.pointer (some ad)))(hy:ev E y=some v)(hsz:(P.info? T).map (·.size)=some 1)(hone:v.oneCell'=true)(hc:w.cell? ad=some u)(hf:w.frozen? ad=false):zF n P E o w (w.setCell ad v):=fun a hE=>by
 simp only [Option.map_eq_some_iff] at hsz
 obtain ⟨i,hi,hs⟩:=hsz
 have hcs:v.cells= #[v]:=by cases v<;>simp [Value.oneCell'] at hone<;>rfl
 have h1:(storeVar T ad v).run P w= .ok () (w.setCell ad v):=by
  simp [storeVar,run_sizeOf hi,hs,hcs,storeCells,Addr.add,adO hc hf hone]
 simp [execOp,ho,hE.ev hx,hE.ev hy,Instr.storeAt,Instr.sureAddr,h1]
theorem Pp{T:TypeId}{x y:Operand}{b:Nat}{t:TypeId}{C cs:Array Value}(ho:o.op= .store T x y)(hx:ev E x=some (.pointer (some ⟨b,0,none⟩)))(hy:ev E y=some (.agg cs))(hsz:(P.info? T).map (·.size)=some cs.size)(hone: ∀u∈cs.toList,u.oneCell'=true)(hC:C.size=cs.size)(hb:aJ w b t C) :
  ∃w',zF n P E o w w'/\aJ w' b t cs/\gx w w' b:=by
 simp only [Option.map_eq_some_iff] at hsz
 obtain ⟨i,hi,hs⟩:=hsz
 obtain ⟨w',h1,h2,h3⟩:=zi (P:=P) b t cs.toList w C 0 0 hb hone (by simp;omega)
 refine ⟨w',fun a hE=> ?_,?_,h3⟩
 ·have h4:(storeVar T ⟨b,0,none⟩ (.agg cs)).run P w= .ok () w':=by
   simp only [storeVar,Value.cells,Sem.run_bind,run_sizeOf hi,Result.andThen_ok,hs]
   simp [h1]
  simp [execOp,ho,hE.ev hx,hE.ev hy,Instr.storeAt,Instr.sureAddr,h4]
 ·have e:fH C (0+0) cs.toList=cs:=by
   rw [<-Array.toList_inj,wH]
   have key: ∀(l C:List Value) (k:Nat),C.length=k+l.length->iQ C k l=C.take k++l:=by
    intro l
    induction l with
    | nil=>intro C k h;simp [iQ];exact (List.take_of_length_le (by simp at h;omega)).symm
    | cons x r ih =>
     intro C k h
     simp only [iQ,List.length_cons] at h ⊢
     rw [ih _ _ (by simp;omega)]
     have hk:k<C.length:=by omega
     rw [List.take_add_one]
     simp [List.getElem?_set,hk,List.take_set_of_le]
   rw [key _ _ _ (by simp [hC])]
   simp
  rw [e] at h2
  exact h2
theorem ab1{T U:TypeId}{x y:Operand}{s t:ByteArray}{b:Bool}(ho:o.op= .binOp .eql T x y U)(hx:ev E x=some (.string s))(hy:ev E y=some (.string t))(hb:fM .eql s t=b):fk n P E o w (.bool b) w:=hb▸rX ho hx hy
theorem gr{op:BinOp}{T U:TypeId}{x y:Operand}{k:IntKind}{p q:Int}{b:Bool}(ho:o.op= .binOp op T x y U)(hop:vT op=true)(hx:ev E x=some (.int k p))(hy:ev E y=some (.int k q))(hb:aS op p q=b):fk n P E o w (.bool b) w:=hb▸ab0 ho hop hx hy
theorem iE{op:BinOp}{T U:TypeId}{x y:Operand}{k:IntKind}{p q r:Int}(ho:o.op= .binOp op T x y U)(hop:yO op=true)(hx:ev E x=some (.int k p))(hy:ev E y=some (.int k q))(hb:cv op k p q=r):fk n P E o w (.int k r) w:=hb▸Pm ho hop hx hy
theorem WL.st{T:TypeId}{x y:Operand}{b:Nat}{t:TypeId}{C cs:Array Value}(hg:o.guard=none)(hd:o.dst=none)(ho:o.op= .store T x y)(hx:ev E x=some (.pointer (some ⟨b,0,none⟩)))(hy:ev E y=some (.agg cs))(hb:aJ w b t C)(hC:C.size=cs.size)(hone: ∀u∈cs.toList,u.oneCell'=true)(hsz:(P.info? T).map (·.size)=some cs.size)
  (h: ∀w',aJ w' b t cs->gx w w' b->WL n P ops Q rest E w'):WL n P ops Q (o::rest) E w:=by
 obtain ⟨w',h1,h2,h3⟩:=Pp (n:=n) (P:=P) (E:=E) ho hx hy hsz hone hC hb
 exact WL.s hg hd h1 (h w' h2 h3)
theorem qa{o:Obj}{w1:World}(h:gx (w.alloc o) w1 w.heap.size):Below w.heap.size w w1:=by
 refine ⟨h.os,h.tape,h.output,by rw [h.size,World.size_alloc];omega,fun i hi=> ?_⟩
 rw [h.block i (by omega)]
 exact Below.heap_alloc w o i hi
def placesOf(P:Program):List Field->Option (List (Nat×Nat))
 | []=>some []
 | f::r=>match P.info? f.type,placesOf P r with
  | some i,some q=>some ((f.offset,i.size)::q)
  | _,_=>none
theorem Pf: ∀{fl:List Field} {pl:List (Nat×Nat)},placesOf P fl=some pl->(fl.mapM (m:=Sem) fun f=>do pure (f.offset, <-sizeOf f.type)).run P w= .ok pl w
 | [],pl,h=>by simp [placesOf] at h;subst h;simp
 | f::r,pl,h=>by
  unfold placesOf at h
  split at h
  ·rename_i i q h1 h2
   simp only [Option.some.injEq] at h;subst h
   rw [List.mapM_cons]
   simp only [Sem.run_bind,Sem.run_pure,run_sizeOf h1,Result.andThen_ok,Pf h2]
  ·simp at h
def uU(P:Program)(T:TypeId)(parts:List (Nat×Value)):Option (Array Value):=match (P.info? T).bind (·.zero),P.underlying T with
 | some z,some (.struct fields)=>match placesOf P fields.toList with
  | some pl=>Instr.fill (fun x=>pl[x]?) z.cells parts
  | none=>none
 | _,_=>none
theorem jn{T:TypeId}{parts:Array (Nat×Operand)}{vs:List (Nat×Value)}{cs:Array Value}(ho:o.op= .build T parts)(ha:parts.toList.map (fun p=>(p.1,ev E p.2))=vs.map (fun p=>(p.1,some p.2)))(hb:uU P T vs=some cs):fk n P E o w (.agg cs) w:=fun a hE=>by
 have hp:(parts.map fun (x:Nat×Operand)=>(x.1,a.eval x.2)).toList=vs:=by
  rw [Array.toList_map]
  have key: ∀(l:List (Nat×Operand)) (m:List (Nat×Value)),l.map (fun p=>(p.1,ev E p.2))=m.map (fun p=>(p.1,some p.2))->l.map (fun p=>(p.1,a.eval p.2))=m:=by
   intro l
   induction l with
   | nil=>intro m h;cases m<;>simp_all
   | cons x r ih =>
    intro m h
    cases m with
    | nil=>simp at h
    | cons y q =>
     simp only [List.map_cons,List.cons.injEq,Prod.mk.injEq] at h ⊢
     refine ⟨?_,ih q h.2⟩
     rw [hE.ev h.1.2,h.1.1]
  exact key _ _ ha
 unfold uU at hb
 split at hb
 ·rename_i z fields hz hu
  split at hb
  ·rename_i pl hpl
   simp only [Option.bind_eq_some_iff] at hz
   obtain ⟨i,hi,hz⟩:=hz
   have hm:(fields.mapM (m:=Sem) fun f=>do pure (f.offset, <-sizeOf f.type)).run P w= .ok pl.toArray w:=by
    rw [Array.mapM_eq_mapM_toList,Sem.run_map,Pf hpl];rfl
   simp only [execOp,ho,Instr.build,Sem.run_bind,zeroValue,run_typeInfo hi,hz,Result.andThen_ok,Sem.run_pure,run_underlying hu,hm]
   rw [hp]
   simp [hb]
  ·simp at hb
 ·simp at hb
def WS(n:Nat)(P:Program)(ops:Array Oper)(w:World)(K:Act->Prop)(l:List Oper)(E:List (Nat×Value)):Prop:= ∀a,Env n a E->wpStill P ops w K l a
theorem CW.still{id:Nat}{l:List Oper}(hm:P.follows .mixedOrders=true)(hB:Region.lexB .any l.toArray=true)
  (h: ∀wd:World,wd.heap=w.heap->Below w.heap.size w wd->WS n P l.toArray wd (fun a'=>Q .normal a' wd) l E):CW n P (.region id l.toArray true) Q E w:=fun a hE =>
 wp_region_still_lit hm hB (h {w with drawn:=w.drawn+1} rfl ⟨rfl,rfl,rfl,Nat.le_refl _,fun _ _=>rfl⟩ a hE)
theorem WS.fin{wd:World}(h:NX n (Q .normal) E wd):WS n P ops wd (fun a'=>Q .normal a' wd) [] E:=fun a hE=>wpStill_nil (h a hE)
theorem WS.vv{K:Act->Prop}{o:Oper}{rest:List Oper}{d:Nat}{v:Value}(hg:o.guard=none)(hd:o.dst=some d)(hr:fk n P E o w v w)(fP:d<n)(h:WS n P ops w K rest ((d,v)::E)):WS n P ops w K (o::rest) E:=fun a hE =>
 wpStill_step fun K' hK=>by rw [if_pos (wR hg _)];unfold Oper.still;rw [hr a hE,Oper.stillUpon_value,hd];exact hK _ (h _ (hE.put fP v))
theorem qc{f:FuncId}{fn:Func}{c:Code}{args:Array Value}{R:Ending->World->Prop}{E:List (Nat×Value)}{n:Nat}(hf:P.funcs[f]? =some fn)(hb:fn.body=some c)(hnn:fn.ntmps=n)(hn:args.size<=n)(hE: ∀p∈E,args[p.1]? =some p.2)
  (h:CW n P c (bodyPost P fn R) E w):Calls P f args w R:=by
 subst hnn
 refine calls_of_wp hf hb (h _ (Env.of ?_ rfl fun p hp=> ?_))
 ·simp;omega
 ·have:=hE p hp
  have hlt:=(Array.getElem?_eq_some_iff.1 this).1
  simp only [Array.getD_eq_getD_getElem?]
  rw [Array.getElem?_append_left hlt,this];rfl
section
variable {l0 f0 m1 m2 t0 t1 t2 t3 t4 t5 t6 t7 t8 t9 t10:Nat}{T S U A B:TypeId}{dA dB:TypeDesc}{o0 o1 o2 o3 o4 o5 o6 o7 o8 o9 Bq:Oper}{x2:Nat}{ad ad2:Addr}{b c b' c' k k':Nat}{s u s1 u1:ByteArray}
theorem Eg{xl xc:Operand}{TS TC A1 A2 A3 A4:TypeId}{fS fC:Nat}
  (h0:o0.op= .move xl) (g0:o0.guard=none) (d0:o0.dst=some t0)
  (h1:o1.op= .nilCheck (.tmp t0)) (g1:o1.guard=none) (d1:o1.dst=some t1)
  (h2:o2.op= .fieldAddr TS (.tmp t1) fS) (g2:o2.guard=none) (d2:o2.dst=some t2)
  (h3:o3.op= .load A1 (.tmp t2)) (g3:o3.guard=none) (d3:o3.dst=some t3)
  (h4:o4.op= .binOp .eql A2 (.tmp t3) (.const (.string u)) A3) (g4:o4.guard=none) (d4:o4.dst=some t4)
  (h5:o5.op= .move (.tmp t4)) (g5:o5.guard=none) (d5:o5.dst=some t5)
  (h6:o6.op= .fieldAddr TC xc fC) (g6:o6.guard=some (5,true)) (d6:o6.dst=some t6)
  (h7:o7.op= .load A1 (.tmp t6)) (g7:o7.guard=some (5,true)) (d7:o7.dst=some t7)
  (h8:o8.op= .binOp .eql A2 (.tmp t7) (.const (.string u1)) A4) (g8:o8.guard=some (5,true)) (d8:o8.dst=some t8)
  (h9:o9.op= .pick (.tmp t5) (.tmp t8) (.const (.bool false))) (g9:o9.guard=none) (d9:o9.dst=some t9)
  (h10:Bq.op= .assign (.tmp t9)) (g10:Bq.guard=none) (d10:Bq.dst=some t10)
  (hn:t0<n/\t1<n/\t2<n/\t3<n/\t4<n/\t5<n/\t6<n/\t7<n/\t8<n/\t9<n/\t10<n)
  (Bb: ∀z0 z1 z2 z3 z4 z5,ev ((t5,z5)::(t4,z4)::(t3,z3)::(t2,z2)::(t1,z1)::(t0,z0)::E) xc=some (.pointer (some ⟨b',c',none⟩)))
  (dE:t1≠t0/\t5≠t8/\t5≠t7/\t5≠t6)
  (hxl:ev E xl=some (.pointer (some ⟨b,c,none⟩))) (Gq:kO P TS fS=some k) (hA:P.underlying A1=some dA) (qX:uO dA=false) (hc1:w.cell? ⟨b,c+k,none⟩=some (.string s))
  (yw:kO P TC fC=some k') (hc2:w.cell? ⟨b',c'+k',none⟩=some (.string s1))
  (h: ∀E',(∀t,t∉[t0,t1,t2,t3,t4,t5,t6,t7,t8,t9,t10]->lk E' t=lk E t)->lk E' t10=some (.bool (fM .eql s u&&fM .eql s1 u1))->NX n (Q .normal) E' w) :
  WL n P #[o0,o1,o2,o3,o4,o5,o6,o7,o8,o9,Bq] Q [o0,o1,o2,o3,o4,o5,o6,o7,o8,o9,Bq] E w:=by
 obtain ⟨n0,n1,n2,n3,n4,n5,n6,n7,n8,n9,OD⟩:=hn
 have bE: ∀t v (F:List (Nat×Value)),lk ((t,v)::F) t=some v:=fun t v F=>by simp [lk]
 have dc: ∀{t t' v} {F:List (Nat×Value)},t≠t'->lk ((t',v)::F) t=lk F t:=fun {t t' v F} hne=>by
  simp only [lk]
  cases hb:Nat.beq t' t with
  | false=>rfl
  | true=>exact absurd (Nat.eq_of_beq_eq_true hb).symm hne
 refine WL.vv g0 d0 (aU h0 hxl) n0 ?_
 refine WL.vv g1 d1 (pL h1 (bE _ _ _)) n1 ?_
 refine WL.vv g2 d2 (cO h2 (bE _ _ _) Gq) n2 ?_
 refine WL.vv g3 d3 (cr h3 (bE _ _ _) hA qX hc1) n3 ?_
 refine WL.vv g4 d4 (rX h4 (bE _ _ _) rfl) n4 ?_
 refine WL.vv g5 d5 (aU h5 (bE _ _ _)) n5 ?_
 have fin: ∀(vs:List (Nat×Value)) (t:Nat),t∉[t0,t1,t2,t3,t4,t5,t6,t7,t8,t9,t10]->(∀p∈vs,p.1∈[t0,t1,t2,t3,t4,t5,t6,t7,t8,t9,t10])->lk (vs++E) t=lk E t:=by
  intro vs t ht
  induction vs with
  | nil=>intro _;rfl
  | cons p r ih =>
   intro hp
   obtain ⟨pt,pv⟩:=p
   have h1:pt∈[t0,t1,t2,t3,t4,t5,t6,t7,t8,t9,t10]:=hp (pt,pv) (by simp)
   rw [List.cons_append,dc (fun e=>ht (by rw [e];exact h1))]
   exact ih fun q hq=>hp q (by simp [hq])
 cases hb:fM .eql s u with
 | false =>
  refine WL.no (b:=false) g6 (by simpa using d5) (by rw [bE]) d6 n6 ?_
  refine WL.no (b:=false) g7 (by simpa using d5) (by rw [dc dE.2.2.2,bE]) d7 n7 ?_
  refine WL.no (b:=false) g8 (by simpa using d5) (by rw [dc dE.2.2.1,dc dE.2.2.2,bE]) d8 n8 ?_
  refine WL.vv g9 d9 (pM h9 (by show lk _ _=_;rw [dc dE.2.1,dc dE.2.2.1,dc dE.2.2.2,bE]) rfl) n9 ?_
  refine WL.vv g10 d10 (cq h10 (bE _ _ _)) OD (WL.nil (h _ (fun t ht=> ?_) (by rw [bE,hb];rfl)))
  exact fin [_,_,_,_,_,_,_,_,_,_,_] t ht (by simp)
 | true =>
  refine WL.vg (b:=true) g6 (by simpa using d5) (by rw [bE]) d6 (cO h6 (Bb _ _ _ _ _ _) yw) n6 ?_
  refine WL.vg (b:=true) g7 (by simpa using d5) (by rw [dc dE.2.2.2,bE]) d7 (cr h7 (bE _ _ _) hA qX hc2) n7 ?_
  refine WL.vg (b:=true) g8 (by simpa using d5) (by rw [dc dE.2.2.1,dc dE.2.2.2,bE]) d8 (rX h8 (bE _ _ _) rfl) n8 ?_
  refine WL.vv g9 d9 (wz h9 (by show lk _ _=_;rw [dc dE.2.1,dc dE.2.2.1,dc dE.2.2.2,bE]) (bE _ _ _)) n9 ?_
  refine WL.vv g10 d10 (cq h10 (bE _ _ _)) OD (WL.nil (h _ (fun t ht=> ?_) (by rw [bE,hb,Bool.true_and])))
  exact fin [_,_,_,_,_,_,_,_,_,_,_] t ht (by simp)
theorem QD{xl xb:Operand}{bk:Bool}{TS A1 A2 A3:TypeId}{fS:Nat}
  (h0:o0.op= .move xl) (g0:o0.guard=none) (d0:o0.dst=some t0)
  (h1:o1.op= .nilCheck (.tmp t0)) (g1:o1.guard=none) (d1:o1.dst=some t1)
  (h2:o2.op= .fieldAddr TS (.tmp t1) fS) (g2:o2.guard=none) (d2:o2.dst=some t2)
  (h3:o3.op= .load A1 (.tmp t2)) (g3:o3.guard=none) (d3:o3.dst=some t3)
  (h4:o4.op= .binOp .eql A2 (.tmp t3) (.const (.string u)) A3) (g4:o4.guard=none) (d4:o4.dst=some t4)
  (h5:o5.op= .move (.tmp t4)) (g5:o5.guard=none) (d5:o5.dst=some t5)
  (h6:o6.op= .move xb) (g6:o6.guard=some (5,true)) (d6:o6.dst=some t6)
  (h7:o7.op= .pick (.tmp t5) (.tmp t6) (.const (.bool false))) (g7:o7.guard=none) (d7:o7.dst=some t7)
  (h8:o8.op= .assign (.tmp t7)) (g8:o8.guard=none) (d8:o8.dst=some t8)
  (hn:t0<n/\t1<n/\t2<n/\t3<n/\t4<n/\t5<n/\t6<n/\t7<n/\t8<n)
  (hxb: ∀z0 z1 z2 z3 z4 z5,ev ((t5,z5)::(t4,z4)::(t3,z3)::(t2,z2)::(t1,z1)::(t0,z0)::E) xb=some (.bool bk))
  (dE:t5≠t6)
  (hxl:ev E xl=some (.pointer (some ⟨b,c,none⟩))) (Gq:kO P TS fS=some k) (hA:P.underlying A1=some dA) (qX:uO dA=false) (hc1:w.cell? ⟨b,c+k,none⟩=some (.string s))
  (h: ∀E',(∀t,t∉[t0,t1,t2,t3,t4,t5,t6,t7,t8]->lk E' t=lk E t)->lk E' t8=some (.bool (fM .eql s u&&bk))->NX n (Q .normal) E' w) :
  WL n P #[o0,o1,o2,o3,o4,o5,o6,o7,o8] Q [o0,o1,o2,o3,o4,o5,o6,o7,o8] E w:=by
 obtain ⟨n0,n1,n2,n3,n4,n5,n6,n7,n8⟩:=hn
 have bE: ∀t v (F:List (Nat×Value)),lk ((t,v)::F) t=some v:=fun t v F=>by simp [lk]
 have dc: ∀{t t' v} {F:List (Nat×Value)},t≠t'->lk ((t',v)::F) t=lk F t:=fun {t t' v F} hne=>by
  simp only [lk]
  cases hb:Nat.beq t' t with
  | false=>rfl
  | true=>exact absurd (Nat.eq_of_beq_eq_true hb).symm hne
 refine WL.vv g0 d0 (aU h0 hxl) n0 ?_
 refine WL.vv g1 d1 (pL h1 (bE _ _ _)) n1 ?_
 refine WL.vv g2 d2 (cO h2 (bE _ _ _) Gq) n2 ?_
 refine WL.vv g3 d3 (cr h3 (bE _ _ _) hA qX hc1) n3 ?_
 refine WL.vv g4 d4 (rX h4 (bE _ _ _) rfl) n4 ?_
 refine WL.vv g5 d5 (aU h5 (bE _ _ _)) n5 ?_
 have fin: ∀(vs:List (Nat×Value)) (t:Nat),t∉[t0,t1,t2,t3,t4,t5,t6,t7,t8]->(∀p∈vs,p.1∈[t0,t1,t2,t3,t4,t5,t6,t7,t8])->lk (vs++E) t=lk E t:=by
  intro vs t ht
  induction vs with
  | nil=>intro _;rfl
  | cons p r ih =>
   intro hp
   obtain ⟨pt,pv⟩:=p
   have h1:pt∈[t0,t1,t2,t3,t4,t5,t6,t7,t8]:=hp (pt,pv) (by simp)
   rw [List.cons_append,dc (fun e=>ht (by rw [e];exact h1))]
   exact ih fun q hq=>hp q (by simp [hq])
 cases hb:fM .eql s u with
 | false =>
  refine WL.no (b:=false) g6 (by simpa using d5) (by rw [bE]) d6 n6 ?_
  refine WL.vv g7 d7 (pM h7 (by show lk _ _=_;rw [dc dE,bE]) rfl) n7 ?_
  refine WL.vv g8 d8 (cq h8 (bE _ _ _)) n8 (WL.nil (h _ (fun t ht=> ?_) (by rw [bE,hb];rfl)))
  exact fin [_,_,_,_,_,_,_,_,_] t ht (by simp)
 | true =>
  refine WL.vg (b:=true) g6 (by simpa using d5) (by rw [bE]) d6 (aU h6 (hxb _ _ _ _ _ _)) n6 ?_
  refine WL.vv g7 d7 (wz h7 (by show lk _ _=_;rw [dc dE,bE]) (bE _ _ _)) n7 ?_
  refine WL.vv g8 d8 (cq h8 (bE _ _ _)) n8 (WL.nil (h _ (fun t ht=> ?_) (by rw [bE,hb,Bool.true_and])))
  exact fin [_,_,_,_,_,_,_,_,_] t ht (by simp)
theorem QE{xc:Operand}{TC A1 A2 A3 A4:TypeId}{fC:Nat}
  (h0:o0.op= .fieldAddr TC xc fC) (g0:o0.guard=none) (d0:o0.dst=some t0)
  (h1:o1.op= .load A1 (.tmp t0)) (g1:o1.guard=none) (d1:o1.dst=some t1)
  (h2:o2.op= .binOp .eql A2 (.tmp t1) (.const (.string u)) A3) (g2:o2.guard=none) (d2:o2.dst=some t2)
  (h3:o3.op= .move (.tmp t2)) (g3:o3.guard=none) (d3:o3.dst=some t3)
  (h4:o4.op= .fieldAddr TC xc fC) (g4:o4.guard=some (3,false)) (d4:o4.dst=some t4)
  (h5:o5.op= .load A1 (.tmp t4)) (g5:o5.guard=some (3,false)) (d5:o5.dst=some t5)
  (h6:o6.op= .binOp .eql A2 (.tmp t5) (.const (.string u1)) A4) (g6:o6.guard=some (3,false)) (d6:o6.dst=some t6)
  (h7:o7.op= .pick (.tmp t3) (.const (.bool true)) (.tmp t6)) (g7:o7.guard=none) (d7:o7.dst=some t7)
  (h8:o8.op= .assign (.tmp t7)) (g8:o8.guard=none) (d8:o8.dst=some t8)
  (hn:t0<n/\t1<n/\t2<n/\t3<n/\t4<n/\t5<n/\t6<n/\t7<n/\t8<n)
  (Zj:ev E xc=some (.pointer (some ⟨b',c',none⟩)))
  (Bb: ∀z0 z1 z2 z3,ev ((t3,z3)::(t2,z2)::(t1,z1)::(t0,z0)::E) xc=some (.pointer (some ⟨b',c',none⟩)))
  (dE:t3≠t4/\t3≠t5/\t3≠t6)
  (hA:P.underlying A1=some dA) (qX:uO dA=false) (yw:kO P TC fC=some k') (hc2:w.cell? ⟨b',c'+k',none⟩=some (.string s1))
  (h: ∀E',(∀t,t∉[t0,t1,t2,t3,t4,t5,t6,t7,t8]->lk E' t=lk E t)->lk E' t8=some (.bool (fM .eql s1 u||fM .eql s1 u1))->NX n (Q .normal) E' w) :
  WL n P #[o0,o1,o2,o3,o4,o5,o6,o7,o8] Q [o0,o1,o2,o3,o4,o5,o6,o7,o8] E w:=by
 obtain ⟨n0,n1,n2,n3,n4,n5,n6,n7,n8⟩:=hn
 have bE: ∀t v (F:List (Nat×Value)),lk ((t,v)::F) t=some v:=fun t v F=>by simp [lk]
 have dc: ∀{t t' v} {F:List (Nat×Value)},t≠t'->lk ((t',v)::F) t=lk F t:=fun {t t' v F} hne=>by
  simp only [lk]
  cases hb:Nat.beq t' t with
  | false=>rfl
  | true=>exact absurd (Nat.eq_of_beq_eq_true hb).symm hne
 refine WL.vv g0 d0 (cO h0 Zj yw) n0 ?_
 refine WL.vv g1 d1 (cr h1 (bE _ _ _) hA qX hc2) n1 ?_
 refine WL.vv g2 d2 (rX h2 (bE _ _ _) rfl) n2 ?_
 refine WL.vv g3 d3 (aU h3 (bE _ _ _)) n3 ?_
 have fin: ∀(vs:List (Nat×Value)) (t:Nat),t∉[t0,t1,t2,t3,t4,t5,t6,t7,t8]->(∀p∈vs,p.1∈[t0,t1,t2,t3,t4,t5,t6,t7,t8])->lk (vs++E) t=lk E t:=by
  intro vs t ht
  induction vs with
  | nil=>intro _;rfl
  | cons p r ih =>
   intro hp
   obtain ⟨pt,pv⟩:=p
   have h1:pt∈[t0,t1,t2,t3,t4,t5,t6,t7,t8]:=hp (pt,pv) (by simp)
   rw [List.cons_append,dc (fun e=>ht (by rw [e];exact h1))]
   exact ih fun q hq=>hp q (by simp [hq])
 cases hb:fM .eql s1 u with
 | true =>
  refine WL.no (b:=true) g4 (by simpa using d3) (by rw [bE]) d4 n4 ?_
  refine WL.no (b:=true) g5 (by simpa using d3) (by rw [dc dE.1,bE]) d5 n5 ?_
  refine WL.no (b:=true) g6 (by simpa using d3) (by rw [dc dE.2.1,dc dE.1,bE]) d6 n6 ?_
  refine WL.vv g7 d7 (wz h7 (by show lk _ _=_;rw [dc dE.2.2,dc dE.2.1,dc dE.1,bE]) rfl) n7 ?_
  refine WL.vv g8 d8 (cq h8 (bE _ _ _)) n8 (WL.nil (h _ (fun t ht=> ?_) (by rw [bE,hb];rfl)))
  exact fin [_,_,_,_,_,_,_,_,_] t ht (by simp)
 | false =>
  refine WL.vg (b:=false) g4 (by simpa using d3) (by rw [bE]) d4 (cO h4 (Bb _ _ _ _) yw) n4 ?_
  refine WL.vg (b:=false) g5 (by simpa using d3) (by rw [dc dE.1,bE]) d5 (cr h5 (bE _ _ _) hA qX hc2) n5 ?_
  refine WL.vg (b:=false) g6 (by simpa using d3) (by rw [dc dE.2.1,dc dE.1,bE]) d6 (rX h6 (bE _ _ _) rfl) n6 ?_
  refine WL.vv g7 d7 (pM h7 (by show lk _ _=_;rw [dc dE.2.2,dc dE.2.1,dc dE.1,bE]) (bE _ _ _)) n7 ?_
  refine WL.vv g8 d8 (cq h8 (bE _ _ _)) n8 (WL.nil (h _ (fun t ht=> ?_) (by rw [bE,hb,Bool.false_or])))
  exact fin [_,_,_,_,_,_,_,_,_] t ht (by simp)
end
end
end
section
open Go.RowKit Go
variable [GC]
theorem PB.one{K:Nat->Prop}{w w':World}{g b:Nat}{S2:Value}{p:Part}(h:PB K w g S2 p)(ho:gx w w' b)(hk: ¬K b)(hn:NG<=b):PB K w' g S2 p:=by
  obtain ⟨S1,q1,q2,q3⟩:=h.bx
  refine ⟨⟨h.gi.1.keep fun i hi=>ho.block i (by omega),by rw [ho.size];exact h.gi.2⟩,fun i hi=>by rw [ho.size];exact h.kb i hi,h.kg,⟨S1,(ho.block g (fun e=>hk (e▸h.kg))).trans q1,?_,q3⟩,?_,h.ks,h.ct⟩
  · exact q2.keep (fun i hi=>ho.block i fun e=>hk (e▸(q2.out hi).1)) fun _ h=>h
  · exact h.ly.keep (fun i hi=>ho.block i fun e=>hk (e▸(h.ly.out hi).1)) fun _ h=>h
theorem dY.one{K:Nat->Prop}{a b c:World}{g:Nat}(h:dY K a b)(ho:gx b c g)(hg:K g\/a.heap.size<=g):dY K a c :=
  ⟨ho.os.trans h.os,ho.tape.trans h.tape,ho.output.trans h.output,by rw [ho.size];exact h.size,fun i hi hn=>(ho.block i (fun e=>by rcases hg with hg|hg;exact hn (e▸hg);omega)).trans (h.block i hi hn)⟩
theorem St.one{K K':Nat->Prop}{w wi wj:World}{g b:Nat}{S2:Value}{p:Part}(h:St K w g S2 K' p wi)(ho:gx wi wj b)(hk: ¬K' b)(hb:w.heap.size<=b):St K w g S2 K' p wj :=
  ⟨h.pb.one ho hk (Nat.le_trans h.nb hb),h.nb,fun i hi=>by rw [ho.size];exact h.sub i hi,h.fr.one ho (.inr hb)⟩
theorem Loc.one{w wi wj:World}{g k b:Nat}{x:Call}{K':Nat->Prop}(h:Loc w g k x K' wi)(ho:gx wi wj b)(hb:w.heap.size+4<=b):Loc w g k x K' wj :=
  {h with b0:=(ho.block _ (by omega)).trans h.b0,b1:=(ho.block _ (by omega)).trans h.b1,b2:=(ho.block _ (by omega)).trans h.b2,b3:=(ho.block _ (by omega)).trans h.b3}
theorem cX(r:da): ∀u∈(dV r).toList,u.oneCell'=true:=by
  intro u hu
  simp [dV] at hu
  rcases hu with rfl|rfl|rfl|rfl|rfl<;>rfl
def uy(w:World)(b o k:Nat)(x:Call):List (Nat×Value) :=
  [(3,.pointer (some ⟨w.heap.size,0,none⟩)),(4,.pointer (some ⟨w.heap.size+1,0,none⟩)),(5,.pointer (some ⟨w.heap.size+1+1,0,none⟩)),(6,.pointer (some ⟨w.heap.size+1+1+1,0,none⟩)),
   (7,.pointer (some ⟨b,o+k*2,none⟩)),(8,.func (.func 73) #[] #[.pointer (some ⟨w.heap.size,0,none⟩),.pointer (some ⟨w.heap.size+1,0,none⟩)]),(9,.bool (di x))]
theorem CZ:kO Tryz.prog 37 0=some 0:=by kernel_rfl
theorem oZ:kO Tryz.prog 37 1=some 5:=by kernel_rfl
theorem mA:kO Tryz.prog 43 0=some 0:=by kernel_rfl
theorem CY:kO Tryz.prog 43 2=some 2:=by kernel_rfl
theorem tJ:kO Tryz.prog 86 0=some 0:=by kernel_rfl
theorem ox:kO Tryz.prog 86 1=some 1:=by kernel_rfl
theorem xQ:kO Tryz.prog 39 0=some 0:=by kernel_rfl
theorem C0:kO Tryz.prog 39 1=some 1:=by kernel_rfl
theorem tB:CO Tryz.prog 35=some 2:=by kernel_rfl
theorem gK:(Tryz.prog.info? 39).bind (·.zero)=some (.agg aY):=by kernel_rfl
theorem bn:(Tryz.prog.info? 39).map (·.size)=some 5:=by kernel_rfl
theorem kA:(Tryz.prog.info? 43).map (·.size)=some 4:=by kernel_rfl
theorem yR:(Tryz.prog.info? 3).map (·.size)=some 1:=by kernel_rfl
theorem Cn(v:Int):uU Tryz.prog 39 [(1,.int .i64 v)]=some (dV (rep 0 v 0 0)):=by kernel_rfl
theorem xw(v:Int):uU Tryz.prog 39 [(0,.int .i64 v)]=some (dV (rep v 0 0 0)):=by kernel_rfl
theorem V7:iy Tryz.prog 72=true:=by kernel_rfl
theorem xx:iy Tryz.prog 41=true:=by kernel_rfl
theorem zS:iy Tryz.prog 73=true:=by kernel_rfl
theorem Kt:iy Tryz.prog 74=true:=by kernel_rfl
theorem CW.tail{n:Nat}{P:Program}{Q:Exit->Act->World->Prop}{E:List (Nat×Value)}{w:World}{id:Nat}{l:List Oper}(m:Nat)(hm:P.follows .mixedOrders=true)(hB:Region.lexTailB .any l.toArray m=true)
    (h: ∀wd:World,wd.heap=w.heap->Below w.heap.size w wd->WS n P l.toArray wd (fun a'=>wpList P l.toArray Q (l.drop m) a' wd) (l.take m) E):CW n P (.region id l.toArray true) Q E w:=fun a hE =>
  Pu m hm hB fun wd h1 h2=>h wd h1 h2 a hE
theorem WS.go{n:Nat}{P:Program}{Q:Exit->Act->World->Prop}{E:List (Nat×Value)}{ops:Array Oper}{wd:World}{rest:List Oper}(h:WL n P ops Q rest E wd):WS n P ops wd (fun a'=>wpList P ops Q rest a' wd) [] E:=fun a hE=>wpStill_nil (h a hE)
end
section
open Go
section
variable {P:Program}{ops:Array Oper}{Q:Exit->Act->World->Prop}{md:Region.Mode}{S:World->Prop}{s:Nat}
def ko(P:Program)(md:Region.Mode)(ops:Array Oper)(Q:Exit->Act->World->Prop)(S:World->Prop)(s:Nat):Nat->Array Bool->Act->World->Prop
 | 0,L,a,w=>Region.ready md ops L=[]/\Q .normal a w
 | n+1,L,a,w=>(Region.ready md ops L=[]->Q .normal a w) /\
  ∀i∈Region.ready md ops L,wpOp P ops Q i (fun a' w'=>(i≠s->S w')/\ko P md ops Q S s n (L.setIfInBounds i true) a' w') a w
theorem JT: ∀(n:Nat) (L:Array Bool) (a:Act) (w:World),ko P md ops Q S s n L a w->wpAny P md ops Q n L a w
 | 0,_,_,_,h=>h
 | n+1,_,_,_,h=>⟨h.1,fun i hi=>wpOp_mono (fun a' w' h'=>JT n _ a' w' h'.2) (h.2 i hi)⟩
def wV(md:Region.Mode)(ops:Array Oper)(L:Array Bool):Prop :=
 ∀k ok,ops[k]? =some ok->L.getD k false=true-> ∀e∈ok.after,Region.binds md e=true->L.getD e.on false=true
theorem wV.put{L:Array Bool}(h:wV md ops L){i:Nat}(hi:i∈Region.ready md ops L):wV md ops (L.setIfInBounds i true):=fun k ok hk hl e he hb=>by
 by_cases hki:i=k
 ·subst hki
  obtain ⟨_,o,ho,hall⟩:=mem_ready.1 hi
  rw [hk] at ho;cases ho
  exact getD_set_true (hall e he hb)
 ·rw [getD_set_ne false hki] at hl
  exact getD_set_true (h k ok hk hl e he hb)
def zU(md:Region.Mode)(ops:Array Oper)(L:Array Bool):Bool :=
 (List.range ops.size).all fun k=> !(L.getD k false)||((ops[k]?).map fun o=>o.after.all fun e=> !Region.binds md e||L.getD e.on false).getD true
theorem Wl{L:Array Bool}(h:zU md ops L=true):wV md ops L:=fun k ok hk hl e he hb=>by
 have h1:=List.all_eq_true.1 h k (List.mem_range.2 (Array.getElem?_eq_some_iff.1 hk).1)
 simp only [hl,hk,Bool.not_true,Bool.false_or,Option.map_some,Option.getD_some] at h1
 have h2:=Array.all_eq_true_iff_forall_mem.1 h1 e he
 simpa [hb] using h2
def preB(md:Region.Mode)(ops:Array Oper):Nat->Nat->Nat->Bool
 | 0,_,_=>false
 | n+1,i,s=>match ops[s]? with
  | none=>false
  | some o=>o.after.any fun e=>Region.binds md e&&(e.on==i||preB md ops n i e.on)
theorem abT{L:Array Bool}(hc:wV md ops L){i:Nat}: ∀(n s:Nat),preB md ops n i s=true ->
  (∀o,ops[s]? =some o-> ∀e∈o.after,Region.binds md e=true->L.getD e.on false=true)->L.getD i false=true:=by
 intro n
 induction n with
 | zero=>intro s h;cases h
 | succ n ih =>
  intro s h hs
  simp only [preB] at h
  cases ho:ops[s]? with
  | none=>rw [ho] at h;cases h
  | some o =>
   rw [ho] at h
   obtain ⟨e,he,hb⟩:=Array.any_eq_true'.1 h
   simp only [Bool.and_eq_true,Bool.or_eq_true,beq_iff_eq] at hb
   have hl:=hs o ho e he hb.1
   rcases hb.2 with h2|h2
   ·rw [<-h2];exact hl
   ·exact ih e.on h2 (fun o' ho'=>hc e.on o' ho' hl)
theorem UM{i:Nat}{oi:Oper}{v:Value}(hi:ops[i]? =some oi)(hsel: ∀(j:Nat) (o:Oper) cs b,ops[j]? =some o->o.op≠ .select cs b)
  (hQ: ∀c a w,Q (.panic c) (a.put oi.dst v) w->Q (.panic c) a w) (jk:i≠s) (m:Nat) (hp:preB md ops m i s=true) :
  ∀(n:Nat) (L:Array Bool) (a:Act) (w:World),
   (∀j oj,ops[j]? =some oj->j≠i->L.getD j true=false->(∀e∈oj.after,Region.binds md e=true->e.on≠i)->oi.apart ops oj=true) ->
   i∈Region.ready md ops L->YieldsIf P ops S oi v a->S w->wV md ops L ->
   ko P md ops Q S s n (L.setIfInBounds i true) (a.put oi.dst v) w->ko P md ops Q S s (n+1) L a w:=by
 intro n
 induction n with
 | zero =>
  intro L a w _ hr hy hS _ H
  refine ⟨fun h=>(by rw [h] at hr;cases hr),fun j hj=> ?_⟩
  by_cases hji:j=i
  ·subst hji;exact hy.wpOp hi hS ⟨fun _=>hS,H⟩
  ·have:=ready_mono hj hji
   rw [H.1] at this
   cases this
 | succ n ih =>
  intro L a w hfree hr hy hS hc H
  refine ⟨fun h=>(by rw [h] at hr;cases hr),fun j hj=> ?_⟩
  by_cases hji:j=i
  ·subst hji;exact hy.wpOp hi hS ⟨fun _=>hS,H⟩
  ·have hun:=(mem_ready.1 hr).1
   have hni:L.getD i false≠true:=fun h1=>by
    rcases Nat.lt_or_ge i L.size with h'|h'
    ·simp [h'] at hun h1;rw [hun] at h1;cases h1
    ·simp [Array.getElem?_eq_none h'] at h1
   have hjs:j≠s:=fun e=>by
    subst e
    obtain ⟨_,oj,hoj,hall⟩:=mem_ready.1 hj
    exact hni (abT hc m j hp (fun o ho=>by rw [hoj] at ho;cases ho;exact hall))
   have h1:=H.2 j (ready_mono hj hji)
   obtain ⟨hjun,oj,hoj,hall⟩:=mem_ready.1 hj
   have hnot: ∀e∈oj.after,Region.binds md e=true->e.on≠i:=fun e he hb heq=>hni (by rw [<-heq];exact hall e he hb)
   have h2:=wpOp_putIf hoj (hfree j oj hoj hji hjun hnot) (fun cs b=>hsel i oi cs b hi) (fun cs b=>hsel j oj cs b hoj) hQ hy h1
   refine wpOp_mono (fun a' w' h3=>⟨h3.2.1,ih (L.setIfInBounds j true) a' w' (fun k ok hk hki Np hno=> ?_) (ready_mono hr (Ne.symm hji)) h3.1 (h3.2.1 hjs) (hc.put hj) ?_⟩) h2
   ·refine hfree k ok hk hki ?_ hno
    by_cases hjk:j=k
    ·subst hjk;exact hjun
    ·rw [getD_set_ne true hjk] at Np;exact Np
   ·rw [Array.setIfInBounds_comm _ _ hji]
    exact h3.2.2
theorem JS{i:Nat}{oi:Oper}{v:Value}{n:Nat}{L:Array Bool}{a:Act}{w:World}(hi:ops.toList[i]? =some oi)
  (hs:Region.noSelect ops=true) (hf:Region.free md ops L i=true) (hr:(Region.ready md ops L).contains i=true)
  (hp:(preB md ops 30 i s&& !(i==s)&&zU md ops L)=true)
  (hQ: ∀c a w,Q (.panic c) (a.put oi.dst v) w->Q (.panic c) a w) (hy:YieldsIf P ops S oi v a) (hS:S w)
  (h:ko P md ops Q S s n (L.setIfInBounds i true) (a.put oi.dst v) w):ko P md ops Q S s (n+1) L a w:=by
 simp only [Bool.and_eq_true,Bool.not_eq_true',beq_eq_false_iff_ne] at hp
 exact UM (by rw [<-Array.getElem?_toList];exact hi) (Region.noSelect_spec hs) hQ hp.1.2 30 hp.1.1 n L a w (Region.free_spec (by rw [<-Array.getElem?_toList];exact hi) hf) (by simpa using hr) hy hS (Wl hp.2) h
theorem cf{i:Nat}{oi:Oper}{v:Value}{n:Nat}{L:Array Bool}{a:Act}{w:World}(hi:ops.toList[i]? =some oi)
  (hb:(Region.noSelect ops&&(Region.free md ops L i&&((Region.ready md ops L).contains i&&(preB md ops 30 i s&& !(i==s)&&zU md ops L))))=true)
  (hQ: ∀c a w,Q (.panic c) (a.put oi.dst v) w->Q (.panic c) a w) (hy:YieldsIf P ops S oi v a) (hS:S w)
  (h:ko P md ops Q S s n (L.setIfInBounds i true) (a.put oi.dst v) w):ko P md ops Q S s (n+1) L a w:=by
 obtain ⟨h1,h2⟩:=Bool.and_eq_true_iff.1 hb
 obtain ⟨h3,h4⟩:=Bool.and_eq_true_iff.1 h2
 obtain ⟨h5,h6⟩:=Bool.and_eq_true_iff.1 h4
 exact JS hi h1 h3 h5 h6 hQ hy hS h
def uN(P:Program)(md:Region.Mode)(ops:Array Oper)(Q:Exit->Act->World->Prop)(S:World->Prop)(s n:Nat)(L:Array Bool)(a:Act)(w:World)(i:Nat)(o:Oper):Prop :=
 ∀K':Act->World->Prop,(∀a' w',(i≠s->S w')->((i≠s->S w')->ko P md ops Q S s n (L.setIfInBounds i true) a' w')->K' a' w') ->
  if Region.wanted o (yielded ops a.tmps)=true then Oper.wp P o a w K' Q else K' (a.put o.dst undef) w
theorem uN.op{i:Nat}{o:Oper}{n:Nat}{L:Array Bool}{a:Act}{w:World}(ho:ops[i]? =some o)
  (h:uN P md ops Q S s n L a w i o):wpOp P ops Q i (fun a' w'=>(i≠s->S w')/\ko P md ops Q S s n (L.setIfInBounds i true) a' w') a w:=by
 have:=h (fun a' w'=>(i≠s->S w')/\ko P md ops Q S s n (L.setIfInBounds i true) a' w') (fun a' w' h1 h2=>⟨h1,h2 h1⟩)
 unfold wpOp
 rw [ho]
 show if Region.wanted o (yielded ops a.tmps)=true then _ else _
 split
 ·rename_i hw;rw [if_pos hw] at this;exact .inl this
 ·rename_i hw;rw [if_neg hw] at this;exact this
theorem gD{i:Nat}{o:Oper}{n:Nat}{L:Array Bool}{a:Act}{w:World}(ho:ops.toList[i]? =some o)(hr:Region.ready md ops L=[i])
  (h:uN P md ops Q S s n L a w i o):ko P md ops Q S s (n+1) L a w :=
 ⟨fun e=>(by rw [hr] at e;cases e),fun j hj=>by
  have hj':=hj
  rw [hr] at hj'
  cases List.mem_singleton.1 hj'
  exact h.op (by rw [<-Array.getElem?_toList];exact ho)⟩
theorem ER{i k:Nat}{o ok:Oper}{n:Nat}{L:Array Bool}{a:Act}{w:World}(ho:ops.toList[i]? =some o)(hk:ops.toList[k]? =some ok)(hr:Region.ready md ops L=[i,k])
  (h:uN P md ops Q S s n L a w i o) (h2:uN P md ops Q S s n L a w k ok):ko P md ops Q S s (n+1) L a w :=
 ⟨fun e=>(by rw [hr] at e;cases e),fun j hj=>by
  have hj':=hj
  rw [hr] at hj'
  rcases List.mem_cons.1 hj' with rfl|hj'
  ·exact h.op (by rw [<-Array.getElem?_toList];exact ho)
  ·cases List.mem_singleton.1 hj'
   exact h2.op (by rw [<-Array.getElem?_toList];exact hk)⟩
theorem uR{L:Array Bool}{a:Act}{w:World}(hr:Region.ready md ops L=[])(h:Q .normal a w): ∀n,ko P md ops Q S s n L a w
 | 0=>⟨hr,h⟩
 | _+1=>⟨fun _=>h,by rw [hr];simp⟩
theorem Ey{id:Nat}{a:Act}{w:World}(S:World->Prop)(s:Nat)(hm:P.follows .mixedOrders=true)(hS:S w.drew)
  (h:S w.drew->ko P .any ops Q S s ops.size (Array.replicate ops.size false) a w.drew):(Code.region id ops true).wp P Q a w :=
 wp_region_any hm (JT _ _ _ _ (h hS))
end
end
section
open Go.RowKit Go
variable [GC]
section
variable {n:Nat}{P:Program}{ops:Array Oper}{Q:Exit->Act->World->Prop}{S:World->Prop}{s k:Nat}{L:Array Bool}{E:List (Nat×Value)}{w w':World}{i d:Nat}{o:Oper}{v:Value}
def AU(n:Nat)(P:Program)(ops:Array Oper)(Q:Exit->Act->World->Prop)(S:World->Prop)(s k:Nat)(L:Array Bool)(E:List (Nat×Value))(w:World):Prop:= ∀a,Env n a E->ko P .any ops Q S s k L a w
theorem CW.any{id:Nat}{l:List Oper}(S:World->Prop)(s:Nat)(hm:P.follows .mixedOrders=true)(h: ∀wd:World,wd.heap=w.heap->Below w.heap.size w wd->S wd/\AU n P l.toArray Q S s l.toArray.size (Array.replicate l.toArray.size false) E wd):CW n P (.region id l.toArray true) Q E w:=fun a hE=>by
 have h1:=h w.drew rfl ⟨rfl,rfl,rfl,Nat.le_refl _,fun _ _=>rfl⟩
 exact Ey S s hm h1.1 fun _=>h1.2 a hE
theorem AU.take(i:Nat)(hi:ops.toList[i]? =some o)(hs:Region.noSelect ops=true)(hf:Region.free .any ops L i=true)(hr:(Region.ready .any ops L).contains i=true)(hp:(preB .any ops 30 i s&& !(i==s)&&zU .any ops L)=true)
  (hQ: ∀c a w,Q (.panic c) (a.put o.dst v) w->Q (.panic c) a w) (hg:o.guard=none) (hd:o.dst=some d) (hrun: ∀W,S W->fk n P E o W v W) (fP:d<n) (hS:S w) (h:AU n P ops Q S s k (L.setIfInBounds i true) ((d,v)::E) w):AU n P ops Q S s (k+1) L E w:=fun a hE =>
 JS hi hs hf hr hp hQ (.inl ⟨wR hg _,fun W hW=>hrun W hW a hE⟩) hS (by rw [hd];exact h _ (hE.put fP v))
theorem AU.tk(i:Nat)(hi:ops.toList[i]? =some o)(hb:(Region.noSelect ops&&(Region.free .any ops L i&&((Region.ready .any ops L).contains i&&(preB .any ops 30 i s&& !(i==s)&&zU .any ops L))))=true)
  (hQ: ∀c a w,Q (.panic c) (a.put o.dst v) w->Q (.panic c) a w) (hg:o.guard=none) (hd:o.dst=some d) (hrun: ∀W,S W->fk n P E o W v W) (fP:d<n) (hS:S w) (h:AU n P ops Q S s k (L.setIfInBounds i true) ((d,v)::E) w):AU n P ops Q S s (k+1) L E w :=
 AU.take i hi (Bool.and_eq_true_iff.1 hb).1 (Bool.and_eq_true_iff.1 (Bool.and_eq_true_iff.1 hb).2).1 (Bool.and_eq_true_iff.1 (Bool.and_eq_true_iff.1 (Bool.and_eq_true_iff.1 hb).2).2).1 (Bool.and_eq_true_iff.1 (Bool.and_eq_true_iff.1 (Bool.and_eq_true_iff.1 hb).2).2).2 hQ hg hd hrun fP hS h
theorem AU.ss(i:Nat)(ho:ops.toList[i]? =some o)(hr:Region.ready .any ops L=[i])(hg:o.guard=none)(hd:o.dst=none)(hrun:zF n P E o w w')(hS:i≠s->S w')(h:AU n P ops Q S s k (L.setIfInBounds i true) E w'):AU n P ops Q S s (k+1) L E w:=fun a hE =>
 gD ho hr fun K' hK=>by
  rw [if_pos (wR hg _)]
  unfold Oper.wp
  rw [hrun a hE,Oper.upon_skip,hd]
  exact hK _ _ hS fun _=>h _ hE
theorem AU.st(i:Nat){T:TypeId}{x y:Operand}{b:Nat}{t:TypeId}{C cs:Array Value}(ho:ops.toList[i]? =some o)(hr:Region.ready .any ops L=[i])(hg:o.guard=none)(hd:o.dst=none)(hop:o.op= .store T x y)(hx:ev E x=some (.pointer (some ⟨b,0,none⟩)))(hy:ev E y=some (.agg cs))(hb:aJ w b t C)(hC:C.size=cs.size)(hone: ∀u∈cs.toList,u.oneCell'=true)(hsz:(P.info? T).map (·.size)=some cs.size)
  (hS: ∀w',gx w w' b->i≠s->S w') (h: ∀w',aJ w' b t cs->gx w w' b->AU n P ops Q S s k (L.setIfInBounds i true) E w'):AU n P ops Q S s (k+1) L E w:=by
 obtain ⟨w',h1,h2,h3⟩:=Pp (n:=n) (P:=P) (E:=E) hop hx hy hsz hone hC hb
 exact AU.ss i ho hr hg hd h1 (hS w' h3) (h w' h2 h3)
theorem AU.vv(i:Nat)(ho:ops.toList[i]? =some o)(hr:Region.ready .any ops L=[i])(hg:o.guard=none)(hd:o.dst=some d)(hrun:fk n P E o w v w')(fP:d<n)(hS:i≠s->S w')(h:AU n P ops Q S s k (L.setIfInBounds i true) ((d,v)::E) w'):AU n P ops Q S s (k+1) L E w:=fun a hE =>
 gD ho hr fun K' hK=>by
  rw [if_pos (wR hg _)]
  unfold Oper.wp
  rw [hrun a hE,Oper.upon_value,hd]
  exact hK _ _ hS fun _=>h _ (hE.put fP v)
theorem AU.c(i:Nat){f:FuncId}{args:Array Value}{R:Ending->World->Prop}(ho:ops.toList[i]? =some o)(hr:Region.ready .any ops L=[i])(hg:o.guard=none)(hd:o.dst=some d)(hrun:xn n P E o w f args)(fP:d<n)(hC:Calls P f args w R)
  (h: ∀e w',R e w'-> ∃v,e= .returned v/\(i≠s->S w')/\AU n P ops Q S s k (L.setIfInBounds i true) ((d,v)::E) w'):AU n P ops Q S s (k+1) L E w:=fun a hE =>
 gD ho hr fun K' hK=>by
  rw [if_pos (wR hg _)]
  unfold Oper.wp
  rw [hrun a hE]
  refine hC.mono fun e w' he=> ?_
  obtain ⟨v,rfl,hS,hv⟩:=h e w' he
  rw [hd]
  exact hK _ _ hS fun _=>hv _ (hE.put fP v)
theorem AU.done(hr:Region.ready .any ops L=[])(h:NX n (Q .normal) E w):AU n P ops Q S s k L E w:=fun a hE=>uR hr (h a hE) k
end
end
end Go.Proofs.YtimickglpboilaaGreatDoor
