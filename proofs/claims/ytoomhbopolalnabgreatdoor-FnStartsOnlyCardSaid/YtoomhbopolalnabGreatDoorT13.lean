/- Walks by hand over an environment: what the slots hold, as a list; one law an operation. No program in sight. -/
import Derived.Test.YtoomhbopolalnabGreatDoorT12
import Derived.Maps.AppendAt
import Derived.PlainAid
set_option linter.all false
set_option maxRecDepth 100000
namespace Go.Proofs.YtoomhbopolalnabGreatDoor
variable {ad:Addr}{M:Addr->Prop}{C args cs:Array Value}{b:Bool}{a:Exit->Act->World->Prop}{fn:Func}{f:FuncId}{cl:Go.Call}{p q:Int}{E':List (Nat×Value)}{l:List Oper}{cap e g j m n:Nat}{o:Oper}{x y:Operand}{ds:TypeDesc}{A2 A3 A4 L T U Y t:TypeId}{v z:Value}
section
open Go.RowKit Go
variable [GC]
abbrev PQ(b:Nat):Value:=.pointer (some ⟨b,0,none⟩)
def lk:List (Nat×Value)->Nat->Option Value
 |[],_=>none
 |p::r,t=>bif Nat.beq p.1 t then some p.2 else lk r t
structure Env(n:Nat)(a:Act)(E:List (Nat×Value)):Prop where
 size:a.tmps.size=n
 df:a.defers=[]
 at':∀t v,lk E t=some v->a.tmps.getD t undef=v
def ev(E:List (Nat×Value)):Operand->Option Value
 |.tmp t=>lk E t
 |.const v=>some v
 |.global g=>some (.pointer (some ⟨g,0,none⟩))
 |.func f=>some (.func (.func f) #[] #[])
def Env.ev{n:Nat}{a:Act}{E:List (Nat×Value)}(h:Env n a E){x:Operand}{v:Value}(e:ev E x=some v):a.eval x=v:=by
 cases x with
 |tmp t=>exact h.at' t v e
 |const u=>simp[Go.Proofs.YtoomhbopolalnabGreatDoor.ev]at e;exact e
 |global g=>simp[Go.Proofs.YtoomhbopolalnabGreatDoor.ev]at e;exact e
 |func f=>simp[Go.Proofs.YtoomhbopolalnabGreatDoor.ev]at e;exact e
def Env.put{a:Act}{E:List (Nat×Value)}(h:Env n a E){d:Nat}(hd:d<n)(v:Value):Env n (a.put (some d) v) ((d,v)::E):=by
 refine⟨by simp[Act.put,h.size],h.df,fun t u e=> ?_⟩;have i:=h.size;simp only[lk]at e;simp only[Act.put,sX,C5];cases f:Nat.beq d t with
 |true=> have:d=t:=gI f;subst this;rw[f]at e;simp at e;subst e;rw[aC rfl,aC (by omega)];rfl
 |false=>
  rw[f]at e;simp at e;have g:¬d=t:=fun x=>by subst x;simp at f
  rw[aw g];have:=h.at' t u e;rw[sX]at this;exact this
def tf(E:List (Nat×Value)):List (Nat×Value)->Prop
 |[]=>True
 |p::r=>lk E p.1=some p.2/\tf E r
def tf.get{E:List (Nat×Value)}:∀{E':List (Nat×Value)},tf E E'->∀{t:Nat} {v:Value},lk E' t=some v->lk E t=some v
 |[],_,t,v,h=>by simp[lk]at h
 |p::r,⟨h1,h2⟩,t,v,h=>by
  simp only[lk]at h;cases hb:Nat.beq p.1 t with
  |true=> have:p.1=t:=gI hb;subst this;rw[hb]at h;simp at h;subst h;exact h1
  |false=>rw[hb]at h;simp at h;exact h2.get h
def Env.sub{a:Act}{E:List (Nat×Value)}(h:Env n a E)(f:tf E E'):Env n a E':=⟨h.size,h.df,fun t v e=>h.at' t v (f.get e)⟩
def avu{a:Act}{E:List (Nat×Value)}(h:a.tmps.size=n)(hd:a.defers=[])(g:∀p∈E,a.tmps.getD p.1 undef=p.2):Env n a E:=by
 refine⟨h,hd,fun t v e=> ?_⟩;induction E with
 |nil=>simp[lk]at e
 |cons p r ih=>
  simp only[lk]at e;cases f:Nat.beq p.1 t with
  |true=> have:p.1=t:=gI f;subst this;rw[f]at e;simp at e;subst e;exact g p (by simp)
  |false=>rw[f]at e;simp at e;exact ih (fun q i=>g q (by simp[i])) e
section
variable {n:Nat}{P:Program}{ops:Array Oper}{Q:Exit->Act->World->Prop}{E:List (Nat×Value)}{w w':World}
def NX(n:Nat)(K:Act->World->Prop)(E:List (Nat×Value))(w:World):Prop:=∀a,Env n a E->K a w
def WL(n:Nat)(P:Program)(ops:Array Oper)(Q:Exit->Act->World->Prop)(l:List Oper)(E:List (Nat×Value))(w:World):Prop:=∀a,Env n a E->wpList P ops Q l a w
def CW(n:Nat)(P:Program)(c:Code)(Q:Exit->Act->World->Prop)(E:List (Nat×Value))(w:World):Prop:=∀a,Env n a E->c.wp P Q a w
def CW.seq{x y:Code}(h:CW n P x (Exit.then (y.wp P Q) Q) E w):CW n P (.seq x y) Q E w:=fun a e=>wp_seq (h a e)
def CW.region{id:Nat}(h:WL n P l.toArray Q l E w):CW n P (.region id l.toArray false) Q E w:=fun a e=>wp_region_lit (h a e)
def CW.skip(h:NX n (Q .normal) E w):CW n P .skip Q E w:=fun a e=>wp_skip (h a e)
def CW.ret(h:NX n (Q .ret) E w):CW n P .ret Q E w:=fun a e=>wp_ret (h a e)
def CW.exit{id:Nat}(h:NX n (Q (.exit id)) E w):CW n P (.exit id) Q E w:=fun a e=>wp_exit (h a e)
def CW.block{id:Nat}{c:Code}(h:CW n P c (Exit.inBlock id Q) E w):CW n P (.block id c) Q E w:=fun a e=>wp_block (h a e)
def eC{c:Operand}{x y:Code}(h:CW n P x Q E w)(f:ev E c=some (.bool true):=by rfl):CW n P (.cond c x y) Q E w:=fun a e=>wp_cond_true (e.ev f) (h a e)
def CW.no{c:Operand}{x y:Code}(h:CW n P y Q E w)(f:ev E c=some (.bool false):=by rfl):CW n P (.cond c x y) Q E w:=fun a e=>wp_cond_false (e.ev f) (h a e)
def CW.sub{c:Code}(e:tf E E')(h:CW n P c Q E' w):CW n P c Q E w:=fun a f=>h a (f.sub e)
def WL.nil(h:NX n (Q .normal) E w):WL n P ops Q [] E w:=fun a e=>wpList_nil (h a e)
def aL{y:Code}(h:CW n P y Q E w):NX n (Exit.then (y.wp P Q) a .normal) E w:=h
def NX.ret{K:Act->World->Prop}(h:NX n (Q .ret) E w):NX n (Exit.then K Q .ret) E w:=h
def tS{id:Nat}(h:NX n (Q .ret) E w):NX n (Exit.inBlock id Q .ret) E w:=h
def rO{id:Nat}(h:NX n (Q .normal) E w):NX n (Exit.inBlock id Q .normal) E w:=h
def qg{K:Act->World->Prop}{id:Nat}(h:NX n (Q (.exit id)) E w):NX n (Exit.then K Q (.exit id)) E w:=h
def AV{id:Nat}(h:NX n (Q .normal) E w):NX n (Exit.inBlock id Q (.exit id)) E w:=fun a e=>by show if id=id then Q .normal a w else Q (.exit id) a w;rw[aC rfl];exact h a e
def LR{R:Ending->World->Prop}{p:Tmp}{ty:TypeId}{d:TypeDesc}(h:fn.results=#[.cell p ty])(f:lk E p=some (.pointer (some ⟨g,0,none⟩)))(hg:aA w g t cs)(i:P.underlying ty=some d)
  (hd:(match d with|.struct _|.array _ _=>true|_=>false)=true) (j:(P.info? ty).map (·.size)=some cs.size) (l:R (.returned (.agg cs)) w):NX n (bodyPost P fn R .ret) E w :=
 fun a e=>⟨e.df,_,aF2 h a.tmps w d (e.at' p _ f) hg i hd j,l⟩
def LU{R:Ending->World->Prop}{p:Tmp}(h:fn.results=#[.tmp p])(f:lk E p=some v)(g:R (.returned v) w):NX n (bodyPost P fn R .ret) E w :=
 fun a e=>⟨e.df,_,results_tmp h a.tmps P w,by rw[e.at' p _ f];exact g⟩
def eI(n:Nat)(P:Program)(E:List (Nat×Value))(o:Oper)(w:World)(v:Value)(w':World):Prop:=∀a,Env n a E->(execOp a.eval o).run P w=.ok (.value v) w'
def CU(n:Nat)(P:Program)(E:List (Nat×Value))(o:Oper)(w:World)(w':World):Prop:=∀a,Env n a E->(execOp a.eval o).run P w=.ok .skip w'
def EL(hg:o.guard=none)(y:Nat->Option Bool):Region.wanted o y=true:=by simp[Region.wanted,hg]
def avi{a:Act}(f:Env n a E){j d:Nat}{b:Bool}(g:(ops[j]?).bind (·.dst)=some d)(hb:lk E d=some (.bool b)):yielded ops a.tmps j=some b:=by
 have h:=f.at' d _ hb;unfold yielded;rw[g];rw[sX]at h;cases e:a.tmps[d]? with
 |none=>rw[e]at h;simp[undef]at h
 |some v=>rw[e]at h;simp at h;subst h;simp[e]
def Yj{a:Act}(h:Env n a E){j d:Nat}{b:Bool}(hg:o.guard=some (j,b))(e:(ops[j]?).bind (·.dst)=some d)(hb:lk E d=some (.bool b)):Region.wanted o (yielded ops a.tmps)=true:=by simp[Region.wanted,hg,avi h e hb]
def avd{a:Act}(h:Env n a E){j d:Nat}{b:Bool}(hg:o.guard=some (j,!b))(e:(ops[j]?).bind (·.dst)=some d)(hb:lk E d=some (.bool b)):Region.wanted o (yielded ops a.tmps)=false:=by cases b<;>simp[Region.wanted,hg,avi h e hb]
variable {o:Oper}{rest:List Oper}{v:Value}{d:Nat}
def fD(hg:o.guard=none)(hd:o.dst=some d)(r:eI n P E o w v w')(e:d<n)(h:WL n P ops Q rest ((d,v)::E) w'):WL n P ops Q (o::rest) E w:=fun a f=>
 wpList_plain hg fun K g=>by unfold Oper.wp;rw[r a f,Mk,hd];exact g _ _ (h _ (f.put e v))
def qO(r:CU n P E o w w')(h:WL n P ops Q rest E w')(hg:o.guard=none:=by rfl)(hd:o.dst=none:=by rfl):WL n P ops Q (o::rest) E w:=fun a e=>
 wpList_plain hg fun K f=>by unfold Oper.wp;rw[r a e,Zd,hd];exact f _ _ (h _ e)
def wO(hg:o.guard=some (j,b))(i:(ops[j]?).bind (·.dst)=some e)(hb:lk E e=some (.bool b))(hd:o.dst=some d)(r:eI n P E o w v w')(f:d<n)(h:WL n P ops Q rest ((d,v)::E) w'):WL n P ops Q (o::rest) E w:=fun a g=>
 wpList_step fun K l=>by rw[aC (Yj g hg i hb)];unfold Oper.wp;rw[r a g,Mk,hd];exact l _ _ (h _ (g.put f v))
def WL.no(hg:o.guard=some (j,!b))(i:(ops[j]?).bind (·.dst)=some e)(hb:lk E e=some (.bool b))(hd:o.dst=some d)(f:d<n)(h:WL n P ops Q rest ((d,undef)::E) w):WL n P ops Q (o::rest) E w:=fun a g=>
 wpList_step fun K l=>by rw[aw (by rw[avd g hg i hb];simp),hd];exact l _ _ (h _ (g.put f undef))
def zx(n:Nat)(P:Program)(E:List (Nat×Value))(o:Oper)(w:World)(f:FuncId)(args:Array Value):Prop:=∀a,Env n a E->(execOp a.eval o).run P w=.ok (.enter f args) w
def WL.c{R:Ending->World->Prop}(hg:o.guard=none)(hd:o.dst=some d)(r:zx n P E o w f args)(g:d<n)(hC:Calls P f args w R)
  (h:∀e w',R e w'->∃v,e=.returned v/\WL n P ops Q rest ((d,v)::E) w'):WL n P ops Q (o::rest) E w:=fun a i=>
 wpList_plain hg fun K j=>by unfold Oper.wp;rw[r a i];refine hC.mono fun e w' l=> ?_;obtain⟨v,rfl,p⟩:=h e w' l;rw[hd];exact j _ _ (p _ (i.put g v))
def axe{R:Ending->World->Prop}(hg:o.guard=some (j,b))(l:(ops[j]?).bind (·.dst)=some e)(hb:lk E e=some (.bool b))(hd:o.dst=some d)(r:zx n P E o w f args)(g:d<n)(hC:Calls P f args w R)
  (h:∀e w',R e w'->∃v,e=.returned v/\WL n P ops Q rest ((d,v)::E) w'):WL n P ops Q (o::rest) E w:=fun a i=>
 wpList_step fun K p=>by rw[aC (Yj i hg l hb)];unfold Oper.wp;rw[r a i];refine hC.mono fun e w' q=> ?_;obtain⟨v,rfl,t⟩:=h e w' q;rw[hd];exact p _ _ (t _ (i.put g v))
def aI(ho:o.op=.move x:=by rfl)(hx:ev E x=some v:=by rfl):eI n P E o w v w:=fun a h=>by simp[execOp,ho,h.ev hx]
def bN(ho:o.op=.assign x:=by rfl)(hx:ev E x=some v:=by rfl):eI n P E o w v w:=fun a h=>by simp[execOp,ho,h.ev hx]
def Ah(ho:o.op=.nilCheck x)(hx:ev E x=some (.pointer (some ad))):eI n P E o w (.pointer (some ad)) w:=fun a h=>by simp[execOp,ho,h.ev hx]
def E4:TypeDesc->Bool
 |.struct _|.array _ _=>true
 |_=>false
def ak7(h:P.underlying T=some ds)(hd:E4 ds=false):(isAgg T).run P w=.ok false w:=by cases ds<;>simp[E4]at hd<;>simp[isAgg,run_underlying h]
def bz(h:P.underlying T=some ds)(e:w.cell? ad=some v)(ho:o.op=.load T x:=by rfl)(hx:ev E x=some (.pointer (some ad)):=by rfl)(hd:E4 ds=false:=by rfl):eI n P E o w v w:=fun a f=>by simp[execOp,ho,f.ev hx,Instr.loadAt,Instr.sureAddr,loadVar,ak7 h hd,e]
def bF{T:TypeId}{ds:TypeDesc}{x:Operand}{b:Nat}{t:TypeId}{cs:Array Value}(hT:P.underlying T=some ds)(hb:aA w b t cs)(hi:(P.info? T).map (·.size)=some cs.size)(ho:o.op=.load T x:=by rfl)(hx:ev E x=some (.pointer (some ⟨b,0,none⟩)):=by rfl)(hd:(match ds with|.struct _|.array _ _=>true|_=>false)=true:=by rfl):eI n P E o w (.agg cs) w:=fun a hE=>by simp[execOp,ho,hE.ev hx,Instr.loadAt,Instr.sureAddr,IU w b t T cs (0,0) ds hb hT hd hi]
def mD(P:Program)(T:TypeId)(f:Nat):Option Nat:=match P.underlying T with
 |some (.struct a)=>match a[f]? with
  |some l=>match P.info? l.type with
   |some i=>bif Nat.beq i.size 0 then none else some l.offset
   |none=>none
  |none=>none
 |_=>none
def br{f k b c:Nat}(h:mD P T f=some k)(ho:o.op=.fieldAddr T x f:=by rfl)(hx:ev E x=some (.pointer (some ⟨b,c,none⟩)):=by rfl):eI n P E o w (.pointer (some ⟨b,c+k,none⟩)) w:=fun a j=>by
 unfold mD at h;split at h
 ·rename_i y p;split at h
  ·rename_i q l;split at h
   ·rename_i i r;cases z:Nat.beq i.size 0 with
    |true=>rw[z]at h;simp at h
    |false=>
     rw[z]at h;simp at h;subst h;have g:¬i.size=0:=fun e=>by rw[e]at z;simp at z
     have t:(sizeOf q.type).run P w=.ok i.size w:=run_sizeOf r;simp[execOp,ho,j.ev hx,Instr.fieldAt,run_underlying p,l,Instr.sureAddr,fieldPlace,t,g,addr_add]
   ·simp at h
  ·simp at h
 ·simp at h
def vD(P:Program)(T:TypeId):Option Nat:=match P.underlying T with
 |some (.slice e)=>(P.info? e).map (·.size)
 |_=>none
def yT{i:Operand}{b c len:Nat}{k:IntKind}{j:Int}(ho:o.op=.indexAddr T x i)(hx:ev E x=some (.slice (some ⟨b,c,none⟩) len cap))(l:ev E i=some (.int k j))(p:0<=j)(h1:j<len)(h:vD P T=some m) :
  eI n P E o w (.pointer (some ⟨b,c+j.toNat*m,none⟩)) w:=fun a g=>by
 unfold vD at h;split at h
 ·rename_i e q;simp only[kN]at h;obtain⟨inf,f,rfl⟩:=h;simp[execOp,ho,g.ev hx,g.ev l,Instr.indexAt,asIntOf,run_underlying q,run_sizeOf f,p,h1,addr_add]
 ·simp at h
def Ci{s t:ByteArray}(ho:o.op=.binOp .eql T x y U)(hx:ev E x=some (.string s))(e:ev E y=some (.string t)):eI n P E o w (.bool (gx .eql s t)) w:=fun a h=>by simp[execOp,ho,h.ev hx,h.ev e,eqGuard,binOp,Op.stringOp,gx]
def aFJ{s t:ByteArray}(ho:o.op=.binOp .neq T x y U)(hx:ev E x=some (.string s))(e:ev E y=some (.string t)):eI n P E o w (.bool (gx .neq s t)) w:=fun a h=>by simp[execOp,ho,h.ev hx,h.ev e,eqGuard,binOp,Op.stringOp,gx]
def aFz{op:BinOp}{k:IntKind}(ho:o.op=.binOp op T x y U)(hop:JY op=true)(hx:ev E x=some (.int k p))(e:ev E y=some (.int k q)):eI n P E o w (.int k (dL op k p q)) w:=fun a h=>by cases op<;>simp[JY]at hop<;>simp[execOp,ho,h.ev hx,h.ev e,eqGuard,binOp,Op.intArith,Op.intBits,dL]
def aFE{op:BinOp}{k:IntKind}(ho:o.op=.binOp op T x y U)(hop:Gt op=true)(hx:ev E x=some (.int k p))(e:ev E y=some (.int k q)):eI n P E o w (.bool (bg op p q)) w:=fun a h=>by cases op<;>simp[Gt]at hop<;>simp[execOp,ho,h.ev hx,h.ev e,eqGuard,binOp,Op.intCmp,bg]
def qE(ho:o.op=.unOp .not T x:=by rfl)(hx:ev E x=some (.bool b):=by rfl):eI n P E o w (.bool (!b)) w:=fun a h=>by simp[execOp,ho,h.ev hx,Op.unary]
def nu{c:Operand}(ho:o.op=.pick c x y)(e:ev E c=some (.bool true))(hx:ev E x=some v):eI n P E o w v w:=fun a h=>by simp[execOp,ho,h.ev e,h.ev hx,asBool]
def pR{c:Operand}(ho:o.op=.pick c x y)(e:ev E c=some (.bool false))(f:ev E y=some v):eI n P E o w v w:=fun a h=>by simp[execOp,ho,h.ev e,h.ev f,asBool]
def uG(ho:o.op=.box T x:=by rfl)(hx:ev E x=some v:=by rfl):eI n P E o w (.pointer (some ⟨w.heap.size,0,none⟩)) (w.alloc (.cells v.cells T)):=fun a h=>by simp[execOp,ho,h.ev hx,Instr.box,newVar,newRow]
def eQ(ho:o.op=.alloc T)(h:(P.info? T).bind (·.zero)=some z):eI n P E o w (.pointer (some ⟨w.heap.size,0,none⟩)) (w.alloc (.cells z.cells T)):=fun a f=>by simp only[Option.bind_eq_some_iff]at h;obtain⟨i,e,h⟩:=h;simp[execOp,ho,Instr.alloc,zeroValue,run_typeInfo e,h,newVar,newRow]
def sE(g:rW P f=true)(ho:o.op=.call cl)(e:cl.callee=.value (.func f))(ha:cl.args.toList.map (ev E)=args.toList.map some):zx n P E o w f args:=fun a i=>by
 rw[G7 g ho e];have:cl.args.map a.eval=args:=by
  rw[<-iX,Q8];have key:∀(l:List Operand) (m:List Value),l.map (ev E)=m.map some->l.map a.eval=m:=by
   intro l;induction l with
   |nil=>intro m h;cases m<;>simp_all
   |cons x r ih=>
    intro m h;cases m with
    |nil=>simp at h
    |cons y q=> simp only[jA,A6]at h ⊢;exact⟨i.ev h.1,ih q h.2⟩
  exact key _ _ ha
 rw[this]
def aFI{p:Array Operand}{ps:Array Value}(ho:o.op=.makeFunc (.func f) #[] p)(ha:p.toList.map (ev E)=ps.toList.map some):eI n P E o w (.func (.func f) #[] ps) w:=fun a e=>by
 have:p.map a.eval=ps:=by
  rw[<-iX,Q8];have key:∀(l:List Operand) (m:List Value),l.map (ev E)=m.map some->l.map a.eval=m:=by
   intro l;induction l with
   |nil=>intro m h;cases m<;>simp_all
   |cons x r ih=>
    intro m h;cases m with
    |nil=>simp at h
    |cons y q=> simp only[jA,A6]at h ⊢;exact⟨e.ev h.1,ih q h.2⟩
  exact key _ _ ha
 simp[execOp,ho,this,Instr.makeFunc]
def yV{f:Option Addr}{len:Nat}(ho:o.op=.call cl)(h:cl.callee=.builtin .len){T e:TypeId}(ha:cl.args=#[x])(t:cl.argTypes=#[T])(g:P.underlying T=some (.slice e))(hx:ev E x=some (.slice f len cap)):eI n P E o w (.int .i64 len) w:=fun a i=>by simp[execOp,ho,resolve,h,ha,t,invoke,builtin,Builtin.len_,i.ev hx,run_underlying g,goInt]
def pS{u:Value}(ho:o.op=.store T x y)(hx:ev E x=some (.pointer (some ad)))(g:ev E y=some v)(z:(P.info? T).map (·.size)=some 1)(h:v.oneCell'=true)(j:w.cell? ad=some u)(l:w.frozen? ad=false):CU n P E o w (w.setCell ad v):=fun a f=>by
 simp only[kN]at z;obtain⟨i,p,q⟩:=z;have e:v.cells=#[v]:=by cases v<;>simp[Value.oneCell']at h<;>rfl
 have r:(storeVar T ad v).run P w=.ok () (w.setCell ad v):=by simp[storeVar,run_sizeOf p,q,e,storeCells,Addr.add,aHs j l h]
 simp[execOp,ho,f.ev hx,f.ev g,Instr.storeAt,Instr.sureAddr,r]
def am1{b:Nat}(ho:o.op=.store T x y)(hx:ev E x=some (.pointer (some ⟨b,0,none⟩)))(p:ev E y=some (.agg cs))(z:(P.info? T).map (·.size)=some cs.size)(f:∀u∈cs.toList,u.oneCell'=true)(hC:C.size=cs.size)(hb:aA w b t C) :
  ∃w',CU n P E o w w'/\aA w' b t cs/\bU w w' b:=by
 simp only[kN]at z;obtain⟨i,q,F⟩:=z;obtain⟨w',G,g,H⟩:=Eb (P:=P) b t cs.toList w C 0 0 hb f (by simp;omega);refine⟨w',fun a j=> ?_,?_,H⟩
 ·have I:(storeVar T ⟨b,0,none⟩ (.agg cs)).run P w=.ok () w':=by simp only[storeVar,Value.cells,lS,run_sizeOf q,uZ,F];simp[G]
  simp[execOp,ho,j.ev hx,j.ev p,Instr.storeAt,Instr.sureAddr,I]
 ·have e:iF C (0+0) cs.toList=cs:=by
   rw[<-iX,Ha];have key:∀(l C:List Value) (k:Nat),C.length=k+l.length->nA C k l=C.take k++l:=by
    intro l;induction l with
    |nil=>intro C k h;simp[nA];exact(A7 (by simp at h;omega)).symm
    |cons x r ih=>
     intro C k h;simp only[nA,dR]at h ⊢;rw[ih _ _ (by simp;omega)];have J:k<C.length:=by omega
     rw[Mi];simp[Da,J,List.take_set_of_le]
   rw[key _ _ _ (by simp[hC])];simp
  rw[e]at g;exact g
def aFF{s t:ByteArray}(ho:o.op=.binOp .eql T x y U)(hx:ev E x=some (.string s))(h:ev E y=some (.string t))(hb:gx .eql s t=b):eI n P E o w (.bool b) w:=hb▸Ci ho hx h
def gX{op:BinOp}{k:IntKind}(ho:o.op=.binOp op T x y U:=by rfl)(hop:Gt op=true:=by rfl)(hx:ev E x=some (.int k p):=by rfl)(h:ev E y=some (.int k q):=by rfl)(hb:bg op p q=b):eI n P E o w (.bool b) w:=hb▸aFE ho hop hx h
def iE{op:BinOp}{k:IntKind}{r:Int}(ho:o.op=.binOp op T x y U:=by rfl)(hop:JY op=true:=by rfl)(hx:ev E x=some (.int k p):=by rfl)(h:ev E y=some (.int k q):=by rfl)(hb:dL op k p q=r):eI n P E o w (.int k r) w:=hb▸aFz ho hop hx h
def bW{b:Nat}(ho:o.op=.store T x y)(a:ev E y=some (.agg cs))(hb:aA w b t C)(e:∀u∈cs.toList,u.oneCell'=true)(z:(P.info? T).map (·.size)=some cs.size)(h:∀w',aA w' b t cs->bU w w' b->WL n P ops Q rest E w')(hg:o.guard=none:=by rfl)(hd:o.dst=none:=by rfl)(hx:ev E x=some (.pointer (some ⟨b,0,none⟩)):=by rfl)(hC:C.size=cs.size:=by rfl):WL n P ops Q (o::rest) E w:=by obtain⟨w',f,g,i⟩:=am1 (n:=n) (P:=P) (E:=E) ho hx a z e hC hb;exact qO (hg:=hg) (hd:=hd) f (h w' g i)
def MA{o:Obj}{a:World}(h:bU (w.alloc o) a w.heap.size):Below w.heap.size w a:=by refine⟨h.os,h.tape,h.output,by rw[h.size,gb];omega,fun i e=> ?_⟩;rw[h.block i (by omega)];exact Mb w o i e
def placesOf(P:Program):List Field->Option (List (Nat×Nat))
 |[]=>some []
 |f::r=>match P.info? f.type,placesOf P r with
  |some i,some q=>some ((f.offset,i.size)::q)
  |_,_=>none
def amK:∀{l:List Field} {p:List (Nat×Nat)},placesOf P l=some p->(l.mapM (m:=Sem) fun f=>do pure (f.offset, <-sizeOf f.type)).run P w=.ok p w
 |[],p,h=>by simp[placesOf]at h;subst h;simp
 |f::r,p,h=>by
  unfold placesOf at h;split at h
  ·rename_i i q h1 h2;simp only[aS]at h;subst h;rw[Y8];simp only[lS,De,run_sizeOf h1,uZ,amK h2]
  ·simp at h
def uk(P:Program)(T:TypeId)(parts:List (Nat×Value)):Option (Array Value):=match (P.info? T).bind (·.zero),P.underlying T with
 |some z,some (.struct fields)=>match placesOf P fields.toList with
  |some p=>Instr.fill (fun x=>p[x]?) z.cells parts
  |none=>none
 |_,_=>none
def kF{parts:Array (Nat×Operand)}{vs:List (Nat×Value)}(hb:uk P T vs=some cs)(ho:o.op=.build T parts:=by rfl)(ha:parts.toList.map (fun p=>(p.1,ev E p.2))=vs.map (fun p=>(p.1,some p.2)):=by rfl):eI n P E o w (.agg cs) w:=fun a j=>by
 have t:(parts.map fun (x:Nat×Operand)=>(x.1,a.eval x.2)).toList=vs:=by
  rw[Q8];have key:∀(l:List (Nat×Operand)) (m:List (Nat×Value)),l.map (fun p=>(p.1,ev E p.2))=m.map (fun p=>(p.1,some p.2))->l.map (fun p=>(p.1,a.eval p.2))=m:=by
   intro l;induction l with
   |nil=>intro m h;cases m<;>simp_all
   |cons x r ih=>
    intro m h;cases m with
    |nil=>simp at h
    |cons y q=> simp only[jA,A6,gj]at h ⊢;refine⟨?_,ih q h.2⟩;rw[j.ev h.1.2,h.1.1]
  exact key _ _ ha
 unfold uk at hb;split at hb
 ·rename_i z fields e C;split at hb
  ·rename_i F g;simp only[Option.bind_eq_some_iff]at e;obtain⟨i,G,e⟩:=e;have H:(fields.mapM (m:=Sem) fun f=>do pure (f.offset, <-sizeOf f.type)).run P w=.ok F.toArray w:=by rw[YQ,Sem.run_map,amK g];rfl
   simp only[execOp,ho,Instr.build,lS,zeroValue,run_typeInfo G,e,uZ,De,run_underlying C,H];rw[t];simp[hb]
  ·simp at hb
 ·simp at hb
def WS(n:Nat)(P:Program)(ops:Array Oper)(w:World)(K:Act->Prop)(l:List Oper)(E:List (Nat×Value)):Prop:=∀a,Env n a E->wpStill P ops w K l a
def avp{id:Nat}(f:P.follows .mixedOrders=true)(g:Region.lexB .any l.toArray=true)
  (h:∀e:World,e.heap=w.heap->Below w.heap.size w e->WS n P l.toArray e (fun i=>Q .normal i e) l E):CW n P (.region id l.toArray true) Q E w:=fun a j=>
 wp_region_still_lit f g (h {w with drawn:=w.drawn+1} rfl ⟨rfl,rfl,rfl,bM _,fun _ _=>rfl⟩ a j)
def axg{e:World}(h:NX n (Q .normal) E e):WS n P ops e (fun f=>Q .normal f e) [] E:=fun a g=>wpStill_nil (h a g)
def wP{K:Act->Prop}{rest:List Oper}{d:Nat}(hg:o.guard=none)(hd:o.dst=some d)(r:eI n P E o w v w)(e:d<n)(h:WS n P ops w K rest ((d,v)::E)):WS n P ops w K (o::rest) E:=fun a f=>
 wpStill_step fun i g=>by rw[aC (EL hg _)];unfold Oper.still;rw[r a f,Oper.stillUpon_value,hd];exact g _ (h _ (f.put e v))
def pH{c:Code}{R:Ending->World->Prop}{E:List (Nat×Value)}(e:P.funcs[f]? =some fn)(hb:fn.body=some c)(a:fn.ntmps=n)(j:args.size<=n)(g:∀p∈E,args[p.1]? =some p.2)
  (h:CW n P c (bodyPost P fn R) E w):Calls P f args w R:=by
 subst a;refine calls_of_wp e hb (h _ (avu ?_ rfl fun p i=> ?_))
 ·simp;omega
 ·have:=g p i;have l:=(rS.1 this).1;simp only[sX];rw[Q7 l,this];rfl
section
variable {l0 f0 m1 m2 t0 t1 t2 t3 t4 t5 t6 t7 t8 t9 t10:Nat}{T S U A B:TypeId}{dA dB:TypeDesc}{o0 o1 o2 o3 o4 o5 o6 o7 o8 o9 OL:Oper}{x2:Nat}{ad ad2:Addr}{b c b' c' k k':Nat}{s u s1 u1:ByteArray}
def Wq{xl xc:Operand}{TS TC:TypeId}{fS fC:Nat}
  (h0:o0.op=.move xl) (g0:o0.guard=none) (d0:o0.dst=some t0)
  (h1:o1.op=.nilCheck (.tmp t0)) (g1:o1.guard=none) (d1:o1.dst=some t1)
  (h2:o2.op=.fieldAddr TS (.tmp t1) fS) (g2:o2.guard=none) (d2:o2.dst=some t2)
  (h3:o3.op=.load L (.tmp t2)) (g3:o3.guard=none) (d3:o3.dst=some t3)
  (h4:o4.op=.binOp .eql A2 (.tmp t3) (.const (.string u)) A3) (g4:o4.guard=none) (d4:o4.dst=some t4)
  (h5:o5.op=.move (.tmp t4)) (g5:o5.guard=none) (g:o5.dst=some t5)
  (h6:o6.op=.fieldAddr TC xc fC) (g6:o6.guard=some (5,true)) (d6:o6.dst=some t6)
  (h7:o7.op=.load L (.tmp t6)) (g7:o7.guard=some (5,true)) (d7:o7.dst=some t7)
  (h8:o8.op=.binOp .eql A2 (.tmp t7) (.const (.string u1)) A4) (g8:o8.guard=some (5,true)) (d8:o8.dst=some t8)
  (h9:o9.op=.pick (.tmp t5) (.tmp t8) (.const (.bool false))) (g9:o9.guard=none) (d9:o9.dst=some t9)
  (i:OL.op=.assign (.tmp t9)) (j:OL.guard=none) (x:OL.dst=some t10)
  (hn:t0<n/\t1<n/\t2<n/\t3<n/\t4<n/\t5<n/\t6<n/\t7<n/\t8<n/\t9<n/\t10<n)
  (O:∀z0 z1 z2 z3 z4 z5,ev ((t5,z5)::(t4,z4)::(t3,z3)::(t2,z2)::(t1,z1)::(t0,z0)::E) xc=some (.pointer (some ⟨b',c',none⟩)))
  (a:t1≠t0/\t5≠t8/\t5≠t7/\t5≠t6)
  (V:ev E xl=some (.pointer (some ⟨b,c,none⟩))) (W:mD P TS fS=some k) (hA:P.underlying L=some dA) (y:E4 dA=false) (X:w.cell? ⟨b,c+k,none⟩=some (.string s))
  (Y:mD P TC fC=some k') (Z:w.cell? ⟨b',c'+k',none⟩=some (.string s1))
  (h:∀E',(∀t,t∉[t0,t1,t2,t3,t4,t5,t6,t7,t8,t9,t10]->lk E' t=lk E t)->lk E' t10=some (.bool (gx .eql s u&&gx .eql s1 u1))->NX n (Q .normal) E' w) :
  WL n P #[o0,o1,o2,o3,o4,o5,o6,o7,o8,o9,OL] Q [o0,o1,o2,o3,o4,o5,o6,o7,o8,o9,OL] E w:=by
 obtain⟨r,C,G,J,n4,n5,n6,n7,n8,n9,z⟩:=hn;have l:∀t v (F:List (Nat×Value)),lk ((t,v)::F) t=some v:=fun t v F=>by simp[lk]
 have f:∀{t H v} {F:List (Nat×Value)},t≠H->lk ((H,v)::F) t=lk F t:=fun {t H v F} p=>by
  simp only[lk];cases I:Nat.beq H t with
  |false=>rfl
  |true=>exact absurd (gI I).symm p
 refine fD g0 d0 (aI (ho:=h0) (hx:=V)) r ?_;refine fD g1 d1 (Ah h1 (l _ _ _)) C ?_;refine fD g2 d2 (br (ho:=h2) (hx:=(l _ _ _)) W) G ?_;refine fD g3 d3 (bz (ho:=h3) (hx:=(l _ _ _)) hA (hd:=y) X) J ?_;refine fD g4 d4 (Ci h4 (l _ _ _) rfl) n4 ?_;refine fD g5 g (aI (ho:=h5) (hx:=(l _ _ _))) n5 ?_;have C:∀(J:List (Nat×Value)) (t:Nat),t∉[t0,t1,t2,t3,t4,t5,t6,t7,t8,t9,t10]->(∀p∈J,p.1∈[t0,t1,t2,t3,t4,t5,t6,t7,t8,t9,t10])->lk (J++E) t=lk E t:=by
  intro J t G;induction J with
  |nil=>intro _;rfl
  |cons p r ih=> intro r;obtain⟨H,J⟩:=p;have h1:H∈[t0,t1,t2,t3,t4,t5,t6,t7,t8,t9,t10]:=r (H,J) (by simp);rw[ia,f (fun e=>G (by rw[e];exact h1))];exact ih fun q p=>r q (by simp[p])
 cases I:gx .eql s u with
 |false=> refine WL.no (b:=false) g6 (by simpa using g) (by rw[l]) d6 n6 ?_;refine WL.no (b:=false) g7 (by simpa using g) (by rw[f a.2.2.2,l]) d7 n7 ?_;refine WL.no (b:=false) g8 (by simpa using g) (by rw[f a.2.2.1,f a.2.2.2,l]) d8 n8 ?_;refine fD g9 d9 (pR h9 (by show lk _ _=_;rw[f a.2.1,f a.2.2.1,f a.2.2.2,l]) rfl) n9 ?_;refine fD j x (bN (ho:=i) (hx:=(l _ _ _))) z (WL.nil (h _ (fun t G=> ?_) (by rw[l,I];rfl)));exact C [_,_,_,_,_,_,_,_,_,_,_] t G (by simp)
 |true=> refine wO (b:=true) g6 (by simpa using g) (by rw[l]) d6 (br (ho:=h6) (hx:=(O _ _ _ _ _ _)) Y) n6 ?_;refine wO (b:=true) g7 (by simpa using g) (by rw[f a.2.2.2,l]) d7 (bz (ho:=h7) (hx:=(l _ _ _)) hA (hd:=y) Z) n7 ?_;refine wO (b:=true) g8 (by simpa using g) (by rw[f a.2.2.1,f a.2.2.2,l]) d8 (Ci h8 (l _ _ _) rfl) n8 ?_;refine fD g9 d9 (nu h9 (by show lk _ _=_;rw[f a.2.1,f a.2.2.1,f a.2.2.2,l]) (l _ _ _)) n9 ?_;refine fD j x (bN (ho:=i) (hx:=(l _ _ _))) z (WL.nil (h _ (fun t G=> ?_) (by rw[l,I,oC])));exact C [_,_,_,_,_,_,_,_,_,_,_] t G (by simp)
def aog{O V:Operand}{W:Bool}{X:TypeId}{Z:Nat}
  (h0:o0.op=.move O) (g0:o0.guard=none) (d0:o0.dst=some t0)
  (h1:o1.op=.nilCheck (.tmp t0)) (g1:o1.guard=none) (d1:o1.dst=some t1)
  (h2:o2.op=.fieldAddr X (.tmp t1) Z) (g2:o2.guard=none) (d2:o2.dst=some t2)
  (h3:o3.op=.load Y (.tmp t2)) (g3:o3.guard=none) (d3:o3.dst=some t3)
  (h4:o4.op=.binOp .eql A2 (.tmp t3) (.const (.string u)) A3) (g4:o4.guard=none) (d4:o4.dst=some t4)
  (h5:o5.op=.move (.tmp t4)) (g5:o5.guard=none) (z:o5.dst=some t5)
  (h6:o6.op=.move V) (g6:o6.guard=some (5,true)) (d6:o6.dst=some t6)
  (h7:o7.op=.pick (.tmp t5) (.tmp t6) (.const (.bool false))) (g7:o7.guard=none) (d7:o7.dst=some t7)
  (h8:o8.op=.assign (.tmp t7)) (g8:o8.guard=none) (d8:o8.dst=some t8)
  (hn:t0<n/\t1<n/\t2<n/\t3<n/\t4<n/\t5<n/\t6<n/\t7<n/\t8<n)
  (C:∀z0 z1 z2 z3 z4 z5,ev ((t5,z5)::(t4,z4)::(t3,z3)::(t2,z2)::(t1,z1)::(t0,z0)::E) V=some (.bool W))
  (a:t5≠t6)
  (G:ev E O=some (.pointer (some ⟨b,c,none⟩))) (H:mD P X Z=some k) (hA:P.underlying Y=some dA) (I:E4 dA=false) (J:w.cell? ⟨b,c+k,none⟩=some (.string s))
  (h:∀E',(∀t,t∉[t0,t1,t2,t3,t4,t5,t6,t7,t8]->lk E' t=lk E t)->lk E' t8=some (.bool (gx .eql s u&&W))->NX n (Q .normal) E' w) :
  WL n P #[o0,o1,o2,o3,o4,o5,o6,o7,o8] Q [o0,o1,o2,o3,o4,o5,o6,o7,o8] E w:=by
 obtain⟨g,i,p,r,y,n5,n6,n7,n8⟩:=hn;have l:∀t v (F:List (Nat×Value)),lk ((t,v)::F) t=some v:=fun t v F=>by simp[lk]
 have f:∀{t j v} {F:List (Nat×Value)},t≠j->lk ((j,v)::F) t=lk F t:=fun {t j v F} L=>by
  simp only[lk];cases x:Nat.beq j t with
  |false=>rfl
  |true=>exact absurd (gI x).symm L
 refine fD g0 d0 (aI (ho:=h0) (hx:=G)) g ?_;refine fD g1 d1 (Ah h1 (l _ _ _)) i ?_;refine fD g2 d2 (br (ho:=h2) (hx:=(l _ _ _)) H) p ?_;refine fD g3 d3 (bz (ho:=h3) (hx:=(l _ _ _)) hA (hd:=I) J) r ?_;refine fD g4 d4 (Ci h4 (l _ _ _) rfl) y ?_;refine fD g5 z (aI (ho:=h5) (hx:=(l _ _ _))) n5 ?_;have i:∀(y:List (Nat×Value)) (t:Nat),t∉[t0,t1,t2,t3,t4,t5,t6,t7,t8]->(∀p∈y,p.1∈[t0,t1,t2,t3,t4,t5,t6,t7,t8])->lk (y++E) t=lk E t:=by
  intro y t g;induction y with
  |nil=>intro _;rfl
  |cons p r ih=> intro j;obtain⟨r,y⟩:=p;have h1:r∈[t0,t1,t2,t3,t4,t5,t6,t7,t8]:=j (r,y) (by simp);rw[ia,f (fun e=>g (by rw[e];exact h1))];exact ih fun q p=>j q (by simp[p])
 cases x:gx .eql s u with
 |false=> refine WL.no (b:=false) g6 (by simpa using z) (by rw[l]) d6 n6 ?_;refine fD g7 d7 (pR h7 (by show lk _ _=_;rw[f a,l]) rfl) n7 ?_;refine fD g8 d8 (bN (ho:=h8) (hx:=(l _ _ _))) n8 (WL.nil (h _ (fun t g=> ?_) (by rw[l,x];rfl)));exact i [_,_,_,_,_,_,_,_,_] t g (by simp)
 |true=> refine wO (b:=true) g6 (by simpa using z) (by rw[l]) d6 (aI (ho:=h6) (hx:=(C _ _ _ _ _ _))) n6 ?_;refine fD g7 d7 (nu h7 (by show lk _ _=_;rw[f a,l]) (l _ _ _)) n7 ?_;refine fD g8 d8 (bN (ho:=h8) (hx:=(l _ _ _))) n8 (WL.nil (h _ (fun t g=> ?_) (by rw[l,x,oC])));exact i [_,_,_,_,_,_,_,_,_] t g (by simp)
def aoh{G:Operand}{O:TypeId}{V:Nat}
  (h0:o0.op=.fieldAddr L G V) (g0:o0.guard=none) (d0:o0.dst=some t0)
  (h1:o1.op=.load O (.tmp t0)) (g1:o1.guard=none) (d1:o1.dst=some t1)
  (h2:o2.op=.binOp .eql Y (.tmp t1) (.const (.string u)) A3) (g2:o2.guard=none) (d2:o2.dst=some t2)
  (h3:o3.op=.move (.tmp t2)) (g3:o3.guard=none) (g:o3.dst=some t3)
  (h4:o4.op=.fieldAddr L G V) (Z:o4.guard=some (3,false)) (d4:o4.dst=some t4)
  (h5:o5.op=.load O (.tmp t4)) (g5:o5.guard=some (3,false)) (d5:o5.dst=some t5)
  (h6:o6.op=.binOp .eql Y (.tmp t5) (.const (.string u1)) A4) (g6:o6.guard=some (3,false)) (d6:o6.dst=some t6)
  (h7:o7.op=.pick (.tmp t3) (.const (.bool true)) (.tmp t6)) (g7:o7.guard=none) (d7:o7.dst=some t7)
  (h8:o8.op=.assign (.tmp t7)) (g8:o8.guard=none) (d8:o8.dst=some t8)
  (hn:t0<n/\t1<n/\t2<n/\t3<n/\t4<n/\t5<n/\t6<n/\t7<n/\t8<n)
  (x:ev E G=some (.pointer (some ⟨b',c',none⟩)))
  (W:∀z0 z1 z2 z3,ev ((t3,z3)::(t2,z2)::(t1,z1)::(t0,z0)::E) G=some (.pointer (some ⟨b',c',none⟩)))
  (a:t3≠t4/\t3≠t5/\t3≠t6)
  (hA:P.underlying O=some dA) (i:E4 dA=false) (C:mD P L V=some k') (j:w.cell? ⟨b',c'+k',none⟩=some (.string s1))
  (h:∀E',(∀t,t∉[t0,t1,t2,t3,t4,t5,t6,t7,t8]->lk E' t=lk E t)->lk E' t8=some (.bool (gx .eql s1 u||gx .eql s1 u1))->NX n (Q .normal) E' w) :
  WL n P #[o0,o1,o2,o3,o4,o5,o6,o7,o8] Q [o0,o1,o2,o3,o4,o5,o6,o7,o8] E w:=by
 obtain⟨p,r,y,z,n4,n5,n6,n7,n8⟩:=hn;have l:∀t v (F:List (Nat×Value)),lk ((t,v)::F) t=some v:=fun t v F=>by simp[lk]
 have f:∀{t H v} {F:List (Nat×Value)},t≠H->lk ((H,v)::F) t=lk F t:=fun {t H v F} X=>by
  simp only[lk];cases I:Nat.beq H t with
  |false=>rfl
  |true=>exact absurd (gI I).symm X
 refine fD g0 d0 (br (ho:=h0) (hx:=x) C) p ?_;refine fD g1 d1 (bz (ho:=h1) (hx:=(l _ _ _)) hA (hd:=i) j) r ?_;refine fD g2 d2 (Ci h2 (l _ _ _) rfl) y ?_;refine fD g3 g (aI (ho:=h3) (hx:=(l _ _ _))) z ?_;have y:∀(J:List (Nat×Value)) (t:Nat),t∉[t0,t1,t2,t3,t4,t5,t6,t7,t8]->(∀p∈J,p.1∈[t0,t1,t2,t3,t4,t5,t6,t7,t8])->lk (J++E) t=lk E t:=by
  intro J t z;induction J with
  |nil=>intro _;rfl
  |cons p r ih=> intro r;obtain⟨H,J⟩:=p;have h1:H∈[t0,t1,t2,t3,t4,t5,t6,t7,t8]:=r (H,J) (by simp);rw[ia,f (fun e=>z (by rw[e];exact h1))];exact ih fun q p=>r q (by simp[p])
 cases I:gx .eql s1 u with
 |true=> refine WL.no (b:=true) Z (by simpa using g) (by rw[l]) d4 n4 ?_;refine WL.no (b:=true) g5 (by simpa using g) (by rw[f a.1,l]) d5 n5 ?_;refine WL.no (b:=true) g6 (by simpa using g) (by rw[f a.2.1,f a.1,l]) d6 n6 ?_;refine fD g7 d7 (nu h7 (by show lk _ _=_;rw[f a.2.2,f a.2.1,f a.1,l]) rfl) n7 ?_;refine fD g8 d8 (bN (ho:=h8) (hx:=(l _ _ _))) n8 (WL.nil (h _ (fun t z=> ?_) (by rw[l,I];rfl)));exact y [_,_,_,_,_,_,_,_,_] t z (by simp)
 |false=> refine wO (b:=false) Z (by simpa using g) (by rw[l]) d4 (br (ho:=h4) (hx:=(W _ _ _ _)) C) n4 ?_;refine wO (b:=false) g5 (by simpa using g) (by rw[f a.1,l]) d5 (bz (ho:=h5) (hx:=(l _ _ _)) hA (hd:=i) j) n5 ?_;refine wO (b:=false) g6 (by simpa using g) (by rw[f a.2.1,f a.1,l]) d6 (Ci h6 (l _ _ _) rfl) n6 ?_;refine fD g7 d7 (pR h7 (by show lk _ _=_;rw[f a.2.2,f a.2.1,f a.1,l]) (l _ _ _)) n7 ?_;refine fD g8 d8 (bN (ho:=h8) (hx:=(l _ _ _))) n8 (WL.nil (h _ (fun t z=> ?_) (by rw[l,I,Rb])));exact y [_,_,_,_,_,_,_,_,_] t z (by simp)
end
end
section
variable {n:Nat}{P:Program}{ops:Array Oper}{Q:Exit->Act->World->Prop}{E E':List (Nat×Value)}{w w':World}{o:Oper}{rest:List Oper}{v:Value}{d:Nat}
def ah(r:eI n P E o w v w')(h:WL n P ops Q rest ((d,v)::E) w')(hg:o.guard=none:=by rfl)(hd:o.dst=some d:=by rfl)(a:d<n:=by decide):WL n P ops Q (o::rest) E w:=fD hg hd r a h
def fY(r:eI n P E o w v w')(h:WL n P ops Q rest ((d,v)::E) w')(hg:o.guard=some (j,b):=by rfl)(f:(ops[j]?).bind (·.dst)=some e:=by rfl)(hb:lk E e=some (.bool b):=by rfl)(hd:o.dst=some d:=by rfl)(a:d<n:=by decide):WL n P ops Q (o::rest) E w:=wO hg f hb hd r a h
def dO(h:WL n P ops Q rest ((d,undef)::E) w)(hg:o.guard=some (j,!b):=by rfl)(f:(ops[j]?).bind (·.dst)=some e:=by rfl)(hb:lk E e=some (.bool b):=by rfl)(hd:o.dst=some d:=by rfl)(a:d<n:=by decide):WL n P ops Q (o::rest) E w:=WL.no hg f hb hd a h
def dD{R:Ending->World->Prop}(hC:Calls P f args w R)(h:∀e w',R e w'->∃v,e=.returned v/\WL n P ops Q rest ((d,v)::E) w')(r:zx n P E o w f args:=by exact sE (by kernel_rfl) rfl rfl rfl)(hg:o.guard=none:=by rfl)(hd:o.dst=some d:=by rfl)(a:d<n:=by decide):WL n P ops Q (o::rest) E w:=WL.c hg hd r a hC h
def wN{R:Ending->World->Prop}(hC:Calls P f args w R)(h:∀e w',R e w'->∃v,e=.returned v/\WL n P ops Q rest ((d,v)::E) w')(r:zx n P E o w f args:=by exact sE (by kernel_rfl) rfl rfl rfl)(hg:o.guard=some (j,b):=by rfl)(g:(ops[j]?).bind (·.dst)=some e:=by rfl)(hb:lk E e=some (.bool b):=by rfl)(hd:o.dst=some d:=by rfl)(a:d<n:=by decide):WL n P ops Q (o::rest) E w:=axe hg g hb hd r a hC h
def bn{y:Code}(h:CW n P y Q E w):WL n P ops (Exit.then (y.wp P Q) a) [] E w:=WL.nil (aL h)
def aO{id:Nat}{y:Code}(h:WL n P l.toArray (Exit.then (y.wp P Q) Q) l E w):CW n P (.seq (.region id l.toArray false) y) Q E w:=CW.seq (CW.region h)
class Lf(E:List (Nat×Value))(n:Nat)(v:outParam Value):Prop
instance {m:Nat}{u:Value}[Lf E d v]:Lf ((m,u)::E) d v:=⟨⟩
instance :Lf ((d,v)::E) d v:=⟨⟩
class Pk(E:List (Nat×Value))(l:List Nat)(E':outParam (List (Nat×Value))):Prop
instance :Pk E [] []:=⟨⟩
instance {l:List Nat}[Lf E d v][Pk E l E']:Pk E (d::l) ((d,v)::E'):=⟨⟩
def avo{c:Code}(h:CW n P c Q E' w)(a:tf E E':=by((repeat refine And.intro rfl ?_);exact trivial)):CW n P c Q E w:=CW.sub a h
def CW.sl{c:Code}(l:List Nat)[Pk E l E'](h:CW n P c Q E' w)(a:tf E E':=by((repeat refine And.intro rfl ?_);exact trivial)):CW n P c Q E w:=CW.sub a h
end
def BM(M:Addr->Prop)(N:Nat->Prop):Addr->Prop:=fun q=>M q\/N q.block
structure OR(M:Addr->Prop)(N:Nat->Prop)(w:World)(T:TypeId)(m:Nat)(rows:List (List D))(v:Value):Prop where
 hn:∀r∈rows,r.length=m
 ex:∃xs,w.ownsRow 0 T m v rows.length xs/\(∀x,v.ownBlock=some x->N x)/\∀i j r d,rows[i]? =some r->r[j]? =some d->∃u,xs[i*m+j]? =some u/\u.oneCell'=true/\R w (BM M N) d u
def aFh{w w':World}{B T:Nat}{xs:List Value}(h:w.ownsRow B T m v n xs)(hb:∀x,v.ownBlock=some x->w'.heap[x]? =w.heap[x]?):w'.ownsRow B T m v n xs:=by
 obtain⟨a,h|⟨g,cap,r,e,f,i,j⟩⟩:=h
 ·exact⟨a,.inl h⟩
 ·exact⟨a,.inr ⟨g,cap,r,e,f,by rw[hb g (by rw[e];rfl)];exact i,j⟩⟩
section
variable {M:Addr->Prop}{N N':Nat->Prop}{w w':World}{T m:Nat}{rows:List (List D)}{v:Value}
def BM.below(hb:Below w.heap.size w w')(e:∀x,N' x->N x\/w.heap.size<=x):bQ w (BM M N) w' (BM M N') :=
 bQ.below hb fun q f a=>a.imp id fun a=>(e _ a).elim id fun h=>by omega
def BM.one(ho:bU w w' g)(hg:N g):bQ w (BM M N) w' (BM M N):=fun p u h a=>⟨by
 have f:w'.heap[p.block]? =w.heap[p.block]? :=ho.block p.block fun e=>a (.inr (by show N p.block;rw[e];exact hg));unfold World.cell? at h ⊢;rw[f];exact h,a⟩
def OR.nil:OR M N w T m [] (.slice none 0 0):=⟨fun r h=>(by cases h),[],World.ownsRow_nil _ _ _ _,fun x a=>(by cases a),fun i j r d e=>by simp at e⟩
def OR.keep(h:OR M N w T m rows v)(hb:∀x,v.ownBlock=some x->w'.heap[x]? =w.heap[x]?)(a:bQ w (BM M N) w' (BM M N'))(e:∀x,v.ownBlock=some x->N' x):OR M N' w' T m rows v:=by obtain⟨f,g,l,y,p⟩:=h;refine⟨f,g,aFh l hb,e,fun i j r d q t=> ?_⟩;obtain⟨u,q1,q2,q3⟩:=p i j r d q t;exact⟨u,q1,q2,R.keep a _ _ q3⟩
def OR.lt(h:OR M N w T m rows v):∀x,v.ownBlock=some x->N x/\x<w.heap.size:=fun x a=>by obtain⟨g,i,e,f,j⟩:=h;exact⟨f x a,(e.lt x a).2⟩
def OR.len(h:OR M N w T m rows v):∃a c,v=.slice a rows.length c/\rows.length<=c:=by
 obtain⟨e,x,⟨_,⟨rfl,h⟩|⟨g,cap,r,rfl,_,_,h,_⟩⟩,_⟩:=h
 ·exact⟨_,_,by rw[h],by rw[h];exact fW _⟩
 ·exact⟨_,_,rfl,h⟩
def OR.below(h:OR M N w T m rows v)(hb:Below w.heap.size w w')(f:∀x,N' x->N x\/w.heap.size<=x)(a:∀x,N x->N' x):OR M N' w' T m rows v :=
 h.keep (fun x e=>hb.block x (h.lt x e).2) (BM.below hb f) fun x e=>a x (h.lt x e).1
def OR.one(h:OR M N w T m rows v)(ho:bU w w' g)(hg:N g)(a:v.ownBlock≠some g):OR M N w' T m rows v :=
 h.keep (fun x f=>ho.block x fun e=>a (by rw[<-e];exact f)) (BM.one ho hg) fun x f=>(h.lt x f).1
def OR.row(h:OR M N w T m rows v){i:Nat}{r:List D}(l:rows[i]? =some r):∃(b cap:Nat) (us:List Value),v=.slice (some ⟨b,0,none⟩) rows.length cap/\us.length=m/\(∀j u,us[j]? =some u->w.cell? ((⟨b,i*m,none⟩:Addr).add j)=some u)/\(∀u∈us,u.oneCell'=true)/\Rs w (BM M N) r us:=by
 obtain⟨q,t,y,L,z⟩:=h;have C:=(dh.1 l).1;obtain⟨O,⟨rfl,V⟩|⟨b,cap,F,rfl,W,G,X,Y,Z,H⟩⟩:=y
 ·omega
 have a:=q r (jB l);have key:∀(k:Nat),k<=m->∃us:List Value,us.length=m-k/\(∀(j:Nat) (u:Value),us[j]? =some u->t[i*m+(k+j)]? =some u)/\(∀u∈us,u.oneCell'=true)/\Rs w (BM M N) (r.drop k) us:=by
  intro k;induction a:m-k generalizing k with
  |zero=>
   intro p;obtain rfl:k=m:=by omega
   exact⟨[],rfl,fun j u f=>by simp at f,fun u f=>by simp at f,by rw[Iv (by omega)];rfl⟩
  |succ n ih=>
   intro p;obtain⟨us,q1,q2,q3,q4⟩:=ih (k+1) (by omega) (by omega);have g:k<r.length:=by omega
   obtain⟨u,s1,I,J⟩:=z i k r r[k] l (bX g);refine⟨u::us,by simp[q1],fun j x a=> ?_,fun x a=> ?_,?_⟩
   ·cases j with
    |zero=>simp at a;subst a;exact s1
    |succ j=> rw[Y6]at a;have:=q2 j x a;rw[show k+(j+1)=k+1+j by omega];exact this
   ·rcases fI.1 a with e|e
    ·rw[e];exact I
    ·exact q3 x e
   ·rw[List.drop_eq_getElem_cons g];exact⟨u,us,rfl,J,q4⟩
 obtain⟨us,q1,q2,q3,q4⟩:=key 0 (by omega);refine⟨b,cap,us,rfl,by omega,fun j u f=> ?_,q3,by simpa using q4⟩;have a:=q2 j u f;rw[nJ]at a;rw[tU];unfold World.cell?;simp only[G];rw[<-H,qk]at a;split at a
 ·simpa using a
 ·cases a
def OR.read(h:OR M N w T m rows v):R w (fun _=>False) (.sl rows) v:=by
 obtain⟨a,C,e,F,f⟩:=id h;obtain⟨G,⟨rfl,z⟩|⟨b,cap,g,rfl,H,p,l,q,I,t⟩⟩:=e
 ·have:rows=[]:=mO z;subst this;exact⟨none,0,0,rfl,rfl,bM _,fW _,fun _=>rfl,fun b o s h=>by cases h⟩
 ·refine Jx a rfl l q (fun _=>rfl) fun i j r d x y=> ?_;obtain⟨u,q1,q2,q3⟩:=f i j r d x y;refine⟨u,?_,id,R.zero q3⟩;rw[nJ];unfold World.cell?;simp only[p];rw[<-t,qk]at q1;split at q1
  ·simpa using q1
  ·cases q1
def OR.put{b:Nat}(h:OR M N w T m rows (.slice (some ⟨b,0,none⟩) rows.length cap)){i:Nat}{r:List D}{us:List Value}(hi:i<rows.length)(Z:r.length=m)(p:us.length=m)(t:∀u∈us,u.oneCell'=true)(hR:∀(j:Nat) (d:D),r[j]? =some d->∃u,us[j]? =some u/\R w (BM M N) d u)
  (hw:∀T C,aA w b T C->aA w' b T (iF C (i*m) us)) (ho:bU w w' b):OR M N w' T m (rows.set i r) (.slice (some ⟨b,0,none⟩) rows.length cap):=by
 have J:N b:=(h.lt b rfl).1;obtain⟨Y,x,y,X,h6⟩:=h;have kp:bQ w (BM M N) w' (BM M N):=BM.one ho J;obtain⟨G,⟨H,z⟩|⟨b',f,a,H,p1,l,J,p4,W,g⟩⟩:=y
 ·cases H
 simp only[fE,aS,kC,yf,wV]at H;obtain⟨rfl,rfl⟩:=H;have f:i*m+m<=rows.length*m:=by have:(i+1)*m<=rows.length*m:=mw _ (by omega);rw[iK,oG]at this;exact this
 have f:rows.length*m<=a.size:=by rw[W];exact mw _ J
 have z:=hw T a l;have L:(iF a (i*m) us).toList.take (rows.length*m)=x.take (i*m)++us++x.drop (i*m+m):=by
  have f:a.toList.take (i*m)=x.take (i*m):=by rw[<-g,List.take_take];congr 1;omega
  apply zB;intro k;rw[qk];by_cases O:k<rows.length*m
  ·rw[aC O];have l:x.length=rows.length*m:=G;have F:x[k]? =a[k]? :=by rw[<-g,qk,aC O,sY]
   rw[sY,adH];by_cases a:k<i*m
   ·rw[aw (by omega),iY,mP (by rw[lG];omega),qk,aC a,F]
   ·by_cases a:k<i*m+m
    ·rw[aC (by rw[p];omega),iY,nH (by rw[lG];omega),lG,Rx (by omega),mP (by omega)]
    ·rw[aw (by rw[p];omega),nH (by rw[iZ,lG];omega),iZ,lG,Rx (by omega),p,yd, <-F];congr 1;omega
  ·rw[aw O,nI];rw[iZ,iZ,lG,Mf,p];have l:x.length=rows.length*m:=G;omega
 have V:(x.take (i*m)++us++x.drop (i*m+m)).length=rows.length*m:=by have l:x.length=rows.length*m:=G;rw[iZ,iZ,lG,Mf,p];omega
 refine⟨fun q y=> ?_,x.take (i*m)++us++x.drop (i*m+m),?_,X,fun g j a d f I=> ?_⟩
 ·rcases sZ y with h|h
  ·exact Y q h
  ·rw[h];exact Z
 ·rw[uX];exact⟨V,.inr ⟨b,cap,_,rfl,p1,z,J,p4,by rw[Kr];exact W,L⟩⟩
 ·have l:x.length=rows.length*m:=G;by_cases e:g=i
  ·subst e;rw[Rg hi]at f;cases f;have W:j<m:=by rw[<-Z];exact(dh.1 I).1
   obtain⟨u,s1,X⟩:=hR j d I;refine⟨u,?_,t u (jB s1),R.keep kp _ _ X⟩;rw[iY,nH (by rw[lG];omega),lG,Rx (by omega),mP (by omega),show g*m+j-g*m=j by omega];exact s1
  ·rw[Me (fun h=>e h.symm)]at f;have W:j<m:=by rw[<-Y a (jB f)];exact(dh.1 I).1
   obtain⟨u,s1,X,l⟩:=h6 g j a d f I;refine⟨u,?_,X,R.keep kp _ _ l⟩;rcases dP g i with Y|a
   ·have:(g+1)*m<=i*m:=mw _ Y;rw[iK,oG]at this;rw[iY,mP (by rw[lG];omega),qk,aC (by omega)];exact s1
   ·have:(i+1)*m<=g*m:=mw _ (by omega);rw[iK,oG]at this;rw[nH (by rw[iZ,lG];omega),iZ,lG,Rx (by omega),p,yd,show i*m+m+(g*m+j-(i*m+m))=g*m+j by omega];exact s1
end
def or_append{P:Program}{G ty:TypeId}{ti:TypeInfo}{y:Nat}(ht:P.underlying G=some (.slice T))(H:P.info? T=some ti)(hz:ti.zero=some z)(I:ti.size=m)(J:ti.bytes=y)(L:z.cells.size=m)(hm:0<m)
  {N:Nat->Prop} {w:World} {rows:List (List D)} {v:Value} (h1:OR M N w T m rows v) (hNw:∀x,N x->x<w.heap.size) {r:List D} {us:List Value} {a:Addr} {c:Nat} (hr:r.length=m) (hu:us.length=m) (hR:∀(j:Nat) (d:D),r[j]? =some d->∃u,us[j]? =some u/\R w (BM M N) d u) (l:∀j u,us[j]? =some u->w.cell? (a.add j)=some u) (f:∀u∈us,u.oneCell'=true) (hl:rows.length<1048576) (O:y<=1024) :
  ∃g w',(Builtin.append_ #[G,G] ty #[v,.slice (some a) 1 c]).run P w=.ok g w'/\OR M (fun x=>N x\/g.ownBlock=some x) w' T m (rows++[r]) g/\w.grownBy w' v.ownBlock/\(g.ownBlock=v.ownBlock\/g.ownBlock=some w.heap.size):=by
 have p:=h1.lt;obtain⟨hn,V,t,Y,h3⟩:=h1;have C:(rows.length+1)*y<=140737488355328:=dK (Zc (show rows.length+1<=1048576 by omega) O) (by decide);obtain⟨g,w',q1,q2,q3,_,q5⟩:=run_append_own_at (P:=P) w 0 G ty T ti z m y ht H hz I J L hm v rows.length V t a 1 c us (by omega) l f (by unfold maxLen;omega) C (fW _);have kp:bQ w (BM M N) w' (BM M fun x=>N x\/g.ownBlock=some x):=fun p u W F=>by
  have X:=gm W;have q:¬N p.block:=fun h=>F (.inr h);have C:w'.heap[p.block]? =w.heap[p.block]? :=q3.block p.block X fun e=>q (Y _ e.symm);refine⟨by unfold World.cell? at W ⊢;rw[C];exact W,fun h=>h.elim (fun h=>F (.inl h)) fun h=>h.elim q fun h=> ?_⟩;rcases q5 with e|e
  ·exact q (Y _ (by rw[<-e];exact h))
  ·rw[e]at h;have p:=iR h;omega
 have Y:V.length=rows.length*m:=t.1;refine⟨g,w',q1,⟨fun Z p=> ?_,V++us,by simpa using q2,fun x g=>.inr g,fun i j Z d t q=> ?_⟩,q3,q5⟩
 ·rcases iJ.1 p with h|h
  ·exact hn Z h
  ·rw[mQ]at h;rw[h];exact hr
 ·by_cases g:i<rows.length
  ·rw[mP g]at t;obtain⟨u,s1,g,p⟩:=h3 i j Z d t q;exact⟨u,by rw[mP (dh.1 s1).1];exact s1,g,R.keep kp _ _ p⟩
  ·rw[nH (by omega)]at t;have p:i-rows.length=0:=by have:=(dh.1 t).1;simp at this;omega
   rw[p]at t;simp at t;subst t;obtain rfl:i=rows.length:=by omega
   obtain⟨u,s1,g⟩:=hR j d q;refine⟨u,?_,f u (jB s1),R.keep kp _ _ g⟩;rw[nH (by omega),Y,show rows.length*m+j-rows.length*m=j by omega];exact s1
section
variable {n:Nat}{P:Program}{ops:Array Oper}{Q:Exit->Act->World->Prop}{E:List (Nat×Value)}{w w':World}{o:Oper}{rest:List Oper}
def aFK{b off:Nat}(ho:o.op=.store T x y)(hx:ev E x=some (.pointer (some ⟨b,off,none⟩)))(g:ev E y=some (.agg cs))(h:(P.info? T).map (·.size)=some cs.size)(e:∀u∈cs.toList,u.oneCell'=true)(hC:off+cs.size<=C.size)(hb:aA w b t C) :
  ∃w',CU n P E o w w'/\aA w' b t (iF C off cs.toList)/\bU w w' b:=by
 simp only[kN]at h;obtain⟨i,j,l⟩:=h;obtain⟨w',p,q,r⟩:=Eb (P:=P) b t cs.toList w C off 0 hb e (by simp;omega);refine⟨w',fun a f=> ?_,q,r⟩;have z:(storeVar T ⟨b,off,none⟩ (.agg cs)).run P w=.ok () w':=by simp only[storeVar,Value.cells,lS,run_sizeOf j,uZ,l];simp[p]
 simp[execOp,ho,f.ev hx,f.ev g,Instr.storeAt,Instr.sureAddr,z]
def VS{N:Nat->Prop}{b i len:Nat}{rows:List (List D)}{r:List D}(ho:o.op=.store T x y)(hx:ev E x=some (.pointer (some ⟨b,i*m,none⟩)))(I:ev E y=some (.agg cs))(W:OR M N w t m rows (.slice (some ⟨b,0,none⟩) len cap))(J:i<rows.length)(L:r.length=m)(F:cs.size=m)
  (h:∀u∈cs.toList,u.oneCell'=true) (O:Rs w (BM M N) r cs.toList) (z:(P.info? T).map (·.size)=some m) :
  ∃w',CU n P E o w w'/\OR M N w' t m (rows.set i r) (.slice (some ⟨b,0,none⟩) len cap)/\bU w w' b:=by
 obtain rfl:len=rows.length:=by obtain⟨_,_,e,_⟩:=W.len;simp only[fE]at e;exact e.2.1
 obtain⟨a,g,f,V,j⟩:=id W;obtain⟨a,⟨l,j⟩|⟨b',G,g,l,H,p,X,q,C,Y⟩⟩:=f
 ·cases l
 simp only[fE,aS,kC,yf,wV]at l;obtain⟨rfl,rfl⟩:=l;have Y:i*m+m<=g.size:=by have Z:(i+1)*m<=rows.length*m:=mw _ (by omega);have V:rows.length*m<=cap*m:=mw _ X;rw[iK,oG]at Z;omega
 obtain⟨w',q1,q2,q3⟩:=aFK (n:=n) (P:=P) (E:=E) ho hx I (by rw[F];exact z) h (by omega) p;refine⟨w',q1,W.put J L (by simpa using F) h (fun j d a=> ?_) (fun f l G=> ?_) q3,q3⟩
 ·have key:∀(r:List D) (q:List Value),Rs w (BM M N) r q->∀(j:Nat) (d:D),r[j]? =some d->∃u,q[j]? =some u/\R w (BM M N) d u:=by
   intro r;induction r with
   |nil=>intro q _ j d a;simp at a
   |cons C r ih=>
    rintro q ⟨u,C,rfl,H,p⟩ j d a;cases j with
    |zero=>simp at a;subst a;exact⟨u,rfl,H⟩
    |succ j=>exact ih C p j d a
  exact key r _ O j d a
 ·have:(Obj.cells l f (0,0))=.cells g t (0,0):=by have:=G.symm.trans p;simpa using this
  cases this;exact q2
end
def lQ.ok(v:lQ):Bool:=decide (0<=v.l8)&&decide (v.l8<=99)&&decide (0<=v.min)&&decide (v.min<=99)
def ahG(v:lQ):aH az 140 none [enc v] (.bool v.ok) []:=by refine cu aqg aoS (by simp[aoS,fO,bG,dH,enc,Ej]) fun h=> ?_;simp only[aqg,gS,MT];simp[bg,lQ.ok]
def lQ.cmp(v u:lQ):Int:=if v.l8<u.l8\/(v.l8=u.l8/\v.min<u.min)then -1 else if v.l8=u.l8/\v.min=u.min then 0 else 1
end
section
def yI(f:Int):Bool:=decide (0<=f)&&decide (f<=63)
def ak8{f:Int}(h:yI f=true):∃n:Nat,f=n/\n<64:=by unfold yI at h;simp at h;exact⟨f.toNat,by omega,by omega⟩
def ay5(a b c d:Int):Int:=if a<c\/(a=c/\b<d)then -1 else if a=c/\b=d then 0 else 1
def aHe:Nat->Int|0=>1|1=>1|2=>1|3=>1|4=>2|5=>2|_=>0
def aHf:Nat->Int|0=>0|1=>0|2=>1|3=>2|4=>0|5=>1|_=>0
def aLw(a b:Int)(k:Nat):Bool:=decide (ay5 (aHe k) (aHf k) a b<=0)
end
section
open Go.RowKit Go
variable [GC]
def ahy(v:lQ):aH az 108 none [enc v] (.bool v.ok) []:=by refine cu apl aoL (by simp[aoL,fO,bG,dH,enc,Ej]) fun h=> ?_;simp only[apl,gS,MT];simp[bg,lQ.ok]
def axL(v u:lQ):aH az 155 none [enc v,enc u] (.int .i64 (v.cmp u)) []:=by
 refine cu ao7 aoJ (by simp[aoJ,fO,bG,dH,enc,Ej]) fun h=> ?_;simp only[ao7,gS,MT];simp[bg,mU,Js,lQ.cmp]
 (repeat' split)<;>omega
def ZI(f:Int):aH az 131 none [.int .i64 f] (.bool (yI f)) []:=by refine cu apf aoK (by simp[aoK,fO,bG,dH,cJ]) fun h=> ?_;simp only[apf,gS];simp[bg,yI]
def ag3:∀k:Fin 6,dL .shl .i64 1 ((k:Nat):Int)=((2^(k:Nat):Nat):Int):=by decide +kernel
def axz:∀n:Fin 64,∀k:Fin 6,bg .eql (dL .rem .i64 (dL .shr .i64 ((n:Nat):Int) ((k:Nat):Int)) 2) 1=n.val.testBit k.val:=by decide +kernel
end
section
open Go.RowKit
end
section
open Go.RowKit Go
variable [GC]
def MP(m k:Nat)(e:m<64)(f:k<6):aH az 77 none [.int .i64 m,.int .i64 k] (.bool (m.testBit k)) []:=by
 refine cu aqQ aoW (by simp[aoW,fO,bG,dH,cJ]) fun h=> ?_;unfold aqQ;refine aM (fun _=> ?_) (aM (fun _=>rfl) (ay ?_))
 ·simp[E.den,bg]
 have a:=axz ⟨m,e⟩ ⟨k,f⟩;simp only at a;simp only[E.den,tW,tV,gQ,a]
def ZW(f:Int):aH az 76 none [.int .i64 f] (.bool (yI f)) []:=by refine cu aqa aoR (by simp[aoR,fO,bG,dH,cJ]) fun h=> ?_;simp only[aqa,gS];simp[bg,yI]
def cw(a b:Int):Bool:=yI a&&yI b&&bg .eql (dL .andNot .i64 b a) 0
def Ti(a b:Int):aH az 94 none [.int .i64 a,.int .i64 b] (.bool (cw a b)) []:=by
 refine cu aps aoM (by simp[aoM,fO,bG,dH,cJ]) fun h=> ?_;unfold aps
 (apply FF;(focus (simp only[gS];try exact rfl));(focus (exact ZI a));(focus (simp[fO,bG,dH,cJ,bD,lE,enc]));(simp only[cA]))
 (apply FF;(focus (simp only[gS];try exact rfl));(focus (exact ZI b));(focus (simp[fO,bG,dH,cJ,bD,lE,enc]));(simp only[cA]))
 exact ay rfl
def ZR(rows:List (List D))(r:dc aJ.tab (aJ.tab 5) rows):aH az 4 none [.sl rows] (.bool (decide ((rows.length:Int)>4096))) []:=by refine cu aKw aIQ ⟨r,trivial⟩ fun h=> ?_;exact ay rfl
def qA(s:ByteArray)(k:Nat):Bool:=(decide (97<=Di s k)&&decide (Di s k<=122))||(!(k==0)&&(decide (48<=Di s k)&&decide (Di s k<=57)))
def kX(s:ByteArray):Bool:=decide (1<=s.size)&&decide (s.size<=8)&&dW (qA s) s.size
def ayy(b:Int)(f:Bool):aH az 160 none [.int .u8 b,.bool f] (.bool ((decide (97<=b)&&decide (b<=122))||(!f&&(decide (48<=b)&&decide (b<=57))))) []:=by refine cu aqH aJD ⟨rfl,trivial,trivial⟩ fun h=> ?_;unfold aqH;refine ay ?_;simp[E.den,bg,Q9]
def MN(s:ByteArray):aH az 138 none [.str s] (.bool (kX s)) []:=by
 refine cu aqc aJa ⟨trivial,trivial⟩ fun f=> ?_;have l:=aiX f.1;unfold aqc;refine cQ s.size (fun k=>[.int .i64 k]) (fun k=>dW (qA s) k=true) rfl rfl ?_;intro k g I _;simp only[cA];apply ai<;>intro h<;>simp only[eS]at h
 ·have h:k<s.size:=by simp at h;exact h
  refine eu ?_;refine aF (ayy (Di s k) ((k:Int)==0)) ?_ (ha:=by(simp only[gS,aha,Z5,gR];try exact rfl));apply ai<;>intro a<;>simp only[eS]at a
  ·have e:qA s k=false:=by simp at a;simp[qA];omega
   refine ay ?_;simp[E.den,kX,qm h e]
  ·have e:qA s k=true:=by simp at a;simp[qA];omega
   refine cK h ?_ (show(dW (qA s) k&&qA s k)=true by rw[I,e];rfl);simp only[eS];rw[bC];rfl
 ·obtain rfl:k=s.size:=by simp at h;omega
  refine ay ?_;simp only[kX,I,Ra];simp only[eS];congr 1;grind
def I2(s:ByteArray):aH az 107 none [.str s] (.bool (kX s)) []:=by
 refine cu aph aIg ⟨trivial,trivial⟩ fun f=> ?_;have l:=aiX f.1;unfold aph;refine eu ?_;refine eu ?_;apply ai<;>intro h<;>simp only[eS]at h
 ·refine ay ?_;simp only[E.den,D.bool.injEq];by_cases j:1<=s.size/\s.size<=8
  ·have g:qA s 0=false:=by simp at h;simp[qA];omega
   simp[kX,qm (show 0<s.size by omega) g]
  ·have:(decide (1<=s.size)&&decide (s.size<=8))=false:=by simp;omega
   simp[kX,this]
 have j:1<=s.size/\s.size<=8:=by grind
 refine cQ s.size (fun k=>[.int .i64 k]) (fun k=>dW (qA s) k=true) rfl rfl ?_;intro k p I _;simp only[cA];apply ai<;>intro a<;>simp only[eS]at a
 ·have a:k<s.size:=by simp at a;exact a
  refine eu ?_;refine eu ?_;refine eu ?_;refine eu ?_;apply ai<;>intro i<;>simp only[eS]at i
  ·have g:qA s k=false:=by simp at i;simp[qA];omega
   refine ay ?_;simp[E.den,kX,qm a g]
  ·have g:qA s k=true:=by
    simp at h i;by_cases e:k=0
    ·subst e;simp[qA];omega
    ·simp[qA];omega
   refine cK a ?_ (show(dW (qA s) k&&qA s k)=true by rw[I,g];rfl);simp only[eS];rw[bC];rfl
 ·obtain rfl:k=s.size:=by simp at a;omega
  refine ay ?_;simp[E.den,kX,I,j]
def gL(n:Int):Bool:=decide (0<=n)&&decide (n<=999)
def ML(n:Int):aH az 126 none [.int .i64 n] (.bool (gL n)) []:=by refine cu aKv aIH ⟨rfl,trivial⟩ fun h=> ?_;exact ay (by simp[E.den,bg,gL])
def kinds:List ByteArray:=[⟨#[115,116,111,110,101]⟩,⟨#[108,97,109,112]⟩,⟨#[115,104,101,108,102]⟩,⟨#[109,101,116,101,114]⟩,⟨#[100,114,97,119,101,114]⟩,⟨#[104,111,114,110]⟩,⟨#[118,97,117,108,116]⟩,⟨#[114,111,98,111,116]⟩]
def DM:List Nat:=[0,1,2,5,3,9,19,63]
def BQ(s:ByteArray):Option Nat:=if s=nth kinds 0 then some 0 else if s=nth kinds 1 then some 1 else if s=nth kinds 2 then some 2 else if s=nth kinds 3 then some 3 else if s=nth kinds 4 then some 4 else if s=nth kinds 5 then some 5 else if s=nth kinds 6 then some 6 else if s=nth kinds 7 then some 7 else none
def fR(s:ByteArray):Nat:=match BQ s with|some k=>DM.getD k 0|none=>0
def kindOk(s:ByteArray):Bool:=(BQ s).isSome
def DN(s:ByteArray):fR s<64:=by
 unfold fR;split
 ·rename_i k _;by_cases h:k<8
  ·obtain rfl|rfl|rfl|rfl|rfl|rfl|rfl|rfl:k=0\/k=1\/k=2\/k=3\/k=4\/k=5\/k=6\/k=7:=by omega
   all_goals decide
  ·rw[List.getD,nI (by simp[DM];omega)];decide
 ·decide
def ali{s:ByteArray}(h:∀j,j<8->nth kinds j≠s):BQ s=none:=by unfold BQ;rw[aw (fun e=>h 0 (by omega) e.symm),aw (fun e=>h 1 (by omega) e.symm),aw (fun e=>h 2 (by omega) e.symm),aw (fun e=>h 3 (by omega) e.symm),aw (fun e=>h 4 (by omega) e.symm),aw (fun e=>h 5 (by omega) e.symm),aw (fun e=>h 6 (by omega) e.symm),aw (fun e=>h 7 (by omega) e.symm)]
def eight{k:Nat}(h:k<8):k=0\/k=1\/k=2\/k=3\/k=4\/k=5\/k=6\/k=7:=by omega
def ZL(s:ByteArray):aH az 129 none [.str s] (.aU [.int .i64 (fR s),.bool (kindOk s)]) []:=by
 refine cu apm aIk ⟨trivial,trivial⟩ fun f=> ?_;clear f;unfold apm;refine ai (fun h=> ?_) (fun a=> ?_)
 ·simp only[eS]at h;simp at h;subst h;exact ay rfl
 refine ai (fun h=> ?_) (fun g=> ?_)
 ·simp only[eS]at h;simp at h;subst h;exact ay rfl
 refine ai (fun h=> ?_) (fun i=> ?_)
 ·simp only[eS]at h;simp at h;subst h;exact ay rfl
 refine ai (fun h=> ?_) (fun l=> ?_)
 ·simp only[eS]at h;simp at h;subst h;exact ay rfl
 refine ai (fun h=> ?_) (fun p=> ?_)
 ·simp only[eS]at h;simp at h;subst h;exact ay rfl
 refine ai (fun h=> ?_) (fun q=> ?_)
 ·simp only[eS]at h;simp at h;subst h;exact ay rfl
 refine ai (fun h=> ?_) (fun r=> ?_)
 ·simp only[eS]at h;simp at h;subst h;exact ay rfl
 refine ai (fun h=> ?_) (fun t=> ?_)
 ·simp only[eS]at h;simp at h;subst h;exact ay rfl
 simp only[eS]at a g i l p q r t;simp at a g i l p q r t;have x:BQ s=none:=ali fun j y=>by obtain rfl|rfl|rfl|rfl|rfl|rfl|rfl|rfl:=eight y;all_goals (intro e;first|exact a e.symm|exact g e.symm|exact i e.symm|exact l e.symm|exact p e.symm|exact q e.symm|exact r e.symm|exact t e.symm)
 exact ay (by simp[E.den,fR,kindOk,x])
def alj:∀k:Fin 8,BQ (nth kinds k.val)=some k.val:=by decide +kernel
def Vp:E:=.put (.put (.put (.put (.put (.put (.put (.put (.jf 9) (.aq (.ls ⟨#[115,116,111,110,101]⟩))) (.aq (.ls ⟨#[108,97,109,112]⟩))) (.aq (.ls ⟨#[115,104,101,108,102]⟩))) (.aq (.ls ⟨#[109,101,116,101,114]⟩))) (.aq (.ls ⟨#[100,114,97,119,101,114]⟩))) (.aq (.ls ⟨#[104,111,114,110]⟩))) (.aq (.ls ⟨#[118,97,117,108,116]⟩))) (.aq (.ls ⟨#[114,111,98,111,116]⟩))
def acD:E:=.put (.put (.put (.put (.put (.put (.put (.put (.jf 3) (.aq (.li .i64 0))) (.aq (.li .i64 1))) (.aq (.li .i64 2))) (.aq (.li .i64 5))) (.aq (.li .i64 3))) (.aq (.li .i64 9))) (.aq (.li .i64 19))) (.aq (.li .i64 63))
def acC(env:List D):Vp.den env=aj kinds:=rfl
def alk(env:List D):acD.den env=aj (DM.map fun (n:Nat)=>(n:Int)):=rfl
def I5(s:ByteArray):aH az 119 none [.str s] (.aU [.int .i64 (fR s),.bool (kindOk s)]) []:=by
 refine cu aKA aJf ⟨trivial,trivial⟩ fun f=> ?_;clear f;show VC.den _ _ (.loop [.one (.c (.int .i64))] [.li .i64 0] (.ite (.ic .lss (.var 1) (.len Vp)) (.rq (.cond [] (.bI Vp (.var 1))) (.ite (.sc .eql (.cell (.row [.str] Vp (.var 1)) 0) (.var 0)) (.rq (.cond [] (.bI acD (.var 1))) (.ret (.bp (.bp .zi (.cell (.row [.int .i64] acD (.var 1)) 0)) (.lb true)) [])) (.again 0 [.ar .add .i64 (.var 1) (.li .i64 1)]))) (.ret (.bp (.bp .zi (.li .i64 0)) (.lb false)) []))) _ _ _;have i:kinds.length=8:=rfl;refine cQ 8 (fun k=>[.int .i64 k]) (fun k=>∀j,j<k->nth kinds j≠s) rfl (by omega) ?_;intro k l I _;simp only[cA];apply ai<;>intro a<;>simp only[eS,acC,i]at a
 ·have a:k<8:=by simp at a;omega
  refine aM (fun _=> ?_) ?_
  ·simp only[eS,acC,i];simp;omega
  apply ai<;>intro e<;>simp only[eS,acC,gZ,eO]at e
  ·simp at e;refine aM (fun _=> ?_) ?_
   ·simp only[eS,alk,di];simp[DM];omega
   refine ay ?_;simp only[eS,alk,anv,ahZ];have g:BQ s=some k:=by rw[<-e];exact alj ⟨k,a⟩
   simp only[fR,kindOk,g];obtain rfl|rfl|rfl|rfl|rfl|rfl|rfl|rfl:k=0\/k=1\/k=2\/k=3\/k=4\/k=5\/k=6\/k=7:=by omega
   all_goals rfl
  ·simp at e;refine cK a ?_ fun j p=> ?_
   ·simp only[eS];rw[bC];rfl
   ·rcases dP j k with h|h
    ·exact I j h
    ·obtain rfl:j=k:=by omega
     exact e
 ·obtain rfl:k=8:=by simp at a;omega
  refine ay ?_;have g:=ali I;simp[E.den,fR,kindOk,g]
def ak:List ByteArray:=[⟨#[112,108,97,105,110]⟩,⟨#[114,117,110,115]⟩,⟨#[107,101,101,112,115]⟩,⟨#[99,111,117,110,116,115]⟩,⟨#[108,97,122,121]⟩,⟨#[114,101,97,100,115]⟩,⟨#[104,101,97,114,115]⟩,⟨#[104,101,97,108,115]⟩,⟨#[116,119,105,99,101]⟩]
def DP:List Nat:=[0,1,2,2,3,2,1,1,4]
def Gw:List Nat:=[0,1,2,6,3,2,9,33,4]
def zY(s:ByteArray):Option Nat:=if s=nth ak 0 then some 0 else if s=nth ak 1 then some 1 else if s=nth ak 2 then some 2 else if s=nth ak 3 then some 3 else if s=nth ak 4 then some 4 else if s=nth ak 5 then some 5 else if s=nth ak 6 then some 6 else if s=nth ak 7 then some 7 else if s=nth ak 8 then some 8 else none
def mK(s:ByteArray):Nat:=match zY s with|some k=>DP.getD k 0|none=>0
def qW(s:ByteArray):Nat:=match zY s with|some k=>Gw.getD k 0|none=>0
def pM(s:ByteArray):Bool:=(zY s).isSome
def nine{k:Nat}(h:k<9):k=0\/k=1\/k=2\/k=3\/k=4\/k=5\/k=6\/k=7\/k=8:=by omega
def aAh(s:ByteArray):qW s<64:=by
 unfold qW;split
 ·rename_i k _;by_cases h:k<9
  ·obtain rfl|rfl|rfl|rfl|rfl|rfl|rfl|rfl|rfl:=nine h;all_goals decide
  ·rw[List.getD,nI (by simp[Gw];omega)];decide
 ·decide
def alo{s:ByteArray}(h:∀j,j<9->nth ak j≠s):zY s=none:=by unfold zY;rw[aw (fun e=>h 0 (by omega) e.symm),aw (fun e=>h 1 (by omega) e.symm),aw (fun e=>h 2 (by omega) e.symm),aw (fun e=>h 3 (by omega) e.symm),aw (fun e=>h 4 (by omega) e.symm),aw (fun e=>h 5 (by omega) e.symm),aw (fun e=>h 6 (by omega) e.symm),aw (fun e=>h 7 (by omega) e.symm),aw (fun e=>h 8 (by omega) e.symm)]
def Vr:∀k:Fin 9,zY (nth ak k.val)=some k.val:=by decide +kernel
def tD(s:ByteArray):D:=.aU [.int .i64 (mK s),.int .i64 (qW s),.bool (pM s)]
def ZQ(s:ByteArray):aH az 125 none [.str s] (tD s) []:=by
 refine cu apL aIJ ⟨trivial,trivial⟩ fun f=> ?_;clear f;unfold apL;refine ai (fun h=> ?_) (fun a=> ?_)
 ·simp only[eS]at h;simp at h;subst h;exact ay rfl
 refine ai (fun h=> ?_) (fun g=> ?_)
 ·simp only[eS]at h;simp at h;subst h;exact ay rfl
 refine ai (fun h=> ?_) (fun i=> ?_)
 ·refine ai (fun _=> ?_) (fun y=> ?_)
  ·simp only[eS]at h;simp at h;subst h;exact ay rfl
  ·rw[h]at y;cases y
 refine ai (fun h=> ?_) (fun l=> ?_)
 ·simp only[eS]at h;simp at h;subst h;exact ay rfl
 refine ai (fun h=> ?_) (fun p=> ?_)
 ·simp only[eS]at h;simp at h;subst h;exact ay rfl
 refine ai (fun h=> ?_) (fun q=> ?_)
 ·simp only[eS]at h;simp at h;subst h;exact ay rfl
 refine ai (fun h=> ?_) (fun r=> ?_)
 ·simp only[eS]at h;simp at h;subst h;exact ay rfl
 refine ai (fun h=> ?_) (fun t=> ?_)
 ·simp only[eS]at h;simp at h;subst h;exact ay rfl
 refine ai (fun h=> ?_) (fun x=> ?_)
 ·simp only[eS]at h;simp at h;subst h;exact ay rfl
 simp only[eS]at a g i l p q r t x;simp at a g i l p q r t x;have z:zY s=none:=alo fun j C=>by obtain rfl|rfl|rfl|rfl|rfl|rfl|rfl|rfl|rfl:=nine C;all_goals (intro e;first|exact a e.symm|exact g e.symm|exact i e.symm|exact l e.symm|exact p e.symm|exact q e.symm|exact r e.symm|exact t e.symm|exact x e.symm)
 exact ay (by simp[E.den,tD,mK,qW,pM,z])
def Vs:E:=.put (.put (.put (.put (.put (.put (.put (.put (.put (.jf 9) (.aq (.ls ⟨#[112,108,97,105,110]⟩))) (.aq (.ls ⟨#[114,117,110,115]⟩))) (.aq (.ls ⟨#[107,101,101,112,115]⟩))) (.aq (.ls ⟨#[99,111,117,110,116,115]⟩))) (.aq (.ls ⟨#[108,97,122,121]⟩))) (.aq (.ls ⟨#[114,101,97,100,115]⟩))) (.aq (.ls ⟨#[104,101,97,114,115]⟩))) (.aq (.ls ⟨#[104,101,97,108,115]⟩))) (.aq (.ls ⟨#[116,119,105,99,101]⟩))
def acH:E:=.put (.put (.put (.put (.put (.put (.put (.put (.put (.jf 3) (.aq (.li .i64 0))) (.aq (.li .i64 1))) (.aq (.li .i64 2))) (.aq (.li .i64 2))) (.aq (.li .i64 3))) (.aq (.li .i64 2))) (.aq (.li .i64 1))) (.aq (.li .i64 1))) (.aq (.li .i64 4))
def acG:E:=.put (.put (.put (.put (.put (.put (.put (.put (.put (.jf 3) (.aq (.li .i64 0))) (.aq (.li .i64 1))) (.aq (.li .i64 2))) (.aq (.li .i64 6))) (.aq (.li .i64 3))) (.aq (.li .i64 2))) (.aq (.li .i64 9))) (.aq (.li .i64 33))) (.aq (.li .i64 4))
def acF(env:List D):Vs.den env=aj ak:=rfl
def alq(env:List D):acH.den env=aj (DP.map fun (n:Nat)=>(n:Int)):=rfl
def alp(env:List D):acG.den env=aj (Gw.map fun (n:Nat)=>(n:Int)):=rfl
def Z1(s:ByteArray):aH az 120 none [.str s] (tD s) []:=by
 refine cu aKB aJ4 ⟨trivial,trivial⟩ fun f=> ?_;clear f;show VC.den _ _ (.loop [.one (.c (.int .i64))] [.li .i64 0] (.ite (.ic .lss (.var 1) (.len Vs)) (.rq (.cond [] (.bI Vs (.var 1))) (.ite (.sc .eql (.cell (.row [.str] Vs (.var 1)) 0) (.var 0)) (.rq (.cond [] (.bI acH (.var 1))) (.rq (.cond [] (.bI acG (.var 1))) (.ret (.bp (.bp (.bp .zi (.cell (.row [.int .i64] acH (.var 1)) 0)) (.cell (.row [.int .i64] acG (.var 1)) 0)) (.lb true)) []))) (.again 0 [.ar .add .i64 (.var 1) (.li .i64 1)]))) (.ret (.bp (.bp (.bp .zi (.li .i64 0)) (.li .i64 0)) (.lb false)) []))) _ _ _;have i:ak.length=9:=rfl;refine cQ 9 (fun k=>[.int .i64 k]) (fun k=>∀j,j<k->nth ak j≠s) rfl (by omega) ?_;intro k l I _;simp only[cA];apply ai<;>intro a<;>simp only[eS,acF,i]at a
 ·have a:k<9:=by simp at a;omega
  refine aM (fun _=> ?_) ?_
  ·simp only[eS,acF,i];simp;omega
  apply ai<;>intro e<;>simp only[eS,acF,gZ,eO]at e
  ·simp at e;refine aM (fun _=> ?_) (aM (fun _=> ?_) ?_)
   ·simp only[eS,alq,di];simp[DP];omega
   ·simp only[eS,alp,di];simp[Gw];omega
   refine ay ?_;simp only[eS,alq,alp,anv,ahZ];have g:zY s=some k:=by rw[<-e];exact Vr ⟨k,a⟩
   simp only[tD,mK,qW,pM,g];obtain rfl|rfl|rfl|rfl|rfl|rfl|rfl|rfl|rfl:=nine a;all_goals rfl
  ·simp at e;refine cK a ?_ fun j p=> ?_
   ·simp only[eS];rw[bC];rfl
   ·rcases dP j k with h|h
    ·exact I j h
    ·obtain rfl:j=k:=by omega
     exact e
 ·obtain rfl:k=9:=by simp at a;omega
  refine ay ?_;have g:=alo I;simp[E.den,tD,mK,qW,pM,g]
def ahH(s:ByteArray):aH az 136 none [.str s] (.aU [.int .i64 (mK s),.bool (pM s)]) []:=by refine cu aqi aJg ⟨trivial,trivial⟩ fun h=> ?_;unfold aqi;refine aF (Z1 s) ?_;exact ay rfl
def aE4:∀n m:Fin 64,((List.range 6).all fun k=> !(m.val.testBit k&& !n.val.testBit k))=decide (m.val &&& n.val=m.val):=by decide +kernel
def aE5:∀n m:Fin 64,bg .eql (dL .andNot .i64 ((m.val:Nat):Int) ((n.val:Nat):Int)) 0=decide (m.val &&& n.val=m.val):=by decide +kernel
def wW(a b:Int):aH az 42 none [.int .i64 a,.int .i64 b] (.bool (cw a b)) []:=by
 refine cu aqr aJp ⟨rfl,rfl,trivial⟩ fun t=> ?_;unfold aqr;refine aF (ZW a) ?_;refine aF (ZW b) ?_;apply ai<;>intro h<;>simp only[eS]at h
 ·refine ay ?_;simp only[E.den,D.bool.injEq];unfold cw;grind
 have l:yI a=true:=by grind
 have p:yI b=true:=by grind
 obtain⟨n,rfl,f⟩:=ak8 l;obtain⟨m,rfl,g⟩:=ak8 p;have r:cw (n:Int) (m:Int)=((List.range 6).all fun k=> !(m.testBit k&& !n.testBit k)):=by unfold cw;rw[l,p,oC,oC,aE5 ⟨n,f⟩ ⟨m,g⟩,aE4 ⟨n,f⟩ ⟨m,g⟩]
 rw[r];refine cQ 6 (fun k=>[.int .i64 k]) (fun k=>∀j,j<k->(!(m.testBit j&& !n.testBit j))=true) rfl (by omega) ?_;intro k x I _;simp only[cA];apply ai<;>intro e<;>simp only[eS]at e
 ·have e:k<6:=by simp at e;omega
  refine aF (MP m k g e) ?_;refine aF (MP n k f e) ?_;apply ai<;>intro i<;>simp only[eS]at i
  ·refine ay ?_;simp only[E.den,D.bool.injEq];symm;rw[List.all_eq_false];exact⟨k,by simpa using e,by rw[i];simp⟩
  ·refine cK e ?_ fun j q=> ?_
   ·simp only[eS];rw[bC];rfl
   ·rcases dP j k with h|h
    ·exact I j h
    ·obtain rfl:j=k:=by omega
     rw[i];rfl
 ·obtain rfl:k=6:=by simp at e;omega
  refine ay ?_;simp only[E.den,D.bool.injEq];symm;rw[fH];intro j q;exact I j (by simpa using q)
end
end Go.Proofs.YtoomhbopolalnabGreatDoor
