/- Walk: a call within the layers of a part in a box (through). -/
import Derived.Test.YtoomhbopolalnabGreatDoorT17
set_option linter.all false
set_option maxRecDepth 100000
namespace Go.Proofs.YtoomhbopolalnabGreatDoor
variable {n:Nat}{P:Program}{b w:World}
section
open Go.RowKit Go
variable [GC]
def fN(r:gH):Array Value:=#[.int .i64 r.code,.int .i64 r.val,.string r.text,.int .i64 r.want,.int .i64 r.had]
def VQ{m:ByteArray}(h:m.size<=maxLen):Ib (bK m):=⟨h,show cL.size<=maxLen by unfold maxLen;decide,show IntKind.i64.min<=(0:Int)/\(0:Int)<=IntKind.i64.max by decide,show cL.size<4294967281 by decide⟩
def dr.one{K:Nat->Prop}{a c:World}{g:Nat}(h:dr K a b)(ho:bU b c g)(hg:K g\/a.heap.size<=g):dr K a c :=
  ⟨ho.os.trans h.os,ho.tape.trans h.tape,ho.output.trans h.output,by rw[ho.size];exact h.size,fun i j f=>(ho.block i (fun e=>by rcases hg with hg|hg;exact f (e▸hg);omega)).trans (h.block i j f)⟩
def jI(r:gH):∀u∈(fN r).toList,u.oneCell'=true:=by intro u h;simp[fN]at h;rcases h with rfl|rfl|rfl|rfl|rfl<;>rfl
def Ef(w:World)(b o k:Nat)(x:Call):List (Nat×Value) :=
  [(3,.pointer (some ⟨w.heap.size,0,none⟩)),(4,.pointer (some ⟨w.heap.size+1,0,none⟩)),(5,.pointer (some ⟨w.heap.size+1+1,0,none⟩)),(6,.pointer (some ⟨w.heap.size+1+1+1,0,none⟩)),
   (7,.pointer (some ⟨b,o+k*2,none⟩)),(8,.func (.func 133) #[] #[.pointer (some ⟨w.heap.size,0,none⟩),.pointer (some ⟨w.heap.size+1,0,none⟩)]),(9,.bool (iB x))]
def Ni:mD Tryz.prog 87 0=some 0:=by kernel_rfl
def Bm:mD Tryz.prog 87 1=some 5:=by kernel_rfl
def vJ:mD Tryz.prog 31 0=some 0:=by kernel_rfl
def aaS:mD Tryz.prog 31 2=some 2:=by kernel_rfl
def Dt:mD Tryz.prog 151 0=some 0:=by kernel_rfl
def Jy:mD Tryz.prog 151 1=some 1:=by kernel_rfl
def FR:mD Tryz.prog 102 0=some 0:=by kernel_rfl
def ai2:mD Tryz.prog 102 1=some 1:=by kernel_rfl
def Dq:vD Tryz.prog 85=some 2:=by kernel_rfl
def mJ:(Tryz.prog.info? 102).bind (·.zero)=some (.agg eW):=by kernel_rfl
def cz:(Tryz.prog.info? 102).map (·.size)=some 5:=by kernel_rfl
def uC:(Tryz.prog.info? 31).map (·.size)=some 4:=by kernel_rfl
def acA:(Tryz.prog.info? 3).map (·.size)=some 1:=by kernel_rfl
def ahg(v:Int):uk Tryz.prog 102 [(1,.int .i64 v)]=some (fN (rep 0 v 0 0)):=by kernel_rfl
def ZB(v:Int):uk Tryz.prog 102 [(0,.int .i64 v)]=some (fN (rep v 0 0 0)):=by kernel_rfl
def ayM:rW Tryz.prog 132=true:=by kernel_rfl
def ayN:rW Tryz.prog 95=true:=by kernel_rfl
def CW.tail{Q:Exit->Act->World->Prop}{E:List (Nat×Value)}{id:Nat}{l:List Oper}(m:Nat)(c:P.follows .mixedOrders=true)(B:Region.lexTailB .any l.toArray m=true)
    (h:∀b:World,b.heap=w.heap->Below w.heap.size w b->WS n P l.toArray b (fun e=>wpList P l.toArray Q (l.drop m) e b) (l.take m) E):CW n P (.region id l.toArray true) Q E w:=fun a f=>
  aFY m c B fun b g j=>h b g j a f
def axh{Q:Exit->Act->World->Prop}{E:List (Nat×Value)}{ops:Array Oper}{rest:List Oper}(h:WL n P ops Q rest E b):WS n P ops b (fun c=>wpList P ops Q rest c b) [] E:=fun a e=>wpStill_nil (h a e)
end
variable {a:Act}{i:Nat}{v:Value}
section
open Go
section
variable {P:Program}{ops:Array Oper}{Q:Exit->Act->World->Prop}{md:Region.Mode}{S:World->Prop}{s:Nat}
def uf(P:Program)(md:Region.Mode)(ops:Array Oper)(Q:Exit->Act->World->Prop)(S:World->Prop)(s:Nat):Nat->Array Bool->Act->World->Prop
 |0,L,a,w=>Region.ready md ops L=[]/\Q .normal a w
 |n+1,L,a,w=>(Region.ready md ops L=[]->Q .normal a w) /\
  ∀i∈Region.ready md ops L,wpOp P ops Q i (fun b w'=>(i≠s->S w')/\uf P md ops Q S s n (L.setIfInBounds i true) b w') a w
def ag5:∀(n:Nat) (L:Array Bool) (a:Act) (w:World),uf P md ops Q S s n L a w->wpAny P md ops Q n L a w
 |0,_,_,_,h=>h
 |n+1,_,_,_,h=>⟨h.1,fun i b=>wpOp_mono (fun c w' e=>ag5 n _ c w' e.2) (h.2 i b)⟩
def Ic(md:Region.Mode)(ops:Array Oper)(L:Array Bool):Prop :=
 ∀k ok,ops[k]? =some ok->L.getD k false=true->∀e∈ok.after,Region.binds md e=true->L.getD e.on false=true
def Ic.put{L:Array Bool}(h:Ic md ops L){i:Nat}(m:i∈Region.ready md ops L):Ic md ops (L.setIfInBounds i true):=fun k ok b c e f g=>by
 by_cases a:i=k
 ·subst a;obtain⟨_,o,j,l⟩:=mem_ready.1 m;rw[b]at j;cases j;exact getD_set_true (l e f g)
 ·rw[getD_set_ne false a]at c;exact getD_set_true (h k ok b c e f g)
def MV(md:Region.Mode)(ops:Array Oper)(L:Array Bool):Bool :=
 (List.range ops.size).all fun k=> !(L.getD k false)||((ops[k]?).map fun o=>o.after.all fun e=> !Region.binds md e||L.getD e.on false).getD true
def ayZ{L:Array Bool}(h:MV md ops L=true):Ic md ops L:=fun k ok a l e c f=>by have b:=fH.1 h k (oF.2 (rS.1 a).1);simp only[l,a,Bool.not_true,Rb,j6,j0]at b;have g:=Q6.1 b e c;simpa[f]using g
def preB(md:Region.Mode)(ops:Array Oper):Nat->Nat->Nat->Bool
 |0,_,_=>false
 |n+1,i,s=>match ops[s]? with
  |none=>false
  |some o=>o.after.any fun e=>Region.binds md e&&(e.on==i||preB md ops n i e.on)
def aFt{L:Array Bool}(g:Ic md ops L){i:Nat}:∀(n s:Nat),preB md ops n i s=true ->
  (∀o,ops[s]? =some o->∀e∈o.after,Region.binds md e=true->L.getD e.on false=true)->L.getD i false=true:=by
 intro n;induction n with
 |zero=>intro s h;cases h
 |succ n ih=>
  intro s h j;simp only[preB]at h;cases a:ops[s]? with
  |none=>rw[a]at h;cases h
  |some o=>
   rw[a]at h;obtain⟨e,m,b⟩:=Array.any_eq_true'.1 h;simp only[aX,jM,vf]at b;have l:=j o a e m b.1;rcases b.2 with c|c
   ·rw[<-c];exact l
   ·exact ih e.on c (fun p f=>g e.on p f l)
def axl{y:Oper}(N:ops[i]? =some y)(p:∀(j:Nat) (o:Oper) cs b,ops[j]? =some o->o.op≠.select cs b)
  (Y:∀c a w,Q (.panic c) (a.put y.dst v) w->Q (.panic c) a w) (Z:i≠s) (m:Nat) (hp:preB md ops m i s=true) :
  ∀(n:Nat) (L:Array Bool) (a:Act) (w:World),
   (∀j q,ops[j]? =some q->j≠i->L.getD j true=false->(∀e∈q.after,Region.binds md e=true->e.on≠i)->y.apart ops q=true) ->
   i∈Region.ready md ops L->YieldsIf P ops S y v a->S w->Ic md ops L ->
   uf P md ops Q S s n (L.setIfInBounds i true) (a.put y.dst v) w->uf P md ops Q S s (n+1) L a w:=by
 intro n;induction n with
 |zero=>
  intro L a w _ x J B _ H;refine⟨fun h=>(by rw[h]at x;cases x),fun j z=> ?_⟩;by_cases f:j=i
  ·subst f;exact J.wpOp N B ⟨fun _=>B,H⟩
  ·have:=ready_mono z f;rw[H.1]at this;cases this
 |succ n ih=>
  intro L a w r x J B W H;refine⟨fun h=>(by rw[h]at x;cases x),fun j z=> ?_⟩;by_cases f:j=i
  ·subst f;exact J.wpOp N B ⟨fun _=>B,H⟩
  ·have C:=(mem_ready.1 x).1;have F:L.getD i false≠true:=fun A=>by
    rcases dP i L.size with O|O
    ·simp[O]at C A;rw[C]at A;cases A
    ·simp[E5 O]at A
   have T:j≠s:=fun e=>by subst e;obtain⟨_,q,g,l⟩:=mem_ready.1 z;exact F (aFt W m j hp (fun o X=>by rw[g]at X;cases X;exact l))
   have A:=H.2 j (ready_mono z f);obtain⟨u,q,g,l⟩:=mem_ready.1 z;have G:∀e∈q.after,Region.binds md e=true->e.on≠i:=fun e t B heq=>F (by rw[<-heq];exact l e t B);have l:=wpOp_putIf g (r j q g f u G) (fun cs b=>p i y cs b N) (fun cs b=>p j q cs b g) Y J A;refine wpOp_mono (fun g w' M=>⟨M.2.1,ih (L.setIfInBounds j true) g w' (fun k ok q U t V=> ?_) (ready_mono x (ye f)) M.1 (M.2.1 T) (W.put z) ?_⟩) l
   ·refine r k ok q U ?_ V;by_cases I:j=k
    ·subst I;exact u
    ·rw[getD_set_ne true I]at t;exact t
   ·rw[Array.setIfInBounds_comm _ _ f];exact M.2.2
def axm{b:Oper}{L:Array Bool}(e:ops.toList[i]? =some b)
  (f:Region.noSelect ops=true) (g:Region.free md ops L i=true) (r:(Region.ready md ops L).contains i=true)
  (p:(preB md ops 30 i s&& !(i==s)&&MV md ops L)=true)
  (j:∀c a w,Q (.panic c) (a.put b.dst v) w->Q (.panic c) a w) (y:YieldsIf P ops S b v a) (l:S w)
  (h:uf P md ops Q S s n (L.setIfInBounds i true) (a.put b.dst v) w):uf P md ops Q S s (n+1) L a w:=by
 simp only[aX,qi,Zw]at p;exact axl (by rw[<-sY];exact e) (Region.noSelect_spec f) j p.1.2 30 p.1.1 n L a w (Region.free_spec (by rw[<-sY];exact e) g) (by simpa using r) y l (ayZ p.2) h
def Ip(P:Program)(md:Region.Mode)(ops:Array Oper)(Q:Exit->Act->World->Prop)(S:World->Prop)(s n:Nat)(L:Array Bool)(a:Act)(w:World)(i:Nat)(o:Oper):Prop :=
 ∀b:Act->World->Prop,(∀c w',(i≠s->S w')->((i≠s->S w')->uf P md ops Q S s n (L.setIfInBounds i true) c w')->b c w') ->
  if Region.wanted o (yielded ops a.tmps)=true then Oper.wp P o a w b Q else b (a.put o.dst undef) w
def Ip.op{o:Oper}{L:Array Bool}(ho:ops[i]? =some o)
  (h:Ip P md ops Q S s n L a w i o):wpOp P ops Q i (fun b w'=>(i≠s->S w')/\uf P md ops Q S s n (L.setIfInBounds i true) b w') a w:=by
 have:=h (fun b w'=>(i≠s->S w')/\uf P md ops Q S s n (L.setIfInBounds i true) b w') (fun b w' e f=>⟨e,f e⟩);unfold wpOp;rw[ho];show if Region.wanted o (yielded ops a.tmps)=true then _ else _;split
 ·rename_i c;rw[aC c]at this;exact .inl this
 ·rename_i c;rw[aw c]at this;exact this
def IX{o:Oper}{L:Array Bool}(ho:ops.toList[i]? =some o)(r:Region.ready md ops L=[i])
  (h:Ip P md ops Q S s n L a w i o):uf P md ops Q S s (n+1) L a w :=
 ⟨fun e=>(by rw[r]at e;cases e),fun j c=>by have b:=c;rw[r]at b;cases mQ.1 b;exact h.op (by rw[<-sY];exact ho)⟩
def axk{L:Array Bool}(r:Region.ready md ops L=[])(h:Q .normal a w):∀n,uf P md ops Q S s n L a w
 |0=>⟨r,h⟩
 |_+1=>⟨fun _=>h,by rw[r];simp⟩
def aLa{id:Nat}(S:World->Prop)(s:Nat)(m:P.follows .mixedOrders=true)(b:S w.drew)
  (h:S w.drew->uf P .any ops Q S s ops.size (Array.replicate ops.size false) a w.drew):(Code.region id ops true).wp P Q a w :=
 wp_region_any m (ag5 _ _ _ _ (h b))
end
end
variable {M:Addr->Prop}{y:TypeId}
section
open Go.RowKit Go
variable [GC]
section
variable {n:Nat}{P:Program}{ops:Array Oper}{Q:Exit->Act->World->Prop}{S:World->Prop}{s k:Nat}{L:Array Bool}{E:List (Nat×Value)}{w w':World}{i d:Nat}{o:Oper}{v:Value}
def AU(n:Nat)(P:Program)(ops:Array Oper)(Q:Exit->Act->World->Prop)(S:World->Prop)(s k:Nat)(L:Array Bool)(E:List (Nat×Value))(w:World):Prop:=∀a,Env n a E->uf P .any ops Q S s k L a w
def CW.any{id:Nat}{l:List Oper}(S:World->Prop)(s:Nat)(m:P.follows .mixedOrders=true)(h:∀b:World,b.heap=w.heap->Below w.heap.size w b->S b/\AU n P l.toArray Q S s l.toArray.size (Array.replicate l.toArray.size false) E b):CW n P (.region id l.toArray true) Q E w:=fun a e=>by have c:=h w.drew rfl ⟨rfl,rfl,rfl,bM _,fun _ _=>rfl⟩;exact aLa S s m c.1 fun _=>c.2 a e
def AU.take(i:Nat)(f:ops.toList[i]? =some o)(g:Region.noSelect ops=true)(j:Region.free .any ops L i=true)(l:(Region.ready .any ops L).contains i=true)(p:(preB .any ops 30 i s&& !(i==s)&&MV .any ops L)=true)
  (m:∀c a w,Q (.panic c) (a.put o.dst v) w->Q (.panic c) a w) (hg:o.guard=none) (hd:o.dst=some d) (r:∀W,S W->eI n P E o W v W) (b:d<n) (q:S w) (h:AU n P ops Q S s k (L.setIfInBounds i true) ((d,v)::E) w):AU n P ops Q S s (k+1) L E w:=fun a e=>
 axm f g j l p m (.inl ⟨EL hg _,fun W t=>r W t a e⟩) q (by rw[hd];exact h _ (e.put b v))
def AJ(i:Nat)(ho:ops.toList[i]? =some o)(c:Region.ready .any ops L=[i])(hg:o.guard=none)(hd:o.dst=none)(r:CU n P E o w w')(e:i≠s->S w')(h:AU n P ops Q S s k (L.setIfInBounds i true) E w'):AU n P ops Q S s (k+1) L E w:=fun a b=>
 IX ho c fun g f=>by rw[aC (EL hg _)];unfold Oper.wp;rw[r a b,Zd,hd];exact f _ _ e fun _=>h _ b
def iQ(i:Nat){T:TypeId}{x y:Operand}{b:Nat}{t:TypeId}{C cs:Array Value}(ho:ops.toList[i]? =some o)(c:ev E y=some (.agg cs))(hb:aA w b t C)(e:∀u∈cs.toList,u.oneCell'=true)(z:(P.info? T).map (·.size)=some cs.size)(f:∀w',bU w w' b->i≠s->S w')(h:∀w',aA w' b t cs->bU w w' b->AU n P ops Q S s k (L.setIfInBounds i true) E w')(r:Region.ready .any ops L=[i]:=by kernel_rfl)(hg:o.guard=none:=by rfl)(hd:o.dst=none:=by rfl)(hop:o.op=.store T x y:=by rfl)(hx:ev E x=some (.pointer (some ⟨b,0,none⟩)):=by rfl)(hC:C.size=cs.size:=by rfl):AU n P ops Q S s (k+1) L E w:=by obtain⟨w',g,j,a⟩:=am1 (n:=n) (P:=P) (E:=E) hop hx c z e hC hb;exact AJ i ho r hg hd g (f w' a) (h w' j a)
def avk(i:Nat)(ho:ops.toList[i]? =some o)(e:Region.ready .any ops L=[i])(hg:o.guard=none)(hd:o.dst=some d)(r:eI n P E o w v w')(b:d<n)(f:i≠s->S w')(h:AU n P ops Q S s k (L.setIfInBounds i true) ((d,v)::E) w'):AU n P ops Q S s (k+1) L E w:=fun a c=>
 IX ho e fun j g=>by rw[aC (EL hg _)];unfold Oper.wp;rw[r a c,Mk,hd];exact g _ _ f fun _=>h _ (c.put b v)
def AU.c(i:Nat){f:FuncId}{args:Array Value}{R:Ending->World->Prop}(ho:ops.toList[i]? =some o)(g:Region.ready .any ops L=[i])(hg:o.guard=none)(hd:o.dst=some d)(r:zx n P E o w f args)(b:d<n)(hC:Calls P f args w R)
  (h:∀e w',R e w'->∃v,e=.returned v/\(i≠s->S w')/\AU n P ops Q S s k (L.setIfInBounds i true) ((d,v)::E) w'):AU n P ops Q S s (k+1) L E w:=fun a c=>
 IX ho g fun q j=>by rw[aC (EL hg _)];unfold Oper.wp;rw[r a c];refine hC.mono fun e w' l=> ?_;obtain⟨v,rfl,m,p⟩:=h e w' l;rw[hd];exact j _ _ m fun _=>p _ (c.put b v)
def iH(r:Region.ready .any ops L=[])(h:NX n (Q .normal) E w):AU n P ops Q S s k L E w:=fun a b=>axk r (h a b) k
def bf(i:Nat)(e:ops.toList[i]? =some o)(r:∀W,S W->eI n P E o W v W)(f:S w)(h:AU n P ops Q S s k (L.setIfInBounds i true) ((d,v)::E) w)(g:Region.noSelect ops=true:=by kernel_rfl)(j:Region.free .any ops L i=true:=by kernel_rfl)(l:(Region.ready .any ops L).contains i=true:=by kernel_rfl)(p:(preB .any ops 30 i s&& !(i==s)&&MV .any ops L)=true:=by kernel_rfl)
  (m:∀c a w,Q (.panic c) (a.put o.dst v) w->Q (.panic c) a w:=by exact fun _ _ _ h=>h) (hg:o.guard=none:=by rfl) (hd:o.dst=some d:=by rfl) (b:d<n:=by decide):AU n P ops Q S s (k+1) L E w:=AU.take i e g j l p m hg hd r b f h
def lC(i:Nat)(e:∀c a t v w,Q (.panic c) (Act.put a t v) w->Q (.panic c) a w)(r:∀W,S W->eI n P E o W v W)(f:S w)(h:AU n P ops Q S s k (L.setIfInBounds i true) ((d,v)::E) w)(g:ops.toList[i]? =some o:=by kernel_rfl)(j:Region.noSelect ops=true:=by kernel_rfl)(l:Region.free .any ops L i=true:=by kernel_rfl)(m:(Region.ready .any ops L).contains i=true:=by kernel_rfl)(p:(preB .any ops 30 i s&& !(i==s)&&MV .any ops L)=true:=by kernel_rfl)
  (hg:o.guard=none:=by kernel_rfl) (hd:o.dst=some d:=by kernel_rfl) (b:d<n:=by decide):AU n P ops Q S s (k+1) L E w:=AU.take i g j l m p (fun _ _ _ h=>e _ _ _ _ _ h) hg hd r b f h
def gP(i:Nat)(ho:ops.toList[i]? =some o)(r:eI n P E o w v w')(b:i≠s->S w')(h:AU n P ops Q S s k (L.setIfInBounds i true) ((d,v)::E) w')(c:Region.ready .any ops L=[i]:=by kernel_rfl)(hg:o.guard=none:=by rfl)(hd:o.dst=some d:=by rfl)(a:d<n:=by decide):AU n P ops Q S s (k+1) L E w:=avk i ho c hg hd r a b h
def qK(i:Nat){f:FuncId}{args:Array Value}{R:Ending->World->Prop}(ho:ops.toList[i]? =some o)(hC:Calls P f args w R)
  (h:∀e w',R e w'->∃v,e=.returned v/\(i≠s->S w')/\AU n P ops Q S s k (L.setIfInBounds i true) ((d,v)::E) w') (b:Region.ready .any ops L=[i]:=by kernel_rfl) (r:zx n P E o w f args:=by exact sE (by kernel_rfl) rfl rfl rfl) (hg:o.guard=none:=by rfl) (hd:o.dst=some d:=by rfl) (a:d<n:=by decide):AU n P ops Q S s (k+1) L E w:=AU.c i ho b hg hd r a hC h
end
def VX{r:gH}(h1:IntKind.i64.min<=r.code/\r.code<=IntKind.i64.max)(h2:IntKind.i64.min<=r.val/\r.val<=IntKind.i64.max)(h:r.text.size<=maxLen)(a:IntKind.i64.min<=r.want/\r.want<=IntKind.i64.max)(b:IntKind.i64.min<=r.had/\r.had<=IntKind.i64.max):R w M (enc r) (anl r) :=
 ⟨_,rfl,⟨_,_,rfl,⟨rfl,h1⟩,_,_,rfl,⟨rfl,h2⟩,_,_,rfl,⟨rfl,h⟩,_,_,rfl,⟨rfl,a⟩,_,_,rfl,⟨rfl,b⟩,rfl⟩⟩
def aF3{fn:Func}{p u:Tmp}{ty:TypeId}(h:fn.results=#[.cell p ty,.cell u y])(tmps:Array Value)(w:World){g b:Nat}{t x:TypeId}{cs c:Array Value}(d e:TypeDesc)
  (z:tmps.getD p undef=.pointer (some ⟨g,0,none⟩)) (hg:aA w g t cs) (A:P.underlying ty=some d) (hd:(match d with|.struct _|.array _ _=>true|_=>false)=true) (B:(P.info? ty).map (·.size)=some cs.size)
  (f:tmps.getD u undef=.pointer (some ⟨b,0,none⟩)) (j:aA w b x c) (l:P.underlying y=some e) (m:(match e with|.struct _|.array _ _=>true|_=>false)=true) (q:(P.info? y).map (·.size)=some c.size) :
  (results fn tmps).run P w=.ok (.tuple #[.agg cs,.agg c]) w:=by
 have r:tmps[p]?.getD undef=.pointer (some ⟨g,0,none⟩):=by simpa using z
 have a:tmps[u]?.getD undef=.pointer (some ⟨b,0,none⟩):=by simpa using f
 simp[results,h,r,a,asAddr,IU w g t ty cs (0,0) d hg A hd B,IU w b x y c (0,0) e j l m q,lS,Result.andThen]
def DW{p:Part}(h:R w M (enc p) v):∃a b,v=.agg #[.string p.core.kind,.bool p.core.on,.bool p.core.broken,a,.int .i64 p.core.count,b]/\R w M (aj p.core.cells) a/\R w M (aj p.ak) b/\p.core.kind.size<=maxLen/\(IntKind.i64.min<=p.core.count/\p.core.count<=IntKind.i64.max):=by
 obtain⟨f,rfl,v0,r0,g,⟨rfl,j⟩,v1,r1,rfl,rfl,r,r2,rfl,rfl,c,r3,rfl,l,v4,r4,rfl,⟨rfl,m⟩,e,r5,rfl,q,rfl⟩:=h;have:f=#[.string p.core.kind,.bool p.core.on,.bool p.core.broken,c,.int .i64 p.core.count,e]:=by rw[<-iX,g]
 exact⟨c,e,by rw[this],l,q,j,m⟩
def Z3{x:Call}(h:R w M (enc x) v):v=lJ x/\x.method.size<=maxLen/\x.key.size<=maxLen/\(IntKind.i64.min<=x.val/\x.val<=IntKind.i64.max):=by
 obtain⟨c,rfl,v0,r0,e,⟨rfl,a⟩,v1,r1,rfl,⟨rfl,b⟩,g,r2,rfl,⟨rfl,f⟩,j,r3,rfl,⟨rfl,l⟩,rfl⟩:=h;have:c=#[.string x.method,.string x.key,.int .i64 x.val,.string x.text]:=by rw[<-iX,e]
 exact⟨by rw[this];rfl,a,b,f⟩
def jK:Array Value:=#[.string ⟨#[]⟩,.bool false,.bool false,.slice none 0 0,.int .i64 0,.slice none 0 0]
def dE(p:Part)(a b:Value):Array Value:=#[.string p.core.kind,.bool p.core.on,.bool p.core.broken,a,.int .i64 p.core.count,b]
def adN(r:gH):Prop:=(0<=r.code/\r.code<=7)/\r.text.size<=100/\r.want=0/\r.had=0
def VY{c v:Int}(h:0<=c/\c<=7):adN (rep c v 0 0):=⟨h,by show(⟨#[]⟩:ByteArray).size<=100;decide,rfl,rfl⟩
def azE(p:Core)(x:Call):adN (fp p x).2:=by
 unfold fp keepD
 (repeat' split)<;>first
  |exact VY (by decide)
  |exact⟨show(0:Int)<=0/\(0:Int)<=7 by decide,by have:=ai0 p.cells;simp only;omega,rfl,rfl⟩
def aoj:∀(k:Nat) (p:Part) (x:Call),adN (bo k p x).2
 |0,p,x=>azE p.core x
 |k+1,p,x=>by
  have ih:=aoj k;rw[bo];split
  ·exact VY (by decide)
  split
  ·exact ih _ _
  split
  ·split
   ·exact ih _ _
   ·exact ih _ _
  split
  ·exact VY (by decide)
  split
  ·split
   ·exact ih _ _
   split
   ·exact ih _ _
   ·exact VY (by decide)
  split
  ·exact ih _ _
  split
  ·have:=ih p x;unfold Pw;simp only;split
   ·exact this
   ·exact this
  ·exact ih _ _
def zu{E:List (Nat×Value)}{fn:Func}{R:Ending->World->Prop}{p u:Tmp}{ty:TypeId}{g r:Nat}{t x:TypeId}{cs c:Array Value}{d b:TypeDesc}(h:fn.results=#[.cell p ty,.cell u y])(z:lk E p=some (.pointer (some ⟨g,0,none⟩)))(e:lk E u=some (.pointer (some ⟨r,0,none⟩)))
  (hg:aA w g t cs) (f:aA w r x c) (A:P.underlying ty=some d) (j:P.underlying y=some b) (hd:(match d with|.struct _|.array _ _=>true|_=>false)=true) (l:(match b with|.struct _|.array _ _=>true|_=>false)=true)
  (B:(P.info? ty).map (·.size)=some cs.size) (m:(P.info? y).map (·.size)=some c.size) (C:R (.returned (.tuple #[.agg cs,.agg c])) w):NX n (bodyPost P fn R .ret) E w :=
 fun a q=>⟨q.df,_,aF3 h a.tmps w d b (q.at' p _ z) hg A hd B (q.at' u _ e) f j l m,C⟩
def ac9(p:Part){a1 a2:Option Addr}{n1 c1 n2 c2:Nat}:∀u∈(dE p (.slice a1 n1 c1) (.slice a2 n2 c2)).toList,u.oneCell'=true:=by intro u h;simp[dE]at h;rcases h with rfl|rfl|rfl|rfl|rfl|rfl<;>rfl
def aiO(p:Part):fq p<64:=zM p _
def rm:(Tryz.prog.info? 87).bind (·.zero)=some (.agg jK):=by kernel_rfl
def cy:(Tryz.prog.info? 87).map (·.size)=some 6:=by kernel_rfl
def axA(a b c:Int):uk Tryz.prog 102 [(0,.int .i64 a),(3,.int .i64 b),(4,.int .i64 c)]=some (fN (rep a 0 b c)):=by kernel_rfl
def awo{c a f:World}{p:Part}{g j:Value}(G:ek c M)(hb:Below c.heap.size c a)(y:R a (fun _=>False) (aj p.core.cells) g)(z:R a (fun _=>False) (aj p.ak) j)(A:QX c.heap.size a g 2)(B:QX c.heap.size a j 2)(C:agh g j)
  (F:p.core.kind.size<=maxLen) (H:IntKind.i64.min<=p.core.count/\p.core.count<=IntKind.i64.max) (U:aA f a.heap.size 87 (dE p g j)) (I:Below a.heap.size a f) (V:a.heap.size<f.heap.size) :
  PB (fun b=>c.heap.size<=b/\b<f.heap.size) f a.heap.size j p/\lF (fun b=>c.heap.size<=b/\b<f.heap.size) f a.heap.size g (GQ p.core.cells)/\(∀b,dV g b->¬dV j b):=by
 have r:R a (fun _=>False) (.sl ((GQ p.core.cells).map uI)) g:=by rw[amM];exact y
 have l:R a (fun _=>False) (.sl ((qD p.ak).map uI)) j:=by rw[amO];exact z
 have q1:=agF (K:=fun b=>c.heap.size<=b/\b<a.heap.size) (g:=a.heap.size) r A (fun b m q=>⟨m,q⟩) (fun b m q=>by omega);have q2:=agF (K:=fun b=>c.heap.size<=b/\b<a.heap.size) (g:=a.heap.size) l B (fun b m q=>⟨m,q⟩) (fun b m q=>by omega);have O:lF (fun b=>c.heap.size<=b/\b<f.heap.size) f a.heap.size g (GQ p.core.cells):=q1.keep (fun b J=>I.block b (q1.out J).2.2) fun b h=>⟨h.1,by have:=h.2;omega⟩;have W:lF (fun b=>c.heap.size<=b/\b<f.heap.size) f a.heap.size j (qD p.ak):=q2.keep (fun b J=>I.block b (q2.out J).2.2) fun b h=>⟨h.1,by have:=h.2;omega⟩;have T:∀b,dV g b->¬dV j b:=fun b ⟨o,s,len,cap,e,X⟩ ⟨Y,Z,t,u,l,N⟩=>C b o s len cap b Y Z t u e X l N rfl;have x:Below c.heap.size c f:=bt hb I;exact⟨⟨⟨G.2.1.keep fun k l=>x.block k (dS l G.2.2),dK G.2.2 x.size⟩,fun b h=>⟨dK G.2.2 h.1,h.2⟩,⟨hb.size,V⟩,⟨g,U,O,T⟩,W,F,H⟩,O,T⟩
end
section
open Go.RowKit
variable [GC]
def I1(rows:List (List D))(k:Nat):Int:=match rows[k]? with
 |some [.int _ n]=>n
 |_=>0
def aHa(h c:Int):Int:=bits .and .i64 (wrap64 (wrap64 (wrap64 (h*167)+c)+29)) 1073741823
def G9(rows:List (List D)):Nat->Int
 |0=>wrap64 (739391+wrap64 (3*rows.length))
 |k+1=>aHa (G9 rows k) (I1 rows k)
def aDw(rows:List (List D))(hty:∀r∈rows,∃n,r=[.int .u8 n])(a:Option Addr)(cap:Nat)(w:World)(hl:rows.length<=maxLen)(hr:∀k,k<rows.length->∃b o,a=some ⟨b,o,none⟩/\w.cell? ⟨b,o+k,none⟩=some (.int .u8 (I1 rows k))/\0<=I1 rows k/\I1 rows k<=255) :
  Calls Tryz.prog 13 #[.slice a rows.length cap] w fun e w'=>∃h:Int,∃n:Nat,n=min rows.length 4000/\h=G9 rows n/\e=.returned (.pointer (some ⟨w.heap.size,0,none⟩))/\w'.heap[w.heap.size]? =some (.cells #[.slice a rows.length cap,.int .i64 0,.int .i64 h] 70 (0,0))/\Below w.heap.size w w':=by
 go_enter Tryz.func13,Tryz.ntmps13;go_wp2_with fail;go_loop [3,4] (fun h i=>∃k:Nat,k<=rows.length/\k<=4000/\i=.int .i64 k/\h=.int .i64 (G9 rows k)) (fun _ i=>4001-(intOf i).toNat)
 case atStart=>exact⟨0,by omega,by omega,rfl,rfl⟩
 case round=>
  obtain⟨k,hk,hk',rfl,rfl⟩:=hrel;by_cases hlt:k<rows.length
  ·obtain⟨b,o,rfl,hc,hb⟩:=hr k hlt;by_cases h4:k<4000
   ·go_wp2;exact⟨⟨k+1,by omega,by omega,by simp,rfl⟩,by simp[intOf];omega⟩
   ·obtain rfl:k=4000:=by omega
    go_wp2;go_ret;refine⟨rfl,?_,by go_grown⟩;exact vg _ _
  ·obtain rfl:k=rows.length:=by omega
   go_wp2;go_ret;refine⟨rfl,?_,by go_grown⟩;exact vg _ _
def aHb(rows:List (List D)):∀n,IntKind.i64.min<=G9 rows n/\G9 rows n<=IntKind.i64.max
 |0=>by
  have e:IntKind.i64.min= -9223372036854775808/\IntKind.i64.max=9223372036854775807:=by decide
  rw[e.1,e.2];unfold G9 wrap64;omega
 |n+1=>by show IntKind.i64.min<=IntKind.i64.wrap _/\IntKind.i64.wrap _<=IntKind.i64.max;exact IV _ _
def ayA(rows:List (List D))(hty:∀r∈rows,∃n,r=[.int .u8 n]):QU Tryz.prog 13 [.sl rows] [.sl rows,.int .i64 0,.int .i64 (G9 rows (min rows.length 4000))]:=by
 refine⟨by kernel_rfl,fun w M U x y=> ?_⟩;have V:=x.1;obtain⟨v,q,rfl,C,rfl⟩:=y;have z:=C;obtain⟨a,len,cap,rfl,l,J,N,f,c⟩:=C;subst l;refine(aDw rows hty a cap w (by omega) fun k F=> ?_).mono ?_
 ·rcases a with _|⟨b,o,s⟩
  ·have:=f rfl;omega
  ·obtain⟨A,B⟩:=c b o s rfl;have A:=A (by omega);subst A;have g:rows[k]? =some rows[k]:=bX F;obtain⟨n,G⟩:=hty rows[k] (qj F);have H:=B.get (n:=1) (fun r y=>by obtain⟨m,rfl⟩:=hty r y;rfl) g;rw[G]at H;obtain⟨⟨u,O,_,T,I⟩,_⟩:=H;subst T;have t:I1 rows k=n:=by unfold I1;rw[g,G]
   rw[t];refine⟨b,o,rfl,by simpa using O,?_⟩;have e:IntKind.u8.min=0/\IntKind.u8.max=255:=by decide
   rw[e.1,e.2]at I;exact I
 ·rintro e w' ⟨h,n,rfl,rfl,rfl,j,t⟩;refine⟨w.heap.size,_,_,rfl,bM _,j,?_,t⟩;refine⟨_,_,rfl,R.keep (bQ.below t fun p W h=> ?_) _ _ z,_,_,rfl,⟨rfl,by decide⟩,_,_,rfl,⟨rfl,aHb _ _⟩,rfl⟩;rcases h with h|h
  ·exact h
  ·omega
end
variable {q:ByteArray->Bool}{r:D}{env':D->List (List D)->Int->Int->List D}{Q:D->List D->Prop}{T:D->Prop}{f:FuncId}{rows:List (List D)}{L:List (List D->Prop)}{t:List (Nat×Nat)}{l:List Cell}{cs env xs:List D}{args bx:List E}{Γ:List VT}{vt:VT}
section
open Go.RowKit Go
variable [GC]
def oL:List CT:=[.sl 5,.int .i64,.int .i64]
def Wp:aJ.tab 5=[.int .u8]:=by kernel_rfl
def qL(cs:List D):Prop:=∃r i h,cs=[.sl r,.int .i64 i,.int .i64 h]/\dc aJ.tab [.int .u8] r/\0<=i
def qL.ty(h:qL cs):bD aJ.tab oL cs:=by obtain⟨r,i,h,rfl,a,_⟩:=h;refine⟨?_,rfl,rfl,trivial⟩;show dc _ (aJ.tab _) _;rw[Wp];exact a
def Dr(f:FuncId)(xs:List D)(T:D->Prop):Prop:=∀a,qL a->∃r c,T r/\qL c/\aH Tryz.prog f (some a) xs r c
def avt{V:VC}(l:rJ Tryz.prog aJ pT f (some oL)=V)(a:V.ok=true)(b:rH Tryz.prog aJ f (some oL)=Γ)
  (hty:∀cs,bD aJ.tab oL cs->fO aJ.tab Γ (xs++cs)) (r0:D) (m:T r0)
  (e:∀rows i h,dI xs->(rows.length:Int)<=9223372036854775807->dc aJ.tab [.int .u8] rows->0<=i->V.den Tryz.prog aJ.tab (xs++[.sl rows,.int .i64 i,.int .i64 h]) (fun d bs=>T d/\qL bs) []):Dr f xs T:=by
 intro cs j;have c:=j;obtain⟨rows,i,h,rfl,p,q⟩:=j;obtain⟨⟨r,g⟩,⟨q1,q2⟩,q3⟩:=avB (T:=fun d bs=>T d/\qL bs) (r0:=(r0,[.sl rows,.int .i64 i,.int .i64 h])) l a b Cm mo ⟨m,c⟩ (bc:=some [.sl rows,.int .i64 i,.int .i64 h]) (ds:=xs) rfl (hty _ c.ty) (fun h=>by cases h)
  (fun t u=>e rows i h t (by simp[dI,Fits,maxLen]at u;omega) p q)
 exact⟨r,g,q1,q2,q3⟩
def wI(f:FuncId)(xs:List D)(T:D->Prop)(t:List (Nat×Nat)):Prop:=∀a,qL a->∃r c,T r/\qL c/\dJ Tryz.prog f (some a) xs r c t
def Dr.eB(h:wI f xs T t):Dr f xs T:=fun a b=>by obtain⟨r,c,e,g,j⟩:=h a b;exact⟨r,c,e,g,.eB j⟩
def avs{V:VC}{j:List (Nat×Nat)}(m:rJ Tryz.prog aJ pT f (some oL)=V)(t:pT.get f=j)(a:V.ok=true)(b:rH Tryz.prog aJ f (some oL)=Γ)
  (hty:∀cs,bD aJ.tab oL cs->fO aJ.tab Γ (xs++cs)) (r0:D) (p:T r0)
  (e:∀rows i h,dI xs->(rows.length:Int)<=9223372036854775807->dc aJ.tab [.int .u8] rows->0<=i->V.den Tryz.prog aJ.tab (xs++[.sl rows,.int .i64 i,.int .i64 h]) (fun d bs=>T d/\qL bs) []):wI f xs T j:=by
 intro cs l;have c:=l;obtain⟨rows,i,h,rfl,q,u⟩:=l;obtain⟨⟨r,g⟩,⟨q1,q2⟩,q3⟩:=Yt (T:=fun d bs=>T d/\qL bs) (r0:=(r0,[.sl rows,.int .i64 i,.int .i64 h])) m a b Cm mo ⟨p,c⟩ (bc:=some [.sl rows,.int .i64 i,.int .i64 h]) (ds:=xs) rfl (hty _ c.ty) (fun h=>by cases h)
  (fun x y=>e rows i h x (by simp[dI,Fits,maxLen]at y;omega) q u)
 exact⟨r,g,q1,q2,t▸q3⟩
def lD(V:VC)(Γ:List VT){xs:List D}{T:D->Prop}(hty:∀cs,bD aJ.tab oL cs->fO aJ.tab Γ (xs++cs))(r0:D)(c:T r0)
  (e:∀rows i h,dI xs->(rows.length:Int)<=9223372036854775807->dc aJ.tab [.int .u8] rows->0<=i->V.den Tryz.prog aJ.tab (xs++[.sl rows,.int .i64 i,.int .i64 h]) (fun d bs=>T d/\qL bs) []) (g:rJ Tryz.prog aJ pT f (some oL)=V:=by kernel_rfl) (a:rH Tryz.prog aJ f (some oL)=Γ:=by kernel_rfl) (b:V.ok=true:=by rfl):Dr f xs T:=avt g b a hty r0 c e
def EO(V:VC)(Γ:List VT){xs:List D}{T:D->Prop}{t:List (Nat×Nat)}(hty:∀cs,bD aJ.tab oL cs->fO aJ.tab Γ (xs++cs))(r0:D)(c:T r0)
  (e:∀rows i h,dI xs->(rows.length:Int)<=9223372036854775807->dc aJ.tab [.int .u8] rows->0<=i->V.den Tryz.prog aJ.tab (xs++[.sl rows,.int .i64 i,.int .i64 h]) (fun d bs=>T d/\qL bs) []) (g:rJ Tryz.prog aJ pT f (some oL)=V:=by kernel_rfl) (a:rH Tryz.prog aJ f (some oL)=Γ:=by kernel_rfl) (r:pT.get f=t:=by kernel_rfl) (b:V.ok=true:=by rfl):wI f xs T t:=avs g r b a hty r0 c e
def azt{k:VC}{a:List (Nat×Nat)}
  (hb:bx.map (·.den env)=cs) (ha:args.map (·.den env)=xs) (c:qL cs) (b:wI f xs T a) (e:∀r,T r->bG aJ.tab vt r)
  (g:∀r rows i h,T r->dc aJ.tab [.int .u8] rows->0<=i->k.den Tryz.prog aJ.tab (env++[r,.sl rows,.int .i64 i,.int .i64 h]) Q L):(VC.rq (.cF f (some bx) args vt oL a) k).den Tryz.prog aJ.tab env Q L:=by
 obtain⟨r,j,q1,q2,q3⟩:=b cs c;have t:=q2.ty;obtain⟨rows,i,h,rfl,l,m⟩:=q2;exact⟨r,_,e r q1,t,by rw[<-hb, <-ha]at q3;exact q3,g r rows i h q1 l m⟩
def vB{gs:Gd}{k:VC}
  (hb:bx.map (·.den env)=cs) (ha:args.map (·.den env)=xs) (c:qL cs) (a:Dr f xs T) (b:∀r,T r->bG aJ.tab vt r)
  (e:∀r rows i h,T r->dc aJ.tab [.int .u8] rows->0<=i->k.den Tryz.prog aJ.tab (env++[r,.sl rows,.int .i64 i,.int .i64 h]) Q L):(VC.rq (.call gs f (some bx) args vt oL) k).den Tryz.prog aJ.tab env Q L:=by
 obtain⟨r,g,q1,q2,q3⟩:=a cs c;have t:=q2.ty;obtain⟨rows,i,h,rfl,j,l⟩:=q2;exact⟨r,_,b r q1,t,fun _=>by rw[<-hb, <-ha]at q3;exact q3,e r rows i h q1 j l⟩
def bY{k:VC}{gs:Gd}
  (a:Dr f xs T) (b:∀r,T r->bG aJ.tab vt r) (c:∀r rows i h,T r->dc aJ.tab [.int .u8] rows->0<=i->k.den Tryz.prog aJ.tab (env' r rows i h) Q L)
  (hb:bx.map (·.den env)=cs:=by(first|(simp only[gS];done)|(simp only[gS];exact rfl)|(simp only[gS,cS];try exact rfl))) (ha:args.map (·.den env)=xs:=by(first|(simp only[gS];done)|(simp only[gS];exact rfl)|(simp only[gS,cS];try exact rfl))) (e:qL cs:=by exact⟨_,_,_,rfl,by assumption,by assumption⟩)
  (g:∀r rows i h,env++[r,.sl rows,.int .i64 i,.int .i64 h]=env' r rows i h:=by(intro r rows i h;simp only[cA];try exact rfl)):(VC.rq (.call gs f (some bx) args vt oL) k).den Tryz.prog aJ.tab env Q L:=vB hb ha e a b fun r rows i h j l m=>by rw[g];exact c r rows i h j l m
def zL{k:VC}
  (a:wI f xs T t) (b:∀r,T r->bG aJ.tab vt r) (c:∀r rows i h,T r->dc aJ.tab [.int .u8] rows->0<=i->k.den Tryz.prog aJ.tab (env' r rows i h) Q L)
  (hb:bx.map (·.den env)=cs:=by(first|(simp only[gS];done)|(simp only[gS];exact rfl)|(simp only[gS,cS];try exact rfl))) (ha:args.map (·.den env)=xs:=by(first|(simp only[gS];done)|(simp only[gS];exact rfl)|(simp only[gS,cS];try exact rfl))) (e:qL cs:=by exact⟨_,_,_,rfl,by assumption,by assumption⟩)
  (g:∀r rows i h,env++[r,.sl rows,.int .i64 i,.int .i64 h]=env' r rows i h:=by(intro r rows i h;simp only[cA];try exact rfl)):(VC.rq (.cF f (some bx) args vt oL t) k).den Tryz.prog aJ.tab env Q L:=azt hb ha e a b fun r rows i h j l m=>by rw[g];exact c r rows i h j l m
def vX(r:D):Prop:=∃x,r=.int .i64 x
def ag4(x:Int):0<=dL .and .i64 x 255/\dL .and .i64 x 255<=255:=by
 have h:((BitVec.ofInt 64 x &&& BitVec.ofInt 64 255).toNat:Int)<=255:=by
  rw[BitVec.toNat_and];have:(BitVec.ofInt 64 x).toNat &&& (BitVec.ofInt 64 255).toNat<=(BitVec.ofInt 64 255).toNat:=Nat.and_le_right;have e:(BitVec.ofInt 64 255).toNat=255:=by decide
  omega
 show 0<=IntKind.i64.wrap ((BitVec.ofInt 64 x &&& BitVec.ofInt 64 255).toNat:Int)/\IntKind.i64.wrap ((BitVec.ofInt 64 x &&& BitVec.ofInt 64 255).toNat:Int)<=255;rw[wrap_i64 (by omega) (by omega)];omega
def Tz:Dr 73 [] (fun r=>∃x,r=.int .i64 x/\0<=x/\x<=255):=by
 refine lD aqF aJB (fun g h=> ?_) (.int .i64 0) ⟨0,rfl,by omega,by omega⟩ fun e i h m p j l=> ?_
 ·obtain⟨e,i,h,rfl,f⟩:∃a b c,g=[a,b,c]/\bD aJ.tab oL [a,b,c]:=by
   match g,h with|[a,b,c],h=>exact⟨a,b,c,rfl,h⟩
  exact⟨f.1,f.2.1,f.2.2.1,trivial⟩
 unfold aqF;refine aM (fun _=>rfl) (aM (fun _=>rfl) (ai (fun h=> ?_) (fun h=> ?_)))
 ·simp[E.den,bg,cG]at h;refine aM (fun _=> ?_) ?_
  ·simp[E.den,cG];omega
  ·refine⟨⟨_,rfl,ag4 _⟩,e,_,_,rfl,j,?_⟩;simp only[E.den,tW,tV,iy,gQ];rw[bC];omega
 ·exact⟨⟨_,rfl,ag4 _⟩,e,_,_,rfl,j,l⟩
def jl(h:bD aJ.tab oL cs):fO aJ.tab [.one (.c (.sl 5)),.one (.c (.int .i64)),.one (.c (.int .i64))] cs:=by
 match cs,h with|[a,b,c],h=>exact⟨h.1,h.2.1,h.2.2.1,trivial⟩
def oR(r:D):Prop:=∃b,r=.bool b
def jF(n:Int)(r:D):Prop:=∃x,r=.int .i64 x/\0<=x/\(0<n->x<n)
def BP(r:D):Prop:=∃v:lQ,r=enc v
def vX.ty(h:vX r):bG aJ.tab (.one (.c (.int .i64))) r:=by obtain⟨x,rfl⟩:=h;rfl
def oR.ty(h:oR r):bG aJ.tab (.one (.c .bool)) r:=by obtain⟨x,rfl⟩:=h;trivial
def jF.ty{n:Int}(h:jF n r):bG aJ.tab (.one (.c (.int .i64))) r:=by obtain⟨x,rfl,_⟩:=h;rfl
def BP.ty(h:BP r):bG aJ.tab (.one (.agg [.int .i64,.int .i64])) r:=by obtain⟨v,rfl⟩:=h;exact Ej v
def Th(h:∃x,r=.int .i64 x/\0<=x/\x<=255):bG aJ.tab (.one (.c (.int .i64))) r:=by obtain⟨x,rfl,_⟩:=h;rfl
def rem_in{x n:Int}(hx:0<=x)(h:0<n):0<=dL .rem .i64 x n/\dL .rem .i64 x n<n:=⟨YW _ hx,Int.tmod_lt_of_pos _ h⟩
def ag8{x y:Int}(h1: -9223372036854775808<=x*y)(h2:x*y<=9223372036854775807):dL .mul .i64 x y=x*y:=wrap_i64 h1 h2
def mB(n:Int):Dr 39 [.int .i64 n] (jF n):=by
 refine lD aqE aJA (fun j h=>by exact⟨rfl,jl h⟩) (.int .i64 0) ⟨0,rfl,by omega,fun h=>h⟩ fun r i c l m a b=> ?_;(simp only[cA]);unfold aqE;apply ai<;>intro h
 ·simp[E.den,bg]at h;exact⟨⟨_,rfl,by omega,by omega⟩,_,_,_,rfl,a,b⟩
 simp[E.den,bg]at h;apply ai<;>intro p
 ·(refine bY (Tz) (fun _ h=>Th h) ?_;rintro _ r i c ⟨x,rfl,f⟩ a b)
  refine aM (fun _=> ?_) ?_
  ·simp[E.den,bg];omega
  exact⟨⟨_,rfl,(rem_in f.1 h).1,fun _=>(rem_in f.1 h).2⟩,_,_,_,rfl,a,b⟩
 ·(refine bY (Tz) (fun _ h=>Th h) ?_;rintro _ r i c ⟨x,rfl,f⟩ a b)
  (refine bY (Tz) (fun _ h=>Th h) ?_;rintro _ r i c ⟨y,rfl,q⟩ a b)
  (refine bY (Tz) (fun _ h=>Th h) ?_;rintro _ r i c ⟨z,rfl,t⟩ a b)
  refine aM (fun _=> ?_) ?_
  ·simp[E.den,bg];omega
  have e:dL .add .i64 (dL .add .i64 (dL .mul .i64 x 65536) (dL .mul .i64 y 256)) z=x*65536+y*256+z:=by rw[ag8 (x:=x) (by omega) (by omega),ag8 (x:=y) (by omega) (by omega),bC (x:=x*65536) (y:=y*256),bC]
  have g:=rem_in (x:=dL .add .i64 (dL .add .i64 (dL .mul .i64 x 65536) (dL .mul .i64 y 256)) z) (n:=n) (by rw[e];omega) h;exact⟨⟨_,rfl,g.1,fun _=>g.2⟩,_,_,_,rfl,a,b⟩
def qT(n:Int):Dr 38 [.int .i64 n] oR:=by
 refine lD aqK aJG (fun e h=>by exact⟨rfl,jl h⟩) (.bool false) ⟨_,rfl⟩ fun r i c f l a b=> ?_;(simp only[cA]);unfold aqK
 (refine bY (mB _) (fun _ h=>jF.ty h) ?_;rintro _ r i c ⟨x,rfl,g⟩ a b)
 exact⟨⟨_,rfl⟩,_,_,_,rfl,a,b⟩
def aze:Dr 178 [] (jF 64):=by
 refine lD aqP aJL (fun f h=>by exact jl h) (.int .i64 0) ⟨_,rfl,by omega,fun _=>by omega⟩ fun r i c g l a b=> ?_;(simp only[cA]);unfold aqP
 (refine bY (mB _) (fun _ h=>jF.ty h) ?_;rintro _ r i c ⟨x,rfl,e⟩ a b)
 exact⟨⟨_,rfl,e⟩,_,_,_,rfl,a,b⟩
def vV(l:List Int):D:=.sl (l.map fun n=>[.int .i64 n])
def aHP:aJ.tab 3=[.int .i64]:=by kernel_rfl
def ak6(l:List Int):bG aJ.tab (.one (.c (.sl 3))) (vV l):=by show dc _ (aJ.tab _) _;rw[aHP];exact sW fun r h=>by obtain⟨n,_,rfl⟩:=fJ.1 h;exact⟨rfl,trivial⟩
def aaa(l:List Int)(m:0<l.length):Dr 36 [vV l] vX:=by
 refine lD WD aoV (fun p h=>by exact⟨ak6 l,jl h⟩) (.int .i64 0) ⟨_,rfl⟩ fun r i c f q a b=> ?_;(simp only[cA]);unfold WD;have t:(l.length:Int)<=9223372036854775807:=by simp[dI,Fits,vV,maxLen]at f;omega
 have B:Dr 39 [.int .i64 (cG (vV l))] (jF l.length):=by have:=mB l.length;simpa[vV,cG]using this
 (refine bY (B) (fun _ h=>jF.ty h) ?_;rintro _ r i c ⟨x,rfl,g⟩ a b)
 refine aM (fun _=> ?_) ?_
 ·simp[E.den,vV,cG];omega
 have j:=g.2 (by omega);have e:l[x.toNat]? =some l[x.toNat]:=bX (by omega);refine⟨⟨l[x.toNat],?_⟩,_,_,_,rfl,a,b⟩;simp[E.den,vV,e]
def aab:Dr 180 [] vX:=by
 refine lD aqJ aJF (fun e h=>by exact jl h) (.int .i64 0) ⟨_,rfl⟩ fun r i c f l a b=> ?_;(simp only[cA]);unfold aqJ
 (refine bY (aaa [-1,0,1,2,3,4,5,6,7,63,64,99,100,999,1000,9223372036854775807, -9223372036854775808] (by decide)) (fun _ h=>vX.ty h) ?_;rintro _ r i c ⟨x,rfl⟩ a b)
 exact⟨⟨_,rfl⟩,_,_,_,rfl,a,b⟩
def aib:Dr 166 [] vX:=by
 refine lD aqO aJK (fun f h=>by exact jl h) (.int .i64 0) ⟨_,rfl⟩ fun r i e g l a c=> ?_;(simp only[cA]);unfold aqO
 (refine bY (qT _) (fun _ h=>oR.ty h) ?_;rintro _ r i e ⟨b,rfl⟩ a c)
 apply ai<;>intro h
 ·(refine bY (aaa [-1,64,65,1000,9223372036854775807, -9223372036854775808] (by decide)) (fun _ h=>vX.ty h) ?_;rintro _ r i e ⟨x,rfl⟩ a c)
  exact⟨⟨_,rfl⟩,_,_,_,rfl,a,c⟩
 ·(refine bY (aze) (fun _ h=>jF.ty h) ?_;rintro _ r i e ⟨x,rfl,j⟩ a c)
  exact⟨⟨_,rfl⟩,_,_,_,rfl,a,c⟩
def azj:Dr 179 [] BP:=by
 refine lD ara aJ6 (fun e h=>by exact jl h) (enc (default:lQ)) ⟨_,rfl⟩ fun r i c f l a b=> ?_;(simp only[cA]);unfold ara
 (refine bY (mB _) (fun _ h=>jF.ty h) ?_;rintro _ r i c ⟨x,rfl,g⟩ a b)
 (refine bY (mB _) (fun _ h=>jF.ty h) ?_;rintro _ r i c ⟨y,rfl,j⟩ a b)
 exact⟨⟨⟨_,_⟩,rfl⟩,_,_,_,rfl,a,b⟩
def TA:Dr 167 [] BP:=by
 refine lD aq9 aJ5 (fun g h=>by exact jl h) (enc (default:lQ)) ⟨_,rfl⟩ fun r i e j l a c=> ?_;(simp only[cA]);unfold aq9
 (refine bY (azj) (fun _ h=>BP.ty h) ?_;rintro _ r i e ⟨v,rfl⟩ a c)
 (refine bY (qT _) (fun _ h=>oR.ty h) ?_;rintro _ r i e ⟨b,rfl⟩ a c)
 apply ai<;>intro h
 ·(refine bY (aab) (fun _ h=>vX.ty h) ?_;rintro _ r i e ⟨x,rfl⟩ a c)
  (refine bY (qT _) (fun _ h=>oR.ty h) ?_;rintro _ r i e ⟨f,rfl⟩ a c)
  apply ai<;>intro h
  ·(refine bY (aab) (fun _ h=>vX.ty h) ?_;rintro _ r i e ⟨y,rfl⟩ a c)
   exact⟨⟨⟨y,x⟩,rfl⟩,_,_,_,rfl,a,c⟩
  ·exact⟨⟨⟨v.l8,x⟩,rfl⟩,_,_,_,rfl,a,c⟩
 ·(refine bY (qT _) (fun _ h=>oR.ty h) ?_;rintro _ r i e ⟨f,rfl⟩ a c)
  apply ai<;>intro h
  ·(refine bY (aab) (fun _ h=>vX.ty h) ?_;rintro _ r i e ⟨y,rfl⟩ a c)
   exact⟨⟨⟨y,v.min⟩,rfl⟩,_,_,_,rfl,a,c⟩
  ·exact⟨⟨v,rfl⟩,_,_,_,rfl,a,c⟩
def aGd(h:dc aJ.tab [.int .u8] rows):∀r∈rows,∃n,r=[.int .u8 n]:=by
 intro r a;have:=h.mem r a
 match r,this with
 |[d],this=>obtain⟨n,rfl⟩:=zS this.1;exact⟨n,rfl⟩
def azu{k:VC}(ha:args.map (·.den env)=[.sl rows])(h:dc aJ.tab [.int .u8] rows)
  (a:∀b,k.den Tryz.prog aJ.tab (env++[.sl rows,.int .i64 0,.int .i64 b]) Q L):(VC.rq (.new 13 args oL) k).den Tryz.prog aJ.tab env Q L :=
 ⟨_,qL.ty ⟨rows,0,_,rfl,h,Rf _⟩,by rw[ha];exact ayA rows (aGd h),a _⟩
def isS(r:D):Prop:=∃s:ByteArray,r=.str s
def isS.ty(h:isS r):bG aJ.tab (.one (.c .str)) r:=by obtain⟨x,rfl⟩:=h;trivial
def adR:List D->Bool
 |[.str _]=>true
 |_=>false
def an6{r:List D}(h:adR r=true):∃s,r=[.str s]:=by
 match r,h with
 |[.str s],_=>exact⟨s,rfl⟩
def um(a:List (List D))(y:0<a.length)(l:a.all adR=true):Dr 47 [.sl a] isS:=by
 have c:∀r∈a,∃s,r=[.str s]:=fun r b=>an6 (fH.1 l r b);have t:bG aJ.tab (.one (.c (.sl 9))) (.sl a):=by show dc _ (aJ.tab _) _;rw[Pq];exact sW fun r b=>by obtain⟨s,rfl⟩:=c r b;exact⟨trivial,trivial⟩
 refine lD Ek Wx (fun z h=>by exact⟨t,jl h⟩) (.str cL) ⟨_,rfl⟩ fun f i m p A b j=> ?_;(simp only[cA]);unfold Ek;have B:(a.length:Int)<=9223372036854775807:=by simp[dI,Fits,maxLen]at p;omega
 (refine bY (mB a.length) (fun _ h=>jF.ty h) ?_ (hb:=by(simp only[gS,cG];try exact rfl)) (ha:=by(simp only[gS,cG];try exact rfl));rintro _ f i m ⟨x,rfl,q⟩ b j)
 refine aM (fun _=> ?_) ?_
 ·simp[E.den,cG];omega
 have u:=q.2 (by omega);have e:a[x.toNat]? =some a[x.toNat]:=bX (by omega);obtain⟨s,g⟩:=c _ (qj (show x.toNat<a.length by omega));refine⟨⟨s,?_⟩,_,_,_,rfl,b,j⟩;simp[E.den,e,g]
def Ov(l:List Int)(r:D):Prop:=∃x,r=.int .i64 x/\x∈l
def Ov.ty{l:List Int}(h:Ov l r):bG aJ.tab (.one (.c (.int .i64))) r:=by obtain⟨x,rfl,_⟩:=h;rfl
def ah8(l:List Int)(m:0<l.length):Dr 36 [vV l] (Ov l):=by
 refine lD WD aoV (fun p h=>by exact⟨ak6 l,jl h⟩) (.int .i64 l[0]) ⟨_,rfl,qj _⟩ fun r i c f q a b=> ?_;(simp only[cA]);unfold WD;have t:(l.length:Int)<=9223372036854775807:=by simp[dI,Fits,vV,maxLen]at f;omega
 have B:Dr 39 [.int .i64 (cG (vV l))] (jF l.length):=by have:=mB l.length;simpa[vV,cG]using this
 (refine bY (B) (fun _ h=>jF.ty h) ?_;rintro _ r i c ⟨x,rfl,g⟩ a b)
 refine aM (fun _=> ?_) ?_
 ·simp[E.den,vV,cG];omega
 have j:=g.2 (by omega);have e:l[x.toNat]? =some l[x.toNat]:=bX (by omega);refine⟨⟨l[x.toNat],?_,qj _⟩,_,_,_,rfl,a,b⟩;simp[E.den,vV,e]
def aad:Dr 72 [] isS:=by
 refine lD arf aKa (fun e h=>by exact jl h) (.str cL) ⟨_,rfl⟩ fun r i c f l a b=> ?_;(simp only[cA]);unfold arf
 (apply vB;(focus (simp only[gS];try exact rfl));(focus (simp only[gS];try exact rfl));(focus (exact⟨_,_,_,rfl,by assumption,by assumption⟩));(focus (first|exact um _ (by decide) rfl|exact Dr.eB (um _ (by decide) rfl)));(focus (exact fun _ h=>isS.ty h));rintro _ r i c ⟨s,rfl⟩ a b;(simp only[cA]))
 exact⟨⟨_,rfl⟩,_,_,_,rfl,a,b⟩
def azg:Dr 122 [] isS:=by
 refine lD aqZ aJU (fun f h=>by exact jl h) (.str cL) ⟨_,rfl⟩ fun r i e g l a c=> ?_;(simp only[cA]);unfold aqZ
 (refine bY (qT _) (fun _ h=>oR.ty h) ?_;rintro _ r i e ⟨b,rfl⟩ a c)
 apply ai<;>intro h
 ·(apply vB;(focus (simp only[gS];try exact rfl));(focus (simp only[gS];try exact rfl));(focus (exact⟨_,_,_,rfl,by assumption,by assumption⟩));(focus (first|exact um _ (by decide) rfl|exact Dr.eB (um _ (by decide) rfl)));(focus (exact fun _ h=>isS.ty h));rintro _ r i e ⟨s,rfl⟩ a c;(simp only[cA]))
  exact⟨⟨_,rfl⟩,_,_,_,rfl,a,c⟩
 ·(apply vB;(focus (simp only[gS];try exact rfl));(focus (simp only[gS];try exact rfl));(focus (exact⟨_,_,_,rfl,by assumption,by assumption⟩));(focus (first|exact um _ (by decide) rfl|exact Dr.eB (um _ (by decide) rfl)));(focus (exact fun _ h=>isS.ty h));rintro _ r i e ⟨s,rfl⟩ a c;(simp only[cA]))
  exact⟨⟨_,rfl⟩,_,_,_,rfl,a,c⟩
def aic:Dr 153 [] isS:=by
 refine lD aq7 aJ2 (fun f h=>by exact jl h) (.str cL) ⟨_,rfl⟩ fun r i e g l a c=> ?_;(simp only[cA]);unfold aq7
 (refine bY (qT _) (fun _ h=>oR.ty h) ?_;rintro _ r i e ⟨b,rfl⟩ a c)
 apply ai<;>intro h
 ·(apply vB;(focus (simp only[gS];try exact rfl));(focus (simp only[gS];try exact rfl));(focus (exact⟨_,_,_,rfl,by assumption,by assumption⟩));(focus (first|exact um _ (by decide) rfl|exact Dr.eB (um _ (by decide) rfl)));(focus (exact fun _ h=>isS.ty h));rintro _ r i e ⟨s,rfl⟩ a c;(simp only[cA]))
  exact⟨⟨_,rfl⟩,_,_,_,rfl,a,c⟩
 ·(apply vB;(focus (simp only[gS];try exact rfl));(focus (simp only[gS];try exact rfl));(focus (exact⟨_,_,_,rfl,by assumption,by assumption⟩));(focus (first|exact um _ (by decide) rfl|exact Dr.eB (um _ (by decide) rfl)));(focus (exact fun _ h=>isS.ty h));rintro _ r i e ⟨s,rfl⟩ a c;(simp only[cA]))
  exact⟨⟨_,rfl⟩,_,_,_,rfl,a,c⟩
structure EQ where
 s:ByteArray
 k:Nat
 rows:List (List D)
 i:Int
 h:Int
def EQ.lay(s:EQ):List D:=[.str s.s,.int .i64 s.k,.sl s.rows,.int .i64 s.i,.int .i64 s.h]
def azi(f:Int):Dr 123 [.int .i64 f] isS:=by
 refine lD aq6 aJ1 (fun j h=>by exact⟨rfl,jl h⟩) (.str cL) ⟨_,rfl⟩ fun r i c l m a b=> ?_;(simp only[cA]);unfold aq6
 (refine bY (aic) (fun _ h=>isS.ty h) ?_;rintro _ r i c ⟨s,rfl⟩ a b)
 refine qo EQ EQ.lay (fun s=>s.k<=6/\dc aJ.tab [.int .u8] s.rows/\0<=s.i) (fun s=>6-s.k) ⟨s,0,r,i,c⟩ (fun s e h=>by simp[EQ.lay]at h;omega) rfl ⟨by simp,a,b⟩ ?_;rintro⟨s,k,r,i,c⟩ ⟨g,a,b⟩ -;simp only at g a b;simp only[EQ.lay,ia,iy];apply ai<;>intro h
 ·simp[E.den,bg]at h;refine aF (ahH s) ?_;refine aF (wW f (mK s)) ?_;apply ai<;>intro p
  ·exact⟨⟨_,rfl⟩,_,_,_,rfl,a,b⟩
  (refine bY (aic) (fun _ h=>isS.ty h) ?_;rintro _ r i c ⟨e,rfl⟩ a b)
  refine⟨⟨e,k+1,r,i,c⟩,?_,⟨by simp only;omega,a,b⟩,by simp only;omega⟩;simp[E.den,EQ.lay];rw[bC]
 ·exact⟨⟨_,rfl⟩,_,_,_,rfl,a,b⟩
def DL(r:D):Prop:=∃l:List ByteArray,r=aj l/\l.length<=5
def DL.ty(h:DL r):bG aJ.tab (.one (.c (.sl 9))) r:=by obtain⟨l,rfl,_⟩:=h;exact jW l
structure EX where
 l:List ByteArray
 n:Int
 rows:List (List D)
 i:Int
 h:Int
def EX.lay(s:EX):List D:=[aj s.l,.int .i64 s.n,.sl s.rows,.int .i64 s.i,.int .i64 s.h]
def aid:wI 80 [] DL [(0,1)]:=by
 refine EO aq8 aJ3 (fun t h=>by exact jl h) (aj ([]:List ByteArray)) ⟨_,rfl,by simp⟩ fun r i c u x a b=> ?_;(simp only[cA]);unfold aq8
 (refine bY (azg) (fun _ h=>isS.ty h) ?_;rintro _ r i c ⟨s,rfl⟩ a b)
 (refine bY (mB _) (fun _ h=>jF.ty h) ?_;rintro _ r i c ⟨n,rfl,g⟩ a b)
 have p:=g.2 (by omega);refine qo EX EX.lay (fun s=>dc aJ.tab [.int .u8] s.rows/\0<=s.i/\0<=s.n/\(s.l.length:Int)+s.n<=4) (fun s=>s.n.toNat) ⟨[s],n,r,i,c⟩ (fun s j h=>by simp[EX.lay]at h;rw[h.2.1]) rfl ⟨a,b,g.1,by simp;omega⟩ ?_;rintro⟨l,m,r,i,c⟩ ⟨a,b,q,e⟩ -;simp only at a b q e;simp only[EX.lay,ia,iy];apply ai<;>intro h
 ·simp[E.den,bg]at h;refine aF (Dj l) ?_
  (refine bY (azi _) (fun _ h=>isS.ty h) ?_;rintro _ r i c ⟨j,rfl⟩ a b)
  refine aM (fun _=> ?_) ?_
  ·simp[E.den];omega
  have f:dL .sub .i64 m 1=m-1:=mz;refine⟨⟨l++[j],m-1,r,i,c⟩,?_,⟨a,b,by simp only;omega,by simp;omega⟩,by simp only;omega⟩;simp[E.den,EX.lay,f,aj,eO]
 ·exact⟨⟨l,rfl,by omega⟩,_,_,_,rfl,a,b⟩
structure wM where
 k:Nat
 rows:List (List D)
 i:Int
 h:Int
def wM.lay(s:wM):List D:=[.int .i64 s.k,.sl s.rows,.int .i64 s.i,.int .i64 s.h]
def aie:wI 45 [] DL [(0,1)]:=by
 refine EO WE aoX (fun g h=>by exact jl h) (aj ([]:List ByteArray)) ⟨_,rfl,by simp⟩ fun r i c j m a b=> ?_;(simp only[cA]);unfold WE;refine qo wM wM.lay (fun s=>s.k<=4/\dc aJ.tab [.int .u8] s.rows/\0<=s.i) (fun s=>4-s.k) ⟨0,r,i,c⟩ (fun s p h=>by simp[wM.lay]at h;omega) rfl ⟨by simp,a,b⟩ ?_;rintro⟨k,r,i,c⟩ ⟨f,a,b⟩ -;simp only at f a b;simp only[wM.lay,ia,iy];apply ai<;>intro h
 ·simp[E.den,bg]at h
  (refine zL (aid) (fun _ h=>DL.ty h) ?_;rintro _ r i c ⟨l,rfl,e⟩ a b)
  refine aF (Dj l) ?_;apply ai<;>intro q
  ·exact⟨⟨l,rfl,e⟩,_,_,_,rfl,a,b⟩
  refine⟨⟨k+1,r,i,c⟩,?_,⟨by simp only;omega,a,b⟩,by simp only;omega⟩;simp[E.den,wM.lay];rw[bC]
 ·(apply vB;(focus (simp only[gS];try exact rfl));(focus (simp only[gS];try exact rfl));(focus (exact⟨_,_,_,rfl,by assumption,by assumption⟩));(focus (first|exact um _ (by decide) rfl|exact Dr.eB (um _ (by decide) rfl)));(focus (exact fun _ h=>isS.ty h));rintro _ r i c ⟨s,rfl⟩ a b;(simp only[cA]))
  exact⟨⟨[s],rfl,by simp⟩,_,_,_,rfl,a,b⟩
def Vh(r:D):Prop:=∃n:mr,r=enc n
def Vh.ty(h:Vh r):bG aJ.tab (.one (.agg [.int .i64,.str,.int .i64,.int .i64])) r:=by obtain⟨n,rfl⟩:=h;exact Ei n
def azl:Dr 145 [] Vh:=by
 refine lD arh aKb (fun e h=>by exact jl h) (enc (default:mr)) ⟨_,rfl⟩ fun r i c f l a b=> ?_;(simp only[cA]);unfold arh
 (refine bY (aaa [1,2,2,4,8,3,16,32,5,6] (by decide)) (fun _ h=>vX.ty h) ?_;rintro _ r i c ⟨x,rfl⟩ a b)
 (refine bY (mB _) (fun _ h=>jF.ty h) ?_;rintro _ r i c ⟨y,rfl,g⟩ a b)
 (refine bY (qT _) (fun _ h=>oR.ty h) ?_;rintro _ r i c ⟨b1,rfl⟩ a b)
 apply ai<;>intro _
 ·(refine bY (aad) (fun _ h=>isS.ty h) ?_;rintro _ r i c ⟨s,rfl⟩ a b)
  (refine bY (qT _) (fun _ h=>oR.ty h) ?_;rintro _ r i c ⟨b2,rfl⟩ a b)
  apply ai<;>intro _
  ·(refine bY (aib) (fun _ h=>vX.ty h) ?_;rintro _ r i c ⟨z,rfl⟩ a b)
   (refine bY (qT _) (fun _ h=>oR.ty h) ?_;rintro _ r i c ⟨b3,rfl⟩ a b)
   apply ai<;>intro _
   ·(refine bY (TA) (fun _ h=>BP.ty h) ?_;rintro _ r i c ⟨v,rfl⟩ a b)
    exact⟨⟨⟨z,s,v⟩,rfl⟩,_,_,_,rfl,a,b⟩
   ·exact⟨⟨⟨z,s,⟨1,y⟩⟩,rfl⟩,_,_,_,rfl,a,b⟩
  ·(refine bY (qT _) (fun _ h=>oR.ty h) ?_;rintro _ r i c ⟨b3,rfl⟩ a b)
   apply ai<;>intro _
   ·(refine bY (TA) (fun _ h=>BP.ty h) ?_;rintro _ r i c ⟨v,rfl⟩ a b)
    exact⟨⟨⟨x,s,v⟩,rfl⟩,_,_,_,rfl,a,b⟩
   ·exact⟨⟨⟨x,s,⟨1,y⟩⟩,rfl⟩,_,_,_,rfl,a,b⟩
 ·(refine bY (qT _) (fun _ h=>oR.ty h) ?_;rintro _ r i c ⟨b2,rfl⟩ a b)
  apply ai<;>intro _
  ·(refine bY (aib) (fun _ h=>vX.ty h) ?_;rintro _ r i c ⟨z,rfl⟩ a b)
   (refine bY (qT _) (fun _ h=>oR.ty h) ?_;rintro _ r i c ⟨b3,rfl⟩ a b)
   apply ai<;>intro _
   ·(refine bY (TA) (fun _ h=>BP.ty h) ?_;rintro _ r i c ⟨v,rfl⟩ a b)
    exact⟨⟨⟨z,cL,v⟩,rfl⟩,_,_,_,rfl,a,b⟩
   ·exact⟨⟨⟨z,cL,⟨1,y⟩⟩,rfl⟩,_,_,_,rfl,a,b⟩
  ·(refine bY (qT _) (fun _ h=>oR.ty h) ?_;rintro _ r i c ⟨b3,rfl⟩ a b)
   apply ai<;>intro _
   ·(refine bY (TA) (fun _ h=>BP.ty h) ?_;rintro _ r i c ⟨v,rfl⟩ a b)
    exact⟨⟨⟨x,cL,v⟩,rfl⟩,_,_,_,rfl,a,b⟩
   ·exact⟨⟨⟨x,cL,⟨1,y⟩⟩,rfl⟩,_,_,_,rfl,a,b⟩
structure CN where
 n:Int
 rows:List (List D)
 i:Int
 h:Int
 e:Entry
def CN.lay(s:CN):List D:=[.int .i64 s.n,.sl s.rows,.int .i64 s.i,.int .i64 s.h,.str s.e.name,aj s.e.recipe,.int .i64 s.e.jw.l8,.int .i64 s.e.jw.min,aj s.e.needs]
structure EP where
 l:List Entry
 k:Nat
 rows:List (List D)
 i:Int
 h:Int
def EP.lay(s:EP):List D:=[aj s.l,.int .i64 s.k,.sl s.rows,.int .i64 s.i,.int .i64 s.h]
def xO:List ByteArray:=[⟨#[97]⟩,⟨#[98]⟩,⟨#[99]⟩,⟨#[100]⟩,⟨#[101]⟩,⟨#[102]⟩]
def ah4(a:Γ=[.one (.c (.sl 5))]){ds:List D}(h:fO aJ.tab Γ ds):∃rows,ds=[.sl rows]/\dc aJ.tab (aJ.tab 5) rows/\dc aJ.tab [.int .u8] rows:=by
 subst a
 match ds,h with
 |[d],h=>obtain⟨rows,rfl,r⟩:=xh h.1;exact⟨rows,rfl,r,by rwa[Wp]at r⟩
def ahf:∀{a b c:List UInt8},Op.bytesLess a b=true->Op.bytesLess b c=true->Op.bytesLess a c=true
 |_,[],_,h,_=>by simp[Op.bytesLess]at h
 |_,_::_,[],_,h=>by simp[Op.bytesLess]at h
 |[],_::_,_::_,_,_=>by simp[Op.bytesLess]
 |x::a,y::b,z::c,h1,h2=>by have ih:=@ahf a b c;simp only[Op.bytesLess,jM,aX,du,vf]at h1 h2 ⊢;grind
def aiU{p:Nat->Bool}:∀{n:Nat},eA p n=none->∀i,i<n->p i=false
 |0,_,i,b=>by omega
 |n+1,h,i,b=>by
  simp only[eA]at h;split at h
  ·cases h
  ·rename_i h1;split at h
   ·cases h
   ·rename_i h2;rcases dP i n with a|a
    ·exact aiU h1 i a
    ·obtain rfl:i=n:=by omega
     simpa using h2
def alO{a b c:ByteArray}(h1:dz a b=true)(h2:dz b c=true):dz a c=true:=ahf h1 h2
def OG(a:ByteArray):dz a a=false:=by
 cases h:dz a a with
 |false=>rfl
 |true=>have:=ltA h;rw[h]at this;cases this
def SX(l:List Cell):Prop:=∀i,i+1<l.length->dz (nth l i).key (nth l (i+1)).key=true
def Tw(h:iS l=true):SX l:=fun i a=>by
 unfold iS at h;simp only[aX]at h;have:=jC.1 h.2 (i+1) a;unfold nN at this;simp only[aX,jM,vf]at this;rcases this.2 with h|h
 ·omega
 ·exact h
def ag9(h:SX l){k:ByteArray}:∀i,dG l k<i->i<l.length->dz k (nth l i).key=true:=by
 intro i;induction i with
 |zero=>intro h;omega
 |succ i ih=>
  intro j g;have a:=h i g;rcases dP (dG l k) i with b|b
  ·exact alO (ih b (by omega)) a
  ·have e:i=dG l k:=by omega
   have c:=Ta (l:=l) (k:=k) (by omega);rw[<-e]at c;by_cases f:(nth l i).key=k
   ·rw[<-f];exact a
   ·exact alO (ltT f c) a
def oN(l:List Cell)(k:ByteArray)(v:Int)(i:Nat):List Cell :=
 if dG l k<i then(l.take (dG l k)++[⟨k,v⟩])++(l.take i).drop (dG l k+if kD l k=true then 1 else 0)else l.take i
def aAn(l:List Cell)(k:ByteArray)(v:Int):oN l k v 0=[]:=by unfold oN;simp
def adW{α:Type}[Inhabited α]{l:List α}{i:Nat}(h:i<l.length):l.take (i+1)=l.take i++[nth l i]:=by rw[Mi];simp[nth,h]
def aAm{k:ByteArray}{v:Int}(h:i<dG l k)(a:i<l.length):oN l k v (i+1)=oN l k v i++[nth l i]:=by unfold oN;rw[aw (show ¬dG l k<i+1 by omega),aw (show ¬dG l k<i by omega),adW a]
def aAj{k:ByteArray}{v:Int}(h:i=dG l k)(b:i<l.length):oN l k v (i+1)=if(nth l i).key=k then oN l k v i++[⟨k,v⟩]else(oN l k v i++[⟨k,v⟩])++[nth l i]:=by
 unfold oN;rw[aC (show dG l k<i+1 by omega),aw (show ¬dG l k<i by omega),adW b];by_cases e:(nth l i).key=k
 ·have a:kD l k=true:=BO.2 ⟨by omega,by rw[<-h];exact e⟩;rw[aC e,aC a,Iv (by rw[iZ,lG,List.length_singleton];omega)];rw[qP,h]
 ·have a:kD l k=false:=by
   cases q:kD l k with
   |false=>rfl
   |true=>have:=(BO.1 q).2;rw[<-h]at this;exact absurd this e
  simp only[aw e,a,yc,vz,rT];rw[agX (by rw[lG];omega),Iv (by rw[lG];omega),iy,h]
def aAl{k:ByteArray}{v:Int}(h:dG l k<i)(a:i<l.length):oN l k v (i+1)=oN l k v i++[nth l i]:=by unfold oN;rw[aC (show dG l k<i+1 by omega),aC h,adW a,agX (by rw[lG];split<;>omega)];simp only[iY]
def aAk{k:ByteArray}{v:Int}:sD l k v=if dG l k<l.length then oN l k v l.length else oN l k v l.length++[⟨k,v⟩]:=by
 unfold oN sD;have b:=My l k;by_cases h:dG l k<l.length
 ·simp only[aC h,uY];by_cases a:kD l k=true
  ·rw[aC a,aC a,List.set_eq_take_append_cons_drop,aC h];simp
  ·rw[aw a,aw a,rT]
 ·have e:dG l k=l.length:=by omega
  have a:kD l k=false:=by
   cases q:kD l k with
   |false=>rfl
   |true=>have:=(BO.1 q).1;omega
  simp only[aw h,a,yc,vz,e];simp
def GP(l:List Cell)(k:ByteArray):Int:=match eA (fun i=>decide ((nth l i).key=k)) l.length with
 |some i=>(i:Int)
 |none=> -1
def amJ(h:SX l)(k:ByteArray):GP l k=if kD l k=true then((dG l k:Nat):Int)else -1:=by
 unfold GP;cases f:eA (fun i=>decide ((nth l i).key=k)) l.length with
 |none=> have g:=aiU f;rw[aw];intro j;obtain⟨c,a⟩:=BO.1 j;have:=g _ c;simp at this;exact this a
 |some i=>
  obtain⟨c,a,m⟩:=vG f;have a:(nth l i).key=k:=by simpa using a
  have e:dG l k=i:=by
   rcases E8 i (dG l k)with b|b|b
   ·have:=Mz b;rw[a,OG]at this;cases this
   ·exact b.symm
   ·have:=ag9 h i b c;rw[a,OG]at this;cases this
  rw[aC (BO.2 ⟨by omega,by rw[e];exact a⟩),e]
def xx(q:ByteArray->Bool)(r:D):Prop:=∃s:ByteArray,r=.str s/\q s=true
def xx.ty(h:xx q r):bG aJ.tab (.one (.c .str)) r:=by obtain⟨x,rfl,_⟩:=h;trivial
def an5(q:ByteArray->Bool):List D->Bool
 |[.str s]=>q s
 |_=>false
def aHu{r:List D}(h:an5 q r=true):∃s,r=[.str s]/\q s=true:=by
 match r,h with
 |[.str s],h=>exact⟨s,rfl,h⟩
def I9(q:ByteArray->Bool)(l:ByteArray)(p:q l=true)(a:List (List D))(u:0<a.length)(y:a.all (an5 q)=true):Dr 47 [.sl a] (xx q):=by
 have c:∀r∈a,∃s:ByteArray,r=[.str s]/\q s=true:=fun r b=>aHu (fH.1 y r b);have t:bG aJ.tab (.one (.c (.sl 9))) (.sl a):=by show dc _ (aJ.tab _) _;rw[Pq];exact sW fun r b=>by obtain⟨s,rfl,_⟩:=c r b;exact⟨trivial,trivial⟩
 refine lD Ek Wx (fun F h=>by exact⟨t,jl h⟩) (.str l) ⟨_,rfl,p⟩ fun f i z A u b m=> ?_;(simp only[cA]);unfold Ek;have G:(a.length:Int)<=9223372036854775807:=by simp[dI,Fits,maxLen]at A;omega
 (refine bY (mB a.length) (fun _ h=>jF.ty h) ?_ (hb:=by(simp only[gS,cG];try exact rfl)) (ha:=by(simp only[gS,cG];try exact rfl));rintro _ f i z ⟨x,rfl,B⟩ b m)
 refine aM (fun _=> ?_) ?_
 ·simp[E.den,cG];omega
 have C:=B.2 (by omega);have e:a[x.toNat]? =some a[x.toNat]:=bX (by omega);obtain⟨s,g,j⟩:=c _ (qj (show x.toNat<a.length by omega));refine⟨⟨s,?_,j⟩,_,_,_,rfl,b,m⟩;simp[E.den,e,g]
def aac:Dr 74 [] (xx kX):=by
 refine lD aqY aJT (fun f h=>by exact jl h) (.str ⟨#[97]⟩) ⟨_,rfl,by kernel_rfl⟩ fun r i c g l a b=> ?_;(simp only[cA]);unfold aqY
 (apply vB;(focus (simp only[gS];try exact rfl));(focus (simp only[gS];try exact rfl));(focus (exact⟨_,_,_,rfl,by assumption,by assumption⟩));(focus (first|exact I9 kX ⟨#[97]⟩ (by kernel_rfl) _ (by decide) (by kernel_rfl)|exact Dr.eB (I9 kX ⟨#[97]⟩ (by kernel_rfl) _ (by decide) (by kernel_rfl))));(focus (exact fun _ h=>xx.ty h));rintro _ r i c ⟨s,rfl,e⟩ a b;(simp only[cA]))
 exact⟨⟨_,rfl,e⟩,_,_,_,rfl,a,b⟩
def ahK(l:List Cell)(k:ByteArray):aH Tryz.prog 151 none [aj l,.str k] (.int .i64 (GP l k)) []:=by
 refine cu aqS aJN ⟨xR l,trivial,trivial⟩ fun f=> ?_;have c:l.length<=9223372036854775807:=kS f.1;unfold aqS;refine cQ l.length (fun k=>[.int .i64 k]) (fun i=>∀j,j<i->decide ((nth l j).key=k)=false) rfl (fun j h=>by omega) ?_;intro i g I _;simp only[cA];apply ai<;>intro a<;>simp only[eS]at a
 ·have a:i<l.length:=by simp at a;exact a
  refine eu ?_;refine ai (fun b=>ay ?_) (fun b=> ?_)
  ·simp only[eS,sJ,mS,gR]at b ⊢;have b:(nth l i).key=k:=by simpa using b
   have e:eA (fun i=>decide ((nth l i).key=k)) l.length=some i:=vI (by simpa using b) I a;unfold GP;rw[e]
  ·simp only[eS,sJ,mS,gR]at b;have b:(nth l i).key≠k:=by simpa using b
   refine cK a ?_ fun j m=> ?_
   ·simp only[eS];rw[bC];rfl
   ·rcases dP j i with h|h
    ·exact I j h
    ·obtain rfl:j=i:=by omega
     simpa using b
 ·have a:i=l.length:=by simp at a;omega
  subst a;refine ay ?_;simp only[eS];unfold GP;rw[vH I]
def ahL(l:List Cell)(k:ByteArray)(v:Int)(q:SX l)(z:l.length<=1048576):dJ Tryz.prog 152 none [aj l,.str k,.int .i64 v] (aj (sD l k v)) [] [(0,2)]:=by
 refine gh aq0 aJV ⟨xR l,trivial,rfl,trivial⟩ fun t=> ?_;have r:=My l k;unfold aq0;refine cQ l.length (fun i=>[.bool (decide (dG l k<i)),aj (oN l k v i),.int .i64 i]) (fun _=>True) (by simp[E.den,aAn,aj]) trivial ?_;intro i A _ _;have u:(oN l k v i).length<=i+1:=by
  unfold oN;split
  ·simp;omega
  ·simp;omega
 simp only[cA];apply ai<;>intro b<;>simp only[eS]at b
 ·have b:i<l.length:=by simp at b;exact b
  refine eu ?_;apply ai<;>intro a<;>simp only[eS,sJ,mS,gR]at a
  ·have j:gx .geq (nth l i).key k= !dz (nth l i).key k:=by rfl
   simp at a;have x:i=dG l k:=by
    rcases dP i (dG l k)with h|h
    ·have:=Mz h;rw[a.2]at this;cases this
    ·omega
   refine aM (fun _=> ?_) ?_
   ·simp only[eS];simp;omega
   have g:=aAj (v:=v) x b;apply ai<;>intro c<;>simp only[eS,sJ,mS,gR]at c
   ·have c:(nth l i).key≠k:=by simpa using c
    rw[aw c]at g;refine aM (fun _=> ?_) ?_
    ·simp only[eS];simp;omega
    refine cK b ?_ trivial;rw[g,Mu (show dG l k<i+1 by omega)];simp only[eS,sJ,mS,gR];rw[bC];simp[aj,mS]
   ·have c:(nth l i).key=k:=by simpa using c
    rw[aC c]at g;refine cK b ?_ trivial;rw[g,Mu (show dG l k<i+1 by omega)];simp only[eS,sJ,mS,gR];rw[bC];simp[aj,mS]
  ·have j:gx .geq (nth l i).key k= !dz (nth l i).key k:=by rfl
   have m:(nth l i).key≠k:=by
    intro e;rcases E8 i (dG l k)with h|h|h
    ·have:=Mz h;rw[e,OG]at this;cases this
    ·rw[e,OG]at a;simp at a;omega
    ·have:=ag9 q i h b;rw[e,OG]at this;cases this
   have y:i≠dG l k:=by intro e;have:=Ta (l:=l) (k:=k) (by omega);rw[<-e]at this;rw[this]at a;simp at a;omega
   have g:oN l k v (i+1)=oN l k v i++[nth l i]:=by
    rcases dP i (dG l k)with h|h
    ·exact aAm h b
    ·exact aAl (by omega) b
   have p:decide (dG l k<i+1)=decide (dG l k<i):=decide_eq_decide.2 (by omega);apply ai<;>intro c
   ·refine aM (fun _=> ?_) ?_
    ·simp only[eS];simp;omega
    refine cK b ?_ trivial;rw[g,p];simp only[eS,sJ,mS,gR];rw[bC];simp[aj,mS]
   ·exfalso;simp only[eS,sJ,mS,gR]at c;exact m (by simpa using c)
 ·have b:i=l.length:=by simp at b;omega
  subst b;have f:=aAk (l:=l) (k:=k) (v:=v);apply ai<;>intro a<;>simp only[eS]at a
  ·have a:¬dG l k<l.length:=by simpa using a
   refine aM (fun _=> ?_) (ay ?_)
   ·simp only[eS];simp;omega
   ·rw[f,aw a];simp only[eS];simp[aj,mS]
  ·have a:dG l k<l.length:=by simpa using a
   refine ay ?_;rw[f,aC a];simp only[eS]
def Vf(r:D):Prop:=∃l:List Cell,r=aj l/\iS l=true
def Vf.ty(h:Vf r):bG aJ.tab (.one (.c (.sl 168))) r:=by obtain⟨l,rfl,_⟩:=h;exact xR l
structure CM where
 l:List Cell
 n:Int
 rows:List (List D)
 i:Int
 h:Int
def CM.lay(s:CM):List D:=[aj s.l,.int .i64 s.n,.sl s.rows,.int .i64 s.i,.int .i64 s.h]
def azf:wI 118 [] Vf [(0,2)]:=by
 refine EO aqU aJP (fun F h=>by exact jl h) (aj ([]:List Cell)) ⟨_,rfl,by decide⟩ fun r i e G c a b=> ?_;(simp only[cA]);unfold aqU
 (refine bY (mB _) (fun _ h=>jF.ty h) ?_;rintro _ r i e ⟨n,rfl,q⟩ a b)
 have u:=q.2 (by omega);refine qo CM CM.lay (fun s=>dc aJ.tab [.int .u8] s.rows/\0<=s.i/\0<=s.n/\s.n<=6/\iS s.l=true) (fun s=>s.n.toNat) ⟨[],n,r,i,e⟩ (fun s H h=>by simp[CM.lay]at h;rw[h.2.1]) rfl ⟨a,b,q.1,by simp only;omega,show iS []=true by decide⟩ ?_;rintro⟨l,m,r,i,e⟩ ⟨a,b,x,j,c⟩ -;simp only at a b x j c;have z:=yp c;have f:0<m->dL .sub .i64 m 1=m-1:=fun h=>mz;simp only[CM.lay,ia,iy];apply ai<;>intro h
 ·simp[E.den,bg]at h
  (refine bY (aac) (fun _ h=>xx.ty h) ?_;rintro _ r i e ⟨k,rfl,A⟩ a b)
  refine aF (ahK l k) ?_;apply ai<;>intro g
  ·simp only[eS]at g;rw[amJ (Tw c)]at g
   (refine bY (mB _) (fun _ h=>jF.ty h) ?_;rintro _ r i e ⟨y,rfl,t⟩ a b)
   have B:=t.2 (by omega);have p:iS (sD l k y)=true:=amY c A (Ab.2 ⟨t.1,by omega⟩) (fun C=>by rw[C.1]at g;simp at g;omega)
   refine dU (ahL l k y (Tw c) (by omega)) (hty:=xR _) ?_;refine⟨⟨sD l k y,m-1,r,i,e⟩,?_,⟨a,b,by simp only;omega,by simp only;omega,p⟩,by simp only;omega⟩;simp[E.den,CM.lay,f h]
  ·refine⟨⟨l,m-1,r,i,e⟩,?_,⟨a,b,by simp only;omega,by simp only;omega,c⟩,by simp only;omega⟩;simp[E.den,CM.lay,f h]
 ·exact⟨⟨l,rfl,c⟩,_,_,_,rfl,a,b⟩
def Ju(s:ByteArray):Bool:=decide (s.size<=100)
def azh:Dr 75 [] (xx Ju):=by
 refine lD aq2 aJX (fun g h=>by exact jl h) (.str cL) ⟨_,rfl,by decide⟩ fun r i c j f a b=> ?_;(simp only[cA]);unfold aq2
 (refine zL (azf) (fun _ h=>Vf.ty h) ?_;rintro _ r i c ⟨l,rfl,f⟩ a b)
 refine aF (ahC l) ?_;have m:=ai0 l
 (refine bY (mB _) (fun _ h=>jF.ty h) ?_;rintro _ r i c ⟨y,rfl,p⟩ a b)
 apply ai<;>intro h
 ·(apply vB;(focus (simp only[gS];try exact rfl));(focus (simp only[gS];try exact rfl));(focus (exact⟨_,_,_,rfl,by assumption,by assumption⟩));(focus (first|exact I9 (fun s=>decide (s.size<=40)) cL (by decide) _ (by decide) (by kernel_rfl)|exact Dr.eB (I9 (fun s=>decide (s.size<=40)) cL (by decide) _ (by decide) (by kernel_rfl))));(focus (exact fun _ h=>xx.ty h));rintro _ r i c ⟨s,rfl,e⟩ a b;(simp only[cA]))
  have e:s.size<=40:=by simpa using e
  refine aM (fun _=> ?_) ?_
  ·simp only[eS];refine aaf ?_;unfold maxLen;omega
  exact⟨⟨_,rfl,by unfold Ju;simp only[E.den,jA,qQ,ia,iy,tW,tV,zr,A5,du];omega⟩,_,_,_,rfl,a,b⟩
 apply ai<;>intro h
 ·(apply vB;(focus (simp only[gS];try exact rfl));(focus (simp only[gS];try exact rfl));(focus (exact⟨_,_,_,rfl,by assumption,by assumption⟩));(focus (first|exact I9 Ju cL (by decide) _ (by decide) (by kernel_rfl)|exact Dr.eB (I9 Ju cL (by decide) _ (by decide) (by kernel_rfl))));(focus (exact fun _ h=>xx.ty h));rintro _ r i c ⟨s,rfl,e⟩ a b;(simp only[cA]))
  exact⟨⟨_,rfl,e⟩,_,_,_,rfl,a,b⟩
 ·exact⟨⟨_,rfl,by unfold Ju;simp;omega⟩,_,_,_,rfl,a,b⟩
def Wt(x:List UInt8):List D:=[.str (bs x)]
def Co(l:List (List UInt8)):D:=.sl (l.map Wt)
@[simp] def aM8 (l:List (List UInt8)):(Co l).lP=l.map Wt:=rfl
@[simp] def aM7 (l:List (List UInt8)):cG (Co l)=l.length:=by simp[Co,cG]
def aam(s:ByteArray)(a b:Nat):s.extract a b=bs ((s.data.toList.drop a).take (b-a)):=by apply Rc;simp only[bs,ByteArray.data_extract];apply Array.ext';simp
def aE2{s:ByteArray}{sep:List UInt8}(h:i+sep.length<=s.size):decide (s.extract i (i+sep.length)=bs sep)=Lib.occAt s.data.toList sep i:=by rw[aam,Lib.occAt_iff_take _ _ _ (by rw[size_data];exact h),Nat.add_sub_cancel_left];simp[Bool.beq_eq_decide_eq]
def ac0(s sep:List UInt8)(a j:Nat):Lib.occAt (s.drop a) sep j=Lib.occAt s sep (a+j):=by unfold Lib.occAt;rw[C9]
def ayt(s:ByteArray)(sep:List UInt8)(m:sep≠[])(h1:sep.length<=100)(C:s.size<4294967281):dJ Tryz.prog 199 none [.str s,.str (bs sep)] (Co (Lib.split s.data.toList sep)) [] [(0,1)]:=by
 have r:0<sep.length:=Y7.2 m;refine gh aqz aoU (by simp[aoU,fO,bG,dH,cJ]) fun u=> ?_;unfold aqz;refine qo (List (List UInt8)×Nat×Nat) (fun x=>[Co x.1,.int .i64 x.2.1,.int .i64 x.2.2])
  (fun x=>x.1++Lib.split (s.data.toList.drop x.2.1) sep=Lib.split s.data.toList sep/\x.2.1<=x.2.2/\x.2.2<=s.size/\x.1.length<=x.2.1/\∀j,x.2.1<=j->j<x.2.2->Lib.occAt s.data.toList sep j=false)
  (fun x=>s.size-x.2.2) ([],0,0) ?_ rfl ⟨by simp,bM _,fW _,fW _,fun j a b=>by simp only at b;omega⟩ ?_
 ·intro x y h;simp at h;have:x.2.2=y.2.2:=by omega
  simp only[this]
 rintro⟨out,fr,i⟩ ⟨q1,q2,q3,q4,q5⟩ _;simp only at q1 q2 q3 q4 q5;have c:dL .add .i64 (i:Int) (((bs sep).size:Nat):Int)=((i+sep.length:Nat):Int):=by rw[bC (h1:=(by rw[Ba];omega)) (h2:=(by rw[Ba];omega)),Ba];omega
 have g:gx .neq (bs sep) ⟨#[]⟩=true:=by simp only[Z7];rw[show(⟨#[]⟩:ByteArray)=bs []from rfl];simp[m]
 apply ai<;>intro h
 ·simp only[E.den,ia,iy,tW,tV,AO,zr,gQ,DQ,g,c,Z6,oC,du]at h;have l:i+sep.length<=s.size:=by omega
  refine aM (fun _=> ?_) ?_
  ·simp only[E.den,ia,iy,tW,tV,gQ,DQ,c];simp;omega
  apply ai<;>intro p<;>simp only[E.den,ia,iy,tW,tV,AO,zr,gQ,DQ,c,qn,gR,oJ,aE2 l]at p
  ·have f:Lib.index (s.data.toList.drop fr) sep=((i-fr:Nat):Int):=by
    refine Lib.index_first (by rw[Mf,size_data];omega) ?_ (fun j z=> ?_)
    ·rw[ac0,show fr+(i-fr)=i by omega];exact p
    ·rw[ac0];exact q5 _ (by omega) (by omega)
   refine aM (fun _=> ?_) ?_
   ·simp only[eS];simp;omega
   refine aM (fun _=> ?_) ?_
   ·simp only[eS];simp;omega
   refine Jb (out++[(s.data.toList.drop fr).take (i-fr)],i+sep.length,i+sep.length) ?_ ⟨?_,bM _,l,?_,fun j a b=>by simp only at a b;omega⟩ ?_
   ·simp only[E.den,ia,iy,tW,tV,zr,gQ,DQ,c,qn,gR,jA,qQ,aam];simp[Co,Wt]
   ·simp only;rw[<-q1,adP m f,C9,show fr+(i-fr+sep.length)=i+sep.length by omega];simp
   ·simp;omega
   ·simp only;omega
  ·refine Jb (out,fr,i+1) ?_ ⟨q1,by simp only;omega,by simp only;omega,q4,fun j a b=> ?_⟩ ?_
   ·simp only[eS];rw[bC];rfl
   ·simp only at a b;by_cases e:j=i
    ·rw[e];exact p
    ·exact q5 j a (by omega)
   ·simp only;omega
 ·simp only[E.den,ia,iy,tW,tV,AO,zr,gQ,DQ,g,c,Z6,oC,oH]at h;have f:Lib.index (s.data.toList.drop fr) sep= -1:=by
   refine Lib.index_none fun j z=> ?_;rw[ac0];rcases dP (fr+j) i with t|A
   ·exact q5 _ (by omega) t
   ·cases B:Lib.occAt s.data.toList sep (fr+j)with
    |false=>rfl
    |true=>
     rcases Lib.occAt_room B with q|q
     ·rw[size_data]at q;omega
     ·exact absurd q m
  refine aM (fun _=> ?_) ?_
  ·simp only[eS];simp;omega
  refine aM (fun _=> ?_) (ay ?_)
  ·simp only[eS];simp;omega
  ·simp only[E.den,ia,iy,tW,tV,zr,gQ,DQ,qn,gR,aam];rw[<-q1,Wm f,show s.size-fr=(s.data.toList.drop fr).length by rw[Mf,size_data],uY];simp[Co,Wt]
def aE6:(1:Int).toNat=1:=rfl
end
end Go.Proofs.YtoomhbopolalnabGreatDoor
