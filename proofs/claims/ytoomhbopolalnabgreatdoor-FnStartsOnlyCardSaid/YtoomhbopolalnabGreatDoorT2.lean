/- Each operation does to a world what the executor says it does: operations that compute or read. No program in sight. -/
import Derived.Test.YtoomhbopolalnabGreatDoorT1
set_option linter.all false
namespace Go.Proofs.YtoomhbopolalnabGreatDoor
open Go.RowKit
variable [GC]
def NE{tab:Nat->List CT}{d:D}(h:cJ tab .mem d):∃n,d=.mem n:=by cases d<;>simp[cJ]at h;exact⟨_,rfl⟩
def rW(P:Program)(f:FuncId):Bool :=
 match P.funcs[f]? with
 |some fn=> !(fn.name== "runtime.NumGoroutine")&&fn.body.isSome
 |none=>false
def aH(P:Program)(f:FuncId)(bx:Option (List D))(ds:List D)(r:D)(x:List D):Prop :=
 rW P f=true/\∀(w:World) (M:Addr->Prop) (g:Nat) (s:List Value),ek w M->Rs w M ds s ->
  (∀d,bx=some d->∃u T,w.heap[g]? =some (.cells u.toArray T (0,0))/\Rs w M d u/\NG<=g/\∀p,p.block=g->M p) ->
  Calls P f (match bx with|none=>s|some _=>.pointer (some ⟨g,0,none⟩)::s).toArray w fun e b=>
   ∃v,e=.returned v/\R b M r v/\Fr w.heap.size (bx.map fun _=>g) w b/\(bx.isSome=true->∃u T,b.heap[g]? =some (.cells u.toArray T (0,0))/\Rs b M x u)
def QX(B:Nat)(w:World)(u:Value)(n:Nat):Prop :=
 ∀b o s len cap,u=.slice (some ⟨b,o,s⟩) len cap->0<cap->s=none/\B<=b/\∃cells T,w.heap[b]? =some (.cells cells T (0,0))/\o+cap*n<=cells.size
def agh(u e:Value):Prop:=∀b o s len cap d f g l p,u=.slice (some ⟨b,o,s⟩) len cap->0<cap->e=.slice (some ⟨d,f,g⟩) l p->0<p->b≠d
def xL(v:Value)(x:Nat×Nat):Value:=(nQ v).getD x.1 undef
def LZ(B:Nat)(w:World)(v:Value)(r:List (Nat×Nat)):Prop :=
 (∀x∈r,QX B w (xL v x) x.2)/\∀(i j:Nat) (x y:Nat×Nat),r[i]? =some x->r[j]? =some y->i≠j->agh (xL v x) (xL v y)
def rR(v:Value)(r:List (Nat×Nat)):Addr->Prop:=fun p=>∃x∈r,He (xL v x) x.2 p
def dJ(P:Program)(f:FuncId)(bx:Option (List D))(ds:List D)(r:D)(x:List D)(t:List (Nat×Nat)):Prop :=
 rW P f=true/\∀(w:World) (M:Addr->Prop) (g:Nat) (s:List Value),ek w M->Rs w M ds s ->
  (∀d,bx=some d->∃u T,w.heap[g]? =some (.cells u.toArray T (0,0))/\Rs w M d u/\NG<=g/\∀p,p.block=g->M p) ->
  Calls P f (match bx with|none=>s|some _=>.pointer (some ⟨g,0,none⟩)::s).toArray w fun e b=>
   ∃v,e=.returned v/\R b (fun p=>M p\/rR v t p) r v/\Fr w.heap.size (bx.map fun _=>g) w b/\LZ w.heap.size b v t/\(bx.isSome=true->∃u T,b.heap[g]? =some (.cells u.toArray T (0,0))/\Rs b (fun p=>M p\/rR v t p) x u)
def aH.eB{P:Program}{f:FuncId}{bx:Option (List D)}{ds:List D}{r:D}{x:List D}{t:List (Nat×Nat)}(h:dJ P f bx ds r x t):aH P f bx ds r x:=by refine⟨h.1,fun w M g s d i j=>(h.2 w M g s d i j).mono ?_⟩;have k:∀b v,bQ b (fun p=>M p\/rR v t p) b M:=fun b v p u l n=>⟨l,fun h=>n (.inl h)⟩;rintro e b ⟨v,q1,q2,q3,q4,q5⟩;refine⟨v,q1,R.keep (k b v) _ _ q2,q3,fun m=> ?_⟩;obtain⟨o,T,q,y⟩:=q5 m;exact⟨o,T,q,Rs.keep (k b v) _ _ y⟩
def QU(P:Program)(f:FuncId)(ds:List D)(cs:List D):Prop :=
 rW P f=true/\∀(w:World) (M:Addr->Prop) (v:List Value),ek w M->Rs w M ds v ->
  Calls P f v.toArray w fun e b=>∃g u T,e=.returned (.pointer (some ⟨g,0,none⟩))/\w.heap.size<=g/\b.heap[g]? =some (.cells u.toArray T (0,0))/\Rs b (fun p=>M p\/p.block=g) cs u/\Below w.heap.size w b
def LQ(P:Program)(f:FuncId)(ds:List D)(p:List (List D))(r:D):Prop :=
 rW P f=true/\∀(w:World) (M:Addr->Prop) (s b:List Value),ek w M->Rs w M ds s->nE w M p b ->
  Calls P f (s++b).toArray w fun e d=>∃v,e=.returned v/\R d M r v/\Below w.heap.size w d
def QW(P:Program)(x:D)(ds:List D)(r:D):Prop:=∃f p,x=.fn f p/\LQ P f ds p r
def D.one:D->Prop
 |.agg _|.aU _|.un=>False
 |_=>True
def YN:VT->D->Prop
 |.one (.c _),d=>d.one
 |_,_=>True
def agJ{tab:Nat->List CT}{vt:VT}{d:D}(h:bG tab vt d):YN vt d:=by
 rcases vt with (t|g)|v
 ·have h:cJ tab t d:=h;cases t with
  |bool=>obtain⟨b,rfl⟩:=yx h;trivial
  |int k=>obtain⟨n,rfl⟩:=zS h;trivial
  |str=>obtain⟨s,rfl⟩:=Dw h;trivial
  |sl e=>obtain⟨r,rfl,_⟩:=xh h;trivial
  |mem=>obtain⟨n,rfl⟩:=NE h;trivial
  |fn=>obtain⟨f,p,rfl⟩:=Uu h;trivial
 ·trivial
 ·trivial
variable {M:Addr->Prop}{v:Value}{w:World}
def agk{d:D}(h:d.one)(r:R w M d v):nQ v=[v]:=by
 cases d with
 |bool b=>have:v=.bool b:=r;subst this;rfl
 |int k n=>have:v=.int k n:=r.1;subst this;rfl
 |str s=>have:v=.string s:=r.1;subst this;rfl
 |sl o=>obtain⟨e,len,cap,rfl,_⟩:=r;rfl
 |mem n=>obtain⟨e,cap,rfl,_⟩:=r;rfl
 |fn f p=>obtain⟨g,rfl,_⟩:=r;rfl
 |_=>exact h.elim
def agf:VT->D->Prop
 |.one (.agg t),d=>∃l,d=.agg l/\l.length=t.length
 |_,_=>True
def jL(P:Program)(env:List D)(n:Nat):Rq->Prop
 |.cond gs c=>cP env gs->c.den env=.bool true
 |.call gs f bx args _ nb=>cP env gs->aH P f (bx.map (·.map (·.den env))) (args.map (·.den env)) (env.getD n .un) ((List.range nb.length).map fun j=>env.getD (n+1+j) .un)
 |.cF f bx args vt nb r=>YN vt (env.getD n .un)/\dJ P f (bx.map (·.map (·.den env))) (args.map (·.den env)) (env.getD n .un) ((List.range nb.length).map fun j=>env.getD (n+1+j) .un) r
 |.new f args nb=>QU P f (args.map (·.den env)) ((List.range nb.length).map fun j=>env.getD (n+j) .un)
 |.lJ gs e args _=>cP env gs->QW P (e.den env) (args.map (·.den env)) (env.getD n .un)
 |.xg g vt ix=>Yw g (env.getD n .un)/\agm env ix/\agf vt (env.getD n .un)
def Hf(gs:Gd):ST->Prop
 |.v g _ _=>g=gs
 |.ptr g _ _=>g=gs
 |.ro g _ _=>g=gs
 |.gp g _ _ _=>g=gs
 |.mp g _ _ _ _=>g=gs
 |.iv g _ _ _ _ _ _=>g=gs
 |.ip g _ _ _ _ _ _ _ _=>g=gs
 |_=>False
variable {env:List D}{st:ST}
def O8{bm:Nat->Nat}{tm:Nat->Value}{gs:Gd}(h:Hf gs st)(hg:¬cP env gs):rC w M bm tm env st undef:=by cases st<;>simp only[Hf]at h<;>first|(subst h;exact⟨fun h=>absurd h hg,fun _=>rfl⟩)|exact h.elim
variable {e:E}{g:Gd}{l:List D}{n off:Nat}
section
variable {P:Program}{c:SC}{F:Nat->Prop}{σ:Nat->ST}{bm:Nat->Nat}{tm:Nat->Value}{a:Act}{w:World}{tb:TB}{Γ:List VT}{gs:Gd}
def nW(e:aN c F σ bm tm a w){T:Nat}{x:Operand}{st:ST}(h:aY tb σ T x=some st):rC w (MM c.M0 bm tm σ) bm tm c.env st (a.eval x)/\∀g,cE st g->F g:=by
 cases x with
 |tmp t=>simp only[aY,aS]at h;subst h;exact⟨e.tmps t,fun g d=>e.f1 _ g d⟩
 |const v=>
  simp only[aY]at h;simp only[Act.eval];unfold FE at h;split at h
  ·simp at h;subst h;exact⟨⟨fun _=>rfl,fun h=>absurd (cR _) h⟩,fun g d=>d.elim⟩
  ·split at h
   ·rename_i r;simp at h;subst h;exact⟨⟨fun _=>⟨rfl,r⟩,fun h=>absurd (cR _) h⟩,fun g d=>d.elim⟩
   ·simp at h
  ·split at h
   ·rename_i r;simp at h;subst h;exact⟨⟨fun _=>⟨rfl,r⟩,fun h=>absurd (cR _) h⟩,fun g d=>d.elim⟩
   ·simp at h
  ·split at h
   ·simp at h;subst h;exact⟨⟨fun _=>⟨⟨none,0,0,rfl,rfl,bM _,by decide,fun _=>rfl,fun b o s h=>by cases h⟩,none,rfl⟩,fun h=>absurd (cR _) h⟩,fun g d=>d.elim⟩
   ·simp at h
  ·simp at h
 |global g=>simp[aY]at h
 |func f=>simp[aY]at h
def Aq{s:ST}(h:under gs st=some s):(∃g k e,st=.v g k e/\qV g gs=true/\s=.v gs k e)\/(∃g id off,st=.ptr g id off/\qV g gs=true/\s=.ptr gs id off)\/(∃g e off,st=.ro g e off/\qV g gs=true/\s=.ro gs e off):=by
 cases st with
 |un=>simp[under]at h
 |box b=>simp[under]at h
 |live n=>simp[under]at h
 |gp _ _ _ _=>simp[under]at h
 |mp _ _ _ _ _=>simp[under]at h
 |iv _ _ _ _ _ _ _=>simp[under]at h
 |ip _ _ _ _ _ _ _ _ _=>simp[under]at h
 |v g k e=> simp only[under]at h;cases i:qV g gs<;>rw[i]at h<;>simp at h;exact .inl ⟨g,k,e,rfl,i,h.symm⟩
 |ptr g id off=> simp only[under]at h;cases i:qV g gs<;>rw[i]at h<;>simp at h;exact .inr (.inl ⟨g,id,off,rfl,i,h.symm⟩)
 |ro g e off=> simp only[under]at h;cases i:qV g gs<;>rw[i]at h<;>simp at h;exact .inr (.inr ⟨g,e,off,rfl,i,h.symm⟩)
def ao0{k:K}(h:under gs st=some (.v g k e))(r:rC w M bm tm env st v)(hg:cP env gs):cB w M tm env k e v/\(∀x,k.has x->cE st x):=by rcases Aq h with⟨d,f,j,rfl,i,h⟩|⟨_,_,_,_,_,h⟩|⟨_,_,_,_,_,h⟩<;>cases h;exact⟨r.1 (zP i hg),fun x b=>b⟩
def KA{id:Nat}(h:under gs st=some (.ptr g id off))(r:rC w M bm tm env st v)(hg:cP env gs):v=.pointer (some ⟨bm id,off,none⟩):=by rcases Aq h with⟨_,_,_,_,_,h⟩|⟨b,d,o,rfl,i,h⟩|⟨_,_,_,_,_,h⟩<;>cases h;exact r.1 (zP i hg)
def KC(h:under gs st=some (.ro g e off))(r:rC w M bm tm env st v)(hg:cP env gs):∃b o,v=.pointer (some ⟨b,o,none⟩)/\Rw w M ((e.den env).kZ.drop off) b o:=by rcases Aq h with⟨_,_,_,_,_,h⟩|⟨_,_,_,_,_,h⟩|⟨d,f,j,rfl,i,h⟩<;>cases h;exact r.1 (zP i hg)
def Wy{s:ST}{x:Nat}(h:under gs st=some s)(m:cE s x):cE st x:=by
 rcases Aq h with⟨g,k,e,rfl,i,rfl⟩|⟨g,b,o,rfl,i,rfl⟩|⟨g,b,o,rfl,i,rfl⟩
 ·exact m
 ·exact m
 ·exact m
def Wz{s:ST}(h:under gs st=some s):Hf gs s:=by rcases Aq h with⟨g,k,e,rfl,i,rfl⟩|⟨g,b,o,rfl,i,rfl⟩|⟨g,b,o,rfl,i,rfl⟩<;>rfl
def ym{s:Option ST}{t:ST}(h:s.bind (under gs)=some t):∃st,s=some st/\under gs st=some t:=by
 cases s with
 |none=>simp at h
 |some st=>exact⟨st,rfl,by simpa using h⟩
def ad7{s:Option ST}{k:K}(h:fT gs s=some (k,e)):∃st g,s=some st/\under gs st=some (.v g k e):=by
 unfold fT at h;split at h
 ·rename_i g i j b;simp at h;obtain⟨rfl,rfl⟩:=h;obtain⟨st,d,f⟩:=ym b;exact⟨st,g,d,f⟩
 ·simp at h
def dN(s:aN c F σ bm tm a w){T:Nat}{x:Operand}{k:K}{e:E}(h:fT gs (aY tb σ T x)=some (k,e)):(cP c.env gs->cB w (MM c.M0 bm tm σ) tm c.env k e (a.eval x))/\∀g,k.has g->F g:=by obtain⟨t,g,d,b⟩:=ad7 h;obtain⟨f,i⟩:=nW s d;exact⟨fun j=>(ao0 b f j).1,fun x l=>i x (Wy b l)⟩
def jX(P:Program)(c:SC)(F:Nat->Prop)(gs:Gd)(σ:Nat->ST)(bm:Nat->Nat)(tm:Nat->Value)(a:Act)(w:World)(n:Nat)(o:Oper)(e:bq):Prop :=
 ∃s,e.wr=wv o.dst s/\Hf gs s/\(∀g,cE s g->F g) /\
  (cP c.env gs->(∀r∈e.rq,jL P c.env n r)->∃v b,(execOp a.eval o).run P w=.ok (.value v) b/\Below w.heap.size w b/\rC b (MM c.M0 bm tm σ) bm tm c.env s v)
def fj{k:K}(hg:cP env gs)(h:cB w M tm env k e v):rC w M bm tm env (.v gs k e) v:=⟨fun _=>h,fun h=>absurd hg h⟩
def anT(j:aN c F σ bm tm a w){n:Nat}{o:Oper}{x:Operand}(ho:o.op=.move x\/o.op=.assign x){T:Nat}{f:bq}(h:aaD gs o.dst (aY tb σ T x)=some f):jX P c F gs σ bm tm a w n o f:=by
 unfold aaD at h;simp only[kN]at h;obtain⟨s,k,rfl⟩:=h;obtain⟨t,l,b⟩:=ym k;obtain⟨i,m⟩:=nW j l;refine⟨s,rfl,Wz b,fun g d=>m g (Wy b d),fun d _=>⟨a.eval x,w,?_,dQ _ _,?_⟩⟩
 ·rcases ho with ho|ho<;>simp[execOp,ho]
 ·cases s<;>simp only[rC]
  ·have:=ao0 b i d;have e:=Wz b;simp only[Hf]at e;subst e;exact⟨fun _=>this.1,fun h=>absurd d h⟩
  ·have:=KA b i d;have e:=Wz b;simp only[Hf]at e;subst e;exact⟨fun _=>this,fun h=>absurd d h⟩
  ·have:=KC b i d;have e:=Wz b;simp only[Hf]at e;subst e;exact⟨fun _=>this,fun h=>absurd d h⟩
  all_goals rcases Aq b with⟨_,_,_,_,_,h⟩|⟨_,_,_,_,_,h⟩|⟨_,_,_,_,_,h⟩<;>cases h
def MX(env:List D):∀es:List E,(mk es).den env=.agg (es.map (·.den env))
 |[]=>rfl
 |e::r=>by simp[mk,E.den,MX env r]
def TE(h:bV tb.tab Γ env)(es:List E):(pack tb.tab Γ es).den env=.agg (es.map (·.den env)):=by
 unfold pack;split
 ·rename_i x i r;split
  ·rename_i u f;split
   ·rename_i heq;obtain⟨heq,e⟩:=heq;obtain⟨l,b,t⟩:=lV (eG h x _ f);have g:=t.length;generalize k:(E.cell x i::r).length=n at heq e;have key:(E.cell x i::r).map (·.den env)=(l.drop i).take n:=by
     rw[heq];refine zB fun q=> ?_;simp only[Rj,iw,qk,yd];by_cases d:q<n
     ·rw[aC d];simp[List.getElem?_range' d,E.den,b,List.getD,bX (show i+q<l.length by omega)]
     ·rw[aw d,nI (by simp;omega)];rfl
    split
    ·rename_i j;rw[key,b];rw[j.1,Iw,A7 (by omega)]
    ·rw[key];simp[E.den,b]
   ·exact MX env _
  ·exact MX env _
 ·exact MX env _
def Rs.Kx{vs:List Value}(h:Rs w M l vs):R w M (.agg l) (.agg vs.toArray):=⟨vs.toArray,rfl,by simpa using h⟩
def ZE{c:SC}{id:Nat}{cs:List (K×E)}(h:tR c w M bm tm id cs):∃vs,dm w M tm c.env cs vs/\(∀j u,vs[j]? =some u->w.cell? ⟨bm id,j,none⟩=some u)/\∃T,w.heap[bm id]? =some (.cells vs.toArray T (0,0)):=by obtain⟨vs,T,b,d,f⟩:=h;exact⟨vs,d,fun j u e=>by rw[yg w _ j _ T _ b];simpa using e,T,b⟩
def aGU(v:cX P tb tb=true)(Y:aN c F σ bm tm a w)(Z:bV tb.tab Γ c.env){n:Nat}{o:Oper}{x:Operand}{T:Nat}(ho:o.op=.load T x){ti:TI}(y:tb.get T=some ti){aQ:bq}
  (h:Jm tb.tab Γ gs o.dst σ ti (aY tb σ 0 x)=some aQ):jX P c F gs σ bm tm a w n o aQ:=by
 unfold Jm at h;split at h
 ·rename_i g id off M;obtain⟨st,N,U⟩:=ym M;obtain⟨V,h5⟩:=nW Y N;split at h
  ·rename_i S m;obtain⟨B,I,p,j,f⟩:=ZE (Y.box id S m);split at h
   ·rename_i t J;split at h
    ·rename_i k e l;simp at h;subst h;refine⟨_,rfl,rfl,fun g f=> ?_,fun f _=> ?_⟩
     ·exact Y.f1 (3*id+1) _ (by rw[m];exact⟨_,jB l,f⟩)
     ·obtain⟨u,r,s⟩:=I.get l;obtain⟨i,d,W,_,_,_,O,L⟩:=fX v y J;have:=KA U V f;exact⟨u,w,by simp[execOp,ho,this,Instr.loadAt,Instr.sureAddr,G8 O L (p off u r)],dQ _ _,fj f s⟩
    ·simp at h
   ·rename_i X J;split at h
    ·rename_i j;simp only[aS]at h;subst h;refine⟨_,rfl,rfl,fun g f=> ?_,fun f _=> ?_⟩
     ·obtain⟨q,j,A⟩:=YA (show(Ae _).has g from f);simp only[fJ]at j;obtain⟨z,Q,rfl⟩:=j;exact Y.f1 (3*id+1) _ (by rw[m];exact⟨z,Rl (Rm Q),A⟩)
     obtain⟨i,fields,z,W,A,_,_,_,r,_⟩:=pX v y J;have:=KA U V f;have C:=(I.drop off).take X.length;have m:((B.drop off).take X.length).length=i.size:=by have:=I.length;simp[A];omega
     refine⟨.agg ((B.drop off).take X.length).toArray,w,?_,dQ _ _,fj f ?_⟩
     ·have G:=Pm (P:=P) (w:=w) r W (b:=bm id) (o:=off) m (fun j u H=>by
       simp only[qk,yd]at H;split at H
       ·exact p _ _ H
       ·simp at H)
      simp[execOp,ho,this,Instr.loadAt,Instr.sureAddr,G]
     ·refine VW ?_ fun j k u l r=> ?_
      ·rw[TE Z];have:=C.rs.Kx;simpa only[E7,List.map_drop]using this
      ·have m:∃z,((S.drop off).take X.length)[j]? =some z/\z.1=k:=by simp only[<-E7, <-List.map_drop,iw,kN]at l;exact l
       obtain⟨z,Q,rfl⟩:=m;obtain⟨m,j,l⟩:=C.get Q;rw[r]at j;cases j;exact l.kk
    ·simp at h
   ·simp at h
  ·simp at h
 ·rename_i g e off M;obtain⟨st,N,U⟩:=ym M;obtain⟨V,h5⟩:=nW Y N;split at h
  ·rename_i l j;obtain⟨l,G,M⟩:=lV (eG Z e _ j);split at h
   ·rename_i t J;split at h
    ·rename_i j;simp at h;subst h;refine⟨_,rfl,rfl,fun g f=>by simp[cE,K.has]at f,fun f _=> ?_⟩;obtain⟨b,p,m,s⟩:=KC U V f;rw[G,mq]at s;obtain⟨i,d,W,_,_,_,O,L⟩:=fX v y J;have H:off<l.length:=by rw[M.length];exact j
     obtain⟨u,r,_,j⟩:=s.get (i:=0) (d:=l[off]) (by simp[yd,H]);refine⟨u,w,by simp[execOp,ho,m,Instr.loadAt,Instr.sureAddr,G8 O L (by simpa using r)],dQ _ _,fj f ?_⟩;simp only[cB,E.den,G,mq,List.getD,bX H,j0];exact j
    ·simp at h
   ·rename_i X J;obtain⟨i,fields,z,W,A,_,_,_,r,_⟩:=pX v y J;split at h
    ·rename_i j;simp at h;subst h;refine⟨_,rfl,rfl,fun g f=>by simp[cE,K.has]at f,fun f _=> ?_⟩;obtain⟨b,p,m,s⟩:=KC U V f;rw[G,mq,j.1,Iw]at s;obtain⟨B,N,O,Q⟩:=s.cells;have S:=Pm (P:=P) (w:=w) r W (b:=b) (o:=p) (vs:=B) (by rw[N,M.length,A];exact j.2.symm) Q;refine⟨.agg B.toArray,w,by simp[execOp,ho,m,Instr.loadAt,Instr.sureAddr,S],dQ _ _,fj f ?_⟩;simp only[cB,G];exact O.Kx
    ·split at h
     ·rename_i j;simp at h;subst h;refine⟨_,rfl,rfl,fun g f=>by simp[cE,K.has]at f,fun f _=> ?_⟩;obtain⟨b,p,m,s⟩:=KC U V f;rw[G,mq]at s;obtain⟨B,N,O,Q⟩:=(s.take X.length).cells;have S:=Pm (P:=P) (w:=w) r W (b:=b) (o:=p) (vs:=B) (by rw[N,A];have:=M.length;simp;omega) Q;refine⟨.agg B.toArray,w,by simp[execOp,ho,m,Instr.loadAt,Instr.sureAddr,S],dQ _ _,fj f ?_⟩;simp only[cB,E.den,G,mq];exact O.Kx
     ·simp at h
   ·simp at h
  ·simp at h
 ·simp at h
def Ub:∀{s:List (Nat×Nat)} {l:List Field},uu tb s l=true->∀{f o t:Nat},s[f]? =some (o,t)->∃x,l[f]? =some x/\x.offset=o/\x.type=t
 |[],_,_,f,o,t,b=>by simp at b
 |(d,e)::r,[],h,f,o,t,b=>by simp[uu]at h
 |(d,e)::r,x::l,h,f,o,t,b=>by
  simp only[uu,aX,vf]at h;cases f with
  |zero=>simp at b;obtain⟨rfl,rfl⟩:=b;exact⟨x,rfl,h.1.1.1.symm,h.1.1.2.symm⟩
  |succ f=>simp at b;simpa using Ub h.2 b
def aGL(k:cX P tb tb=true)(Q:aN c F σ bm tm a w){n:Nat}{o:Oper}{x:Operand}{T f:Nat}(ho:o.op=.fieldAddr T x f){ti:TI}(y:tb.get T=some ti){l:bq}
  (h:aau tb Γ gs o.dst ti (aY tb σ 0 x) f=some l):jX P c F gs σ bm tm a w n o l:=by
 unfold aau at h;split at h
 ·rename_i d m g W X;obtain⟨i,fields,z,d,Y,_,_,_,Z,A⟩:=pX k y W;obtain⟨S,B,p,C⟩:=Ub A X;split at h
  ·rename_i d G;split at h
   ·simp at h
   ·rename_i H;split at h
    ·simp at h
    ·rename_i v1 v;obtain⟨j,g,I,_⟩:=tH k G v;have J:d.cells=v1.cells:=by simp[TI.cells,v]
     have r:∀(L:Addr),(Instr.fieldAt T (.pointer (some L)) f).run P w=.ok (.pointer (some (L.add m))) w:=fun L=>by
      have q:fields[f]? =some S:=by simpa using B
      have s:v1.cells≠[]:=by rw[<-J];intro e;simp[e]at H
      have t:(sizeOf S.type).run P w=.ok v1.cells.length w:=by rw[C,run_sizeOf g,I]
      simp[Instr.fieldAt,run_underlying Z,q,Instr.sureAddr,fieldPlace,t,s,p]
     split at h
     ·rename_i g id off M;simp at h;subst h;obtain⟨j,N,u⟩:=ym M;obtain⟨O,U⟩:=nW Q N;refine⟨_,rfl,rfl,fun g d=>U g (Wy u (by simpa[cE]using d)),fun d _=> ?_⟩;have:=KA u O d;refine⟨.pointer (some ⟨bm id,off+m,none⟩),w,by simp[execOp,ho,this,r,addr_add],dQ _ _,fun _=>rfl,fun h=>absurd d h⟩
     ·rename_i g e off M;simp at h;subst h;obtain⟨j,N,u⟩:=ym M;obtain⟨O,U⟩:=nW Q N;refine⟨_,rfl,rfl,fun g d=>by simp[cE,K.has]at d,fun d _=> ?_⟩;obtain⟨b,V,g,j⟩:=KC u O d;refine⟨.pointer (some ⟨b,V+m,none⟩),w,by simp[execOp,ho,g,r,addr_add],dQ _ _,fun _=>⟨b,V+m,rfl,?_⟩,fun h=>absurd d h⟩;have:=j.drop m
      rwa[C9]at this
     ·simp at h
  ·simp at h
 ·simp at h
def nP(b:bV tb.tab Γ env){k:K}{e:E}{v:Value}{kk:IntKind}(h:e.inf tb.tab Γ=some (.one (.c (.int kk))))(r:cB w M tm env k e v):∃n,e.den env=.int kk n/\v=.int kk n/\kk.min<=n/\n<=kk.max:=by obtain⟨n,d⟩:=zS (eG b e _ h);have:=r.rd;rw[d]at this;exact⟨n,d,this.1,this.2⟩
def Ds(d:bV tb.tab Γ env){k:K}{e:E}{v:Value}(h:e.inf tb.tab Γ=some (.one (.c .bool)))(r:cB w M tm env k e v):∃b,e.den env=.bool b/\v=.bool b:=by obtain⟨n,f⟩:=yx (eG d e _ h);have:=r.rd;rw[f]at this;exact⟨n,f,this⟩
def FP(b:bV tb.tab Γ env){k:K}{e:E}{v:Value}(h:e.inf tb.tab Γ=some (.one (.c .str)))(r:cB w M tm env k e v):∃s,e.den env=.str s/\v=.string s/\s.size<=maxLen:=by obtain⟨n,d⟩:=Dw (eG b e _ h);have:=r.rd;rw[d]at this;exact⟨n,d,this.1,this.2⟩
def FO(d:bV tb.tab Γ env){k:K}{e:E}{v:Value}{l:Nat}(h:e.inf tb.tab Γ=some (.one (.c (.sl l))))(r:cB w M tm env k e v) :
  ∃rows,e.den env=.sl rows/\dc tb.tab (tb.tab l) rows/\∃f len cap,v=.slice f len cap/\len=rows.length/\len<=cap/\cap<=maxLen/\(f=none->cap=0)/\∀b o s,f=some ⟨b,o,s⟩->(0<len->s=none)/\jj w M rows b o:=by
 obtain⟨rows,n,t⟩:=xh (eG d e _ h);have:=r.rd;rw[n]at this;exact⟨rows,n,t,this⟩
def anS(q:cX P tb tb=true)(V:aN c F σ bm tm a w)(t:bV tb.tab Γ c.env){n:Nat}{o:Oper}{x i:Operand}{T:Nat}(ho:o.op=.indexAddr T x i){ti:TI}(H:tb.get T=some ti){u:bq}
  (h:TU tb Γ gs o.dst ti (aY tb σ T x) (aY tb σ 0 i)=some u):jX P c F gs σ bm tm a w n o u:=by
 unfold TU at h;split at h
 ·rename_i r f ex g e C j B;split at h
  ·rename_i f v;split at h
   ·simp at h
   ·rename_i v1 y;split at h
    ·rename_i W;simp at h;subst h;refine⟨_,rfl,rfl,fun g p=>by simp[cE,K.has]at p,fun p I=> ?_⟩;have f:jL P c.env n (.cond gs (.bI ex e)):=I _ (by simp);replace f:=f p;obtain⟨z,e,J,O,len,cap,A,X,Y,Z,k,l⟩:=FO t (vW W.1) ((dN V j).1 p);obtain⟨kk,L⟩:=yJ W.2;obtain⟨m,g,M,_⟩:=nP t L ((dN V B).1 p);simp only[E.den,e,g,gQ,cG,D.bool.injEq,du]at f;obtain⟨G,d,j,_,_,_,L,B⟩:=fX q H C;simp only[iI]at B;subst B;obtain⟨j,B,N,_⟩:=tH q v y;have C:tb.tab r=v1.cells:=by simp[TB.tab,v,TI.cells,y]
     have G:m.toNat<z.length:=by omega
     rcases O with _|⟨b,j,s⟩
     ·have:=k rfl;omega
     ·obtain⟨O,Q⟩:=l b j s rfl;have S:=O (by omega);subst S;refine⟨.pointer (some ⟨b,j+m.toNat*v1.cells.length,none⟩),w,?_,dQ _ _,fun _=>⟨b,_,rfl,?_⟩,fun h=>absurd p h⟩
      ·have U:m<(len:Int):=by omega
       simp[execOp,ho,A,M,Instr.indexAt,asIntOf,run_underlying L,run_sizeOf B,N,f.1,U,addr_add]
      ·simp only[E.den,e,g,AP,gQ,bX G,j0,mq,Iw];exact Q.get (fun r I=>by rw[J.len r I,C]) (bX G)
    ·simp at h
  ·simp at h
 ·simp at h
def aG3(s:aN c F σ bm tm a w){n:Nat}{o:Oper}{x:Operand}(ho:o.op=.nilCheck x){T:Nat}{f:bq}(h:aaF gs o.dst (aY tb σ T x)=some f):jX P c F gs σ bm tm a w n o f:=by
 unfold aaF at h;split at h
 ·rename_i g id off j;simp at h;subst h;obtain⟨t,k,i⟩:=ym j;obtain⟨l,m⟩:=nW s k;refine⟨_,rfl,rfl,fun g d=>m g (Wy i (by simpa[cE]using d)),fun d _=> ?_⟩;have:=KA i l d;exact⟨_,w,by simp[execOp,ho,this],dQ _ _,fun _=>rfl,fun h=>absurd d h⟩
 ·rename_i g e off j;simp at h;subst h;obtain⟨t,k,i⟩:=ym j;obtain⟨l,m⟩:=nW s k;refine⟨_,rfl,rfl,fun g d=>by simp[cE,K.has]at d,fun d _=> ?_⟩;obtain⟨b,p,q,r⟩:=KC i l d;exact⟨_,w,by simp[execOp,ho,q],dQ _ _,fun _=>⟨b,p,rfl,r⟩,fun h=>absurd d h⟩
 ·simp at h
def aG4(s:aN c F σ bm tm a w)(i:bV tb.tab Γ c.env){n:Nat}{o:Oper}{x:Operand}{T j:Nat}(ho:o.op=.unOp .not j x){f:bq}(h:aaG tb.tab Γ gs o.dst (aY tb σ T x)=some f):jX P c F gs σ bm tm a w n o f:=by
 unfold aaG at h;split at h
 ·rename_i k e l;split at h
  ·rename_i m;simp at h;subst h;refine⟨_,rfl,rfl,fun g d=>by simp[cE,K.has]at d,fun d _=> ?_⟩;obtain⟨b,p,v⟩:=Ds i (vW m) ((dN s l).1 d);exact⟨.bool !b,w,by simp[execOp,ho,v,Op.unary],dQ _ _,fj d (by simp[cB,E.den,p,R])⟩
  ·simp at h
 ·simp at h
def aG1(s:aN c F σ bm tm a w)(d:bV tb.tab Γ c.env){n:Nat}{o:Oper}{x:Operand}{T i:Nat}(ho:o.op=.unOp .neg i x){f:bq}(h:aaE tb.tab Γ gs o.dst (aY tb σ T x)=some f):jX P c F gs σ bm tm a w n o f:=by
 unfold aaE at h;split at h
 ·rename_i k e j;split at h
  ·rename_i kk l;simp at h;subst h;refine⟨_,rfl,rfl,fun g b=>by simp[cE,K.has]at b,fun b _=> ?_⟩;obtain⟨m,p,v,_⟩:=nP d l ((dN s j).1 b);refine⟨.int kk (kk.wrap (0-m)),w,by simp[execOp,ho,v,Op.unary,Op.intArith],dQ _ _,fj b ?_⟩;simp only[cB,E.den,p,gQ,R,dL];exact⟨trivial,IV _ _⟩
  ·simp at h
 ·simp at h
def aiY{t:CT}{d:D}(h:dH tb.tab (.c t) d)(g:R w M d v):jO v=[v]:=by
 have h:cJ tb.tab t d:=h;cases t with
 |bool=>obtain⟨b,rfl⟩:=yx h;have:v=.bool b:=g;subst this;rfl
 |int k=>obtain⟨n,rfl⟩:=zS h;have:v=.int k n:=g.1;subst this;rfl
 |str=>obtain⟨s,rfl⟩:=Dw h;have:v=.string s:=g.1;subst this;rfl
 |sl e=>obtain⟨r,rfl,_⟩:=xh h;obtain⟨i,len,cap,rfl,_⟩:=g;rfl
 |mem=>obtain⟨n,rfl⟩:=NE h;obtain⟨i,cap,rfl,_⟩:=g;rfl
 |fn=>obtain⟨f,p,rfl⟩:=Uu h;obtain⟨j,rfl,_⟩:=g;rfl
def az9{v1:V1}{d:D}(b:dH tb.tab v1 d)(e:R w M d v):(jO v).length=v1.cells.length:=by
 cases v1 with
 |c t=>rw[aiY b e];rfl
 |agg s=> obtain⟨l,rfl,h⟩:=lV b;obtain⟨f,rfl,r⟩:=e;simp only[jO,V1.cells];rw[r.length,h.length]
def aiZ{M:Addr->Prop}:∀{vs:List V1} {l:List D} {us:List Value},lE tb.tab vs l->Rs w M l us->∀{i j:Nat} {u x:Value},i<vs.length->us[i]? =some u->(jO u)[j]? =some x->(us.flatMap jO)[Cb vs i+j]? =some x
 |[],_,_,_,_,i,_,_,_,b,_,_=>by simp at b
 |v::vs,[],_,h,_,_,_,_,_,_,_,_=>by simp[lE]at h
 |v::vs,d::l,us,h,⟨g,q,e,h1,h2⟩,i,j,u,x,b,f,hx=>by
  subst e;simp only[lE]at h;have n:=az9 h.1 h1;cases i with
  |zero=> simp at f;subst f;have k:j<(jO g).length:=(dh.1 hx).1;simp only[Y3,Cb,nJ];rw[mP k];exact hx
  |succ i=> simp at f b;have:=aiZ h.2 h2 b f hx;simp only[Y3,Cb];rw[nH (by omega),show v.cells.length+Cb vs i+j-(jO g).length=Cb vs i+j by omega];exact this
def aAa{vs:List V1}{cs:Array Value}(h:lE tb.tab vs l)(r:Rs w M l cs.toList){i j:Nat}{u x:Value}(b:i<vs.length)(d:cs.toList[i]? =some u)(hx:(jO u)[j]? =some x):(nQ (.tuple cs))[Cb vs i+j]? =some x :=
 aiZ h r b d hx
def aGK(L:aN c F σ bm tm a w)(M:bV tb.tab Γ c.env){n:Nat}{o:Oper}{x:Operand}{T i:Nat}(ho:o.op=.extract x i){r:bq}(h:aat tb.tab Γ gs o.dst (aY tb σ T x) i=some r):jX P c F gs σ bm tm a w n o r:=by
 unfold aat at h;split at h
 ·rename_i k e m;split at h
  ·rename_i N b;split at h
   ·rename_i I;simp at h;subst h;refine⟨_,rfl,rfl,fun g s=>(dN L m).2 g (avK (show(adU _ _ _).has g from s)),fun s _=> ?_⟩;obtain⟨l,O,p⟩:=abl (eG M e _ b);have q:=(dN L m).1 s;have W:=((dN L m).1 s).rd;rw[O]at W;obtain⟨X,v,z⟩:=W;obtain⟨d,J,_⟩:=p.get (bX I);obtain⟨u,b,Q⟩:=z.get J;have A:X[i]? =some u:=by simpa using b
    have b:R w (MM c.M0 bm tm σ) ((E.proj e i).den c.env) u:=by simpa[E.den,O,List.getD,J]using Q
    refine⟨u,w,by simp[execOp,ho,v,Instr.extract,A],dQ _ _,fj s ?_⟩;have y:dH tb.tab N[i] ((E.proj e i).den c.env):=by obtain⟨f,B,S⟩:=p.get (bX I);rw[J]at B;cases B;simpa[E.den,O,List.getD,J]using S
    rw[v]at q;have C:∀(j:Nat) (x:Value),(jO u)[j]? =some x->(nQ (.tuple X))[Cb N i+j]? =some x:=fun j x m=>aAa p z I (by simpa using A) m;rw[bX I];cases G:N[i]with
    |c t=> rw[G]at y;have f:jO u=[u]:=aiY y b;exact ani b (q.nth (by have:=C 0 u (by rw[f];rfl);simpa using this))
    |agg f=>
     rw[G]at y;obtain⟨f,U,Y⟩:=lV y;have f:=b;rw[U]at f;obtain⟨Z,rfl,g⟩:=f;have:Z=Z.toList.toArray:=by simp
     rw[this]at b ⊢;refine VW b fun j k x f m=> ?_;simp only[iw,kN]at f;obtain⟨b,H,rfl⟩:=f;have V:b=j:=by rw[dh]at H;obtain⟨q1,q2⟩:=H;simpa using q2.symm
     subst V;exact q.nth (C b x (by simpa[jO]using m))
   ·simp at h
  ·simp at h
 ·simp at h
def aGI(p:cX P tb tb=true)(hs:aN c F σ bm tm a w)(Q:bV tb.tab Γ c.env){n:Nat}{o:Oper}{x:Operand}{S T:Nat}(ho:o.op=.convert S T x){si ti:TI}(U:tb.get S=some si)(V:tb.get T=some ti){W:bq}
  (h:aas tb.tab Γ gs o.dst (ad5 tb si) si ti (aY tb σ S x)=some W):jX P c F gs σ bm tm a w n o W:=by
 unfold aas at h;split at h
 ·rename_i f y z e A I j;split at h
  ·rename_i X;simp at h;subst h;refine⟨_,rfl,rfl,fun g B=>by simp[cE,K.has]at B,fun B _=> ?_⟩;obtain⟨kk,f⟩:=yJ X;obtain⟨m,Y,r,_⟩:=nP Q f ((dN hs j).1 B);obtain⟨_,H,_,_,_,_,q,k⟩:=fX p U A;obtain⟨_,N,_,_,_,_,t,l⟩:=fX p V I;simp only[iI]at k l;subst k l;refine⟨.int y (y.wrap m),w,by simp[execOp,ho,r,convert,run_underlying q,run_underlying t,Conv.intToInt],dQ _ _,fj B ?_⟩;simp only[cB,E.den,Y,gQ,R];exact⟨trivial,IV _ _⟩
  ·simp at h
 ·rename_i el z e A I j;split at h
  ·rename_i X;simp at h;subst h;refine⟨_,rfl,rfl,fun g B=>by simp[cE,K.has]at B,fun B _=> ?_⟩;obtain⟨f,J,L,z,len,cap,y,G,g,r,M,C⟩:=FO Q (vW X.1) ((dN hs j).1 B);obtain⟨_,H,_,_,_,_,q,k⟩:=fX p U A;obtain⟨_,N,_,_,_,_,t,l⟩:=fX p V I;simp only[iI]at k l;subst k l;have N:P.underlying el=some (.int .u8):=by
    have O:=X.2.1;unfold ad5 at O;rw[A]at O;simp only at O;split at O
    ·rename_i i k;split at O
     ·rename_i g;obtain⟨_,l,_,_,_,_,j,H⟩:=fX p k g;simp only[iI]at H;subst H;exact j
     ·simp at O
    ·simp at O
   rw[X.2.2]at L;refine⟨.string (MH (.sl f)),w,?_,dQ _ _,fj B ?_⟩
   ·rcases z with _|⟨b,Z,s⟩
    ·have g:f=[]:=mO (by have:=M rfl;omega);subst g;have:=run_convert_bytes_nil (P:=P) w S el q N len cap T t;simp[execOp,ho,y,this];rfl
    ·obtain⟨l,j⟩:=C b Z s rfl;have A:∀i,i<len->w.cell? ⟨b,Z+i,none⟩=some (.int .u8 ((f.map fun r=>(r.headD .un).cq).getD i 0)):=by
      intro i k;have k:=j.get (n:=1) (fun r k=>L.len r k) (bX (show i<f.length by omega));have Y:=L.mem _ (qj (show i<f.length by omega))
      match j:f[i],Y with
      |[d],Y=> obtain⟨n,rfl⟩:=zS Y.1;rw[j]at k;obtain⟨⟨v,z,_,B⟩,_⟩:=k;have:v=.int .u8 n:=B.1;subst this;rw[Nat.mul_one]at z;rw[z];simp[List.getD,bX (show i<f.length by omega),j]
     rcases rU len with g|g
     ·subst g;have j:f=[]:=mO G.symm;subst j;have z:(convert S T (.slice (some ⟨b,Z,s⟩) 0 cap)).run P w=.ok (.string (strOfNums [])) w:=by rw[run_convert_bytes_string w S T el _ 0 cap q N t,run_bytesToString w _ 0 cap [] (by simpa using run_loadCells_list (P:=P) (w:=w) ⟨b,Z,s⟩ [] (fun j u h=>by simp at h))];rfl
      simp[execOp,ho,y,z,MH]
     ·have:=l g;subst this;have z:=run_convert_bytes_arg (P:=P) w S el q N b Z len cap (f.map fun r=>(r.headD .un).cq) (by simp[G]) A T t;simp[execOp,ho,y,z,MH]
   ·simp only[cB,E.den,J,R];refine⟨trivial,?_⟩;show(strOfNums _).size<=_;simp[strOfNums,ByteArray.size];omega
  ·simp at h
 ·simp at h
def Wk(h:n<=maxLen):IntKind.i64.min<=(n:Int)/\(n:Int)<=IntKind.i64.max:=by unfold maxLen at h;simp[IntKind.min,IntKind.max,IntKind.signed,IntKind.bits];omega
def sLen(f:cX P tb tb=true)(Y:aN c F σ bm tm a w)(j:bV tb.tab Γ c.env){n:Nat}{o:Oper}{x:Operand}{T:Nat}{cl:Call}(ho:o.op=.call cl)(l:cl.callee=.builtin .len)(L:cl.args.toList=[x])(M:cl.argTypes.toList=[T])
  {ti:TI} (m:tb.get T=some ti) {B:bq} (h:aaz tb.tab Γ gs o.dst ti (aY tb σ T x)=some B):jX P c F gs σ bm tm a w n o B:=by
 have r:cl.args=#[x]:=by rw[<-iX,L]
 have t:cl.argTypes=#[T]:=by rw[<-iX,M]
 unfold aaz at h;split at h
 ·rename_i k e Z;split at h
  ·rename_i N;simp at h;subst h;refine⟨_,rfl,rfl,fun g A=>by simp[cE,K.has]at A,fun A _=> ?_⟩;have p:=(dN Y Z).1 A;rcases N with N|⟨i,u⟩
   rotate_left
   ·obtain⟨n,V⟩:=NE (eG j e _ i);have C:=p.rd;rw[V]at C;obtain⟨g,cap,v,G,H,_⟩:=C;unfold alb at u;split at u
    ·rename_i z y;obtain⟨_,W,_,_,_,_,b,d⟩:=fX f m y;simp only[iI]at d;subst d;refine⟨.int .i64 n,w,by simp[execOp,ho,resolve,l,invoke,builtin,Builtin.len_,r,t,v,run_underlying b,goInt],dQ _ _,fj A ?_⟩;simp only[cB,E.den,V,cG,R];exact⟨trivial,Wk (by omega)⟩
    ·simp at u
   obtain⟨i,q⟩:=N;unfold Vl at q;split at q
   ·rename_i y;obtain⟨_,W,_,_,_,_,b,d⟩:=fX f m y;simp only[iI]at d;subst d;obtain⟨s,O,Q,S⟩:=FP j (by rw[i,y]) p;refine⟨.int .i64 s.size,w,by simp[execOp,ho,resolve,l,invoke,builtin,Builtin.len_,r,t,Q,run_underlying b,goInt],dQ _ _,fj A ?_⟩;simp only[cB,E.den,O,cG,R];exact⟨trivial,Wk S⟩
   ·rename_i z y;obtain⟨_,W,_,_,_,_,b,d⟩:=fX f m y;simp only[iI]at d;subst d;obtain⟨X,z,d,g,len,cap,v,I,G,H,U,J⟩:=FO j (by rw[i,y]) p;refine⟨.int .i64 len,w,by simp[execOp,ho,resolve,l,invoke,builtin,Builtin.len_,r,t,v,run_underlying b,goInt],dQ _ _,fj A ?_⟩;simp only[cB,E.den,z,cG,R,I];exact⟨trivial,Wk (by omega)⟩
   ·simp at q
  ·simp at h
 ·simp at h
def sAt(p:cX P tb tb=true)(y:aN c F σ bm tm a w)(f:bV tb.tab Γ c.env){n:Nat}{o:Oper}{x i:Operand}{T:Nat}(ho:o.op=.index T x i){ti:TI}(t:tb.get T=some ti){j:bq}
  (h:bu tb.tab Γ gs o.dst ti (aY tb σ T x) (aY tb σ 0 i)=some j):jX P c F gs σ bm tm a w n o j:=by
 unfold bu at h;split at h
 ·rename_i L ex M B C G H;split at h
  ·rename_i z;simp at h;subst h;refine⟨_,rfl,rfl,fun g e=>by simp[cE,K.has]at e,fun e I=> ?_⟩;have b:jL P c.env n (.cond gs (.bI ex B)):=I _ (by simp);replace b:=b e;obtain⟨s,k,v,J⟩:=FP f (vW z.1) ((dN y G).1 e);obtain⟨kk,q⟩:=yJ z.2;obtain⟨m,A,r,_⟩:=nP f q ((dN y H).1 e);simp only[E.den,k,A,gQ,cG,D.bool.injEq,du]at b;obtain⟨_,N,_,_,_,_,u,d⟩:=fX p t C;simp only[iI]at d;subst d;have l:m.toNat<s.size:=by omega
   refine⟨.int .u8 (s[m.toNat]'l).toNat,w,by simp[execOp,ho,v,r,Instr.index,asIntOf,run_underlying u,b.1,l],dQ _ _,fj e ?_⟩;have O:=(s[m.toNat]'l).toNat_lt;simp only[cB,E.den,k,A,zr,gQ,R];simp[l,IntKind.min,IntKind.max,IntKind.signed,IntKind.bits];omega
  ·simp at h
 ·simp at h
def aBr{tab:Nat->List CT}{t:CT}{d:D}(h:dH tab (.agg (List.replicate n t)) d):∃l,d=.agg l/\l.length=n/\bD tab (List.replicate n t) l:=by obtain⟨l,e,b⟩:=lV h;exact⟨l,e,by rw[b.length,Ri],b⟩
def aCS{g:TI}{e:Nat}{t:CT}(h:cX P tb tb=true)(b:tb.get e=some g)(v:g.vt=.one (.c t)):(isAgg e).run P w=.ok false w:=by obtain⟨i,d,_,_,_,_,j,f⟩:=fX h b v;exact adF j f
def aGO(x:cX P tb tb=true)(O:aN c F σ bm tm a w)(d:qd w)(y:bV tb.tab Γ c.env){o:Oper}{g T:Nat}(ho:o.op=.load T (.global g)){ti:TI}(k:tb.get T=some ti){f:bq}
  (h:aax tb Γ gs o.dst ti g=some f):jX P c F gs σ bm tm a w Γ.length o f:=by
 unfold aax at h;split at h
 ·rename_i n t A;simp at h;subst h;obtain⟨e,Q,i,B,C,G,H,z⟩:=ad3 x k A;refine⟨_,rfl,rfl,fun g m=>by simp[cE,K.has]at m,fun m I=> ?_⟩;have J:jL P c.env Γ.length (.xg g (.one (.agg (List.replicate n t))) none):=I _ (by simp);obtain⟨q,_,l,v,b⟩:=J;rw[Ri]at b;rw[v]at q;obtain⟨s,S,U,L,M⟩:=q w d;have p:=M w (MM c.M0 bm tm σ);simp only[mq]at p;have r:=aGn (P:=P) (w:=w) B H (b:=g) (o:=0) (vs:=s.toList) (by rw[p.length,b,z]) (fun j u N=>by rw[nJ];simp only[World.cell?,L];simpa using N)
  refine⟨.agg s,w,?_,dQ _ _,fj m ?_⟩
  ·simp[execOp,ho,Act.eval,Instr.loadAt,Instr.sureAddr,r]
  ·show R w _ (c.env.getD Γ.length .un) (.agg s);rw[v];exact⟨s,rfl,p⟩
 ·simp at h
def aGN(x:cX P tb tb=true)(H:aN c F σ bm tm a w)(k:bV tb.tab Γ c.env){o:Oper}{g T I:Nat}{i:Operand}(ho:o.op=.indexAddr T (.global g) i){ti:TI}(p:tb.get T=some ti){f:bq}
  (h:aaw tb Γ gs o.dst ti g (aY tb σ I i)=some f):jX P c F gs σ bm tm a w Γ.length o f:=by
 unfold aaw at h;split at h
 ·rename_i n t X J L M;split at h
  ·rename_i hint;simp at h;subst h;obtain⟨e,N,Y,O,q,v,Z,Q⟩:=ad3 x p L;refine⟨_,rfl,rfl,fun g b=>by simp[cE]at b,fun b S=> ?_⟩;have U:jL P c.env Γ.length (.xg g (.one (.agg (List.replicate n t))) (some (gs,J,n))):=S _ (by simp);obtain⟨r,s,l,V,d⟩:=U;rw[Ri]at d;obtain⟨u,y⟩:=s b;obtain⟨kk,z⟩:=yJ hint;obtain⟨m,A,B,_⟩:=nP k z ((dN H M).1 b);rw[A]at u y;simp only[gQ]at u y;obtain⟨j,W,C,_⟩:=tH x q v;refine⟨.pointer (some ⟨g,m.toNat,none⟩),w,?_,dQ _ _,fun _=>⟨?_,r,?_⟩,fun h=>absurd b h⟩
   ·have G:a.eval (.global g)=.pointer (some ⟨g,0,none⟩):=rfl;simp[execOp,ho,G,B,Instr.indexAt,asIntOf,Instr.sureAddr,run_underlying O,run_sizeOf W,C,V1.cells,u,y,addr_add]
   ·rw[A];rfl
   ·show _<(c.env.getD Γ.length .un).kZ.length;rw[V,A];simp only[mq,gQ,d];omega
  ·simp at h
 ·simp at h
def aGW(k:cX P tb tb=true)(S:aN c F σ bm tm a w)(p:bV tb.tab Γ c.env){n:Nat}{o:Oper}{x i:Operand}{T Z T2:Nat}(ho:o.op=.indexAddr T x i){ti:TI}(C:tb.get T=some ti){U:Gd}{g:Nat}{l:E}(hx:aY tb σ Z x=some (.v U (.own g) l)){q:bq}
  (h:aaB tb Γ gs o.dst ti U g l (aY tb σ T2 i)=some q):jX P c F gs σ bm tm a w n o q:=by
 unfold aaB at h;split at h
 ·rename_i O e f j u;split at h
  ·rename_i e r;split at h
   ·simp at h
   ·rename_i v1 t;split at h
    ·rename_i G;simp at h;subst h;obtain⟨v,e⟩:=nW S hx;refine⟨_,rfl,rfl,fun x hx=>e x hx,fun A y=> ?_⟩;have e:jL P c.env n (.cond gs (.bI l f)):=y _ (by simp);replace e:=e A;obtain⟨kk,H⟩:=yJ G.2.2;obtain⟨m,B,I,_⟩:=nP p H ((dN S u).1 A);obtain⟨u,J⟩:=v.1 (zP G.1 A);obtain⟨L,V⟩:=NE (eG p l _ (vW G.2.1));rw[V]at u;obtain⟨G,cap,v,W,X,f,M⟩:=u;simp only[E.den,B,V,gQ,cG,D.bool.injEq,du]at e;obtain⟨z,d,Y,_,_,_,u,y⟩:=fX k C j;simp only[iI]at y;subst y;obtain⟨j,y,N,_⟩:=tH k r t;have z:tb.tab O=v1.cells:=by simp[TB.tab,r,TI.cells,t]
     have O:m.toNat<L:=by omega
     rcases G with _|⟨b,Q,s⟩
     ·have:=f rfl;omega
     ·obtain rfl:=M b Q s rfl (by omega);refine⟨.pointer (some ⟨b,Q+m.toNat*v1.cells.length,none⟩),w,?_,dQ _ _,fun _=>⟨b,Q,_,cap,J.symm.trans v,?_,?_,?_⟩,fun h=>absurd A h⟩
      ·simp[execOp,ho,v,I,Instr.indexAt,asIntOf,run_underlying u,run_sizeOf y,N,e.1,e.2,addr_add]
      ·rw[B];exact e.1
      ·rw[B];exact O
      ·rw[B,z];rfl
    ·simp at h
  ·simp at h
 ·simp at h
def aGV(k:cX P tb tb=true)(Q:aN c F σ bm tm a w){m:Nat}{o:Oper}{x:Operand}{T S f:Nat}(ho:o.op=.fieldAddr T x f){ti:TI}(u:tb.get T=some ti){L:Gd}{g n:Nat}{i:E}{off:Nat}(hx:aY tb σ S x=some (.mp L g n i off)){l:bq}
  (h:aaA tb gs o.dst ti L g n i off f=some l):jX P c F gs σ bm tm a w m o l:=by
 unfold aaA at h;split at h
 ·rename_i d y j U V;obtain⟨d,fields,z,j,W,_,_,_,X,A⟩:=pX k u U;obtain⟨M,B,p,C⟩:=Ub A V;split at h
  ·rename_i Y G;split at h
   ·simp at h
   ·rename_i d;simp only[not_or]at d;split at h
    ·simp at h
    ·rename_i v1 v;simp at h;subst h;obtain⟨j,Z,H,_⟩:=tH k G v;have I:Y.cells=v1.cells:=by simp[TI.cells,v]
     have r:∀(J:Addr),(Instr.fieldAt T (.pointer (some J)) f).run P w=.ok (.pointer (some (J.add y))) w:=fun J=>by
      have q:fields[f]? =some M:=by simpa using B
      have s:v1.cells≠[]:=by rw[<-I];intro e;simp[e]at d
      have t:(sizeOf M.type).run P w=.ok v1.cells.length w:=by rw[C,run_sizeOf Z,H]
      simp[Instr.fieldAt,run_underlying X,q,Instr.sureAddr,fieldPlace,t,s,p]
     obtain⟨j,p⟩:=nW Q hx;refine⟨_,rfl,rfl,fun x hx=>p x (by simpa[cE]using hx),fun N _=> ?_⟩;obtain⟨b,O,len,cap,q1,q2,q3,q4⟩:=j.1 (zP (by simpa using d.2) N);exact⟨.pointer (some ⟨b,O+(i.den c.env).cq.toNat*n+off+y,none⟩),w,by simp[execOp,ho,q4,r,addr_add],dQ _ _,fun _=>⟨b,O,len,cap,q1,q2,q3,by rw[wS _ off y]⟩,fun h=>absurd N h⟩
  ·simp at h
 ·simp at h
def aGM(b:cX P tb tb=true)(s:aN c F σ bm tm a w){n:Nat}{o:Oper}{x:Operand}{T f:Nat}(ho:o.op=.fieldAddr T x f){ti:TI}(t:tb.get T=some ti){e:bq}
  (h:aav tb Γ gs o.dst ti (aY tb σ 0 x) f=some e):jX P c F gs σ bm tm a w n o e:=by
 unfold aav at h;split at h
 ·rename_i d;exact aGV b s ho t d h
 ·exact aGL b s ho t h
def Kn{Q:Nat->Nat->D->Value->Prop}{d:D}(hb:tT w v n Q d){a:Option Addr}{len cap:Nat}(i:v=.slice a len cap){k:Nat}(z:k<len) :
  ∃b o rows r,a=some ⟨b,o,none⟩/\d=.sl rows/\rows[k]? =some r/\r.length=n/\(∀r∈rows,r.length=n)/\rows.length=len/\len<=cap/\∀j d,r[j]? =some d->∃u,w.cell? ⟨b,o+k*n+j,none⟩=some u/\Q k j d u:=by
 obtain⟨A,l,p,rows,e,m,q,t,B,x,f,g⟩:=hb;rw[i]at e;simp only[fE]at e;obtain⟨rfl,rfl,rfl⟩:=e;have h:k<rows.length:=by omega
 rcases a with _|⟨b,o,s⟩
 ·have:=x rfl;omega
 ·obtain rfl:=(g b o s rfl).1 (by omega);exact⟨b,o,rows,rows[k],rfl,m,bX h,f _ (qj h),f,q.symm,t,fun j d y=>(g b o none rfl).2 k _ (bX h) j d y⟩
def CP.leaf{B:Nat}{p:Option (Nat×List Nat)}{k i j:Nat}{d:D}{u:Value}(f:Bl p off k=true)(h1:off<=j)(h2:j<off+k)(h:CP B w tm n p i j d u):wL d u:=by
 rcases p with _|⟨g,m⟩
 ·exact h
 ·refine h.1 ?_;simp only[Bl,fH,oF]at f;have:=gI (f (j-off) (by omega))
  rwa[show off+(j-off)=j by omega]at this
def aDZ{b o:Nat}:∀{r:List D},(∀j d,r[j]? =some d->∃u,w.cell? ⟨b,o+j,none⟩=some u/\wL d u)->∃vs:List Value,vs.length=r.length/\(∀(w':World) M,Rs w' M r vs)/\∀j u,vs[j]? =some u->w.cell? ⟨b,o+j,none⟩=some u:=by
 intro r;induction r generalizing o with
 |nil=>intro _;exact⟨[],rfl,fun _ _=>rfl,fun j u h=>by simp at h⟩
 |cons d r ih=>
  intro h;obtain⟨u,f,l⟩:=h 0 d rfl;obtain⟨vs,g,i,k⟩:=ih (o:=o+1) fun j m e=>by
   have:=h (j+1) m (by simpa using e)
   rwa[show o+(j+1)=o+1+j by omega]at this
  refine⟨u::vs,by simp[g],fun w' M=>⟨u,vs,rfl,l w' M,i w' M⟩,fun j n e=> ?_⟩;cases j with
  |zero=>simp at e;subst e;simpa using f
  |succ j=>simp at e;have:=k j n e;rwa[show o+1+j=o+(j+1) by omega]at this
def aGX(v:cX P tb tb=true)(Y:aN c F σ bm tm a w)(ax:bV tb.tab Γ c.env){m:Nat}{o:Oper}{x:Operand}{T T1:Nat}(ho:o.op=.load T x){ti:TI}(A:tb.get T=some ti){g0:Gd}{g n:Nat}{i:E}{off:Nat}(hx:aY tb σ T1 x=some (.mp g0 g n i off)){G:bq}
  (h:TV tb Γ gs o.dst σ ti g0 g n i off=some G):jX P c F gs σ bm tm a w m o G:=by
 unfold TV at h;split at h
 ·rename_i f e k H;split at h
  ·rename_i el f;split at h
   ·rename_i f;obtain⟨Z,rfl,O⟩:=f;obtain⟨l,U⟩:=nW Y hx;have key:cP c.env gs->∃b p r L cap,tm g=.slice (some ⟨b,p,none⟩) L cap/\0<=(i.den c.env).cq/\(i.den c.env).cq.toNat<L/\a.eval x=.pointer (some ⟨b,p+(i.den c.env).cq.toNat*n+off,none⟩)/\((e.den c.env).lP[(i.den c.env).cq.toNat]?)=some r/\r.length=n/\∀j d,r[j]? =some d->∃u,w.cell? ⟨b,p+(i.den c.env).cq.toNat*n+j,none⟩=some u/\CP c.B w tm n k (i.den c.env).cq.toNat j d u:=fun f=>by obtain⟨b,B,len,cap,q1,q2,q3,q4⟩:=l.1 (zP Z f);obtain⟨N,Q,l,r,q,C,I,J,_,_,_,M⟩:=Kn ((Y.live g _ H).bd e k rfl) q1 q3;simp only[aS,kC]at q;obtain⟨rfl,rfl,_⟩:=q;exact⟨b,B,r,len,cap,q1,q2,q3,q4,by rw[C];exact I,J,M⟩
    split at h
    ·rename_i t V;split at h
     ·rename_i Q;split at h
      ·rename_i I;simp at h;subst h;refine⟨_,rfl,rfl,fun g f=>by simp[cE,K.has]at f,fun f _=> ?_⟩;obtain⟨b,p,r,L,cap,_,_,_,J,k,W,M⟩:=key f;have l:off<r.length:=by rw[W, <-O];exact(dh.1 Q).1
       obtain⟨u,q,B⟩:=M off _ (bX l);obtain⟨i',d,Z,_,_,_,N,C⟩:=fX v A V;refine⟨u,w,by simp[execOp,ho,J,Instr.loadAt,Instr.sureAddr,G8 N C q],dQ _ _,fj f ?_⟩;simp only[cB,E.den,k,j0,mq,List.getD,bX l];exact B.leaf I (bM _) (by omega) _ _
      ·rename_i I;split at h
       ·rename_i X S;simp at h;subst h;refine⟨_,rfl,rfl,fun y X=> ?_,fun f _=> ?_⟩
        ·rcases X with rfl|rfl
         ·exact U _ rfl
         ·exact Y.f1 (3*g+2) _ (by rw[H];exact⟨e,S,rfl⟩)
        obtain⟨b,p,r,L,cap,q1,q2,q3,J,k,W,M⟩:=key f;have l:off<r.length:=by rw[W, <-O];exact(dh.1 Q).1
        obtain⟨u,q,B⟩:=M off _ (bX l);obtain⟨i',d,Z,_,_,_,N,C⟩:=fX v A V;have H:S.getD off 0≠0:=fun O=>I (by
         simp only[Bl,fH,oF];intro j Q;obtain rfl:j=0:=by omega
         rw[rT,O];rfl)
        obtain⟨⟨cells,S,U⟩,z3,X⟩:=B.2 H;refine⟨u,w,by simp[execOp,ho,J,Instr.loadAt,Instr.sureAddr,G8 N C q],dQ _ _,fun _=>⟨⟨_,L,cap,q1,q2,q3⟩,⟨cells,S,U⟩,?_⟩,fun h=>absurd f h⟩;obtain⟨a',U,S,C,y1,H,y3,y4,y5,y6,y7,y8⟩:=X;refine⟨a',S,?_,?_,y5,y6,fun b o s C O=>(y8 b o s C).1 ?_⟩
        ·rw[y1];simp only[E.den,k,j0,mq,List.getD,bX l,H,cG,gQ];rw[y3];rfl
        ·simp only[E.den,k,j0,mq,List.getD,bX l,H,cG,gQ];omega
        ·simp only[E.den,k,j0,mq,List.getD,bX l,H,cG,gQ]at O;omega
       ·simp at h
     ·simp at h
    ·rename_i X V;split at h
     ·rename_i U;obtain⟨U,I⟩:=U;simp only[aS]at h;subst h;refine⟨_,rfl,rfl,fun g f=>by simp[cE,K.has]at f,fun f _=> ?_⟩;obtain⟨b,p,r,L,cap,_,_,_,J,k,W,M⟩:=key f;obtain⟨i',fields,z,Z,l,_,_,_,q,_⟩:=pX v A V;obtain⟨C,v1,H,S⟩:=aDZ (w:=w) (b:=b) (o:=p+(i.den c.env).cq.toNat*n+off) (r:=(r.drop off).take X.length) fun j d Q=>by
       simp only[qk,yd]at Q;split at Q
       ·rename_i j;obtain⟨u,q,B⟩:=M _ d Q;rw[<-wS]at q;exact⟨u,q,B.leaf I (by omega) (by omega)⟩
       ·simp at Q
      have B:=Pm (P:=P) (w:=w) q Z (b:=b) (o:=p+(i.den c.env).cq.toNat*n+off) (vs:=C) (by rw[v1,l];simp;omega) S;refine⟨.agg C.toArray,w,by simp[execOp,ho,J,Instr.loadAt,Instr.sureAddr,B],dQ _ _,fj f ?_⟩;have N:(if off=0/\X.length=n then E.row (tb.tab el) e i else .sub (.row (tb.tab el) e i) off X.length).den c.env=.agg ((r.drop off).take X.length):=by
       split
       ·rename_i O;simp only[E.den,k,j0];rw[O.1,Iw,A7 (by omega)]
       ·simp only[E.den,k,j0,mq]
      simp only[cB,N];exact(H w _).Kx
     ·simp at h
    ·simp at h
   ·simp at h
  ·simp at h
 ·simp at h
def aGP(k:cX P tb tb=true)(S:aN c F σ bm tm a w)(H:bV tb.tab Γ c.env){q:Nat}{o:Oper}{x y:Operand}{T Z T2:Nat}(ho:o.op=.indexAddr T x y){ti:TI}(I:tb.get T=some ti){U:Gd}{g V n:Nat}{i:E}{off:Nat}{l:E}(hx:aY tb σ Z x=some (.iv U g V n i off l)){r:bq}
  (h:aay tb Γ gs o.dst ti U g V n i off l (aY tb σ T2 y)=some r):jX P c F gs σ bm tm a w q o r:=by
 unfold aay at h;split at h
 ·rename_i O e f j p;split at h
  ·rename_i e t;split at h
   ·simp at h
   ·rename_i v1 u;split at h
    ·rename_i W;simp at h;subst h;obtain⟨A,e⟩:=nW S hx;refine⟨_,rfl,rfl,fun x hx=>e x hx,fun C v=> ?_⟩;have e:jL P c.env q (.cond gs (.bI (.mem l) f)):=v _ (by simp);replace e:=e C;obtain⟨kk,J⟩:=yJ W.2;obtain⟨m,G,M,_⟩:=nP H J ((dN S p).1 C);obtain⟨J,⟨cells,z2,z3⟩,ad,cap,v,p,X,f,z⟩:=A.1 (zP W.1 C);simp only[E.den,G,gQ,cG,D.bool.injEq,du]at e;obtain⟨B,d,Y,_,_,_,W,A⟩:=fX k I j;simp only[iI]at A;subst A;obtain⟨j,A,N,_⟩:=tH k t u;have B:tb.tab O=v1.cells:=by simp[TB.tab,t,TI.cells,u]
     generalize (l.den c.env).cq.toNat=L at v p z e;have O:m.toNat<L:=by omega
     rcases ad with _|⟨b,Q,s⟩
     ·have:=f rfl;omega
     ·obtain rfl:=z b Q s rfl (by omega);refine⟨.pointer (some ⟨b,Q+m.toNat*v1.cells.length,none⟩),w,?_,dQ _ _,fun _=>⟨J,cells,b,Q,L,cap,z2,by rw[z3,v],?_,?_,p,?_⟩,fun h=>absurd C h⟩
      ·simp[execOp,ho,v,M,Instr.indexAt,asIntOf,run_underlying W,run_sizeOf A,N,e.1,e.2,addr_add]
      ·rw[G];exact e.1
      ·rw[G];exact O
      ·rw[G,B];rfl
    ·simp at h
  ·simp at h
 ·simp at h
def acy(H:aN c F σ bm tm a w){g j n:Nat}{e:E}{q:List Nat}(v:σ (3*g+2)=.live ⟨n,some (e,some (j,q))⟩){t:Option Addr}{L p k off m:Nat}(I:tm g=.slice t L p)(J:k<L)(h:off<n)(x:q.getD off 0=m)(f:m≠0){cells:Array Value}(M:tm j=.tuple cells){u:Value}(N:cells[k*n+off]? =some u) :
  ∃b o r d,t=some ⟨b,o,none⟩/\(e.den c.env).lP[k]? =some r/\r.length=n/\r[off]? =some d/\w.cell? ⟨b,o+k*n+off,none⟩=some u/\uT c.B w u m/\tT w u m (fun _ _ d u=>wL d u) d:=by
 obtain⟨b,o,y,r,O,Q,S,z,_,_,_,T⟩:=Kn ((H.live g _ v).bd e _ rfl) I J;have l:off<r.length:=by rw[z];exact h
 obtain⟨V,i,U⟩:=T off _ (bX l);obtain⟨⟨s,A,B⟩,C,G⟩:=U.2 (by rw[x];exact f);rw[M]at A;cases A;rw[N]at B;cases B;rw[x]at C G;exact⟨b,o,r,r[off],O,by rw[Q];exact S,z,bX l,i,C,G⟩
def aGQ(A:cX P tb tb=true)(M:aN c F σ bm tm a w)(V:bV tb.tab Γ c.env){q:Nat}{o:Oper}{x:Operand}{T W:Nat}(ho:o.op=.load T x){ti:TI}(B:tb.get T=some ti){N:Gd}{g O n:Nat}{i:E}{off:Nat}{j:E}{m f:Nat}(hx:aY tb σ W x=some (.ip N g O n i off j m f)){k:bq}
  (h:TQ tb Γ gs o.dst σ ti N g O n i off j m f=some k):jX P c F gs σ bm tm a w q o k:=by
 unfold TQ at h;split at h
 ·rename_i l e X p C;split at h
  ·rename_i y Q;split at h
   ·rename_i l G;split at h
    ·rename_i Y;obtain⟨H,rfl,Z,rfl,s,I,p⟩:=Y;split at h
     ·rename_i t Q;split at h
      ·rename_i J;simp at h;subst h;obtain⟨r,v⟩:=nW M hx;refine⟨_,rfl,rfl,fun g z=>by simp[cE,K.has]at z,fun z _=> ?_⟩;obtain⟨⟨ad,L,S,q1,q2,q3⟩,cells,b,o',len,cap,v,U,z3,X,z5,Y⟩:=r.1 (zP H z);obtain⟨b0,o0,r,d,y0,H,y2,S,y4,y5,y6⟩:=acy M C q1 q3 (by rw[<-Z];exact(dh.1 G).1) s I v U;obtain⟨b1,v,s,r1,U,r,C,G,_,_,_,I⟩:=Kn y6 rfl X;simp only[aS,kC]at U;obtain⟨rfl,rfl,_⟩:=U;have v:f<r1.length:=by rw[G, <-p];exact(dh.1 J).1
       obtain⟨u,p,G⟩:=I f _ (bX v);obtain⟨U,X,Z,_,_,_,I,J⟩:=fX A B Q;refine⟨u,w,by simp[execOp,ho,Y,Instr.loadAt,Instr.sureAddr,G8 I J p],dQ _ _,fj z ?_⟩;have p:(E.cell (.row (tb.tab y) e i) off).den c.env=.sl s:=by simp[E.den,H,S,r]
       simp only[cB];show R w _ (((E.row (tb.tab l) (.cell (.row (tb.tab y) e i) off) j).den c.env).kZ.getD f .un) u;have r:(E.row (tb.tab l) (.cell (.row (tb.tab y) e i) off) j).den c.env=.agg r1:=by show D.agg (((((E.cell (.row (tb.tab y) e i) off).den c.env)).lP[(j.den c.env).cq.toNat]?).getD _)=_;rw[p];simp[C]
       rw[r];simp only[mq,List.getD,bX v,j0];exact G _ _
      ·simp at h
     ·simp at h
    ·simp at h
   ·simp at h
  ·simp at h
 ·simp at h
def sLd(b:cX P tb tb=true)(k:aN c F σ bm tm a w)(m:qd w)(f:bV tb.tab Γ c.env){o:Oper}{x:Operand}{T:Nat}(ho:o.op=.load T x){ti:TI}(e:tb.get T=some ti){n:bq}
  (h:Jl tb Γ gs o.dst σ ti x=some n):jX P c F gs σ bm tm a w Γ.length o n:=by
 unfold Jl at h;split at h
 ·rename_i g;exact aGO b k m f ho e h
 ·split at h
  ·rename_i M g y z s;split at h
   ·rename_i t N A O;split at h
    ·rename_i B;simp at h;subst h;obtain⟨q,C⟩:=B;refine⟨_,rfl,rfl,fun g p=>by simp[cE,K.has]at p,fun p Q=> ?_⟩;obtain⟨G,_⟩:=nW k s;obtain⟨H,I,l⟩:=G.1 (zP q p);obtain⟨S,U,V,q1,q2⟩:=I w m;have q3:=q2 w (MM c.M0 bm tm σ);obtain⟨u,J,r⟩:=q3.get (bX l);obtain⟨i,d,W,_,_,_,L,v⟩:=fX b e A;have j:w.cell? ⟨g,(z.den c.env).cq.toNat,none⟩=some u:=by simp only[World.cell?,q1];simpa using J
     refine⟨u,w,by simp[execOp,ho,H,Instr.loadAt,Instr.sureAddr,G8 L v j],dQ _ _,fj p ?_⟩;simp only[cB,E.den,bX l,j0];exact r
    ·simp at h
   ·simp at h
  ·rename_i s;exact aGX b k f ho e s h
  ·rename_i s;exact aGQ b k f ho e s h
  ·exact aGU b k f ho e h
def aGS(b:cX P tb tb=true)(e:aN c F σ bm tm a w)(d:bV tb.tab Γ c.env){o:Oper}{x i:Operand}{T:Nat}(ho:o.op=.indexAddr T x i){ti:TI}(t:tb.get T=some ti){f:bq}
  (h:Jk tb Γ gs o.dst σ ti T x i=some f):jX P c F gs σ bm tm a w Γ.length o f:=by
 unfold Jk at h;split at h
 ·rename_i g;exact aGN b e d ho t h
 ·split at h
  ·rename_i j g l s;cases m:gV .mem (l.inf tb.tab Γ)with
   |true=>rw[m]at h;exact aGW b e d ho t s h
   |false=>rw[m]at h;exact anS b e d ho t h
  ·rename_i s;exact aGP b e d ho t s h
  ·exact anS b e d ho t h
def aG6(b:cX P tb tb=true)(B:aN c F σ bm tm a w)(f:bV tb.tab Γ c.env){n:Nat}{o:Oper}{x i:Operand}{T:Nat}(ho:o.op=.index T x i){ti:TI}(p:tb.get T=some ti){q:bq}
  (h:aaI tb Γ gs o.dst ti (aY tb σ T x) (aY tb σ 0 i)=some q):jX P c F gs σ bm tm a w n o q:=by
 unfold aaI at h;split at h
 ·rename_i m t V;split at h
  ·rename_i d ex g Q W X;split at h
   ·rename_i Y;simp at h;subst h;obtain⟨C,hint⟩:=Y;obtain⟨e,Z,j,Y,r,v,d,g⟩:=ad3 b p V;refine⟨_,rfl,rfl,fun g k=>by simp[cE,K.has]at k,fun k d=> ?_⟩;have s:jL P c.env n (.cond gs (.an (.ic .leq (.li .i64 0) Q) (.ic .lss Q (.li .i64 m)))):=d _ (by simp);replace s:=s k;obtain⟨l,S,d,g⟩:=aBr (eG f ex _ C);obtain⟨kk,G⟩:=yJ hint;obtain⟨z,U,H,_⟩:=nP f G ((dN B X).1 k);simp only[E.den,U,gQ,AO,bg,D.bool.injEq,aX,du]at s;have y:=((dN B W).1 k).rd;rw[S]at y;obtain⟨g,I,J⟩:=y;have d:z.toNat<l.length:=by omega
    obtain⟨u,L,M⟩:=J.get (bX d);obtain⟨j,l,N,_⟩:=tH b r v;have A:g[z.toNat]? =some u:=by simpa using L
    have O:=aCS (P:=P) (w:=w) b r v;refine⟨u,w,?_,dQ _ _,fj k ?_⟩
    ·simp[execOp,ho,I,H,Instr.index,asIntOf,run_underlying Y,run_sizeOf l,N,V1.cells,s.1,s.2,part,O,A]
    ·simp only[cB,E.den,S,U,mq,gQ,bX d,j0];exact M
   ·simp at h
  ·simp at h
 ·exact sAt b B f ho p h
def aG5(s:aN c F σ bm tm a w)(e:bV tb.tab Γ c.env){n:Nat}{o:Oper}{x y z:Operand}{T r t:Nat}(ho:o.op=.pick x y z){i:bq}(h:aaH tb.tab Γ gs o.dst (aY tb σ T x) (aY tb σ r y) (aY tb σ t z)=some i):jX P c F gs σ bm tm a w n o i:=by
 unfold aaH at h;split at h
 ·rename_i G ex u;split at h
  ·rename_i A;split at h
   ·rename_i H l I m B C;simp only[aS]at h;subst h;refine⟨_,rfl,rfl,fun g f=>by simp[cE,K.has]at f,fun f _=> ?_⟩;obtain⟨b,j,v⟩:=Ds e (vW A) ((dN s u).1 f);have d:(ade tb.tab Γ ex l m).den c.env=if b=true then l.den c.env else m.den c.env:=by
     unfold ade;split
     ·rename_i k;obtain⟨q,p⟩:=yx (eG e m _ (vW k.2));cases b<;>simp[E.den,j,p,k.1]
     ·split
      ·rename_i k;obtain⟨q,p⟩:=yx (eG e l _ (vW k.2));cases b<;>simp[E.den,j,p,k.1]
      ·cases b<;>simp[E.den,j]
    cases b with
    |true=> have:=((dN s B).1 (aaX.2 ⟨f,j⟩)).rd;exact⟨a.eval y,w,by simp[execOp,ho,v,asBool],dQ _ _,fj f (by simp only[cB];rw[d];exact this)⟩
    |false=> have:=((dN s C).1 (aaX.2 ⟨f,j⟩)).rd;exact⟨a.eval z,w,by simp[execOp,ho,v,asBool],dQ _ _,fj f (by simp only[cB];rw[d];exact this)⟩
   ·simp at h
  ·simp at h
 ·simp at h
end
end Go.Proofs.YtoomhbopolalnabGreatDoor
