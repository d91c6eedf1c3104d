/- Each operation does to a world what the executor says it does: operations that compute or read. No program in sight. -/
import Derived.Test.YtekplmpbkgchfaaGreatDoorE1
set_option linter.all false
namespace Go.Proofs.YtekplmpbkgchfaaGreatDoor
section
open Go.RowKit
variable [GC]
def RV{tab:Nat->List CT}{d:D}(h:cD tab .mem d): ∃n,d= .mem n:=by cases d<;>simp [cD] at h;exact ⟨_,rfl⟩
def yG(P:Program)(f:FuncId):Bool :=
 match P.funcs[f]? with
 | some fn=> !(fn.name== "runtime.NumGoroutine")&&fn.body.isSome
 | none=>false
def aH(P:Program)(f:FuncId)(bx:Option (List D))(ds:List D)(r:D)(lM:List D):Prop :=
 yG P f=true/\ ∀(w:World) (M:Addr->Prop) (g:Nat) (vs:List Value),fN w M->Rs w M ds vs ->
  (∀cs,bx=some cs-> ∃us T,w.heap[g]? =some (.cells us.toArray T (0,0))/\Rs w M cs us/\NG<=g/\ ∀p,p.block=g->M p) ->
  Calls P f (match bx with|none=>vs|some _=> .pointer (some ⟨g,0,none⟩)::vs).toArray w fun e w' =>
   ∃v,e= .returned v/\R w' M r v/\Fr w.heap.size (bx.map fun _=>g) w w'/\(bx.isSome=true-> ∃us T,w'.heap[g]? =some (.cells us.toArray T (0,0))/\Rs w' M lM us)
def Pz(B:Nat)(w:World)(u:Value)(n:Nat):Prop :=
 ∀b o s len cap,u= .slice (some ⟨b,o,s⟩) len cap->0<cap->s=none/\B<=b/\ ∃cells T,w.heap[b]? =some (.cells cells T (0,0))/\o+cap*n<=cells.size
def aei(u u':Value):Prop:= ∀b o s len cap b' o' s' len' cap',u= .slice (some ⟨b,o,s⟩) len cap->0<cap->u'= .slice (some ⟨b',o',s'⟩) len' cap'->0<cap'->b≠b'
def wS(v:Value)(x:Nat×Nat):Value:=(mK v).getD x.1 undef
def Kn(B:Nat)(w:World)(v:Value)(rt:List (Nat×Nat)):Prop :=
 (∀x∈rt,Pz B w (wS v x) x.2)/\ ∀(i j:Nat) (x y:Nat×Nat),rt[i]? =some x->rt[j]? =some y->i≠j->aei (wS v x) (wS v y)
def pT(v:Value)(rt:List (Nat×Nat)):Addr->Prop:=fun p=> ∃x∈rt,Gm (wS v x) x.2 p
def eA(P:Program)(f:FuncId)(bx:Option (List D))(ds:List D)(r:D)(lM:List D)(rt:List (Nat×Nat)):Prop :=
 yG P f=true/\ ∀(w:World) (M:Addr->Prop) (g:Nat) (vs:List Value),fN w M->Rs w M ds vs ->
  (∀cs,bx=some cs-> ∃us T,w.heap[g]? =some (.cells us.toArray T (0,0))/\Rs w M cs us/\NG<=g/\ ∀p,p.block=g->M p) ->
  Calls P f (match bx with|none=>vs|some _=> .pointer (some ⟨g,0,none⟩)::vs).toArray w fun e w' =>
   ∃v,e= .returned v/\R w' (fun p=>M p\/pT v rt p) r v/\Fr w.heap.size (bx.map fun _=>g) w w'/\Kn w.heap.size w' v rt/\(bx.isSome=true-> ∃us T,w'.heap[g]? =some (.cells us.toArray T (0,0))/\Rs w' (fun p=>M p\/pT v rt p) lM us)
def aH.fD{P:Program}{f:FuncId}{bx:Option (List D)}{ds:List D}{r:D}{lM:List D}{rt:List (Nat×Nat)}(h:eA P f bx ds r lM rt):aH P f bx ds r lM:=by refine ⟨h.1,fun w M g vs h1 h2 h3=>(h.2 w M g vs h1 h2 h3).mono ?_⟩;have hk: ∀w' v,bY w' (fun p=>M p\/pT v rt p) w' M:=fun w' v p u hp hn=>⟨hp,fun h=>hn (.inl h)⟩;rintro e w' ⟨v,q1,q2,q3,q4,q5⟩;refine ⟨v,q1,R.keep (hk w' v) _ _ q2,q3,fun hb=> ?_⟩;obtain ⟨us,T,u1,u2⟩:=q5 hb;exact ⟨us,T,u1,Rs.keep (hk w' v) _ _ u2⟩
def Pw(P:Program)(f:FuncId)(ds:List D)(cs:List D):Prop :=
 yG P f=true/\ ∀(w:World) (M:Addr->Prop) (vs:List Value),fN w M->Rs w M ds vs ->
  Calls P f vs.toArray w fun e w'=> ∃g us T,e= .returned (.pointer (some ⟨g,0,none⟩))/\w.heap.size<=g/\w'.heap[g]? =some (.cells us.toArray T (0,0))/\Rs w' (fun p=>M p\/p.block=g) cs us/\Below w.heap.size w w'
def asN(P:Program)(f:FuncId)(ds:List D)(jQ:List (List D))(r:D):Prop :=
 yG P f=true/\ ∀(w:World) (M:Addr->Prop) (vs ps:List Value),fN w M->Rs w M ds vs->vJ w M jQ ps ->
  Calls P f (vs++ps).toArray w fun e w'=> ∃v,e= .returned v/\R w' M r v/\Below w.heap.size w w'
def aem(P:Program)(x:D)(ds:List D)(r:D):Prop:= ∃f jQ,x= .fn f jQ/\asN P f ds jQ r
def D.one:D->Prop
 | .agg _| .aL _| .un=>False
 | _=>True
def Xd:VT->D->Prop
 | .one (.c _),d=>d.one
 | _,_=>True
def aeI{tab:Nat->List CT}{vt:VT}{d:D}(h:bA tab vt d):Xd vt d:=by
 rcases vt with (t|ts)|vs
 ·have h:cD tab t d:=h;cases t with
  | bool=>obtain ⟨b,rfl⟩:=yU h;trivial
  | int k=>obtain ⟨n,rfl⟩:=Av h;trivial
  | str=>obtain ⟨s,rfl⟩:=Fs h;trivial
  | sl e=>obtain ⟨r,rfl,_⟩:=wy h;trivial
  | mem=>obtain ⟨n,rfl⟩:=RV h;trivial
  | fn=>obtain ⟨f,jQ,rfl⟩:=RU h;trivial
 ·trivial
 ·trivial
def aek{w:World}{M:Addr->Prop}{d:D}{v:Value}(h:d.one)(hr:R w M d v):mK v=[v]:=by
 cases d with
 | bool b=>have:v= .bool b:=hr;subst this;rfl
 | int k n=>have:v= .int k n:=hr.1;subst this;rfl
 | str s=>have:v= .string s:=hr.1;subst this;rfl
 | sl rows=>obtain ⟨ad,len,cap,rfl,_⟩:=hr;rfl
 | mem n=>obtain ⟨ad,cap,rfl,_⟩:=hr;rfl
 | fn f jQ=>obtain ⟨ps,rfl,_⟩:=hr;rfl
 | _=>exact h.elim
def aeh:VT->D->Prop
 | .one (.agg ts),d=> ∃l,d= .agg l/\l.length=ts.length
 | _,_=>True
def kS(P:Program)(env:List D)(n:Nat):Rq->Prop
 | .cond gs c=>cK env gs->c.den env= .bool true
 | .call gs f bx args _ nb=>cK env gs->aH P f (bx.map (·.map (·.den env))) (args.map (·.den env)) (env.getD n .un) ((List.range nb.length).map fun j=>env.getD (n+1+j) .un)
 | .cF f bx args vt nb rt=>Xd vt (env.getD n .un)/\eA P f (bx.map (·.map (·.den env))) (args.map (·.den env)) (env.getD n .un) ((List.range nb.length).map fun j=>env.getD (n+1+j) .un) rt
 | .new f args nb=>Pw P f (args.map (·.den env)) ((List.range nb.length).map fun j=>env.getD (n+j) .un)
 | .oZ gs e args _=>cK env gs->aem P (e.den env) (args.map (·.den env)) (env.getD n .un)
 | .rK g vt ix=>Kg g (env.getD n .un)/\WS env ix/\aeh vt (env.getD n .un)
def Gn(gs:Gd):ST->Prop
 | .v g _ _=>g=gs
 | .ptr g _ _=>g=gs
 | .ro g _ _=>g=gs
 | .gp g _ _ _=>g=gs
 | .mp g _ _ _ _=>g=gs
 | .iv g _ _ _ _ _ _=>g=gs
 | .ip g _ _ _ _ _ _ _ _=>g=gs
 | _=>False
def TZ{w:World}{M:Addr->Prop}{bm:Nat->Nat}{tm:Nat->Value}{env:List D}{gs:Gd}{st:ST}(h:Gn gs st)(hg: ¬cK env gs):qi w M bm tm env st undef:=by cases st<;>simp only [Gn] at h<;>first|(subst h;exact ⟨fun h=>absurd h hg,fun _=>rfl⟩)|exact h.elim
section
variable {P:Program}{c:SC}{F:Nat->Prop}{σ:Nat->ST}{bm:Nat->Nat}{tm:Nat->Value}{a:Act}{w:World}{tb:TB}{Γ:List VT}{gs:Gd}
def uQ(hs:aS c F σ bm tm a w){T:Nat}{x:Operand}{st:ST}(h:aY tb σ T x=some st):qi w (MM c.M0 bm tm σ) bm tm c.env st (a.eval x)/\ ∀g,cP st g->F g:=by
 cases x with
 | tmp t=>simp only [aY,bg] at h;subst h;exact ⟨hs.tmps t,fun g hg=>hs.f1 _ g hg⟩
 | const v =>
  simp only [aY] at h;simp only [Act.eval];unfold E5 at h;split at h
  ·simp at h;subst h;exact ⟨⟨fun _=>rfl,fun h=>absurd (dZ _) h⟩,fun g hg=>hg.elim⟩
  ·split at h
   ·rename_i hr;simp at h;subst h;exact ⟨⟨fun _=>⟨rfl,hr⟩,fun h=>absurd (dZ _) h⟩,fun g hg=>hg.elim⟩
   ·simp at h
  ·split at h
   ·rename_i hr;simp at h;subst h;exact ⟨⟨fun _=>⟨rfl,hr⟩,fun h=>absurd (dZ _) h⟩,fun g hg=>hg.elim⟩
   ·simp at h
  ·split at h
   ·simp at h;subst h;exact ⟨⟨fun _=>⟨⟨none,0,0,rfl,rfl,bU _,by decide,fun _=>rfl,fun b o s h=>by cases h⟩,none,rfl⟩,fun h=>absurd (dZ _) h⟩,fun g hg=>hg.elim⟩
   ·simp at h
  ·simp at h
 | global g=>simp [aY] at h
 | func f=>simp [aY] at h
def Bt{st st':ST}(h:under gs st=some st'):(∃g k e,st= .v g k e/\v8 g gs=true/\st'= .v gs k e)\/(∃g id off,st= .ptr g id off/\v8 g gs=true/\st'= .ptr gs id off)\/(∃g e off,st= .ro g e off/\v8 g gs=true/\st'= .ro gs e off):=by
 cases st with
 | un=>simp [under] at h
 | box cs=>simp [under] at h
 | live n=>simp [under] at h
 | gp _ _ _ _=>simp [under] at h
 | mp _ _ _ _ _=>simp [under] at h
 | iv _ _ _ _ _ _ _=>simp [under] at h
 | ip _ _ _ _ _ _ _ _ _=>simp [under] at h
 | v g k e => simp only [under] at h;cases hi:v8 g gs<;>rw [hi] at h<;>simp at h;exact .inl ⟨g,k,e,rfl,hi,h.symm⟩
 | ptr g id off => simp only [under] at h;cases hi:v8 g gs<;>rw [hi] at h<;>simp at h;exact .inr (.inl ⟨g,id,off,rfl,hi,h.symm⟩)
 | ro g e off => simp only [under] at h;cases hi:v8 g gs<;>rw [hi] at h<;>simp at h;exact .inr (.inr ⟨g,e,off,rfl,hi,h.symm⟩)
def amA{st:ST}{v:Value}{M:Addr->Prop}{g:Gd}{k:K}{e:E}{env:List D}(h:under gs st=some (.v g k e))(hr:qi w M bm tm env st v)(hg:cK env gs):cz w M tm env k e v/\(∀x,k.has x->cP st x):=by rcases Bt h with ⟨g',k',e',rfl,hi,h⟩|⟨_,_,_,_,_,h⟩|⟨_,_,_,_,_,h⟩<;>cases h;exact ⟨hr.1 (Mf hi hg),fun x hx=>hx⟩
def JF{st:ST}{v:Value}{M:Addr->Prop}{g:Gd}{id off:Nat}{env:List D}(h:under gs st=some (.ptr g id off))(hr:qi w M bm tm env st v)(hg:cK env gs):v= .pointer (some ⟨bm id,off,none⟩):=by rcases Bt h with ⟨_,_,_,_,_,h⟩|⟨g',i',o',rfl,hi,h⟩|⟨_,_,_,_,_,h⟩<;>cases h;exact hr.1 (Mf hi hg)
def JG{st:ST}{v:Value}{M:Addr->Prop}{g:Gd}{e:E}{off:Nat}{env:List D}(h:under gs st=some (.ro g e off))(hr:qi w M bm tm env st v)(hg:cK env gs): ∃b o,v= .pointer (some ⟨b,o,none⟩)/\Rw w M ((e.den env).mQ.drop off) b o:=by rcases Bt h with ⟨_,_,_,_,_,h⟩|⟨_,_,_,_,_,h⟩|⟨g',i',o',rfl,hi,h⟩<;>cases h;exact hr.1 (Mf hi hg)
def UQ{st st':ST}{x:Nat}(h:under gs st=some st')(hm:cP st' x):cP st x:=by
 rcases Bt h with ⟨g',k',e',rfl,hi,rfl⟩|⟨g',i',o',rfl,hi,rfl⟩|⟨g',i',o',rfl,hi,rfl⟩
 ·exact hm
 ·exact hm
 ·exact hm
def US{st st':ST}(h:under gs st=some st'):Gn gs st':=by rcases Bt h with ⟨g',k',e',rfl,hi,rfl⟩|⟨g',i',o',rfl,hi,rfl⟩|⟨g',i',o',rfl,hi,rfl⟩<;>rfl
def xw{s:Option ST}{st':ST}(h:s.bind (under gs)=some st'): ∃st,s=some st/\under gs st=some st':=by
 cases s with
 | none=>simp at h
 | some st=>exact ⟨st,rfl,by simpa using h⟩
def amz{s:Option ST}{k:K}{e:E}(h:gX gs s=some (k,e)): ∃st g,s=some st/\under gs st=some (.v g k e):=by
 unfold gX at h;split at h
 ·rename_i g k' e' hb;simp at h;obtain ⟨rfl,rfl⟩:=h;obtain ⟨st,h1,h2⟩:=xw hb;exact ⟨st,g,h1,h2⟩
 ·simp at h
def dU(hs:aS c F σ bm tm a w){T:Nat}{x:Operand}{k:K}{e:E}(h:gX gs (aY tb σ T x)=some (k,e)):(cK c.env gs->cz w (MM c.M0 bm tm σ) tm c.env k e (a.eval x))/\ ∀g,k.has g->F g:=by obtain ⟨st,g,h1,h2⟩:=amz h;obtain ⟨h3,h4⟩:=uQ hs h1;exact ⟨fun hg=>(amA h2 h3 hg).1,fun x hx=>h4 x (UQ h2 hx)⟩
def lI(P:Program)(c:SC)(F:Nat->Prop)(gs:Gd)(σ:Nat->ST)(bm:Nat->Nat)(tm:Nat->Value)(a:Act)(w:World)(n:Nat)(o:Oper)(aZ:bf):Prop :=
 ∃st,aZ.wr=wv o.dst st/\Gn gs st/\(∀g,cP st g->F g) /\
  (cK c.env gs->(∀r∈aZ.rq,kS P c.env n r)-> ∃v w',(execOp a.eval o).run P w= .ok (.value v) w'/\Below w.heap.size w w'/\qi w' (MM c.M0 bm tm σ) bm tm c.env st v)
def fU{M:Addr->Prop}{k:K}{e:E}{v:Value}{env:List D}(hg:cK env gs)(h:cz w M tm env k e v):qi w M bm tm env (.v gs k e) v:=⟨fun _=>h,fun h=>absurd hg h⟩
def alA(hs:aS c F σ bm tm a w){n:Nat}{o:Oper}{x:Operand}(ho:o.op= .move x\/o.op= .assign x){T:Nat}{aZ:bf}(h:YN gs o.dst (aY tb σ T x)=some aZ):lI P c F gs σ bm tm a w n o aZ:=by
 unfold YN at h;simp only [lJ] at h;obtain ⟨st',h1,rfl⟩:=h;obtain ⟨st,h2,h3⟩:=xw h1;obtain ⟨h4,h5⟩:=uQ hs h2;refine ⟨st',rfl,US h3,fun g hg=>h5 g (UQ h3 hg),fun hg _=>⟨a.eval x,w,?_,dP _ _,?_⟩⟩
 ·rcases ho with ho|ho<;>simp [execOp,ho]
 ·cases st'<;>simp only [qi]
  ·have:=amA h3 h4 hg;have e:=US h3;simp only [Gn] at e;subst e;exact ⟨fun _=>this.1,fun h=>absurd hg h⟩
  ·have:=JF h3 h4 hg;have e:=US h3;simp only [Gn] at e;subst e;exact ⟨fun _=>this,fun h=>absurd hg h⟩
  ·have:=JG h3 h4 hg;have e:=US h3;simp only [Gn] at e;subst e;exact ⟨fun _=>this,fun h=>absurd hg h⟩
  all_goals rcases Bt h3 with ⟨_,_,_,_,_,h⟩|⟨_,_,_,_,_,h⟩|⟨_,_,_,_,_,h⟩<;>cases h
def LK(env:List D): ∀es:List E,(mk es).den env= .agg (es.map (·.den env))
 | []=>rfl
 | e::r=>by simp [mk,E.den,LK env r]
def Yw{env:List D}(aB:cq tb.tab Γ env)(es:List E):(pack tb.tab Γ es).den env= .agg (es.map (·.den env)):=by
 unfold pack;split
 ·rename_i x i r;split
  ·rename_i us he;split
   ·rename_i heq;obtain ⟨heq,hle⟩:=heq;obtain ⟨l,hl,hlt⟩:=lO (eG aB x _ he);have hll:=hlt.length;generalize hn:(E.cell x i::r).length=n at heq hle;have key:(E.cell x i::r).map (·.den env)=(l.drop i).take n:=by
     rw [heq];refine zV fun q=> ?_;simp only [KC,iI,pV,xm];by_cases hi:q<n
     ·rw [aA hi];simp [List.getElem?_range' hi,E.den,hl,List.getD,cO (show i+q<l.length by omega)]
     ·rw [ak hi,nU (by simp;omega)];rfl
    split
    ·rename_i h0;rw [key,hl];rw [h0.1,PM,Cj (by omega)]
    ·rw [key];simp [E.den,hl]
   ·exact LK env _
  ·exact LK env _
 ·exact LK env _
def Rs.NP{M:Addr->Prop}{l:List D}{vs:List Value}(h:Rs w M l vs):R w M (.agg l) (.agg vs.toArray):=⟨vs.toArray,rfl,by simpa using h⟩
def XY{c:SC}{M:Addr->Prop}{id:Nat}{cs:List (K×E)}(h:sO c w M bm tm id cs): ∃vs,cQ w M tm c.env cs vs/\(∀j u,vs[j]? =some u->w.cell? ⟨bm id,j,none⟩=some u)/\ ∃T,w.heap[bm id]? =some (.cells vs.toArray T (0,0)):=by obtain ⟨vs,T,h1,h2,h3⟩:=h;exact ⟨vs,h2,fun j u hu=>by rw [z7 w _ j _ T _ h1];simpa using hu,T,h1⟩
def aEp(aJ:dz P tb tb=true)(hs:aS c F σ bm tm a w)(aB:cq tb.tab Γ c.env){n:Nat}{o:Oper}{x:Operand}{T:Nat}(ho:o.op= .load T x){ti:TI}(aO:tb.get T=some ti){aZ:bf}
  (h:Ix tb.tab Γ gs o.dst σ ti (aY tb σ 0 x)=some aZ):lI P c F gs σ bm tm a w n o aZ:=by
 unfold Ix at h;split at h
 ·rename_i g id off hb;obtain ⟨st,h2,h3⟩:=xw hb;obtain ⟨h4,h5⟩:=uQ hs h2;split at h
  ·rename_i cs gT;obtain ⟨vs,hvs,hcell,T0,hblk⟩:=XY (hs.box id cs gT);split at h
   ·rename_i t hv;split at h
    ·rename_i k e hk;simp at h;subst h;refine ⟨_,rfl,rfl,fun g hg=> ?_,fun hg _=> ?_⟩
     ·exact hs.f1 (3*id+1) _ (by rw [gT];exact ⟨_,kV hk,hg⟩)
     ·obtain ⟨u,hu,hr⟩:=hvs.get hk;obtain ⟨i,d,hi,_,_,_,hd,tA⟩:=jl aJ aO hv;have:=JF h3 h4 hg;exact ⟨u,w,by simp [execOp,ho,this,Instr.loadAt,Instr.sureAddr,Ui hd tA (hcell off u hu)],dP _ _,fU hg hr⟩
    ·simp at h
   ·rename_i ts hv;split at h
    ·rename_i hle;simp only [bg] at h;subst h;refine ⟨_,rfl,rfl,fun g hg=> ?_,fun hg _=> ?_⟩
     ·obtain ⟨q,hq,hx⟩:=WU (show (zm _).has g from hg);simp only [gD] at hq;obtain ⟨z,hz,rfl⟩:=hq;exact hs.f1 (3*id+1) _ (by rw [gT];exact ⟨z,PT (PU hz),hx⟩)
     obtain ⟨i,fields,z,hi,hsz,_,_,_,hu,_⟩:=tP aJ aO hv;have:=JF h3 h4 hg;have hrel:=(hvs.drop off).take ts.length;have hlen:((vs.drop off).take ts.length).length=i.size:=by have:=hvs.length;simp [hsz];omega
     refine ⟨.agg ((vs.drop off).take ts.length).toArray,w,?_,dP _ _,fU hg ?_⟩
     ·have hl:=Uj (P:=P) (w:=w) hu hi (b:=bm id) (o:=off) hlen (fun j u hj=>by
       simp only [pV,xm] at hj;split at hj
       ·exact hcell _ _ hj
       ·simp at hj)
      simp [execOp,ho,this,Instr.loadAt,Instr.sureAddr,hl]
     ·refine TY ?_ fun j k u hk hu=> ?_
      ·rw [Yw aB];have:=hrel.rs.NP;simpa only [Ey,List.map_drop] using this
      ·have hk': ∃z,((cs.drop off).take ts.length)[j]? =some z/\z.1=k:=by simp only [<-Ey, <-List.map_drop,iI,lJ] at hk;exact hk
       obtain ⟨z,hz,rfl⟩:=hk';obtain ⟨u',hu',hr'⟩:=hrel.get hz;rw [hu] at hu';cases hu';exact hr'.kk
    ·simp at h
   ·simp at h
  ·simp at h
 ·rename_i g e off hb;obtain ⟨st,h2,h3⟩:=xw hb;obtain ⟨h4,h5⟩:=uQ hs h2;split at h
  ·rename_i us he;obtain ⟨l,hl,hlt⟩:=lO (eG aB e _ he);split at h
   ·rename_i t hv;split at h
    ·rename_i hoff;simp at h;subst h;refine ⟨_,rfl,rfl,fun g hg=>by simp [cP,K.has] at hg,fun hg _=> ?_⟩;obtain ⟨b,o',hp,hr⟩:=JG h3 h4 hg;rw [hl,pQ] at hr;obtain ⟨i,d,hi,_,_,_,hd,tA⟩:=jl aJ aO hv;have FB:off<l.length:=by rw [hlt.length];exact hoff
     obtain ⟨u,hu,_,FF⟩:=hr.get (i:=0) (d:=l[off]) (by simp [xm,FB]);refine ⟨u,w,by simp [execOp,ho,hp,Instr.loadAt,Instr.sureAddr,Ui hd tA (by simpa using hu)],dP _ _,fU hg ?_⟩;simp only [cz,E.den,hl,pQ,List.getD,cO FB,mX];exact FF
    ·simp at h
   ·rename_i ts hv;obtain ⟨i,fields,z,hi,hsz,_,_,_,hu,_⟩:=tP aJ aO hv;split at h
    ·rename_i hc;simp at h;subst h;refine ⟨_,rfl,rfl,fun g hg=>by simp [cP,K.has] at hg,fun hg _=> ?_⟩;obtain ⟨b,o',hp,hr⟩:=JG h3 h4 hg;rw [hl,pQ,hc.1,PM] at hr;obtain ⟨vs,hvl,hrs,hcs⟩:=hr.cells;have hll:=Uj (P:=P) (w:=w) hu hi (b:=b) (o:=o') (vs:=vs) (by rw [hvl,hlt.length,hsz];exact hc.2.symm) hcs;refine ⟨.agg vs.toArray,w,by simp [execOp,ho,hp,Instr.loadAt,Instr.sureAddr,hll],dP _ _,fU hg ?_⟩;simp only [cz,hl];exact hrs.NP
    ·split at h
     ·rename_i hc;simp at h;subst h;refine ⟨_,rfl,rfl,fun g hg=>by simp [cP,K.has] at hg,fun hg _=> ?_⟩;obtain ⟨b,o',hp,hr⟩:=JG h3 h4 hg;rw [hl,pQ] at hr;obtain ⟨vs,hvl,hrs,hcs⟩:=(hr.take ts.length).cells;have hll:=Uj (P:=P) (w:=w) hu hi (b:=b) (o:=o') (vs:=vs) (by rw [hvl,hsz];have:=hlt.length;simp;omega) hcs;refine ⟨.agg vs.toArray,w,by simp [execOp,ho,hp,Instr.loadAt,Instr.sureAddr,hll],dP _ _,fU hg ?_⟩;simp only [cz,E.den,hl,pQ];exact hrs.NP
     ·simp at h
   ·simp at h
  ·simp at h
 ·simp at h
def Y0: ∀{fs:List (Nat×Nat)} {fl:List Field},tq tb fs fl=true-> ∀{f fo ft:Nat},fs[f]? =some (fo,ft)-> ∃x,fl[f]? =some x/\x.offset=fo/\x.type=ft
 | [],_,_,f,fo,ft,hf=>by simp at hf
 | (o',t')::r,[],h,f,fo,ft,hf=>by simp [tq] at h
 | (o',t')::r,x::fl,h,f,fo,ft,hf=>by
  simp only [tq,aP,um] at h;cases f with
  | zero=>simp at hf;obtain ⟨rfl,rfl⟩:=hf;exact ⟨x,rfl,h.1.1.1.symm,h.1.1.2.symm⟩
  | succ f=>simp at hf;simpa using Y0 h.2 hf
def aEj(aJ:dz P tb tb=true)(hs:aS c F σ bm tm a w){n:Nat}{o:Oper}{x:Operand}{T f:Nat}(ho:o.op= .fieldAddr T x f){ti:TI}(aO:tb.get T=some ti){aZ:bf}
  (h:YI tb Γ gs o.dst ti (aY tb σ 0 x) f=some aZ):lI P c F gs σ bm tm a w n o aZ:=by
 unfold YI at h;split at h
 ·rename_i ts fo ft hv hf;obtain ⟨i,fields,z,hi,hsz,_,_,_,hu,hfo⟩:=tP aJ aO hv;obtain ⟨fl,hfl,hoff,hty⟩:=Y0 hfo hf;split at h
  ·rename_i fi hfi;split at h
   ·simp at h
   ·rename_i hne;split at h
    ·simp at h
    ·rename_i v1 hv1;obtain ⟨j,hj,hjs,_⟩:=ye aJ hfi hv1;have hcl:fi.cells=v1.cells:=by simp [TI.cells,hv1]
     have hrun: ∀(ad:Addr),(Instr.fieldAt T (.pointer (some ad)) f).run P w= .ok (.pointer (some (ad.add fo))) w:=fun ad=>by
      have ayJ:fields[f]? =some fl:=by simpa using hfl
      have azm:v1.cells≠[]:=by rw [<-hcl];intro e;simp [e] at hne
      have SP:(sizeOf fl.type).run P w= .ok v1.cells.length w:=by rw [hty,run_sizeOf hj,hjs]
      simp [Instr.fieldAt,run_underlying hu,ayJ,Instr.sureAddr,fieldPlace,SP,azm,hoff]
     split at h
     ·rename_i g id off hb;simp at h;subst h;obtain ⟨st,h2,h3⟩:=xw hb;obtain ⟨h4,h5⟩:=uQ hs h2;refine ⟨_,rfl,rfl,fun g hg=>h5 g (UQ h3 (by simpa [cP] using hg)),fun hg _=> ?_⟩;have:=JF h3 h4 hg;refine ⟨.pointer (some ⟨bm id,off+fo,none⟩),w,by simp [execOp,ho,this,hrun,addr_add],dP _ _,fun _=>rfl,fun h=>absurd hg h⟩
     ·rename_i g e off hb;simp at h;subst h;obtain ⟨st,h2,h3⟩:=xw hb;obtain ⟨h4,h5⟩:=uQ hs h2;refine ⟨_,rfl,rfl,fun g hg=>by simp [cP,K.has] at hg,fun hg _=> ?_⟩;obtain ⟨b,o',hp,hr⟩:=JG h3 h4 hg;refine ⟨.pointer (some ⟨b,o'+fo,none⟩),w,by simp [execOp,ho,hp,hrun,addr_add],dP _ _,fun _=>⟨b,o'+fo,rfl,?_⟩,fun h=>absurd hg h⟩;have:=hr.drop fo
      rwa [Ch] at this
     ·simp at h
  ·simp at h
 ·simp at h
def p9{M:Addr->Prop}{env:List D}(aB:cq tb.tab Γ env){k:K}{e:E}{v:Value}{kk:IntKind}(h:e.inf tb.tab Γ=some (.one (.c (.int kk))))(hr:cz w M tm env k e v): ∃n,e.den env= .int kk n/\v= .int kk n/\kk.min<=n/\n<=kk.max:=by obtain ⟨n,hn⟩:=Av (eG aB e _ h);have:=hr.rd;rw [hn] at this;exact ⟨n,hn,this.1,this.2⟩
def Cy{M:Addr->Prop}{env:List D}(aB:cq tb.tab Γ env){k:K}{e:E}{v:Value}(h:e.inf tb.tab Γ=some (.one (.c .bool)))(hr:cz w M tm env k e v): ∃b,e.den env= .bool b/\v= .bool b:=by obtain ⟨n,hn⟩:=yU (eG aB e _ h);have:=hr.rd;rw [hn] at this;exact ⟨n,hn,this⟩
def Fg{M:Addr->Prop}{env:List D}(aB:cq tb.tab Γ env){k:K}{e:E}{v:Value}(h:e.inf tb.tab Γ=some (.one (.c .str)))(hr:cz w M tm env k e v): ∃s,e.den env= .str s/\v= .string s/\s.size<=maxLen:=by obtain ⟨n,hn⟩:=Fs (eG aB e _ h);have:=hr.rd;rw [hn] at this;exact ⟨n,hn,this.1,this.2⟩
def Ff{M:Addr->Prop}{env:List D}(aB:cq tb.tab Γ env){k:K}{e:E}{v:Value}{el:Nat}(h:e.inf tb.tab Γ=some (.one (.c (.sl el))))(hr:cz w M tm env k e v) :
  ∃rows,e.den env= .sl rows/\cN tb.tab (tb.tab el) rows/\ ∃ad len cap,v= .slice ad len cap/\len=rows.length/\len<=cap/\cap<=maxLen/\(ad=none->cap=0)/\ ∀b o s,ad=some ⟨b,o,s⟩->(0<len->s=none)/\iU w M rows b o:=by
 obtain ⟨rows,hn,ht⟩:=wy (eG aB e _ h);have:=hr.rd;rw [hn] at this;exact ⟨rows,hn,ht,this⟩
def alz(aJ:dz P tb tb=true)(hs:aS c F σ bm tm a w)(aB:cq tb.tab Γ c.env){n:Nat}{o:Oper}{x i:Operand}{T:Nat}(ho:o.op= .indexAddr T x i){ti:TI}(aO:tb.get T=some ti){aZ:bf}
  (h:Rt tb Γ gs o.dst ti (aY tb σ T x) (aY tb σ 0 i)=some aZ):lI P c F gs σ bm tm a w n o aZ:=by
 unfold Rt at h;split at h
 ·rename_i el kx ex ki ei hv hx hi;split at h
  ·rename_i Ry jG;split at h
   ·simp at h
   ·rename_i v1 hv1;split at h
    ·rename_i hc;simp at h;subst h;refine ⟨_,rfl,rfl,fun g hg=>by simp [cP,K.has] at hg,fun hg hr=> ?_⟩;have hin:kS P c.env n (.cond gs (.dE ex ei)):=hr _ (by simp);replace hin:=hin hg;obtain ⟨rows,hrows,fK,ad,len,cap,hval,hlen,hcap,hmax,hnone,hcells⟩:=Ff aB (wH hc.1) ((dU hs hx).1 hg);obtain ⟨kk,hkk⟩:=CS hc.2;obtain ⟨m,hm,hmv,_⟩:=p9 aB hkk ((dU hs hi).1 hg);simp only [E.den,hrows,hm,iF,dL,D.bool.injEq,cC] at hin;obtain ⟨i',d,aJm,_,_,_,hd,tA⟩:=jl aJ aO hv;simp only [ju] at tA;subst tA;obtain ⟨j,hj,hjs,_⟩:=ye aJ jG hv1;have htab:tb.tab el=v1.cells:=by simp [TB.tab,jG,TI.cells,hv1]
     have hlt:m.toNat<rows.length:=by omega
     rcases ad with _|⟨b,o',s⟩
     ·have:=hnone rfl;omega
     ·obtain ⟨hs0,xI⟩:=hcells b o' s rfl;have rT:=hs0 (by omega);subst rT;refine ⟨.pointer (some ⟨b,o'+m.toNat*v1.cells.length,none⟩),w,?_,dP _ _,fun _=>⟨b,_,rfl,?_⟩,fun h=>absurd hg h⟩
      ·have ma:m<(len:Int):=by omega
       simp [execOp,ho,hval,hmv,Instr.indexAt,asIntOf,run_underlying hd,run_sizeOf hj,hjs,hin.1,ma,addr_add]
      ·simp only [E.den,hrows,hm,Ke,iF,cO hlt,mX,pQ,PM];exact xI.get (fun r hr=>by rw [fK.len r hr,htab]) (cO hlt)
    ·simp at h
  ·simp at h
 ·simp at h
def aEs(hs:aS c F σ bm tm a w){n:Nat}{o:Oper}{x:Operand}(ho:o.op= .nilCheck x){T:Nat}{aZ:bf}(h:YP gs o.dst (aY tb σ T x)=some aZ):lI P c F gs σ bm tm a w n o aZ:=by
 unfold YP at h;split at h
 ·rename_i g id off hb;simp at h;subst h;obtain ⟨st,h2,h3⟩:=xw hb;obtain ⟨h4,h5⟩:=uQ hs h2;refine ⟨_,rfl,rfl,fun g hg=>h5 g (UQ h3 (by simpa [cP] using hg)),fun hg _=> ?_⟩;have:=JF h3 h4 hg;exact ⟨_,w,by simp [execOp,ho,this],dP _ _,fun _=>rfl,fun h=>absurd hg h⟩
 ·rename_i g e off hb;simp at h;subst h;obtain ⟨st,h2,h3⟩:=xw hb;obtain ⟨h4,h5⟩:=uQ hs h2;refine ⟨_,rfl,rfl,fun g hg=>by simp [cP,K.has] at hg,fun hg _=> ?_⟩;obtain ⟨b,o',hp,hr⟩:=JG h3 h4 hg;exact ⟨_,w,by simp [execOp,ho,hp],dP _ _,fun _=>⟨b,o',rfl,hr⟩,fun h=>absurd hg h⟩
 ·simp at h
def aEt(hs:aS c F σ bm tm a w)(aB:cq tb.tab Γ c.env){n:Nat}{o:Oper}{x:Operand}{T T':Nat}(ho:o.op= .unOp .not T' x){aZ:bf}(h:YQ tb.tab Γ gs o.dst (aY tb σ T x)=some aZ):lI P c F gs σ bm tm a w n o aZ:=by
 unfold YQ at h;split at h
 ·rename_i k e hx;split at h
  ·rename_i hc;simp at h;subst h;refine ⟨_,rfl,rfl,fun g hg=>by simp [cP,K.has] at hg,fun hg _=> ?_⟩;obtain ⟨b,hb,hv⟩:=Cy aB (wH hc) ((dU hs hx).1 hg);exact ⟨.bool !b,w,by simp [execOp,ho,hv,Op.unary],dP _ _,fU hg (by simp [cz,E.den,hb,R])⟩
  ·simp at h
 ·simp at h
def aEq(hs:aS c F σ bm tm a w)(aB:cq tb.tab Γ c.env){n:Nat}{o:Oper}{x:Operand}{T T':Nat}(ho:o.op= .unOp .neg T' x){aZ:bf}(h:YO tb.tab Γ gs o.dst (aY tb σ T x)=some aZ):lI P c F gs σ bm tm a w n o aZ:=by
 unfold YO at h;split at h
 ·rename_i k e hx;split at h
  ·rename_i kk hk;simp at h;subst h;refine ⟨_,rfl,rfl,fun g hg=>by simp [cP,K.has] at hg,fun hg _=> ?_⟩;obtain ⟨m,hm,hmv,_⟩:=p9 aB hk ((dU hs hx).1 hg);refine ⟨.int kk (kk.wrap (0-m)),w,by simp [execOp,ho,hmv,Op.unary,Op.intArith],dP _ _,fU hg ?_⟩;simp only [cz,E.den,hm,iF,R,dJ];exact ⟨trivial,HG _ _⟩
  ·simp at h
 ·simp at h
def agT{t:CT}{d:D}{v:Value}{M:Addr->Prop}(ht:db tb.tab (.c t) d)(hr:R w M d v):jy v=[v]:=by
 have ht:cD tb.tab t d:=ht;cases t with
 | bool=>obtain ⟨b,rfl⟩:=yU ht;have:v= .bool b:=hr;subst this;rfl
 | int k=>obtain ⟨n,rfl⟩:=Av ht;have:v= .int k n:=hr.1;subst this;rfl
 | str=>obtain ⟨s,rfl⟩:=Fs ht;have:v= .string s:=hr.1;subst this;rfl
 | sl e=>obtain ⟨r,rfl,_⟩:=wy ht;obtain ⟨ad,len,cap,rfl,_⟩:=hr;rfl
 | mem=>obtain ⟨n,rfl⟩:=RV ht;obtain ⟨ad,cap,rfl,_⟩:=hr;rfl
 | fn=>obtain ⟨f,jQ,rfl⟩:=RU ht;obtain ⟨ps,rfl,_⟩:=hr;rfl
def axH{v1:V1}{d:D}{v:Value}{M:Addr->Prop}(ht:db tb.tab v1 d)(hr:R w M d v):(jy v).length=v1.cells.length:=by
 cases v1 with
 | c t=>rw [agT ht hr];rfl
 | agg ts => obtain ⟨l,rfl,hlt⟩:=lO ht;obtain ⟨cs,rfl,hrs⟩:=hr;simp only [jy,V1.cells];rw [hrs.length,hlt.length]
def agU{M:Addr->Prop}: ∀{vs:List V1} {l:List D} {us:List Value},kH tb.tab vs l->Rs w M l us-> ∀{i j:Nat} {u x:Value},i<vs.length->us[i]? =some u->(jy u)[j]? =some x->(us.flatMap jy)[Bc vs i+j]? =some x
 | [],_,_,_,_,i,_,_,_,hi,_,_=>by simp at hi
 | v::vs,[],_,h,_,_,_,_,_,_,_,_=>by simp [kH] at h
 | v::vs,d::l,us,h,⟨u0,q,e,h1,h2⟩,i,j,u,x,hi,hu,hx=>by
  subst e;simp only [kH] at h;have hlen:=axH h.1 h1;cases i with
  | zero => simp at hu;subst hu;have hj:j<(jy u0).length:=(dQ.1 hx).1;simp only [Xo,Bc,qE];rw [mW hj];exact hx
  | succ i => simp at hu hi;have:=agU h.2 h2 hi hu hx;simp only [Xo,Bc];rw [oT (by omega),show v.cells.length+Bc vs i+j-(jy u0).length=Bc vs i+j by omega];exact this
def axI{M:Addr->Prop}{vs:List V1}{l:List D}{cs:Array Value}(h:kH tb.tab vs l)(hr:Rs w M l cs.toList){i j:Nat}{u x:Value}(hi:i<vs.length)(hu:cs.toList[i]? =some u)(hx:(jy u)[j]? =some x):(mK (.tuple cs))[Bc vs i+j]? =some x :=
 agU h hr hi hu hx
def aEi(hs:aS c F σ bm tm a w)(aB:cq tb.tab Γ c.env){n:Nat}{o:Oper}{x:Operand}{T i:Nat}(ho:o.op= .extract x i){aZ:bf}(h:YH tb.tab Γ gs o.dst (aY tb σ T x) i=some aZ):lI P c F gs σ bm tm a w n o aZ:=by
 unfold YH at h;split at h
 ·rename_i k e hx;split at h
  ·rename_i vs he;split at h
   ·rename_i hi;simp at h;subst h;refine ⟨_,rfl,rfl,fun g hg=>(dU hs hx).2 g (as2 (show (abO _ _ _).has g from hg)),fun hg _=> ?_⟩;obtain ⟨l,hl,hlt⟩:=Zz (eG aB e _ he);have hk0:=(dU hs hx).1 hg;have hr:=((dU hs hx).1 hg).rd;rw [hl] at hr;obtain ⟨cs,hcs,hrs⟩:=hr;obtain ⟨d,hd,_⟩:=hlt.get (cO hi);obtain ⟨u,hu,FF⟩:=hrs.get hd;have hu':cs[i]? =some u:=by simpa using hu
    have Mn:R w (MM c.M0 bm tm σ) ((E.proj e i).den c.env) u:=by simpa [E.den,hl,List.getD,hd] using FF
    refine ⟨u,w,by simp [execOp,ho,hcs,Instr.extract,hu'],dP _ _,fU hg ?_⟩;have hty:db tb.tab vs[i] ((E.proj e i).den c.env):=by obtain ⟨d',hd',ht'⟩:=hlt.get (cO hi);rw [hd] at hd';cases hd';simpa [E.den,hl,List.getD,hd] using ht'
    rw [hcs] at hk0;have hfl: ∀(j:Nat) (x:Value),(jy u)[j]? =some x->(mK (.tuple cs))[Bc vs i+j]? =some x:=fun j x hx=>axI hlt hrs hi (by simpa using hu') hx;rw [cO hi];cases hv1:vs[i] with
    | c t => rw [hv1] at hty;have h1:jy u=[u]:=agT hty Mn;exact akW Mn (hk0.nth (by have:=hfl 0 u (by rw [h1];rfl);simpa using this))
    | agg ts =>
     rw [hv1] at hty;obtain ⟨l',hl',FB⟩:=lO hty;have ahA:=Mn;rw [hl'] at ahA;obtain ⟨us,rfl,lD⟩:=ahA;have:us=us.toList.toArray:=by simp
     rw [this] at Mn ⊢;refine TY Mn fun j k x hk hx=> ?_;simp only [iI,lJ] at hk;obtain ⟨j',hj',rfl⟩:=hk;have hj2:j'=j:=by rw [dQ] at hj';obtain ⟨q1,q2⟩:=hj';simpa using q2.symm
     subst hj2;exact hk0.nth (hfl j' x (by simpa [jy] using hx))
   ·simp at h
  ·simp at h
 ·simp at h
def aEg(aJ:dz P tb tb=true)(hs:aS c F σ bm tm a w)(aB:cq tb.tab Γ c.env){n:Nat}{o:Oper}{x:Operand}{S T:Nat}(ho:o.op= .convert S T x){si ti:TI}(hsi:tb.get S=some si)(aO:tb.get T=some ti){aZ:bf}
  (h:YG tb.tab Γ gs o.dst (abZ tb si) si ti (aY tb σ S x)=some aZ):lI P c F gs σ bm tm a w n o aZ:=by
 unfold YG at h;split at h
 ·rename_i k1 k2 kx e hv1 hv2 hx;split at h
  ·rename_i hc;simp at h;subst h;refine ⟨_,rfl,rfl,fun g hg=>by simp [cP,K.has] at hg,fun hg _=> ?_⟩;obtain ⟨kk,hkk⟩:=CS hc;obtain ⟨m,hm,hmv,_⟩:=p9 aB hkk ((dU hs hx).1 hg);obtain ⟨_,d1,_,_,_,_,hd1,eO⟩:=jl aJ hsi hv1;obtain ⟨_,d2,_,_,_,_,nF,CJ⟩:=jl aJ aO hv2;simp only [ju] at eO CJ;subst eO CJ;refine ⟨.int k2 (k2.wrap m),w,by simp [execOp,ho,hmv,convert,run_underlying hd1,run_underlying nF,Conv.intToInt],dP _ _,fU hg ?_⟩;simp only [cz,E.den,hm,iF,R];exact ⟨trivial,HG _ _⟩
  ·simp at h
 ·rename_i el kx e hv1 hv2 hx;split at h
  ·rename_i hc;simp at h;subst h;refine ⟨_,rfl,rfl,fun g hg=>by simp [cP,K.has] at hg,fun hg _=> ?_⟩;obtain ⟨rows,hrows,fK,ad,len,cap,hval,hlen,hcap,hmax,hnone,hcells⟩:=Ff aB (wH hc.1) ((dU hs hx).1 hg);obtain ⟨_,d1,_,_,_,_,hd1,eO⟩:=jl aJ hsi hv1;obtain ⟨_,d2,_,_,_,_,nF,CJ⟩:=jl aJ aO hv2;simp only [ju] at eO CJ;subst eO CJ;have hel:P.underlying el=some (.int .u8):=by
    have h8:=hc.2.1;unfold abZ at h8;rw [hv1] at h8;simp only at h8;split at h8
    ·rename_i i hi;split at h8
     ·rename_i hvi;obtain ⟨_,d3,_,_,_,_,hd3,ahS⟩:=jl aJ hi hvi;simp only [ju] at ahS;subst ahS;exact hd3
     ·simp at h8
    ·simp at h8
   rw [hc.2.2] at fK;refine ⟨.string (K6 (.sl rows)),w,?_,dP _ _,fU hg ?_⟩
   ·rcases ad with _|⟨b,o',s⟩
    ·have h0:rows=[]:=oR (by have:=hnone rfl;omega);subst h0;have:=run_convert_bytes_nil (P:=P) w S el hd1 hel len cap T nF;simp [execOp,ho,hval,this];rfl
    ·obtain ⟨hs0,xI⟩:=hcells b o' s rfl;have hcs: ∀i,i<len->w.cell? ⟨b,o'+i,none⟩=some (.int .u8 ((rows.map fun r=>(r.headD .un).eT).getD i 0)):=by
      intro i hi;have hr:=xI.get (n:=1) (fun r hr=>fK.len r hr) (cO (show i<rows.length by omega));have hm:=fK.mem _ (vM (show i<rows.length by omega))
      match FE:rows[i],hm with
      | [d],hm => obtain ⟨n,rfl⟩:=Av hm.1;rw [FE] at hr;obtain ⟨⟨v,h1,_,h2⟩,_⟩:=hr;have:v= .int .u8 n:=h2.1;subst this;rw [Nat.mul_one] at h1;rw [h1];simp [List.getD,cO (show i<rows.length by omega),FE]
     rcases vP len with h0|h0
     ·subst h0;have h0':rows=[]:=oR hlen.symm;subst h0';have hrun:(convert S T (.slice (some ⟨b,o',s⟩) 0 cap)).run P w= .ok (.string (strOfNums [])) w:=by rw [run_convert_bytes_string w S T el _ 0 cap hd1 hel nF,run_bytesToString w _ 0 cap [] (by simpa using run_loadCells_list (P:=P) (w:=w) ⟨b,o',s⟩ [] (fun j u h=>by simp at h))];rfl
      simp [execOp,ho,hval,hrun,K6]
     ·have:=hs0 h0;subst this;have hrun:=run_convert_bytes_arg (P:=P) w S el hd1 hel b o' len cap (rows.map fun r=>(r.headD .un).eT) (by simp [hlen]) hcs T nF;simp [execOp,ho,hval,hrun,K6]
   ·simp only [cz,E.den,hrows,R];refine ⟨trivial,?_⟩;show (strOfNums _).size<=_;simp [strOfNums,ByteArray.size];omega
  ·simp at h
 ·simp at h
def Uo{n:Nat}(h:n<=maxLen):IntKind.i64.min<=(n:Int)/\(n:Int)<=IntKind.i64.max:=by unfold maxLen at h;simp [IntKind.min,IntKind.max,IntKind.signed,IntKind.bits];omega
def sLen(aJ:dz P tb tb=true)(hs:aS c F σ bm tm a w)(aB:cq tb.tab Γ c.env){n:Nat}{o:Oper}{x:Operand}{T:Nat}{cl:Call}(ho:o.op= .call cl)(hcl:cl.callee= .builtin .len)(har:cl.args.toList=[x])(hat:cl.argTypes.toList=[T])
  {ti:TI} (aO:tb.get T=some ti) {aZ:bf} (h:YM tb.tab Γ gs o.dst ti (aY tb σ T x)=some aZ):lI P c F gs σ bm tm a w n o aZ:=by
 have har':cl.args= #[x]:=by rw [<-kJ,har]
 have hat':cl.argTypes= #[T]:=by rw [<-kJ,hat]
 unfold YM at h;split at h
 ·rename_i k e hx;split at h
  ·rename_i hc;simp at h;subst h;refine ⟨_,rfl,rfl,fun g hg=>by simp [cP,K.has] at hg,fun hg _=> ?_⟩;have fT:=(dU hs hx).1 hg;rcases hc with hc|⟨rO,hsl⟩
   rotate_left
   ·obtain ⟨n,hn⟩:=RV (eG aB e _ rO);have mc:=fT.rd;rw [hn] at mc;obtain ⟨ad,cap,hval,hcap,hmax,_⟩:=mc;unfold ai0 at hsl;split at hsl
    ·rename_i el hv;obtain ⟨_,d1,_,_,_,_,hd1,eO⟩:=jl aJ aO hv;simp only [ju] at eO;subst eO;refine ⟨.int .i64 n,w,by simp [execOp,ho,resolve,hcl,invoke,builtin,Builtin.len_,har',hat',hval,run_underlying hd1,goInt],dP _ _,fU hg ?_⟩;simp only [cz,E.den,hn,dL,R];exact ⟨trivial,Uo (by omega)⟩
    ·simp at hsl
   obtain ⟨rO,FH⟩:=hc;unfold Tj at FH;split at FH
   ·rename_i hv;obtain ⟨_,d1,_,_,_,_,hd1,eO⟩:=jl aJ aO hv;simp only [ju] at eO;subst eO;obtain ⟨s,SL,hsv,jz⟩:=Fg aB (by rw [rO,hv]) fT;refine ⟨.int .i64 s.size,w,by simp [execOp,ho,resolve,hcl,invoke,builtin,Builtin.len_,har',hat',hsv,run_underlying hd1,goInt],dP _ _,fU hg ?_⟩;simp only [cz,E.den,SL,dL,R];exact ⟨trivial,Uo jz⟩
   ·rename_i el hv;obtain ⟨_,d1,_,_,_,_,hd1,eO⟩:=jl aJ aO hv;simp only [ju] at eO;subst eO;obtain ⟨rows,hrows,fK,ad,len,cap,hval,hlen,hcap,hmax,hnone,hcells⟩:=Ff aB (by rw [rO,hv]) fT;refine ⟨.int .i64 len,w,by simp [execOp,ho,resolve,hcl,invoke,builtin,Builtin.len_,har',hat',hval,run_underlying hd1,goInt],dP _ _,fU hg ?_⟩;simp only [cz,E.den,hrows,dL,R,hlen];exact ⟨trivial,Uo (by omega)⟩
   ·simp at FH
  ·simp at h
 ·simp at h
def sAt(aJ:dz P tb tb=true)(hs:aS c F σ bm tm a w)(aB:cq tb.tab Γ c.env){n:Nat}{o:Oper}{x i:Operand}{T:Nat}(ho:o.op= .index T x i){ti:TI}(aO:tb.get T=some ti){aZ:bf}
  (h:YD tb.tab Γ gs o.dst ti (aY tb σ T x) (aY tb σ 0 i)=some aZ):lI P c F gs σ bm tm a w n o aZ:=by
 unfold YD at h;split at h
 ·rename_i kx ex ki ei hv hx hi;split at h
  ·rename_i hc;simp at h;subst h;refine ⟨_,rfl,rfl,fun g hg=>by simp [cP,K.has] at hg,fun hg hr=> ?_⟩;have hin:kS P c.env n (.cond gs (.dE ex ei)):=hr _ (by simp);replace hin:=hin hg;obtain ⟨s,hs1,hsv,jz⟩:=Fg aB (wH hc.1) ((dU hs hx).1 hg);obtain ⟨kk,hkk⟩:=CS hc.2;obtain ⟨m,hm,hmv,_⟩:=p9 aB hkk ((dU hs hi).1 hg);simp only [E.den,hs1,hm,iF,dL,D.bool.injEq,cC] at hin;obtain ⟨_,d1,_,_,_,_,hd1,eO⟩:=jl aJ aO hv;simp only [ju] at eO;subst eO;have hlt:m.toNat<s.size:=by omega
   refine ⟨.int .u8 (s[m.toNat]'hlt).toNat,w,by simp [execOp,ho,hsv,hmv,Instr.index,asIntOf,run_underlying hd1,hin.1,hlt],dP _ _,fU hg ?_⟩;have h8:=(s[m.toNat]'hlt).toNat_lt;simp only [cz,E.den,hs1,hm,xe,iF,R];simp [hlt,IntKind.min,IntKind.max,IntKind.signed,IntKind.bits];omega
  ·simp at h
 ·simp at h
def ayV{tab:Nat->List CT}{n:Nat}{t:CT}{d:D}(h:db tab (.agg (List.replicate n t)) d): ∃l,d= .agg l/\l.length=n/\br tab (List.replicate n t) l:=by obtain ⟨l,hl,hlt⟩:=lO h;exact ⟨l,hl,by rw [hlt.length,Xs],hlt⟩
def aAi{ei:TI}{e:Nat}{t:CT}(aJ:dz P tb tb=true)(jG:tb.get e=some ei)(hv:ei.vt= .one (.c t)):(isAgg e).run P w= .ok false w:=by obtain ⟨i,d,_,_,_,_,hd,tA⟩:=jl aJ jG hv;exact abz hd tA
def aEm(aJ:dz P tb tb=true)(hs:aS c F σ bm tm a w)(IV:mT w)(aB:cq tb.tab Γ c.env){o:Oper}{g T:Nat}(ho:o.op= .load T (.global g)){ti:TI}(aO:tb.get T=some ti){aZ:bf}
  (h:YL tb Γ gs o.dst ti g=some aZ):lI P c F gs σ bm tm a w Γ.length o aZ:=by
 unfold YL at h;split at h
 ·rename_i n t ha;simp at h;subst h;obtain ⟨e,ei,i,hu,jG,hev,hi,hsz⟩:=abX aJ aO ha;refine ⟨_,rfl,rfl,fun g hg=>by simp [cP,K.has] at hg,fun hg hr=> ?_⟩;have hq:kS P c.env Γ.length (.rK g (.one (.agg (List.replicate n t))) none):=hr _ (by simp);obtain ⟨hq1,_,l,hl,hll⟩:=hq;rw [Xs] at hll;rw [hl] at hq1;obtain ⟨cs,t0,f0,h1,h2⟩:=hq1 w IV;have h3:=h2 w (MM c.M0 bm tm σ);simp only [pQ] at h3;have hrun:=aDN (P:=P) (w:=w) hu hi (b:=g) (o:=0) (vs:=cs.toList) (by rw [h3.length,hll,hsz]) (fun j u hj=>by rw [qE];simp only [World.cell?,h1];simpa using hj)
  refine ⟨.agg cs,w,?_,dP _ _,fU hg ?_⟩
  ·simp [execOp,ho,Act.eval,Instr.loadAt,Instr.sureAddr,hrun]
  ·show R w _ (c.env.getD Γ.length .un) (.agg cs);rw [hl];exact ⟨cs,rfl,h3⟩
 ·simp at h
def aEl(aJ:dz P tb tb=true)(hs:aS c F σ bm tm a w)(aB:cq tb.tab Γ c.env){o:Oper}{g T T':Nat}{i:Operand}(ho:o.op= .indexAddr T (.global g) i){ti:TI}(aO:tb.get T=some ti){aZ:bf}
  (h:YK tb Γ gs o.dst ti g (aY tb σ T' i)=some aZ):lI P c F gs σ bm tm a w Γ.length o aZ:=by
 unfold YK at h;split at h
 ·rename_i n t ki ei ha hx;split at h
  ·rename_i hint;simp at h;subst h;obtain ⟨e,Ry,i',hu,jG,hev,hi,hsz⟩:=abX aJ aO ha;refine ⟨_,rfl,rfl,fun g hg=>by simp [cP] at hg,fun hg hr=> ?_⟩;have hq:kS P c.env Γ.length (.rK g (.one (.agg (List.replicate n t))) (some (gs,ei,n))):=hr _ (by simp);obtain ⟨hq1,hq2,l,hl,hll⟩:=hq;rw [Xs] at hll;obtain ⟨h0,h1⟩:=hq2 hg;obtain ⟨kk,hkk⟩:=CS hint;obtain ⟨m,hm,hmv,_⟩:=p9 aB hkk ((dU hs hx).1 hg);rw [hm] at h0 h1;simp only [iF] at h0 h1;obtain ⟨j,hj,hjs,_⟩:=ye aJ jG hev;refine ⟨.pointer (some ⟨g,m.toNat,none⟩),w,?_,dP _ _,fun _=>⟨?_,hq1,?_⟩,fun h=>absurd hg h⟩
   ·have Fy:a.eval (.global g)= .pointer (some ⟨g,0,none⟩):=rfl;simp [execOp,ho,Fy,hmv,Instr.indexAt,asIntOf,Instr.sureAddr,run_underlying hu,run_sizeOf hj,hjs,V1.cells,h0,h1,addr_add]
   ·rw [hm];rfl
   ·show _<(c.env.getD Γ.length .un).mQ.length;rw [hl,hm];simp only [pQ,iF,hll];omega
  ·simp at h
 ·simp at h
def aEk(aJ:dz P tb tb=true)(hs:aS c F σ bm tm a w){n:Nat}{o:Oper}{x:Operand}{T f:Nat}(ho:o.op= .fieldAddr T x f){ti:TI}(aO:tb.get T=some ti){aZ:bf}
  (h:YJ tb Γ gs o.dst ti (aY tb σ 0 x) f=some aZ):lI P c F gs σ bm tm a w n o aZ:=by
 unfold YJ at h;split at h
 ·rename_i hx;exact (by simp [age] at h)
 ·exact aEj aJ hs ho aO h
def sLd(aJ:dz P tb tb=true)(hs:aS c F σ bm tm a w)(IV:mT w)(aB:cq tb.tab Γ c.env){o:Oper}{x:Operand}{T:Nat}(ho:o.op= .load T x){ti:TI}(aO:tb.get T=some ti){aZ:bf}
  (h:Iw tb Γ gs o.dst σ ti x=some aZ):lI P c F gs σ bm tm a w Γ.length o aZ:=by
 unfold Iw at h;split at h
 ·rename_i g;exact aEm aJ hs IV aB ho aO h
 ·split at h
  ·rename_i g0 g y ei hst;split at h
   ·rename_i t ts hv hy;split at h
    ·rename_i hc;simp at h;subst h;obtain ⟨hgd,hts⟩:=hc;refine ⟨_,rfl,rfl,fun g hg=>by simp [cP,K.has] at hg,fun hg hr=> ?_⟩;obtain ⟨h4,_⟩:=uQ hs hst;obtain ⟨hp,hG,hlt2⟩:=h4.1 (Mf hgd hg);obtain ⟨cs,t0,f0,q1,q2⟩:=hG w IV;have q3:=q2 w (MM c.M0 bm tm σ);obtain ⟨u,hu,FF⟩:=q3.get (cO hlt2);obtain ⟨i,d,hi,_,_,_,hd,tA⟩:=jl aJ aO hv;have hcell:w.cell? ⟨g,(ei.den c.env).eT.toNat,none⟩=some u:=by simp only [World.cell?,q1];simpa using hu
     refine ⟨u,w,by simp [execOp,ho,hp,Instr.loadAt,Instr.sureAddr,Ui hd tA hcell],dP _ _,fU hg ?_⟩;simp only [cz,E.den,cO hlt2,mX];exact FF
    ·simp at h
   ·simp at h
  ·rename_i hst;exact (by simp [agh] at h)
  ·rename_i hst;exact (by simp [agc] at h)
  ·exact aEp aJ hs aB ho aO h
def aEn(aJ:dz P tb tb=true)(hs:aS c F σ bm tm a w)(aB:cq tb.tab Γ c.env){o:Oper}{x i:Operand}{T:Nat}(ho:o.op= .indexAddr T x i){ti:TI}(aO:tb.get T=some ti){aZ:bf}
  (h:Iv tb Γ gs o.dst σ ti T x i=some aZ):lI P c F gs σ bm tm a w Γ.length o aZ:=by
 unfold Iv at h;split at h
 ·rename_i g;exact aEl aJ hs aB ho aO h
 ·split at h
  ·rename_i g0 g l hst;cases hm:iO .mem (l.inf tb.tab Γ) with
   | true=>rw [hm] at h;exact (by simp [agf] at h)
   | false=>rw [hm] at h;exact alz aJ hs aB ho aO h
  ·rename_i hst;exact (by simp [agb] at h)
  ·exact alz aJ hs aB ho aO h
def aEv(aJ:dz P tb tb=true)(hs:aS c F σ bm tm a w)(aB:cq tb.tab Γ c.env){n:Nat}{o:Oper}{x i:Operand}{T:Nat}(ho:o.op= .index T x i){ti:TI}(aO:tb.get T=some ti){aZ:bf}
  (h:YS tb Γ gs o.dst ti (aY tb σ T x) (aY tb σ 0 i)=some aZ):lI P c F gs σ bm tm a w n o aZ:=by
 unfold YS at h;split at h
 ·rename_i m t ha;split at h
  ·rename_i kx ex ki ei hx hi;split at h
   ·rename_i hc;simp at h;subst h;obtain ⟨hty,hint⟩:=hc;obtain ⟨e,Ry,i',hu,jG,hev,hi',hsz⟩:=abX aJ aO ha;refine ⟨_,rfl,rfl,fun g hg=>by simp [cP,K.has] at hg,fun hg hr=> ?_⟩;have hq:kS P c.env n (.cond gs (.an (.ic .leq (.li .i64 0) ei) (.ic .lss ei (.li .i64 m)))):=hr _ (by simp);replace hq:=hq hg;obtain ⟨l,hl,hll,hlt⟩:=ayV (eG aB ex _ hty);obtain ⟨kk,hkk⟩:=CS hint;obtain ⟨z,hz,hzv,_⟩:=p9 aB hkk ((dU hs hi).1 hg);simp only [E.den,hz,iF,BR,ba,D.bool.injEq,aP,cC] at hq;have hr0:=((dU hs hx).1 hg).rd;rw [hl] at hr0;obtain ⟨cs,hcs,hrs⟩:=hr0;have hlt2:z.toNat<l.length:=by omega
    obtain ⟨u,hu',FF⟩:=hrs.get (cO hlt2);obtain ⟨j,hj,hjs,_⟩:=ye aJ jG hev;have ayA:cs[z.toNat]? =some u:=by simpa using hu'
    have hag:=aAi (P:=P) (w:=w) aJ jG hev;refine ⟨u,w,?_,dP _ _,fU hg ?_⟩
    ·simp [execOp,ho,hcs,hzv,Instr.index,asIntOf,run_underlying hu,run_sizeOf hj,hjs,V1.cells,hq.1,hq.2,part,hag,ayA]
    ·simp only [cz,E.den,hl,hz,pQ,iF,cO hlt2,mX];exact FF
   ·simp at h
  ·simp at h
 ·exact sAt aJ hs aB ho aO h
def aEu(hs:aS c F σ bm tm a w)(aB:cq tb.tab Γ c.env){n:Nat}{o:Oper}{x y z:Operand}{T1 T2 T3:Nat}(ho:o.op= .pick x y z){aZ:bf}(h:YR tb.tab Γ gs o.dst (aY tb σ T1 x) (aY tb σ T2 y) (aY tb σ T3 z)=some aZ):lI P c F gs σ bm tm a w n o aZ:=by
 unfold YR at h;split at h
 ·rename_i kx ex hx;split at h
  ·rename_i hc;split at h
   ·rename_i ky ey kz ez hy hz;simp only [bg] at h;subst h;refine ⟨_,rfl,rfl,fun g hg=>by simp [cP,K.has] at hg,fun hg _=> ?_⟩;obtain ⟨b,hb,hv⟩:=Cy aB (wH hc) ((dU hs hx).1 hg);have iA:(aa9 tb.tab Γ ex ey ez).den c.env=if b=true then ey.den c.env else ez.den c.env:=by
     unfold aa9;split
     ·rename_i h1;obtain ⟨q,hq⟩:=yU (eG aB ez _ (wH h1.2));cases b<;>simp [E.den,hb,hq,h1.1]
     ·split
      ·rename_i h1;obtain ⟨q,hq⟩:=yU (eG aB ey _ (wH h1.2));cases b<;>simp [E.den,hb,hq,h1.1]
      ·cases b<;>simp [E.den,hb]
    cases b with
    | true => have:=((dU hs hy).1 (Ze.2 ⟨hg,hb⟩)).rd;exact ⟨a.eval y,w,by simp [execOp,ho,hv,asBool],dP _ _,fU hg (by simp only [cz];rw [iA];exact this)⟩
    | false => have:=((dU hs hz).1 (Ze.2 ⟨hg,hb⟩)).rd;exact ⟨a.eval z,w,by simp [execOp,ho,hv,asBool],dP _ _,fU hg (by simp only [cz];rw [iA];exact this)⟩
   ·simp at h
  ·simp at h
 ·simp at h
end
def aFo{k:IntKind}{a b:Int}(h1:k.min<=a)(h2:a<=k.max):k.min<=a.tmod b/\a.tmod b<=k.max:=by
 have hk:k.min<=0/\0<=k.max:=by cases k<;>simp [IntKind.min,IntKind.max,IntKind.signed,IntKind.bits]
 have hn:(a.tmod b).natAbs<=a.natAbs:=by rw [Int.natAbs_tmod];exact Nat.mod_le _ _
 by_cases h0:0<=a
 ·have:=Xk b h0;omega
 ·have h3:=Xk b (show 0<= -a by omega);rw [Int.neg_tmod] at h3;omega
def axF{k:IntKind}{a:Int}(n:Nat)(h1:k.min<=a)(h2:a<=k.max):k.min<=a.fdiv (2^n)/\a.fdiv (2^n)<=k.max:=by
 have hk:k.min<=0/\0<=k.max:=by cases k<;>simp [IntKind.min,IntKind.max,IntKind.signed,IntKind.bits]
 have hp:(0:Int)<2^n:=Int.pow_pos (by decide);rw [Int.fdiv_eq_ediv_of_nonneg _ (Int.le_of_lt hp)];by_cases h0:0<=a
 ·have h3:=Int.ediv_nonneg h0 (Int.le_of_lt hp);have h4:=Int.ediv_le_self (2^n) h0;omega
 ·have h3:a<=a/2^n:=by rw [Int.le_ediv_iff_mul_le hp];have:=Int.mul_le_mul_of_nonpos_left (show a<=0 by omega) (show (1:Int)<=2^n by omega);omega
  have h4:a/2^n<0:=Int.ediv_neg_of_neg_of_pos (by omega) hp;omega
section
variable {P:Program}{c:SC}{F:Nat->Prop}{σ:Nat->ST}{bm:Nat->Nat}{tm:Nat->Value}{a:Act}{w:World}{tb:TB}{Γ:List VT}{gs:Gd}
def Jx{op:BinOp}{T:Nat}{x y:Operand}{k k':IntKind}{m n:Int}:(eqGuard op T x y (.int k m) (.int k' n)).run P w= .ok () w:=by cases op<;>simp [eqGuard]
def alb{op:BinOp}{T:Nat}{x y:Operand}{s t:ByteArray}:(eqGuard op T x y (.string s) (.string t)).run P w= .ok () w:=by cases op<;>simp [eqGuard]
def agw: ∀{a b a' b':List D},a.length=b.length->lZ (a++a') (b++b')=(lZ a b&&lZ a' b')
 | [],[],_,_,_=>by simp [lZ]
 | x::a,y::b,a',b',h=>by simp only [iH,lZ,agw (a:=a) (b:=b) (by simpa using h),Bool.and_assoc]
 | [],_::_,_,_,h=>by simp at h
 | _::_,[],_,_,h=>by simp at h
def ald{t:Nat}{d:TypeDesc}{ct:CT}(h:P.underlying t=some d)(hd:ju ct d){cs:Array Value}{off:Nat}{v:Value}(hv:cs[off]? =some v):(part t cs off).run P w= .ok v w:=by simp [part,abz h hd,hv]
def ale{t:Nat}{f:Array Field}(h:P.underlying t=some (.struct f)){i:TypeInfo}(hi:P.info? t=some i){cs:Array Value}{off:Nat}:(part t cs off).run P w= .ok (.agg (cs.extract off (off+i.size))) w:=by simp [part,alc h,run_sizeOf hi]
def run_eq(aJ:dz P tb tb=true){M:Addr->Prop}: ∀(d T:Nat) (ti:TI) (v:V1),Fa P tb d T=true->tb.get T=some ti->ti.vt= .one v-> ∀(dx dy:D) (x y:Value),db tb.tab v dx->db tb.tab v dy->R w M dx x->R w M dy y-> ∀e,d<=e ->
  (Op.equalIn e T x y).run P w= .ok (match v with| .c _=>IC dx dy| .agg _=>lZ dx.mQ dy.mQ) w
 | 0,T,ti,v,h,_,_,_,_,_,_,_,_,_,_,_,_=>by simp [Fa] at h
 | d+1,T,ti,v,h,aO,hv,dx,dy,x,y,hx,hy,rx,ry,e,he=>by
  obtain ⟨e,rfl⟩: ∃e',e=e'+1:=⟨e-1,by omega⟩;simp only [Fa,aO,hv] at h;cases v with
  | c t =>
   obtain ⟨_,d1,_,_,_,_,hd1,eO⟩:=jl aJ aO hv;cases t with
   | mem=>exact eO.elim
   | fn=>exact eO.elim
   | sl el=>simp at h
   | bool => obtain ⟨a,rfl⟩:=yU hx;obtain ⟨b,rfl⟩:=yU hy;simp only [R] at rx ry;subst rx ry;simp only [ju] at eO;subst eO;rw [XR w e T a b hd1];rfl
   | int k => obtain ⟨a,rfl⟩:=Av hx;obtain ⟨b,rfl⟩:=Av hy;obtain ⟨rfl,_⟩:=rx;obtain ⟨rfl,_⟩:=ry;simp only [ju] at eO;subst eO;rw [run_equalIn_int w e T k k a b hd1];rfl
   | str => obtain ⟨a,rfl⟩:=Fs hx;obtain ⟨b,rfl⟩:=Fs hy;obtain ⟨rfl,_⟩:=rx;obtain ⟨rfl,_⟩:=ry;simp only [ju] at eO;subst eO;rw [run_equalIn_string w e T a b hd1];rfl
  | agg ts =>
   simp only [aP,oP,fO] at h;obtain ⟨⟨⟨h1,h2⟩,h3⟩,h4⟩:=h;obtain ⟨i,fields,z,hi,hsz,_,_,_,hu,hfo⟩:=tP aJ aO hv;obtain ⟨l,rfl,hl⟩:=lO hx;obtain ⟨m,rfl,hm⟩:=lO hy;obtain ⟨xs,rfl,hxs⟩:=rx;obtain ⟨ys,rfl,hys⟩:=ry;have Mx:P.fieldsOf T=fields:=by simp [Program.fieldsOf,hu]
   rw [run_equalIn_struct w e T xs ys (by rw [Mx];exact hu) h1,Mx];rw [Mx] at h2;have key: ∀(fs:List (Nat×Nat)) (fl:List Field) (o:Nat),tq tb fs fl=true->(∀f∈fl,(f.name== "_")=false)->(∀q∈fs,Fa P tb d q.2=true)->Ag tb o (ts.drop o) fs=true->(Op.eqFields e xs ys fl).run P w= .ok (lZ (l.drop o) (m.drop o)) w:=by
    have hll:=hl.length;have ma:=hm.length;intro fs;induction fs with
    | nil =>
     intro fl o My _ _ hco;cases fl with
     | nil =>
      simp only [Ag,List.isEmpty_iff] at hco;have:ts.length<=o:=by simpa using hco
      rw [Ha (by omega),Ha (by omega)];simp [Op.eqFields,lZ]
     | cons _ _=>simp [tq] at My
    | cons q r ih =>
     intro fl o My hnm heq hco;obtain ⟨o',ft⟩:=q;cases fl with
     | nil=>simp [tq] at My
     | cons f fl =>
      simp only [tq,aP,um] at My;obtain ⟨⟨⟨q1,q2⟩,q3⟩,q4⟩:=My;simp only [Ag,aP] at hco;obtain ⟨hb,hco⟩:=hco;have:o=o':=iW hb;subst this;split at hco
      ·rename_i fi hfi;simp only [aP,cC] at hco;obtain ⟨htk,hco⟩:=hco;rw [Ch] at hco;have hrest:=ih fl (o+fi.cells.length) q4 (fun f' hf'=>hnm f' (by simp [hf'])) (fun q hq=>heq q (by simp [hq])) hco;rw [hfi] at q3;simp only at q3;split at q3
       ·rename_i v1 hv1;have hcl:fi.cells=v1.cells:=by simp [TI.cells,hv1]
        rw [hcl] at hrest htk;have hle:o+v1.cells.length<=ts.length\/v1.cells.length=0:=by have:=congrArg List.length htk;simp at this;omega
        have hne:f.name≠ "_" :=fun e'=>by have:=hnm f (by simp);rw [e'] at this;simp at this
        have ahZ:=heq (o,ft) (by simp);have azO:lZ (l.drop o) (m.drop o)=(lZ ((l.drop o).take v1.cells.length) ((m.drop o).take v1.cells.length)&&lZ (l.drop (o+v1.cells.length)) (m.drop (o+v1.cells.length))):=by rw [<-agw (by simp;omega)];rw [<-Ch, <-Ch,Ez,Ez]
        have AG:=(hl.drop o).take v1.cells.length;have AJ:=(hm.drop o).take v1.cells.length;rw [htk] at AG AJ;have MS:=(hxs.drop o).take v1.cells.length;have FG:=(hys.drop o).take v1.cells.length;obtain ⟨j,hj,hjs,_⟩:=ye aJ hfi hv1;have azw: ∃(px py:Value),(part f.type xs f.offset).run P w= .ok px w/\(part f.type ys f.offset).run P w= .ok py w/\(Op.equalIn e ft px py).run P w= .ok (lZ ((l.drop o).take v1.cells.length) ((m.drop o).take v1.cells.length)) w:=by
         rw [<-q1, <-q2];cases v1 with
         | c t =>
          obtain ⟨_,d1,_,_,_,_,hd1,eO⟩:=jl aJ hfi hv1;simp only [V1.cells] at AG AJ MS FG ⊢;generalize (l.drop o).take [t].length=la at AG MS ⊢;generalize (m.drop o).take [t].length=lb at AJ FG ⊢;cases la with
          | nil=>simp [br] at AG
          | cons ea ra =>
           cases lb with
           | nil=>simp [br] at AJ
           | cons eb rb =>
            simp only [br] at AG AJ;have hra:ra=[]:=by cases ra with|nil=>rfl|cons _ _=>simp [br] at AG
            have hrb:rb=[]:=by cases rb with|nil=>rfl|cons _ _=>simp [br] at AJ
            subst hra hrb;obtain ⟨px,qx,hpx,azF,_⟩:=MS;obtain ⟨py,qy,hpy,azG,_⟩:=FG;have hx0:xs[o]? =some px:=by have:=congrArg (fun l=>l[0]?) hpx;simpa using this
            have hy0:ys[o]? =some py:=by have:=congrArg (fun l=>l[0]?) hpy;simpa using this
            refine ⟨px,py,ald hd1 eO hx0,ald hd1 eO hy0,?_⟩;have:=run_eq aJ d ft fi (.c t) ahZ hfi hv1 ea eb px py AG.1 AJ.1 azF azG e (by omega);simpa [lZ] using this
         | agg us =>
          obtain ⟨i',f',z',hi',SP,_,_,_,hu',_⟩:=tP aJ hfi hv1;simp only [V1.cells] at AG AJ MS FG hle ⊢;have ex: ∀zs:Array Value,(zs.extract o (o+i'.size)).toList=(zs.toList.drop o).take us.length:=fun zs=>by simp [SP,List.extract_eq_take_drop]
          refine ⟨.agg (xs.extract o (o+i'.size)),.agg (ys.extract o (o+i'.size)),ale hu' hi',ale hu' hi',?_⟩;exact run_eq aJ d ft fi (.agg us) ahZ hfi hv1 (.agg _) (.agg _) _ _ AG AJ ⟨_,rfl,by rw [ex];exact MS⟩ ⟨_,rfl,by rw [ex];exact FG⟩ e (by omega)
        obtain ⟨px,py,e1,e2,e4⟩:=azw;simp only [Op.eqFields,aA hne,lK,e1,e2,uk];rw [<-q2,e4];simp only [uk,azO];cases lZ ((l.drop o).take v1.cells.length) ((m.drop o).take v1.cells.length) with
        | true=>simp [hrest]
        | false=>simp
       ·simp at q3
      ·simp at hco
   have:=key ti.fs fields.toList 0 hfo (fun f hf=>by simpa using h2 f hf) h3 (by simpa using h4);simpa using this
def axu(aJ:dz P tb tb=true){T:Nat}{ti:TI}(aO:tb.get T=some ti){ts:List CT}(hv:ti.vt= .one (.agg ts))(he:ti.eq=true):Fa P tb 8 T=true/\P.eqGuardType P.depth T=false:=by
 have h:=NN aJ aO;simp only [JD,hv] at h;split at h
 ·simp at h
 ·simp only [aP,gK,oP] at h;have h5:=h.2;rw [he] at h5;simpa using h5
def aD8(aJ:dz P tb tb=true)(hs:aS c F σ bm tm a w)(aB:cq tb.tab Γ c.env){n:Nat}{o:Oper}{x y:Operand}{T T':Nat}{op:BinOp}(ho:o.op= .binOp op T x y T'){aZ:bf}
  (h:YE tb.tab Γ gs o.dst op (tb.get T) (aY tb σ T x) (aY tb σ T y)=some aZ):lI P c F gs σ bm tm a w n o aZ:=by
 unfold YE at h;split at h
 ·rename_i kx ea ky eb hx hy;split at h
  ·rename_i k k' wC hkb;split at h
   ·rename_i hop;simp only [bg] at h;subst h;refine ⟨_,rfl,rfl,fun g hg=>by simp [cP,K.has] at hg,fun hg hr=> ?_⟩;have hin:kS P c.env n (.cond gs (.ic .geq eb (.li k' 0))):=hr _ (by simp);replace hin:=hin hg;obtain ⟨m,hm,hmv,mM,hm2⟩:=p9 aB wC ((dU hs hx).1 hg);obtain ⟨q,hq,nH,hq1,hq2⟩:=p9 aB hkb ((dU hs hy).1 hg);simp [E.den,hq,ba] at hin;have hnl: ¬q<0:=by omega
    rcases hop with rfl|rfl
    ·refine ⟨.int k (dJ .shl k m q),w,?_,dP _ _,fU hg ?_⟩
     ·simp [execOp,ho,hmv,nH,Jx,binOp,Op.shift,hnl,dJ]
     ·simp only [cz,E.den,hm,hq,iF,R];exact ⟨trivial,HG _ _⟩
    ·refine ⟨.int k (dJ .shr k m q),w,?_,dP _ _,fU hg ?_⟩
     ·simp [execOp,ho,hmv,nH,Jx,binOp,Op.shift,hnl,dJ]
     ·simp only [cz,E.den,hm,hq,iF,R];exact ⟨trivial,axF _ mM hm2⟩
   ·rename_i hns;split at h
    ·simp at h
    ·rename_i hkk;have hkk:k=k':=by simpa using hkk
     subst hkk;split at h
     ·rename_i hop;simp only [bg] at h;subst h;refine ⟨_,rfl,rfl,fun g hg=>by simp [cP,K.has] at hg,fun hg _=> ?_⟩;obtain ⟨m,hm,hmv,mM,hm2⟩:=p9 aB wC ((dU hs hx).1 hg);obtain ⟨q,hq,nH,hq1,hq2⟩:=p9 aB hkb ((dU hs hy).1 hg);refine ⟨.int k (dJ op k m q),w,?_,dP _ _,fU hg ?_⟩
      ·cases op<;>simp [I9] at hop<;>simp [execOp,ho,hmv,nH,Jx,binOp,Op.intArith,Op.intBits,dJ]
      ·simp only [cz,E.den,hm,hq,iF,R];refine ⟨trivial,?_⟩;cases op<;>simp [I9] at hop<;>exact HG _ _
     ·split at h
      ·rename_i hop;simp only [bg] at h;subst h;refine ⟨_,rfl,rfl,fun g hg=>by simp [cP,K.has] at hg,fun hg _=> ?_⟩;obtain ⟨m,hm,hmv,mM,hm2⟩:=p9 aB wC ((dU hs hx).1 hg);obtain ⟨q,hq,nH,hq1,hq2⟩:=p9 aB hkb ((dU hs hy).1 hg);refine ⟨.bool (ba op m q),w,?_,dP _ _,fU hg ?_⟩
       ·cases op<;>simp [FN] at hop<;>simp [execOp,ho,hmv,nH,Jx,binOp,Op.intCmp,ba]
       ·simp only [cz,E.den,hm,hq,iF,R]
      ·split at h
       ·rename_i hop;simp only [bg] at h;subst h;refine ⟨_,rfl,rfl,fun g hg=>by simp [cP,K.has] at hg,fun hg hr=> ?_⟩;have hin:kS P c.env n (.cond gs (.ic .neq eb (.li k 0))):=hr _ (by simp);replace hin:=hin hg;obtain ⟨m,hm,hmv,mM,hm2⟩:=p9 aB wC ((dU hs hx).1 hg);obtain ⟨q,hq,nH,hq1,hq2⟩:=p9 aB hkb ((dU hs hy).1 hg);simp [E.den,hq,ba] at hin;rcases hop with rfl|rfl
        ·refine ⟨.int k (dJ .quo k m q),w,?_,dP _ _,fU hg ?_⟩
         ·simp [execOp,ho,hmv,nH,Jx,binOp,Op.intDiv,hin,dJ]
         ·simp only [cz,E.den,hm,hq,iF,R];exact ⟨trivial,HG _ _⟩
        ·refine ⟨.int k (dJ .rem k m q),w,?_,dP _ _,fU hg ?_⟩
         ·simp [execOp,ho,hmv,nH,Jx,binOp,Op.intDiv,hin,dJ]
         ·simp only [cz,E.den,hm,hq,iF,R];exact ⟨trivial,aFo mM hm2⟩
       ·simp at h
  ·rename_i wC hkb;split at h
   ·rename_i hop;simp only [bg] at h;subst h;refine ⟨_,rfl,rfl,fun g hg=>by simp [cP,K.has] at hg,fun hg _=> ?_⟩;obtain ⟨m,hm,hmv,mM⟩:=Fg aB wC ((dU hs hx).1 hg);obtain ⟨q,hq,nH,hq1⟩:=Fg aB hkb ((dU hs hy).1 hg);refine ⟨.bool (iK op m q),w,?_,dP _ _,fU hg ?_⟩
    ·cases op<;>simp [FN] at hop<;>simp [execOp,ho,hmv,nH,alb,binOp,Op.stringOp,iK]
    ·simp only [cz,E.den,hm,hq,xe,R]
   ·split at h
    ·rename_i hop;subst hop;simp only [bg] at h;subst h;refine ⟨_,rfl,rfl,fun g hg=>by simp [cP,K.has] at hg,fun hg hr=> ?_⟩;have hin:kS P c.env n (.cond gs (.jD ea eb)):=hr _ (by simp);replace hin:=hin hg;obtain ⟨m,hm,hmv,mM⟩:=Fg aB wC ((dU hs hx).1 hg);obtain ⟨q,hq,nH,hq1⟩:=Fg aB hkb ((dU hs hy).1 hg);simp [E.den,hm,hq] at hin;have h63: ¬(IntKind.i64.max<(m.size:Int)+(q.size:Int)):=by have:=Uo hin;omega
     refine ⟨.string (m++q),w,?_,dP _ _,fU hg ?_⟩
     ·simp [execOp,ho,hmv,nH,alb,binOp,Op.stringOp,h63];unfold maxLen at hin;omega
     ·simp only [cz,E.den,hm,hq,xe,R,gx];exact ⟨trivial,hin⟩
    ·simp at h
  ·rename_i ts us wC hkb;split at h
   ·rename_i i aO;split at h
    ·rename_i hc;obtain ⟨hce,hcv,hcu⟩:=hc;obtain ⟨heq,hgd⟩:=axu aJ aO hcv hce;have hgo:cK c.env gs-> ∃xs ys,a.eval x= .agg xs/\a.eval y= .agg ys/\ ∃q,(E.ae ea eb).den c.env= .bool q/\(Op.equalIn 10000 T (.agg xs) (.agg ys)).run P w= .ok q w:=by
      intro hg;obtain ⟨l,hl,hlt⟩:=lO (eG aB ea _ wC);obtain ⟨m,hm,Z0⟩:=lO (eG aB eb _ hkb);have lD:us=ts:=by rw [hcv] at hcu;simpa using hcu.symm
      subst lD;have rx:=((dU hs hx).1 hg).rd;have ry:=((dU hs hy).1 hg).rd;rw [hl] at rx;rw [hm] at ry;have:=run_eq aJ 8 T i (.agg us) heq aO hcv (.agg l) (.agg m) _ _ hlt Z0 rx ry 10000 (by omega);obtain ⟨xs,hxs,_⟩:=rx;obtain ⟨ys,hys,_⟩:=ry;rw [hxs,hys] at this;exact ⟨xs,ys,hxs,hys,_,by simp [E.den,hl,hm],this⟩
     split at h
     ·rename_i hop;subst hop;simp only [bg] at h;subst h;refine ⟨_,rfl,rfl,fun g hg=>by simp [cP,K.has] at hg,fun hg _=> ?_⟩;obtain ⟨xs,ys,e1,e2,q,e3,e4⟩:=hgo hg;refine ⟨.bool q,w,?_,dP _ _,fU hg ?_⟩
      ·simp [execOp,ho,e1,e2,run_eqGuard_agg w .eql T x y xs ys hgd,run_eql_struct,e4]
      ·simp only [cz,e3,R]
     ·split at h
      ·rename_i hop;subst hop;simp only [bg] at h;subst h;refine ⟨_,rfl,rfl,fun g hg=>by simp [cP,K.has] at hg,fun hg _=> ?_⟩;obtain ⟨xs,ys,e1,e2,q,e3,e4⟩:=hgo hg;refine ⟨.bool (!q),w,?_,dP _ _,fU hg ?_⟩
       ·simp [execOp,ho,e1,e2,run_eqGuard_agg w .neq T x y xs ys hgd,run_neq_struct,e4]
       ·simp only [E.den,D.bool.injEq] at e3;simp only [cz,E.den,e3,BR,R]
      ·simp at h
    ·simp at h
   ·simp at h
  ·rename_i wC hkb;split at h
   ·rename_i i aO;split at h
    ·rename_i hv;obtain ⟨_,d1,_,_,_,_,hd1,eO⟩:=jl aJ aO hv;simp only [ju] at eO;subst eO;split at h
     ·rename_i hop;subst hop;simp only [bg] at h;subst h;refine ⟨_,rfl,rfl,fun g hg=>by simp [cP,K.has] at hg,fun hg _=> ?_⟩;obtain ⟨m,hm,hmv⟩:=Cy aB wC ((dU hs hx).1 hg);obtain ⟨q,hq,nH⟩:=Cy aB hkb ((dU hs hy).1 hg);refine ⟨.bool (m==q),w,?_,dP _ _,fU hg ?_⟩
      ·simp [execOp,ho,hmv,nH,eqGuard,binOp,Op.equal,Op.maxDepth,XR w 9999 T m q hd1]
      ·simp only [cz,E.den,hm,hq,BR,R]
     ·split at h
      ·rename_i hop;subst hop;simp only [bg] at h;subst h;refine ⟨_,rfl,rfl,fun g hg=>by simp [cP,K.has] at hg,fun hg _=> ?_⟩;obtain ⟨m,hm,hmv⟩:=Cy aB wC ((dU hs hx).1 hg);obtain ⟨q,hq,nH⟩:=Cy aB hkb ((dU hs hy).1 hg);refine ⟨.bool (!(m==q)),w,?_,dP _ _,fU hg ?_⟩
       ·simp [execOp,ho,hmv,nH,eqGuard,binOp,Op.equal,Op.maxDepth,XR w 9999 T m q hd1]
       ·simp only [cz,E.den,hm,hq,BR,R]
      ·simp at h
    ·simp at h
   ·simp at h
  ·simp at h
 ·simp at h
def iU.cut{M:Addr->Prop}{m:Nat}{rows:List (List D)}{b o:Nat}(h:iU w M rows b o)(hn: ∀r∈rows,r.length=m)(l k:Nat):iU w M ((rows.drop l).take k) b (o+l*m):=by
 refine B6 (n:=m) (fun r hr=>hn r (PT (PU hr))) fun i r hr=> ?_;simp only [pV,xm] at hr;split at hr
 ·have:=h.get hn hr
  rwa [show o+(l+i)*m=o+l*m+i*m by rw [jO];omega] at this
 ·simp at hr
def run_sliceBound{v:Value}{k:IntKind}{i:Int}(hv:v= .int k i){y:Nat}{code:BoundsCode}(h0:0<=i)(h1:i<=y):(Instr.sliceBound v y code).run P w= .ok i.toNat w:=by subst hv;simp [Instr.sliceBound,asIntOf,h0,h1]
def XX{isS:Bool}{len cap:Nat}{lo hi:Option Value}{l h:Int}(hl:(lo=none/\l=0)\/ ∃k,lo=some (.int k l))(hh:(hi=none/\h=len)\/ ∃k,hi=some (.int k h))(h1:0<=l)(h2:l<=h)(h3:h<=len)(h4:len<=cap) :
  (Instr.sliceBounds isS len cap lo hi none).run P w= .ok (l.toNat,h.toNat,cap) w:=by
 have hhc:h<=(cap:Int):=by omega
 have h0:0<=h:=by omega
 have e2:((h.toNat:Nat):Int)=h:=by omega
 rcases hl with ⟨rfl,rfl⟩|⟨k,rfl⟩<;>rcases hh with ⟨rfl,rfl⟩|⟨k',rfl⟩
 ·simp [Instr.sliceBounds]
 ·simp [Instr.sliceBounds,run_sliceBound rfl h0 hhc]
 ·simp [Instr.sliceBounds,run_sliceBound (P:=P) (w:=w) (v:= .int k l) (y:=len) (code:= .sliceB) rfl h1 (by omega)]
 ·simp [Instr.sliceBounds,run_sliceBound (P:=P) (w:=w) (v:= .int k' h) (y:=cap) (code:=if isS=true then .sliceAcap else .sliceAlen) rfl h0 hhc,run_sliceBound (P:=P) (w:=w) (v:= .int k l) (y:=h.toNat) (code:= .sliceB) rfl h1 (by omega)]
def alB(aJ:dz P tb tb=true)(hs:aS c F σ bm tm a w)(aB:cq tb.tab Γ c.env){n:Nat}{o:Oper}{x:Operand}{lo hi:Option Operand}{T:Nat}(ho:o.op= .slice T x lo hi none){ti:TI}(aO:tb.get T=some ti){aZ:bf}
  (h:Rx tb Γ gs o.dst ti (aY tb σ T x) (lo.map (aY tb σ 0)) (hi.map (aY tb σ 0))=some aZ):lI P c F gs σ bm tm a w n o aZ:=by
 unfold Rx at h;split at h
 ·rename_i kx ex kl el hx hlo;split at h
  ·rename_i kh eh hhi;split at h
   ·rename_i hc;simp only [bg] at h;subst h;obtain ⟨rO,hil,hih,FH,uF⟩:=hc;refine ⟨_,rfl,rfl,fun g hg=>by simp [cP,K.has] at hg,fun hg hr=> ?_⟩;have hin:kS P c.env n (.cond gs (.inc ex el eh)):=hr _ (by simp);replace hin:=hin hg;have fT:=(dU hs hx).1 hg;have hL: ∃l:Int,(el.den c.env).eT=l/\((lo.map a.eval=none/\l=0)\/ ∃k,lo.map a.eval=some (.int k l)):=by
     cases lo with
     | none=>simp at hlo;obtain ⟨_,rfl⟩:=hlo;exact ⟨0,rfl,.inl ⟨rfl,rfl⟩⟩
     | some y => simp only [jP] at hlo;obtain ⟨kk,hkk⟩:=CS hil;obtain ⟨m,hm,hmv,_⟩:=p9 aB hkk ((dU hs hlo).1 hg);exact ⟨m,by simp [hm],.inr ⟨kk,by simp [hmv]⟩⟩
    have hH: ∃l:Int,(eh.den c.env).eT=l/\((hi.map a.eval=none/\l=dL (ex.den c.env))\/ ∃k,hi.map a.eval=some (.int k l)):=by
     cases hi with
     | none=>simp at hhi;obtain ⟨_,rfl⟩:=hhi;exact ⟨_,rfl,.inl ⟨rfl,by simp [E.den]⟩⟩
     | some y => simp only [jP] at hhi;obtain ⟨kk,hkk⟩:=CS hih;obtain ⟨m,hm,hmv,_⟩:=p9 aB hkk ((dU hs hhi).1 hg);exact ⟨m,by simp [hm],.inr ⟨kk,by simp [hmv]⟩⟩
    obtain ⟨l,hl,hL⟩:=hL;obtain ⟨u,hu,hH⟩:=hH;simp only [E.den,hl,hu,D.bool.injEq,cC] at hin;obtain ⟨Sv,MA,MC⟩:=hin;unfold Tj at FH;split at FH
    ·rename_i hv;obtain ⟨_,d1,_,_,_,_,hd1,eO⟩:=jl aJ aO hv;simp only [ju] at eO;subst eO;obtain ⟨s,SL,hsv,jz⟩:=Fg aB (by rw [rO,hv]) fT;simp only [SL,dL] at MC hH;refine ⟨.string (s.extract l.toNat u.toNat),w,?_,dP _ _,fU hg ?_⟩
     ·simp [execOp,ho,hsv,Instr.sliceAt,Instr.slice,run_underlying hd1,XX hL hH Sv MA MC (bU _)]
     ·simp only [cz,E.den,SL,hl,hu,qI,R];refine ⟨trivial,?_⟩;rw [ByteArray.size_extract];omega
    ·rename_i YT hv;obtain ⟨_,d1,_,_,_,_,hd1,eO⟩:=jl aJ aO hv;simp only [ju] at eO;subst eO;obtain ⟨rows,hrows,fK,ad,len,cap,hval,hlen,hcap,hmax,hnone,hcells⟩:=Ff aB (by rw [rO,hv]) fT;simp only [hrows,dL] at MC hH;rw [<-hlen] at MC hH;rw [hv] at uF;simp only [Uq] at uF;split at uF
     ·rename_i ei jG;split at uF
      ·rename_i v1 hv1;obtain ⟨j,hj,hjs,_⟩:=ye aJ jG hv1;have htab:tb.tab YT=v1.cells:=by simp [TB.tab,jG,TI.cells,hv1]
       refine ⟨.slice (if cap=l.toNat then ad else ad.map (·.add (l.toNat*v1.cells.length))) (u.toNat-l.toNat) (cap-l.toNat),w,?_,dP _ _,fU hg ?_⟩
       ·simp [execOp,ho,hval,Instr.sliceAt,Instr.slice,run_underlying hd1,XX hL hH Sv MA MC hcap,run_sizeOf hj,hjs]
       ·simp only [cz,E.den,hrows,hl,hu,qI,R];refine ⟨_,_,_,rfl,by simp;omega,by omega,by omega,fun hn=> ?_,fun b o' s he=> ?_⟩
        ·rcases ad with _|ad
         ·have:=hnone rfl;omega
         ·split at hn
          ·cases hn
          ·simp at hn
        ·by_cases hz:u.toNat-l.toNat=0
         ·rw [hz,PZ];exact ⟨fun h=>absurd h (by omega),trivial⟩
         ·have hne:cap≠l.toNat:=by omega
          rw [ak hne] at he;rcases ad with _|⟨b1,o1,s1⟩
          ·simp at he
          ·obtain ⟨hs1,xI⟩:=hcells b1 o1 s1 rfl;have:=hs1 (by omega);subst this;simp only [jP,addr_add,bg,mC] at he;obtain ⟨rfl,rfl,rfl⟩:=he;exact ⟨fun _=>rfl,xI.cut (fun r hr=>by rw [fK.len r hr,htab]) _ _⟩
      ·simp at uF
     ·simp at uF
    ·simp at FH
   ·simp at h
  ·simp at h
 ·simp at h
end
end
end Go.Proofs.YtekplmpbkgchfaaGreatDoor
