/- Each operation does to a world what the executor says it does: structs and slices built, boxes, calls, append. No program in sight. -/
import Derived.Test.YtekplmpbkgchfaaGreatDoorE2
set_option linter.all false
namespace Go.Proofs.YtekplmpbkgchfaaGreatDoor
section
open Go.RowKit
variable [GC]
section
variable {w:World}{M:Addr->Prop}
def alU{α:Type}: ∀(r l:List α) (i:Nat),i+r.length<=l.length->(mi l i r).take (i+r.length)=l.take i++r
 | [],l,i,_=>by simp [mi]
 | x::r,l,i,h=>by
  simp only [fw] at h;have:=alU r (l.set i x) (i+1) (by simp;omega);simp only [mi,fw];rw [show i+(r.length+1)=i+1+r.length by omega,this];have h1:(l.set i x).take (i+1)=l.take i++[x]:=by rw [Xx (by simp;omega)];simp [List.take_set_of_le]
  rw [h1];simp
def LI{tab:Nat->List CT}{t:CT}{d:D}{v:Value}(ht:cD tab t d)(h:R w M d v):v.cells= #[v]/\v.oneCell'=true:=by
 cases t with
 | bool=>obtain ⟨b,rfl⟩:=yU ht;simp only [R] at h;subst h;exact ⟨rfl,rfl⟩
 | int k=>obtain ⟨n,rfl⟩:=Av ht;obtain ⟨rfl,_⟩:=h;exact ⟨rfl,rfl⟩
 | str=>obtain ⟨s,rfl⟩:=Fs ht;obtain ⟨rfl,_⟩:=h;exact ⟨rfl,rfl⟩
 | sl e=>obtain ⟨r,rfl,_⟩:=wy ht;obtain ⟨_,_,_,rfl,_⟩:=h;exact ⟨rfl,rfl⟩
 | mem=>obtain ⟨n,rfl⟩:=RV ht;obtain ⟨_,_,rfl,_⟩:=h;exact ⟨rfl,rfl⟩
 | fn=>obtain ⟨f,jQ,rfl⟩:=RU ht;obtain ⟨_,rfl,_⟩:=h;exact ⟨rfl,rfl⟩
def Yj{tab:Nat->List CT}: ∀{ts:List CT} {l:List D} {vs:List Value},br tab ts l->Rs w M l vs-> ∀v∈vs,v.oneCell'=true
 | [],[],_,_,h,v,hv=>by subst h;simp at hv
 | t::ts,d::ds,vs,ht,⟨u,q,e,h1,h2⟩,v,hv=>by
  subst e;simp only [br] at ht;rcases fJ.1 hv with rfl|hv
  ·exact (LI ht.1 h1).2
  ·exact Yj ht.2 h2 v hv
 | [],_::_,_,ht,_,_,_=>by simp [br] at ht
 | _::_,[],_,ht,_,_,_=>by simp [br] at ht
def agY(off:Nat): ∀(l:List Value) (k:Nat) (cs:Array Value),(l.zipIdx k).foldl (fun cs (x:Value×Nat)=>cs.setIfInBounds (off+x.2) x.1) cs=iQ cs (off+k) l
 | [],_,_=>rfl
 | x::r,k,cs=>by simp only [List.zipIdx_cons,List.foldl_cons,iQ];rw [agY off r (k+1)];rfl
def axL(off:Nat)(v cs:Array Value):v.zipIdx.foldl (fun cs (x:Value×Nat)=>cs.setIfInBounds (off+x.2) x.1) cs=iQ cs off v.toList:=by rw [<-Array.foldl_toList,Array.toList_zipIdx,agY];rfl
def Y3{place:Nat->Option (Nat×Nat)}{cs:Array Value}{i:Nat}{v:Value}{r:List (Nat×Value)}{off sz:Nat}(hp:place i=some (off,sz))(hsz:v.cells.size=sz)(hle:off+sz<=cs.size) :
  Instr.fill place cs ((i,v)::r)=Instr.fill place (iQ cs off v.cells.toList) r:=by
 have h1:=axL off v.cells cs;simp only [Instr.fill,hp];rw [ak (by simp [hsz];omega), <-h1]
def PD{b:Nat}: ∀{rows:List (List D)} {vs:List Value} {o:Nat},Rs w M rows.flatten vs-> ∀{w':World} {M':Addr->Prop},bY w M w' M'->(∀i u,vs[i]? =some u->w'.cell? ⟨b,o+i,none⟩=some u/\ ¬M' ⟨b,o+i,none⟩)->iU w' M' rows b o
 | [],_,_,_,_,_,_,_=>trivial
 | r::l,vs,o,h,w',M',hk,hc=>by
  simp only [Xp] at h;have h1:=h.take r.length;have h2:=h.drop r.length;rw [Xw] at h1;rw [Xn] at h2
  ·refine ⟨G6 fun i d hd=> ?_,PD h2 hk fun i u hu=> ?_⟩
   ·obtain ⟨v,hv,hr⟩:=h1.get hd;simp only [pV] at hv;split at hv
    ·exact ⟨v,(hc i v hv).1,(hc i v hv).2,hr.keep hk⟩
    ·simp at hv
   ·rw [xm] at hu;have:=hc _ _ hu
    rwa [show o+(r.length+i)=o+r.length+i by omega] at this
  ·rfl
  ·rfl
end
section
variable {P:Program}{c:SC}{F:Nat->Prop}{σ:Nat->ST}{bm:Nat->Nat}{tm:Nat->Value}{a:Act}{w:World}{tb:TB}{Γ:List VT}{gs:Gd}
def aS.WW(hs:aS c F σ bm tm a w): ∀p,MM c.M0 bm tm σ p->p.block<w.heap.size:=by
 rintro p (h|⟨id,cs,h1,h2⟩|⟨g,n,h1,h2⟩)
 ·exact dm (hs.m0.1 p h) hs.hB
 ·rw [h2];exact (hs.box id cs h1).lt
 ·exact (hs.live g n h1).lt (akj h2)
def aS.gi(hs:aS c F σ bm tm a w):mT w:=hs.m0.2.1.keep fun k hk=>hs.fr.block k (dm hk hs.m0.2.2.1) fun e=>by have:=hs.m0.2.2.2 k e.symm;omega
def aS.cE(hs:aS c F σ bm tm a w):fN w (MM c.M0 bm tm σ):=⟨hs.WW,hs.gi,dq hs.m0.2.2.1 hs.hB⟩
def aaP{α:Type}: ∀(r l:List α) (i:Nat) {x:α},x∈mi l i r->x∈l\/x∈r
 | [],l,i,x,h=> .inl h
 | y::r,l,i,x,h=>by
  rcases aaP r _ _ h with h|h
  ·rcases sU h with h|h
   ·exact .inl h
   ·exact .inr (by simp [h])
  ·exact .inr (by simp [h])
def abm{M:Addr->Prop}{l:List D}{k:K}{e:E}{vs:List Value}(h:e.den c.env= .agg l)(hr:Rs w M l vs)(hk:cz w M tm c.env k e (.agg vs.toArray)):cQ w M tm c.env (apart k l.length e) vs:=by
 have key: ∀(n:Nat) (l':List D) (vs':List Value),Rs w M l' vs'->(∀i d,l'[i]? =some d->l[n+i]? =some d)->(∀(i:Nat) (u:Value),vs'[i]? =some u->vs[n+i]? =some u)->cQ w M tm c.env ((List.range' n l'.length).map fun j=>(k.nth j,E.cell e j)) vs':=by
  intro n l';induction l' generalizing n with
  | nil=>intro vs' h _ _;subst h;simp [cQ]
  | cons d r ih =>
   intro vs' hr' hl hv;obtain ⟨v,q,rfl,h1,h2⟩:=hr';simp only [fw,KE,kU];refine ⟨v,q,rfl,?_,ih (n+1) q h2 (fun i d' hd=> ?_) fun i u hu=> ?_⟩
   ·have hd:=hl 0 d rfl;have hu:=hv 0 v rfl;rw [EA] at hd hu;refine akW ?_ (hk.nth (by simpa [mK,jy] using hu));simp only [E.den,h,pQ,List.getD];rw [hd];exact h1
   ·have:=hl (i+1) d' (by simpa using hd)
    rwa [show n+(i+1)=n+1+i by omega] at this
   ·have:=hv (i+1) u (by simpa using hu)
    rwa [show n+(i+1)=n+1+i by omega] at this
 have:=key 0 l vs hr (by simp) (by simp);simpa [apart,PX] using this
def XS{k:K}{n:Nat}{e:E}{x:Nat}(h: ∃z∈apart k n e,z.1.has x):k.has x:=by obtain ⟨z,hz,hx⟩:=h;obtain ⟨j,_,rfl⟩:=gD.1 hz;exact WT hx
def aa7(hs:aS c F σ bm tm a w){fs:List (Nat×Nat)}: ∀(parts:List (Nat×Operand)) (es es':List (K×E)),tk tb Γ gs σ fs parts es=some es'->(∀g,(∃z∈es,z.1.has g)->F g)-> ∀g,(∃z∈es',z.1.has g)->F g
 | [],es,es',h,h0,g,hg=>by simp only [tk,bg] at h;subst h;exact h0 g hg
 | (f,x)::r,es,es',h,h0,g,hg=>by
  simp only [tk] at h;split at h
  ·split at h
   ·rename_i fi kx e hfi hx;have hm:=(dU hs hx).2;split at h
    ·split at h
     ·refine aa7 hs r _ es' h (fun g ⟨z,hz,M7⟩=> ?_) g hg;rcases sU hz with hz|rfl
      ·exact h0 g ⟨z,hz,M7⟩
      ·exact hm g M7
     ·simp at h
    ·split at h
     ·refine aa7 hs r _ es' h (fun g ⟨z,hz,M7⟩=> ?_) g hg;rcases aaP _ _ _ hz with hz|hz
      ·exact h0 g ⟨z,hz,M7⟩
      ·exact hm g (XS ⟨z,hz,M7⟩)
     ·simp at h
    ·simp at h
   ·simp at h
  ·simp at h
def run_places(aJ:dz P tb tb=true): ∀(fs:List (Nat×Nat)) (fl:List Field),tq tb fs fl=true-> ∃pl:List (Nat×Nat),(fl.mapM (m:=Sem) fun f=>do pure (f.offset, <-sizeOf f.type)).run P w= .ok pl w /\
  ∀(f fo ft:Nat) (fi:TI) (v1:V1),fs[f]? =some (fo,ft)->tb.get ft=some fi->fi.vt= .one v1->pl[f]? =some (fo,v1.cells.length)
 | [],[],_=>⟨[],by simp,fun f fo ft fi v1 h=>by simp at h⟩
 | [],_::_,h=>by simp [tq] at h
 | _::_,[],h=>by simp [tq] at h
 | (fo,ft)::r,x::fl,h=>by
  simp only [tq,aP,um] at h;obtain ⟨⟨⟨h1,h2⟩,h3⟩,h4⟩:=h;obtain ⟨pl,hpl,hget⟩:=run_places aJ r fl h4;split at h3
  ·rename_i ti aO;split at h3
   ·rename_i v1 hv1;obtain ⟨j,hj,hjs,_⟩:=ye aJ aO hv1;refine ⟨(fo,v1.cells.length)::pl,?_,fun f fo' ft' fi' v' hf hfi hv'=> ?_⟩
    ·rw [Xt];simp only [lK,EB, <-h2,run_sizeOf hj,hjs,uk,hpl, <-h1]
    ·cases f with
     | zero => simp at hf;obtain ⟨rfl,rfl⟩:=hf;rw [aO] at hfi;simp at hfi;subst hfi;rw [hv1] at hv';simp at hv';subst hv';rfl
     | succ f=>simp at hf;simpa using hget f fo' ft' fi' v' hf hfi hv'
   ·simp at h3
  ·simp at h3
def Y4(hs:aS c F σ bm tm a w)(aB:cq tb.tab Γ c.env)(hg:cK c.env gs){fs:List (Nat×Nat)}{pl:List (Nat×Nat)}(aJ:dz P tb tb=true)
  (hpl: ∀(f fo ft:Nat) (fi:TI) (v1:V1),fs[f]? =some (fo,ft)->tb.get ft=some fi->fi.vt= .one v1->pl[f]? =some (fo,v1.cells.length)) :
  ∀(parts:List (Nat×Operand)) (es es':List (K×E)) (cs:Array Value),tk tb Γ gs σ fs parts es=some es'->cQ w (MM c.M0 bm tm σ) tm c.env es cs.toList ->
   ∃cs',Instr.fill (fun i=>pl.toArray[i]?) cs (parts.map fun p=>(p.1,a.eval p.2))=some cs'/\cQ w (MM c.M0 bm tm σ) tm c.env es' cs'.toList
 | [],es,es',cs,h,hr=>by simp only [tk,bg] at h;subst h;exact ⟨cs,rfl,hr⟩
 | (f,x)::r,es,es',cs,h,hr=>by
  simp only [tk] at h;split at h
  ·rename_i fo ft hf;split at h
   ·rename_i fi kx e hfi hx;have fT:=(dU hs hx).1 hg;split at h
    ·rename_i t t' hv he;split at h
     ·rename_i hlt;have hp:=hpl f fo ft fi _ hf hfi hv;have hty:=eG aB e _ he;obtain ⟨hc1,hc2⟩:=LI hty fT.rd;have hlen:=hr.length;simp only [xj] at hlen;obtain ⟨cs',h1,h2⟩:=Y4 hs aB hg aJ hpl r _ es' (iQ cs fo [a.eval x]) h (by rw [Gl];exact hr.set fo (c:=(kx,e)) fT)
      refine ⟨cs',?_,h2⟩;simp only [kU];rw [Y3 (off:=fo) (sz:=1) (by simpa [V1.cells] using hp) (by rw [hc1];rfl) (by omega),hc1];exact h1
     ·simp at h
    ·rename_i us ts hv he;split at h
     ·rename_i hcnd;have hp:=hpl f fo ft fi _ hf hfi hv;obtain ⟨l,hl,hlt⟩:=lO (eG aB e _ he);have mc:=fT.rd;rw [hl] at mc;obtain ⟨vs,hvs,hrs⟩:=mc;have hlen:=hr.length;have FA:=hrs.length;have ZY:=hlt.length;simp only [xj] at hlen FA;obtain ⟨cs',h1,h2⟩:=Y4 hs aB hg aJ hpl r _ es' (iQ cs fo vs.toList) h (by rw [Gl, <-ZY];exact cQ.mi (abm hl hrs (by rw [hvs] at fT;simpa using fT)) fo hr)
      refine ⟨cs',?_,h2⟩;simp only [kU];have hcl:(a.eval x).cells=vs:=by rw [hvs];rfl
      rw [Y3 (off:=fo) (sz:=us.length) (by simpa [V1.cells] using hp) (by rw [hcl,FA,ZY];exact hcnd.1.symm) (by omega),hcl];exact h1
     ·simp at h
    ·simp at h
   ·simp at h
  ·simp at h
def asC{M:Addr->Prop}{t:CT}{v:Value}(h:zeroV t v=true):R w M (fW t) v/\cz w M tm c.env (BP t).1 (BP t).2 v:=by
 cases t with
 | mem=>simp [zeroV] at h
 | fn=>simp [zeroV] at h
 | bool=>cases v<;>simp [zeroV] at h;subst h;exact ⟨rfl,rfl⟩
 | int k =>
  cases v<;>simp [zeroV] at h;obtain ⟨rfl,rfl⟩:=h;have:k.min<=0/\0<=k.max:=by cases k<;>simp [IntKind.min,IntKind.max,IntKind.signed,IntKind.bits]
  exact ⟨⟨rfl,this⟩,⟨rfl,this⟩⟩
 | str=>cases v<;>simp [zeroV] at h;subst h;exact ⟨⟨rfl,by decide⟩,⟨rfl,by decide⟩⟩
 | sl e =>
  rcases v with _|_|_|_|_|_|⟨ad,len,cap⟩|_|_|_|_|_|_|_|_<;>try (simp [zeroV] at h;done)
  rcases ad with _|ad<;>rcases len with _|len<;>rcases cap with _|cap<;>simp [zeroV] at h;have hr:R w M (.sl []) (.slice none 0 0):=⟨none,0,0,rfl,rfl,bU _,by decide,fun _=>rfl,fun b o s h=>by cases h⟩;exact ⟨hr,hr,none,rfl⟩
def WH{M:Addr->Prop}: ∀{ts:List CT} {vs:List Value},GU ts vs=true->Rs w M (ts.map fW) vs/\cQ w M tm c.env (ts.map BP) vs
 | [],[],_=>⟨rfl,rfl⟩
 | t::ts,v::vs,h=>by simp only [GU,aP] at h;have h1:=asC (w:=w) (M:=M) (tm:=tm) (c:=c) h.1;have h2:=WH (M:=M) h.2;exact ⟨⟨v,vs,rfl,h1.1,h2.1⟩,⟨v,vs,rfl,h1.2,h2.2⟩⟩
 | [],_::_,h=>by simp [GU] at h
 | _::_,[],h=>by simp [GU] at h
def aEa(aJ:dz P tb tb=true)(hs:aS c F σ bm tm a w)(aB:cq tb.tab Γ c.env){n:Nat}{o:Oper}{T:Nat}{parts:Array (Nat×Operand)}(ho:o.op= .build T parts){ti:TI}(aO:tb.get T=some ti){aZ:bf}
  (h:Rm tb Γ gs o.dst σ ti parts.toList=some aZ):lI P c F gs σ bm tm a w n o aZ:=by
 unfold Rm at h;split at h
 ·rename_i ts hv;simp only [lJ] at h;obtain ⟨es,hes,rfl⟩:=h;refine ⟨_,rfl,rfl,fun g hg=> ?_,fun hg _=> ?_⟩
  ·obtain ⟨q,hq,hx⟩:=WU (show (zm _).has g from hg);obtain ⟨z,hz,rfl⟩:=gD.1 hq;exact aa7 hs parts.toList _ es hes (fun g ⟨x,hx,hg⟩=>by obtain ⟨t,_,rfl⟩:=gD.1 hx;cases t<;>simp [BP,K.has] at hg) g ⟨z,hz,hx⟩
  obtain ⟨i,fields,z,hi,hsz,_,hz,hzo,hu,hfo⟩:=tP aJ aO hv;obtain ⟨pl,hpl,hget⟩:=run_places (w:=w) aJ ti.fs fields.toList hfo;obtain ⟨cs',h1,h2⟩:=Y4 hs aB hg aJ hget parts.toList _ es z hes (WH (w:=w) (M:=MM c.M0 bm tm σ) (tm:=tm) (c:=c) hzo).2;refine ⟨.agg cs',w,?_,dP _ _,fU hg ?_⟩
  ·have hm:(fields.mapM (m:=Sem) fun f=>do pure (f.offset, <-sizeOf f.type)).run P w= .ok pl.toArray w:=by rw [Xi,Sem.run_map,hpl];rfl
   simp only [execOp,ho,Instr.build,lK,zeroValue,run_typeInfo hi,hz,uk,EB,run_underlying hu,hm,Value.cells];simp only [List.getElem?_toArray] at h1;simp [h1]
  ·have e:cs'=cs'.toList.toArray:=by simp
   rw [e];refine TY ?_ fun j k u hk hu=> ?_
   ·rw [Yw aB];exact h2.rs.NP
   ·simp only [iI,lJ] at hk;obtain ⟨z,hz,rfl⟩:=hk;obtain ⟨u',hu',hr'⟩:=h2.get hz;rw [hu] at hu';cases hu';exact hr'.kk
 ·simp at h
def agK(hs:aS c F σ bm tm a w)(aB:cq tb.tab Γ c.env)(hg:cK c.env gs){el sz:Nat}(hsz:(tb.tab el).length=sz) :
  ∀(parts:List (Nat×Operand)) (k:Nat) (acc e':E) (rows:List (List D)) (cs:Array Value),qK tb Γ gs σ el k parts acc=some e'->acc.den c.env= .sl rows->rows.length=k->(∀r∈rows,r.length=sz)->(k+parts.length)*sz<=cs.size ->
   Rs w (MM c.M0 bm tm σ) rows.flatten (cs.toList.take (k*sz)) ->
   ∃cs' rows',Instr.fill (fun i=>some (i*sz,sz)) cs (parts.map fun p=>(p.1,a.eval p.2))=some cs'/\e'.den c.env= .sl rows'/\rows'.length=k+parts.length/\(∀r∈rows',r.length=sz)/\cs'.size=cs.size /\
    Rs w (MM c.M0 bm tm σ) rows'.flatten (cs'.toList.take ((k+parts.length)*sz))
 | [],k,acc,e',rows,cs,h,hacc,hk,hl,hle,hr=>by simp only [qK,bg] at h;subst h;exact ⟨cs,rows,rfl,hacc,by simpa using hk,hl,rfl,by simpa using hr⟩
 | (i,x)::r,k,acc,e',rows,cs,h,hacc,hk,hl,hle,hr=>by
  simp only [qK] at h;split at h
  ·rename_i hik;subst hik;split at h
   ·rename_i kx e hx;have fT:=(dU hs hx).1 hg;have hle2:i*sz+sz<=cs.size:=by have:(i+1)*sz<=(i+(((i,x)::r).length))*sz:=pX _ (by simp);rw [jO,sW] at this;omega
    have hgo: ∀(row:List D) (vals:List Value) (nx:E),nx.den c.env= .sl (rows++[row])->row.length=sz->vals.length=sz->Rs w (MM c.M0 bm tm σ) row vals->(a.eval x).cells.toList=vals->qK tb Γ gs σ el (i+1) r nx=some e' ->
      ∃cs' rows',Instr.fill (fun i=>some (i*sz,sz)) cs (((i,x)::r).map fun p=>(p.1,a.eval p.2))=some cs'/\e'.den c.env= .sl rows'/\rows'.length=i+((i,x)::r).length/\(∀r∈rows',r.length=sz)/\cs'.size=cs.size /\
       Rs w (MM c.M0 bm tm σ) rows'.flatten (cs'.toList.take ((i+((i,x)::r).length)*sz)):=by
     intro row vals nx tE hrow aiF hrs hcl hnext;have htk:(iQ cs (i*sz) vals).toList.take ((i+1)*sz)=cs.toList.take (i*sz)++vals:=by
      rw [Gl,jO,sW];have:=alU vals cs.toList (i*sz) (by simp;omega)
      rwa [aiF] at this
     obtain ⟨cs',rows',h1,h2,h3,h4,h5,h6⟩:=agK hs aB hg hsz r (i+1) nx e' (rows++[row]) (iQ cs (i*sz) vals) hnext tE (by simp [hk]) (fun q hq=>(jx.1 hq).elim (hl q) fun h=>by simp at h;subst h;exact hrow)
      (by rw [Jz];simp only [fw] at hle;rwa [show i+1+r.length=i+(r.length+1) by omega])
      (by rw [htk,List.flatten_append];simpa using hr.append hrs)
     refine ⟨cs',rows',?_,h2,by simp only [fw];omega,h4,by rw [h5,Jz],by
      simp only [fw];rwa [show i+(r.length+1)=i+1+r.length by omega]⟩
     simp only [kU];have hcs:(a.eval x).cells.size=sz:=by rw [<-xj,hcl,aiF]
     rw [Y3 (off:=i*sz) (sz:=sz) rfl hcs hle2,hcl];exact h1
    split at h
    ·rename_i t he;split at h
     ·rename_i htab;have hs1:sz=1:=by rw [<-hsz,htab];rfl
      have hty:=eG aB e _ he;obtain ⟨hc1,hc2⟩:=LI hty fT.rd;exact hgo [e.den c.env] [a.eval x] _ (by simp [E.den,hacc]) (by simp [hs1]) (by simp [hs1]) (Rs.one fT.rd) (by rw [hc1]) h
     ·simp at h
    ·rename_i ts he;split at h
     ·rename_i htab;obtain ⟨l,hll,hlt⟩:=lO (eG aB e _ he);have mc:=fT.rd;rw [hll] at mc;obtain ⟨vs,hvs,hrs⟩:=mc;have hlen:=hrs.length;have FA:=hlt.length;rw [<-htab,hsz] at FA;exact hgo l vs.toList _ (by simp [E.den,hacc,hll]) FA (by rw [hlen,FA]) hrs (by rw [hvs];rfl) h
     ·simp at h
    ·simp at h
   ·simp at h
  ·simp at h
def ala(aJ:dz P tb tb=true)(hs:aS c F σ bm tm a w)(aB:cq tb.tab Γ c.env){o:Oper}{T len el:Nat}{parts:Array (Nat×Operand)}(ho:o.op= .buildSlice T len parts){ti:TI}(aO:tb.get T=some ti)(hv:ti.vt= .one (.c (.sl el))){e:E}
  (hlen:parts.toList.length=len) (hok:Rv tb el len=true) (he:qK tb Γ gs σ el 0 parts.toList (.iB el)=some e) (hg:cK c.env gs) :
  ∃w' cells,(execOp a.eval o).run P w= .ok (.value (.slice (some ⟨w.heap.size,0,none⟩) len len)) w'/\Below w.heap.size w w'/\w'.heap[w.heap.size]? =some (.cells cells el (0,0))/\len*(tb.tab el).length<=cells.size /\
   ∀M':Addr->Prop,(∀p,M' p->MM c.M0 bm tm σ p)->R w' M' (e.den c.env) (.slice (some ⟨w.heap.size,0,none⟩) len len):=by
 unfold Rv at hok;split at hok
 ·rename_i ei jG;split at hok
  ·rename_i v1 hv1;simp only [aP,cC] at hok;obtain ⟨j,hj,hjs,_⟩:=ye aJ jG hv1;have hcl:ei.cells=v1.cells:=by simp [TI.cells,hv1]
   rw [hcl] at hok;have htab:tb.tab el=v1.cells:=by simp [TB.tab,jG,TI.cells,hv1]
   obtain ⟨_,d1,_,_,_,_,hd1,eO⟩:=jl aJ aO hv;simp only [ju] at eO;subst eO;obtain ⟨z0,hz0⟩: ∃z,j.zero=some z:=by
    cases v1 with
    | c t=>obtain ⟨i',d',hi',_,_,⟨z,hz,_⟩,_⟩:=jl aJ jG hv1;rw [hj] at hi';simp at hi';subst hi';exact ⟨z,hz⟩
    | agg ts=>obtain ⟨i',f',cs',hi',_,_,hz,_⟩:=tP aJ jG hv1;rw [hj] at hi';simp at hi';subst hi';exact ⟨_,hz⟩
   have hlen':len*v1.cells.length<=65536:=hok.1;have hll:len<=65536:=dq (Nat.le_mul_of_pos_right _ hok.2) hlen';have hfin: ∀(z:Array Value),z.size=len*v1.cells.length-> ∃cs' rows',Instr.fill (fun i=>some (i*v1.cells.length,v1.cells.length)) z (parts.toList.map fun p=>(p.1,a.eval p.2))=some cs'/\e.den c.env= .sl rows'/\rows'.length=len/\(∀r∈rows',r.length=v1.cells.length)/\Rs w (MM c.M0 bm tm σ) rows'.flatten cs'.toList/\cs'.size=len*v1.cells.length:=by intro z hz;obtain ⟨cs',rows',h1,h2,h3,h4,h5,h6⟩:=agK hs aB hg (by rw [htab]) parts.toList 0 (.iB el) e [] z he rfl rfl (by simp) (by rw [qE,hlen,hz];exact bU _) (by simp [Rs]);refine ⟨cs',rows',h1,h2,by rw [h3,hlen];omega,h4,?_,by rw [h5,hz]⟩;rw [qE,hlen, <-hz, <-h5, <-xj,vO] at h6;exact h6
   have hrun: ∃cs' rows',(Instr.buildSlice T len (parts.map fun x=>(x.1,a.eval x.2))).run P w= .ok (.slice (some ⟨w.heap.size,0,none⟩) len len) (w.alloc (.cells cs' el))/\e.den c.env= .sl rows'/\rows'.length=len/\(∀r∈rows',r.length=v1.cells.length)/\Rs w (MM c.M0 bm tm σ) rows'.flatten cs'.toList/\cs'.size=len*v1.cells.length:=by
    by_cases h0:len*v1.cells.length=0
    ·obtain ⟨cs',rows',h1,h2,h3,h4,h5,h6⟩:=hfin #[] (by simp [h0]);refine ⟨cs',rows',?_,h2,h3,h4,h5,h6⟩;have hr0:Array.range 0= #[]:=rfl;simp only [Instr.buildSlice,lK,run_underlying hd1,run_sizeOf hj,hjs,uk,h0,hr0];simp [h1,newRow]
    ·obtain ⟨cs',rows',h1,h2,h3,h4,h5,h6⟩:=hfin ((Array.range (len*v1.cells.length)).map fun x=>z0.cells[x%z0.cells.size]!) (by simp);refine ⟨cs',rows',?_,h2,h3,h4,h5,h6⟩;have ayn: ¬(len*v1.cells.length>2^24):=by omega
     simp only [Instr.buildSlice,lK,run_underlying hd1,run_sizeOf hj,hjs,uk,ak ayn,ak h0,zeroValue,run_typeInfo hj,hz0,EB,Sem.run_ite];simp [h1,newRow]
   obtain ⟨cs',rows',h1,h2,h3,h4,h5,h6⟩:=hrun;have hb:Below w.heap.size w (w.alloc (.cells cs' el)):=(dP _ _).alloc (bU _) _;refine ⟨_,cs',by simp only [execOp,ho];rw [lK,h1];rfl,hb,xn w _,by rw [h6,htab];exact bU _,fun M' xA=> ?_⟩;rw [h2];refine ⟨_,_,_,rfl,h3.symm,bU _,by unfold maxLen;omega,(fun h=>by cases h),fun b o' s CI=> ?_⟩;simp only [bg,mC] at CI;obtain ⟨rfl,rfl,rfl⟩:=CI;refine ⟨fun _=>rfl,PD h5 (bY.below hb fun p _ h=>xA p h) fun i u hu=>⟨?_,fun hm=> ?_⟩⟩
   ·rw [World.cell?_alloc_new];simpa using hu
   ·have:=hs.WW _ (xA _ hm);simp at this
  ·simp at hok
 ·simp at hok
def aEc(aJ:dz P tb tb=true)(hs:aS c F σ bm tm a w)(aB:cq tb.tab Γ c.env){n:Nat}{o:Oper}{T len:Nat}{parts:Array (Nat×Operand)}(ho:o.op= .buildSlice T len parts){ti:TI}(aO:tb.get T=some ti){aZ:bf}
  (h:Ro tb Γ gs o.dst σ ti len parts.toList=some aZ):lI P c F gs σ bm tm a w n o aZ:=by
 unfold Ro at h;split at h
 ·rename_i el hv;split at h
  ·rename_i hcnd;obtain ⟨hlen,hok⟩:=hcnd;simp only [lJ] at h;obtain ⟨e,he,rfl⟩:=h;refine ⟨_,rfl,rfl,fun g hg=> ?_,fun hg _=> ?_⟩
   ·cases hz:Nat.beq len 0<;>rw [hz] at hg<;>simp [cP,K.has] at hg
   ·obtain ⟨w',cells,h1,h2,_,_,h4⟩:=ala aJ hs aB ho aO hv hlen hok he hg;refine ⟨_,w',h1,h2,fU hg ?_⟩;have hR:=h4 _ fun _ h=>h;cases hz:Nat.beq len 0 with
    | true => have h0:len=0:=iW hz;subst h0;exact ⟨hR,_,rfl⟩
    | false=>exact hR
  ·simp at h
 ·simp at h
end
section
variable {P:Program}{c:SC}{F:Nat->Prop}{σ:Nat->ST}{bm:Nat->Nat}{tm:Nat->Value}{a:Act}{w:World}{tb:TB}{Γ:List VT}{gs:Gd}
def lW(g:Nat):Nat->Prop:=fun x=>g<=x/\x<g+rm
def WZ(g:Nat):lW g g:=⟨bU _,by unfold rm;omega⟩
def Kq{g:Nat}(h:aS c (fun x=>F x\/x=g) σ bm tm a w):aS c (fun x=>F x\/lW g x) σ bm tm a w :=
 h.mono fun x hx=>hx.imp id (fun e=>by subst e;exact WZ x)
def sR(P:Program)(c:SC)(F:Nat->Prop)(σ:Nat->ST)(bm:Nat->Nat)(tm:Nat->Value)(a:Act)(w:World)(g:Nat)(gs:Gd)(n:Nat)(o:Oper)(aZ:bf):Prop :=
 (cK c.env gs->(∀r∈aZ.rq,kS P c.env n r)-> ∀(K:Act->World->Prop) (Q:Exit->Act->World->Prop),
  (∀dD tm' a' w',aS c (fun x=>F x\/lW g x) (dS σ aZ.wr) dD tm' a' w'->K a' w')->o.wp P a w K Q) /\
 (¬cK c.env gs->aS c (fun x=>F x\/lW g x) (dS σ aZ.wr) bm tm (a.put o.dst undef) w)
def oO(hs:aS c F σ bm tm a w){g n:Nat}{o:Oper}{aZ:bf}(hd: ∀d,o.dst=some d->d<c.nt)(h:lI P c F gs σ bm tm a w n o aZ):sR P c F σ bm tm a w g gs n o aZ:=by
 obtain ⟨st,hwr,hst,hm,hrun⟩:=h;refine ⟨fun hg hr K Q hK=> ?_,fun hg=> ?_⟩
 ·obtain ⟨v,w',h1,h2,h3⟩:=hrun hg hr;unfold Oper.wp;rw [h1];refine hK bm tm _ _ ?_;rw [hwr];exact ((hs.grow h2).qW hd h3 hm).mono fun x hx=> .inl hx
 ·rw [hwr];exact (hs.qW hd (TZ hst hg) hm).mono fun x hx=> .inl hx
def amE{l l':Nat}(h:l≠l')(s s':ST):bF (bF σ l s) l' s'=bF (bF σ l' s') l s:=by funext x;simp only [bF];by_cases h1:x=l<;>by_cases h2:x=l'<;>simp_all
def NV{dst:Option Nat}{st s:ST}{g:Nat}:dS σ (wv dst st++[(3*g+1,s)])=dS (bF σ (3*g+1) s) (wv dst st):=by
 cases dst with
 | none=>rfl
 | some d=>exact amE (by omega) _ _
def abn{M:Addr->Prop}{k:K}{e:E}{v:Value}(h:cz w M tm c.env k e v):cQ w M tm c.env [(k,e)] [v]:=⟨v,[],rfl,h,rfl⟩
def QX(hs:aS c F σ bm tm a w){g:Nat}(hg: ¬F g){dst:Option Nat}(hd: ∀d,dst=some d->d<c.nt){cs:List (K×E)}{vs:List Value}{T:TypeId}(hv:cQ w (MM c.M0 bm tm σ) tm c.env cs vs)(hm: ∀x,(∃y∈cs,y.1.has x)->F x) :
  aS c (fun x=>F x\/lW g x) (dS σ (wv dst (.ptr [] g 0)++[(3*g+1,.box cs)])) (bF bm g w.heap.size) tm (a.put dst (.pointer (some ⟨w.heap.size,0,none⟩))) (w.alloc (.cells vs.toArray T)):=by
 rw [NV];refine Kq ((hs.aCm hg hv hm).qW hd ⟨fun _=>by rw [eF],fun h=>absurd (dZ _) h⟩ fun x hx=> ?_);simp only [cP] at hx;exact .inr hx
def aD9(aJ:dz P tb tb=true)(hs:aS c F σ bm tm a w)(aB:cq tb.tab Γ c.env){g n:Nat}(hg: ¬F g){o:Oper}{x:Operand}{T:Nat}(ho:o.op= .box T x)(hd: ∀d,o.dst=some d->d<c.nt){aZ:bf}
  (h:YF tb.tab Γ gs o.dst g (aY tb σ T x)=some aZ):sR P c F σ bm tm a w g gs n o aZ:=by
 unfold YF at h;split at h
 ·rename_i k e hx;have fT:=(dU hs hx).1 (dZ _);have MJ:=(dU hs hx).2;refine ⟨fun _ _ K Q hK=> ?_,fun hn=>absurd (dZ _) hn⟩;split at h
  ·rename_i t he;simp only [bg] at h;subst h;have hc:=(LI (eG aB e _ he) fT.rd).1;have hrun:(execOp a.eval o).run P w= .ok (.value (.pointer (some ⟨w.heap.size,0,none⟩))) (w.alloc (.cells [a.eval x].toArray T)):=by simp [execOp,ho,Instr.box,newVar,newRow,hc]
   unfold Oper.wp;rw [hrun];exact hK _ _ _ _ (QX hs hg hd (abn fT) fun y ⟨z,hz,hy⟩=>by simp at hz;subst hz;exact MJ y hy)
  ·rename_i ts he;simp only [bg] at h;subst h;obtain ⟨l,hl,hlt⟩:=lO (eG aB e _ he);have mc:=fT.rd;rw [hl] at mc;obtain ⟨vs,hvs,hrs⟩:=mc;have hrun:(execOp a.eval o).run P w= .ok (.value (.pointer (some ⟨w.heap.size,0,none⟩))) (w.alloc (.cells vs.toList.toArray T)):=by simp [execOp,ho,Instr.box,newVar,newRow,hvs,Value.cells]
   unfold Oper.wp;rw [hrun];refine hK _ _ _ _ (QX hs hg hd (by rw [<-hlt.length];exact abm hl hrs (by rw [hvs] at fT;simpa using fT)) fun y hy=>MJ y (XS hy))
  ·simp at h
 ·simp at h
def aD4(aJ:dz P tb tb=true)(hs:aS c F σ bm tm a w){g n:Nat}(hg: ¬F g){o:Oper}{T:Nat}(ho:o.op= .alloc T)(hd: ∀d,o.dst=some d->d<c.nt){ti:TI}(aO:tb.get T=some ti){aZ:bf}
  (h:YC gs o.dst g ti=some aZ):sR P c F σ bm tm a w g gs n o aZ:=by
 unfold YC at h;split at h
 ·rename_i v hv;simp only [bg] at h;subst h;refine ⟨fun _ _ K Q hK=> ?_,fun hn=>absurd (dZ _) hn⟩;have hno: ∀x,(∃y∈v.cells.map BP,y.1.has x)->F x:=fun y ⟨z,hz,hy⟩=>by simp only [gD] at hz;obtain ⟨t,_,rfl⟩:=hz;cases t<;>simp [BP,Go.Proofs.YtekplmpbkgchfaaGreatDoor.K.has] at hy
  cases v with
  | c t =>
   obtain ⟨i,d,hi,_,_,⟨z,hz,hzv⟩,_⟩:=jl aJ aO hv;have hzr:=(asC (w:=w) (M:=MM c.M0 bm tm σ) (tm:=tm) (c:=c) hzv).2;have MZ:z.cells= #[z]:=by cases t<;>cases z<;>simp [zeroV] at hzv<;>rfl
   have hrun:(execOp a.eval o).run P w= .ok (.value (.pointer (some ⟨w.heap.size,0,none⟩))) (w.alloc (.cells [z].toArray T)):=by simp [execOp,ho,Instr.alloc,zeroValue,run_typeInfo hi,hz,newVar,newRow,MZ]
   unfold Oper.wp;rw [hrun];exact hK _ _ _ _ (QX hs hg hd (cs:=[BP t]) (abn hzr) hno)
  | agg ts =>
   obtain ⟨i,f,cs,hi,_,_,hz,hzv,_⟩:=tP aJ aO hv;have hzr:=(WH (w:=w) (M:=MM c.M0 bm tm σ) (tm:=tm) (c:=c) hzv).2;have hrun:(execOp a.eval o).run P w= .ok (.value (.pointer (some ⟨w.heap.size,0,none⟩))) (w.alloc (.cells cs.toList.toArray T)):=by simp [execOp,ho,Instr.alloc,zeroValue,run_typeInfo hi,hz,newVar,newRow,Value.cells]
   unfold Oper.wp;rw [hrun];exact hK _ _ _ _ (QX hs hg hd hzr hno)
 ·simp at h
def aEy(aJ:dz P tb tb=true)(hs:aS c F σ bm tm a w)(aB:cq tb.tab Γ c.env){g n:Nat}{o:Oper}{y x:Operand}{T T1 T2:Nat}(ho:o.op= .store T y x){ti:TI}(aO:tb.get T=some ti){aZ:bf}
  (h:Cu tb.tab Γ gs o.dst σ ti (aY tb σ T1 y) (aY tb σ T2 x)=some aZ):sR P c F σ bm tm a w g gs n o aZ:=by
 unfold Cu at h;split at h
 ·rename_i dst g' id off k e rM hy hx;obtain ⟨st,h2,h3⟩:=xw hy;have hp:=JF h3 (uQ hs h2).1 (dZ _);have fT:=(dU hs hx).1 (dZ _);have MJ:=(dU hs hx).2;refine ⟨fun _ _ K Q hK=> ?_,fun hn=>absurd (dZ _) hn⟩;split at h
  ·rename_i cs gT;obtain ⟨vs,T0,hblk,hrel,om⟩:=hs.box id cs gT;have hgo: ∀(news:List (Go.Proofs.YtekplmpbkgchfaaGreatDoor.K×E)) (vals:List Value) (i:TypeInfo),P.info? T=some i->(a.eval x).cells.toList=vals->vals.length=i.size->(∀v∈vals,v.oneCell'=true)->off+vals.length<=cs.length->cQ w (MM c.M0 bm tm σ) tm c.env news vals->(∀q,(∃z∈news,z.1.has q)->F q) ->
     aZ=⟨[(3*id+1,.box (mi cs off news))],[]⟩->o.wp P a w K Q:=by
    intro news vals i hi hcl MH hone hle hnew hnm ZO;subst ZO;have hlen:=hrel.length;obtain ⟨w',h1,h4,h5⟩:=Jy (P:=P) (bm id) T0 vals w vs.toArray off 0 hblk hone (by simp;omega);have hsz:(a.eval x).cells.size=i.size:=by rw [<-xj,hcl,MH]
    have hrun:(execOp a.eval o).run P w= .ok .skip w':=by simp [execOp,ho,hp,Instr.storeAt,Instr.sureAddr,storeVar,run_sizeOf hi,hsz,hcl,h1]
    unfold Oper.wp;rw [hrun];simp only [Oper.upon,rM,Act.put];refine hK bm tm a w' (aS.mono (F:=F) ?_ fun x hx=> .inl hx);refine hs.Ul gT (WN h5 (om.imp (fun h=>h) (fun h=>h.2))) (fun k _ hk=>h5.block k hk) (fun M' xA hk=> ?_) fun q ⟨z,hz,hq⟩=> ?_
    ·refine ⟨(iQ vs.toArray off vals).toList,T0,by simpa using h4,?_,om⟩;rw [Gl];exact cQ.keep (tm':=tm) hk (fun _ _=>rfl) (cQ.mi hnew off hrel)
    ·rcases aaP _ _ _ hz with hz|hz
     ·exact hs.f1 (3*id+1) q (by rw [gT];exact ⟨z,hz,hq⟩)
     ·exact hnm q ⟨z,hz,hq⟩
   split at h
   ·rename_i t t' hv he;split at h
    ·rename_i hoff;simp only [bg] at h;obtain ⟨i,d,hi,hsz,_⟩:=jl aJ aO hv;obtain ⟨hc1,hc2⟩:=LI (eG aB e _ he) fT.rd;exact hgo [(k,e)] [a.eval x] i hi (by rw [hc1]) (by simp [hsz]) (by simpa using hc2) (by simp only [fw,zW];omega) (abn fT) (fun q ⟨z,hz,hq⟩=>by simp at hz;subst hz;exact MJ q hq) (by rw [<-h];rfl)
    ·simp at h
   ·rename_i ts us hv he;split at h
    ·rename_i hc;simp only [bg] at h;obtain ⟨i,f,z,hi,hsz,_⟩:=tP aJ aO hv;obtain ⟨l,hl,hlt⟩:=lO (eG aB e _ he);have mc:=fT.rd;rw [hl] at mc;obtain ⟨NZ,lD,hrs⟩:=mc;have hl1:=hrs.length;have lC:=hlt.length;refine hgo (apart k ts.length e) NZ.toList i hi (by rw [lD];rfl) (by rw [hl1,lC,hsz];exact hc.1.symm) (Yj hlt hrs) (by rw [hl1,lC, <-hc.1];exact hc.2) ?_ (fun q hq=>MJ q (XS hq)) h.symm;rw [hc.1, <-lC];exact abm hl hrs (by rw [lD] at fT;simpa using fT)
    ·simp at h
   ·simp at h
  ·simp at h
 ·simp at h
def kX(σ:Nat->ST):Option Nat->Nat->ST
 | none=>σ
 | some h=>bF σ (3*h+2) .un
def axg{oh:Option Nat}(t:Nat):kX σ oh (3*t)=σ (3*t):=by cases oh<;>simp only [kX];exact ab1 _ _ _
def Im{oh:Option Nat}(id:Nat):kX σ oh (3*id+1)=σ (3*id+1):=by cases oh<;>simp only [kX];exact Gs _ _ _
def yN{oh:Option Nat}{g:Nat}{n:LV}(h:kX σ oh (3*g+2)= .live n):σ (3*g+2)= .live n/\oh≠some g:=by
 cases oh with
 | none=>exact ⟨h,by simp⟩
 | some k =>
  simp only [kX] at h;by_cases e:g=k
  ·subst e;rw [eF] at h;cases h
  ·rw [zD _ e] at h;exact ⟨h,fun x=>e (by simpa using x.symm)⟩
def axf{oh:Option Nat}{l x:Nat}(h:cP (kX σ oh l) x):cP (σ l) x:=by
 cases oh with
 | none=>exact h
 | some k =>
  simp only [kX] at h;by_cases e:l=3*k+2
  ·subst e;rw [eF] at h;exact h.elim
  ·rwa [iS _ _ e] at h
def aki{tm':Nat->Value}{g:Nat}{n:LV}{p:Addr}(ht:tm' g=tm g)(hv: ∀x,cP (.live n) x->tm' x=tm x)(h:xT tm' g n p):xT tm g n p:=by
 unfold xT at *;rw [ht] at h;rcases h with h|⟨e,gv,ms,cells,u,h1,h2,h3⟩
 ·exact .inl h
 ·exact .inr ⟨e,gv,ms,cells,u,h1,by rw [<-hv gv ⟨e,ms,h1⟩];exact h2,h3⟩
def aEF{α:Type}{l r:List α}{off:Nat}(hr:off+r.length<=l.length): ∀j x,(xX l off r)[j]? =some x->(off<=j/\j<off+r.length/\r[j-off]? =some x)\/((j<off\/off+r.length<=j)/\l[j]? =some x):=by
 intro j x h;rw [Um] at h;split at h
 ·rename_i hc;exact .inl ⟨hc.1,hc.2.1,h⟩
 ·rename_i hc;refine .inr ⟨?_,h⟩;have:=(dQ.1 h).1;omega
def alE(C:Array Value)(o:Nat)(vals:List Value)(x:Nat):(iQ C o vals)[x]? =if o<=x/\x<o+vals.length/\x<C.size then vals[x-o]? else C[x]? :=by
 have: ∀(l:List Value) (cs:List Value) (q:Nat),mi cs q l=xX cs q l:=by
  intro l;induction l with
  | nil=>intro cs q;rfl
  | cons y l ih=>intro cs q;simp [mi,xX,ih]
 rw [<-yD,Gl,this,Um];simp
def xg.bF{w':World}{v:Value}{n:Nat}{Q Q':Nat->Nat->D->Value->Prop}{d0:D}{k off:Nat}{l:List D}(hb:xg w v n Q d0){b o len cap:Nat}(hv:v= .slice (some ⟨b,o,none⟩) len cap)(hk:k<len){C:Array Value}{T:TypeId}
  {vals:List Value} (hw:w.heap[b]? =some (.cells C T (0,0))) (hl:vals.length=l.length) (hoff:off+vals.length<=n) (hsz:o+cap*n<=C.size)
  (hnew: ∀(j:Nat) (d:D),l[j]? =some d-> ∃u,vals[j]? =some u/\Q' k (off+j) d u) (hold: ∀(i j:Nat) (d:D) (u:Value),j<n->i≠k\/j<off\/off+l.length<=j->Q i j d u->Q' i j d u)
  (hw':w'.heap[b]? =some (.cells (iQ C (o+k*n+off) vals) T (0,0))):xg w' v n Q' (.sl (yf d0.tN k off l)):=by
 obtain ⟨a',len',cap',rows,h1,h2,h3,h4,h5,h6,h7,h8⟩:=hb;rw [hv] at h1;simp only [gF] at h1;obtain ⟨rfl,rfl,rfl⟩:=h1;subst h2;have hkl:k<rows.length:=by omega
 have p2:rows[k]? =some rows[k]:=cO hkl;have p3:rows[k].length=n:=h7 _ (vM hkl);have p6:=(h8 b o none rfl).2 k _ p2;refine ⟨_,len,cap,yf rows k off l,hv,rfl,by simp [yf];exact h3,h4,h5,h6,?_,fun b' o' s' he=>⟨fun _=>by cases he;rfl,?_⟩⟩
 ·intro z hz;unfold yf at hz;rcases sU hz with h|h
  ·exact h7 z h
  ·subst h;rw [Tu];simpa [List.getD,p2] using p3
 ·cases he;intro x z hz j d hj;have hx:x<rows.length:=by have:=(dQ.1 hz).1;simpa [yf] using this
  have hw0: ∀q,w.cell? ⟨b,q,none⟩=C[q]? :=fun q=>z7 w b q _ T _ hw;have hw1: ∀q,w'.cell? ⟨b,q,none⟩=(iQ C (o+k*n+off) vals)[q]? :=fun q=>z7 w' b q _ T _ hw';have hzl:z.length=n:=by
   have:z∈yf rows k off l:=kV hz;unfold yf at this;rcases sU this with h|h
   ·exact h7 z h
   ·subst h;rw [Tu];simpa [List.getD,p2] using p3
  have hjn:j<n:=by rw [<-hzl];exact (dQ.1 hj).1
  rw [hw1,alE];unfold yf at hz;rw [Ew] at hz;by_cases e:k=x
  ·subst e;rw [aA rfl,aA hx] at hz;simp only [bg] at hz;subst hz;simp only [List.getD,p2,mX] at hj;rcases aEF (by rw [<-hl,p3];exact hoff) j d hj with ⟨q1,q2,q3⟩|⟨q1,q2⟩
   ·obtain ⟨u,hu,hlf⟩:=hnew _ d q3;refine ⟨u,?_,by rwa [show off+(j-off)=j by omega] at hlf⟩;have hb2:k*n+n<=cap*n:=by
     have:(k+1)*n<=cap*n:=pX _ (by omega)
     rwa [jO,sW] at this
    rw [aA (by omega), <-hu];congr 1;omega
   ·obtain ⟨u,hu,hlf⟩:=p6 j d q2;refine ⟨u,?_,hold _ _ _ _ hjn (.inr q1) hlf⟩;rw [hw0] at hu;rw [ak (by omega)];exact hu
  ·rw [ak e] at hz;obtain ⟨u,hu,hlf⟩:=(h8 b o none rfl).2 x z hz j d hj;refine ⟨u,?_,hold _ _ _ _ hjn (.inl (fun h=>e h.symm)) hlf⟩;rw [hw0] at hu;have hne: ¬(o+k*n+off<=o+x*n+j/\o+x*n+j<o+k*n+off+vals.length/\o+x*n+j<C.size):=by
    rintro ⟨g1,g2,_⟩;rcases Xy e with h|h
    ·have:(k+1)*n<=x*n:=pX _ h;rw [jO,sW] at this;omega
    ·have:(x+1)*n<=k*n:=pX _ h;rw [jO,sW] at this;omega
   rw [ak hne];exact hu
def xh.store{w':World}{B n b:Nat}{v:Value}{C:Array Value}{T:TypeId}{o:Nat}{vals:List Value}(h:xh B w v n)(h1:bN w w' b)(hw:w.heap[b]? =some (.cells C T (0,0)))(hw':w'.heap[b]? =some (.cells (iQ C o vals) T (0,0))):xh B w' v n:=fun b' o' s len cap he hl=>by
 obtain ⟨q1,q2,cells,T',q3,q4⟩:=h b' o' s len cap he hl;refine ⟨q1,q2,?_⟩;by_cases e:b'=b
 ·subst e;rw [hw] at q3;simp only [bg,Obj.cells.injEq] at q3;obtain ⟨rfl,rfl,_⟩:=q3;exact ⟨_,T,hw',by rw [Jz];exact q4⟩
 ·exact ⟨cells,T',by rw [h1.block _ e];exact q3,q4⟩
def sSt(aJ:dz P tb tb=true)(hs:aS c F σ bm tm a w)(aB:cq tb.tab Γ c.env){g n:Nat}(hg: ¬F g){o:Oper}{y x:Operand}{T T1 T2:Nat}(ho:o.op= .store T y x){ti:TI}(aO:tb.get T=some ti){aZ:bf}
  (h:Iz tb Γ gs o.dst σ g ti (aY tb σ T1 y) (aY tb σ T2 x)=some aZ):sR P c F σ bm tm a w g gs n o aZ:=by
 unfold Iz at h;split at h
 ·rename_i g' m i off rM hy;exact (by simp [agi] at h)
 ·rename_i g' gv m i off j m2 o2 rM hy;exact (by simp [agd] at h)
 ·exact aEy aJ hs aB ho aO h
def HO(hs:aS c F σ bm tm a w)(hg:cK c.env gs): ∀(xs:List Operand) (Ts:List Nat) (es:List E),ny tb Γ gs σ xs Ts=some es->Rs w (MM c.M0 bm tm σ) (es.map (·.den c.env)) (xs.map a.eval)
 | [],[],es,h=>by simp [ny] at h;subst h;rfl
 | x::xs,T::Ts,es,h=>by
  simp only [ny] at h;split at h
  ·rename_i k e es' h1 h2;simp only [bg] at h;subst h;exact ⟨_,_,rfl,((dU hs h1).1 hg).rd,HO hs hg xs Ts es' h2⟩
  ·simp at h
 | [],_::_,es,h=>by simp [ny] at h
 | _::_,[],es,h=>by simp [ny] at h
def Gj{f:FuncId}(hf:yG P f=true){o:Oper}{cl:Call}(ho:o.op= .call cl)(hcl:cl.callee= .value (.func f)):(execOp a.eval o).run P w= .ok (.enter f (cl.args.map a.eval)) w:=by
 unfold yG at hf;split at hf
 ·rename_i fn hfn;simp only [aP,oP] at hf;obtain ⟨h1,h2⟩:=hf;obtain ⟨b,hb⟩:=XA.1 h2;have h1':(fn.name= "runtime.NumGoroutine")=False:=by apply eq_false;intro e;rw [e] at h1;exact absurd h1 (by decide)
  simp [execOp,ho,resolve,hcl,Deferred.ofValue,Act.eval,invoke,callFunc,hfn,hb,h1']
 ·simp at hf
def alx(hs:aS c F σ bm tm a w)(hg:cK c.env gs){g n:Nat}{o:Oper}{cl:Call}{f:FuncId}(ho:o.op= .call cl)(hcl:cl.callee= .value (.func f))(hd: ∀d,o.dst=some d->d<c.nt){es:List E}{Ts:List Nat}{vt:VT}
  (hes:ny tb Γ gs σ cl.args.toList Ts=some es) (hr:kS P c.env n (.call gs f none es vt [])) (K:Act->World->Prop) (Q:Exit->Act->World->Prop)
  (hK: ∀dD tm' a' w',aS c (fun x=>F x\/lW g x) (dS σ (wv o.dst (.v gs .d (.var n)))) dD tm' a' w'->K a' w'):o.wp P a w K Q:=by
 obtain ⟨hf,hrun⟩:=hr hg;have hargs:=HO hs hg _ _ _ hes;unfold Oper.wp;rw [Gj hf ho hcl];simp only [Oper.upon];have:=hrun w (MM c.M0 bm tm σ) 0 (cl.args.toList.map a.eval) hs.cE hargs (fun cs h=>by simp at h);simp only [XC] at this;have e:(cl.args.toList.map a.eval).toArray=cl.args.map a.eval:=by rw [<-kJ];simp
 rw [e] at this;refine this.mono ?_;rintro e' w' ⟨v,rfl,h1,h2,_⟩;refine hK bm tm _ _ (((hs.grow h2.Br).qW hd (fU (k:= .d) (e:= .var n) hg h1) fun x hx=>by simp [cP,Go.Proofs.YtekplmpbkgchfaaGreatDoor.K.has] at hx).mono fun x hx=> .inl hx)
def Ju{M:Addr->Prop}: ∀(nb:List CT) (m:Nat) (us:List Value),Rs w M ((List.range nb.length).map fun j=>c.env.getD (m+j) .un) us->cQ w M tm c.env (vars m nb) us
 | [],m,us,h=>by simpa [Rs,vars,cQ] using h
 | t::nb,m,us,h=>by simp only [fw,List.range_succ_eq_map,kU,KC] at h;obtain ⟨v,q,rfl,h1,h2⟩:=h;refine ⟨v,q,rfl,by simpa [cz,E.den] using h1,Ju nb (m+1) q ?_⟩;simpa [PK,zX,Ck 1] using h2
def N7: ∀(nb:List CT) (m:Nat) (q:Nat),¬ ∃z∈vars m nb,z.1.has q
 | [],_,_,⟨z,hz,_⟩=>by simp [vars] at hz
 | t::nb,m,q,⟨z,hz,hq⟩=>by
  simp only [vars,fJ] at hz;rcases hz with rfl|hz
  ·cases hq
  ·exact N7 nb (m+1) q ⟨z,hz,hq⟩
def aEr(hs:aS c F σ bm tm a w)(aB:cq tb.tab Γ c.env){g n:Nat}(lQ: ¬F g){o:Oper}{cl:Call}{f:FuncId}{nb:List CT}(ho:o.op= .call cl)(hcl:cl.callee= .value (.func f))(hd: ∀d,o.dst=some d->d<c.nt)(hn:n=Γ.length){aZ:bf}
  (h:eNew tb Γ gs o.dst σ g nb f cl.args.toList cl.argTypes.toList=some aZ):sR P c F σ bm tm a w g gs n o aZ:=by
 subst hn;unfold eNew at h;split at h
 ·rename_i es hes;simp only [bg] at h;subst h;refine ⟨fun hg hr K Q hK=> ?_,fun hn=>absurd (dZ _) hn⟩;have AP:kS P c.env Γ.length (.new f es nb):=hr _ (by simp);obtain ⟨hf,hrun⟩:=AP;have hargs:=HO hs (dZ _) _ _ _ hes;unfold Oper.wp;rw [Gj hf ho hcl];simp only [Oper.upon];have:=hrun w (MM c.M0 bm tm σ) (cl.args.toList.map a.eval) hs.cE hargs;have e:(cl.args.toList.map a.eval).toArray=cl.args.map a.eval:=by rw [<-kJ];simp
  rw [e] at this;refine this.mono ?_;rintro e' w' ⟨g0,us,T,rfl,h1,h2,h3,h4⟩;refine hK (bF bm g g0) tm _ w' ?_;rw [NV];refine Kq ((hs.aCn lQ h4 h1 h2 (Ju nb _ us h3) fun q hq=>absurd hq (N7 _ _ _)).qW hd ⟨fun _=>by rw [eF],fun h=>absurd (dZ _) h⟩ fun x hx=> ?_);simp only [cP] at hx;exact .inr hx
 ·simp at h
def JJ{dst:Option Nat}{st:ST}: ∀{zE:List (Nat×ST)} {σ:Nat->ST},(∀p∈zE,∀d,p.1≠3*d)->dS σ (wv dst st++zE)=dS (dS σ zE) (wv dst st):=by
 intro zE σ h;cases dst with
 | none=>rfl
 | some d =>
  show dS (bF σ (3*d) st) zE=bF (dS σ zE) (3*d) st;induction zE generalizing σ with
  | nil=>rfl
  | cons p r ih => obtain ⟨l,s⟩:=p;show dS (bF (bF σ (3*d) st) l s) r=_;rw [amE (zY (h (l,s) (by simp) d))];exact ih fun q hq=>h q (by simp [hq])
def abw: ∀{rt:List (Nat×Nat)} {g:Nat} {σ:Nat->ST} (t:Nat),dS σ (mh g rt) (3*t)=σ (3*t)
 | [],_,_,_=>rfl
 | (q,m)::r,g,σ,t=>by show dS (bF σ (3*g+2) (.live ⟨m,none⟩)) (mh (g+1) r) (3*t)=_;rw [abw t,ab1]
def Gi: ∀{rt:List (Nat×Nat)} {g:Nat} {σ:Nat->ST} (t:Nat),dS σ (mh g rt) (3*t+1)=σ (3*t+1)
 | [],_,_,_=>rfl
 | (q,m)::r,g,σ,t=>by show dS (bF σ (3*g+2) (.live ⟨m,none⟩)) (mh (g+1) r) (3*t+1)=_;rw [Gi t,Gs]
def abv: ∀{rt:List (Nat×Nat)} {g:Nat} {σ:Nat->ST} (x:Nat),dS σ (mh g rt) (3*x+2)=if g<=x/\x<g+rt.length then .live ⟨(rt.getD (x-g) (0,0)).2,none⟩ else σ (3*x+2)
 | [],g,σ,x=>by rw [ak (by simp only [zW];omega)];rfl
 | (q,m)::r,g,σ,x=>by
  show dS (bF σ (3*g+2) (.live ⟨m,none⟩)) (mh (g+1) r) (3*x+2)=_;rw [abv x];by_cases h:x=g
  ·subst h;rw [ak (by omega),eF,aA (by simp only [fw];omega)];simp
  ·rw [zD _ h];by_cases h1:g+1<=x/\x<g+1+r.length
   ·rw [aA h1,aA (by simp only [fw];omega),show x-g=(x-(g+1))+1 by omega];rfl
   ·rw [ak h1,ak (by simp only [fw];omega)]
def qm(tm:Nat->Value)(g:Nat)(v:Value)(rt:List (Nat×Nat)):Nat->Value:=fun x=>if g<=x/\x<g+rt.length then wS v (rt.getD (x-g) (0,0)) else tm x
def rF(σ:Nat->ST)(cs:List (K×E)):Option Nat->Nat->ST
 | none=>σ
 | some id=>bF σ (3*id+1) (.box cs)
def aS.ak2{w':World}(hs:aS c F σ bm tm a w){g:Nat}(hg: ∀x,lW g x-> ¬F x){rt:List (Nat×Nat)}(hl:rt.length<=rm){v:Value}(fK:Kn w.heap.size w' v rt)(oC:Option Nat){cs':List (K×E)}
  (hid: ∀id,oC=some id-> ∃cs,σ (3*id+1)= .box cs) (hfr:Fr c.B c.X w w') (oy: ∀k,k<w.heap.size->(∀id,oC=some id->k≠bm id)->w'.heap[k]? =w.heap[k]?)
  (gT: ∀id M' tm',oC=some id->(∀p,M' p->MM c.M0 bm tm σ p\/pT v rt p)->sO c w' M' bm tm' id cs') (hno: ∀x,¬ ∃z∈cs',z.1.has x) :
  aS c (fun x=>F x\/lW g x) (dS (rF σ cs' oC) (mh g rt)) bm (qm tm g v rt) a w'/\(∀p,MM c.M0 bm (qm tm g v rt) (dS (rF σ cs' oC) (mh g rt)) p->MM c.M0 bm tm σ p\/pT v rt p):=by
 have ahy: ∀t,rF σ cs' oC (3*t)=σ (3*t):=fun t=>by cases oC with|none=>rfl|some id=>exact UW _ _ _
 have ahx: ∀t,rF σ cs' oC (3*t+2)=σ (3*t+2):=fun t=>by cases oC with|none=>rfl|some id=>exact pK _ _ _
 have ahw: ∀id cs,rF σ cs' oC (3*id+1)= .box cs->(oC=some id/\cs=cs')\/(oC≠some id/\σ (3*id+1)= .box cs):=fun id cs h=>by
  cases oC with
  | none=>exact .inr ⟨by simp,h⟩
  | some i =>
   simp only [rF] at h;by_cases e:id=i
   ·subst e;rw [eF] at h;simp at h;exact .inl ⟨rfl,h.symm⟩
   ·rw [jm _ e] at h;exact .inr ⟨fun e'=>e (by simp at e';exact e'.symm),h⟩
 have Ml: ∀id cs,rF σ cs' oC (3*id+1)= .box cs-> ∃cs0,σ (3*id+1)= .box cs0:=fun id cs h=>by
  rcases ahw id cs h with ⟨h1,_⟩|⟨_,h1⟩
  ·exact hid id h1
  ·exact ⟨cs,h1⟩
 have hin: ∀x,g<=x/\x<g+rt.length-> ∃y,rt[x-g]? =some y/\rt.getD (x-g) (0,0)=y/\y∈rt:=fun x hx=>by
  have:x-g<rt.length:=by omega
  exact ⟨rt[x-g],cO this,by simp [List.getD,cO this],vM this⟩
 have hlv: ∀x n,dS (rF σ cs' oC) (mh g rt) (3*x+2)= .live n->(∃y,rt[x-g]? =some y/\y∈rt/\(g<=x/\x<g+rt.length)/\(⟨y.2,none⟩:LV)=n/\qm tm g v rt x=wS v y)\/(¬(g<=x/\x<g+rt.length)/\σ (3*x+2)= .live n/\qm tm g v rt x=tm x):=fun x n h=>by
  rw [abv] at h;by_cases hc:g<=x/\x<g+rt.length
  ·obtain ⟨y,h1,h2,h3⟩:=hin x hc;rw [aA hc,h2] at h;simp at h;exact .inl ⟨y,h1,h3,hc,h,by unfold qm;rw [aA hc,h2]⟩
  ·rw [ak hc,ahx] at h;exact .inr ⟨hc,h,ak hc⟩
 have nI: ∀x,F x->qm tm g v rt x=tm x:=fun x hx=>ak fun hc=>hg x ⟨hc.1,by omega⟩ hx;have Aq: ∀p,MM c.M0 bm (qm tm g v rt) (dS (rF σ cs' oC) (mh g rt)) p->MM c.M0 bm tm σ p\/pT v rt p:=by
  rintro p (h|⟨id,cs,h1,h2⟩|⟨x,n,h1,h2⟩)
  ·exact .inl (.inl h)
  ·rw [Gi] at h1;obtain ⟨cs0,h3⟩:=Ml id cs h1;exact .inl (.inr (.inl ⟨id,cs0,h3,h2⟩))
  ·rcases hlv x n h1 with ⟨y,q1,q2,q3,q4,q5⟩|⟨q1,q2,q3⟩
   ·rw [<-q4] at h2;exact .inr ⟨y,q2,by have:=Jo h2;rwa [q5] at this⟩
   ·exact .inl (.inr (.inr ⟨x,n,q2,aki q3 (fun y hy=>nI y (hs.f1 (3*x+2) y (by rw [q2];exact hy))) h2⟩))
 have hnew: ∀y∈rt,∀b o s len cap,wS v y= .slice (some ⟨b,o,s⟩) len cap->0<cap->w.heap.size<=b:=fun y hy b o s len cap he hlt=>(fK.1 y hy b o s len cap he hlt).2.1;have hk:bY w (MM c.M0 bm tm σ) w' (MM c.M0 bm (qm tm g v rt) (dS (rF σ cs' oC) (mh g rt))):=fun p u hp hn=>by
  have hlt:=gR hp;refine ⟨?_,fun h=> ?_⟩
  ·rw [<-hp];refine ER (oy _ hlt fun id hi e=> ?_);obtain ⟨cs,hc⟩:=hid id hi;exact hn (.inr (.inl ⟨id,cs,hc,e⟩))
  ·rcases Aq p h with h|⟨y,hy,h⟩
   ·exact hn h
   ·obtain ⟨o,s,len,cap,h1,h2⟩:=JB h;have:=hnew y hy _ _ _ _ _ h1 h2;omega
 refine ⟨?_,Aq⟩;refine hs.turn (fun t=>by rw [abw,ahy]) (fun x hx=>⟨rfl,nI x hx⟩) (fun _ h=> .inl h) hfr hk ?_ ?_ ?_ ?_ ?_ ?_ ?_ ?_
 ·intro id cs h;rw [Gi] at h;rcases ahw id cs h with ⟨h1,rfl⟩|⟨h1,h2⟩
  ·exact gT id _ _ h1 Aq
  ·refine (hs.box id cs h2).keep hk rfl (oy _ (hs.box id cs h2).lt fun i hi e=> ?_) fun x hx=>nI x (hs.f1 (3*id+1) x (by rw [h2];exact hx));obtain ⟨cs0,hc⟩:=hid i hi;exact hs.rH id i cs cs0 h2 hc (fun e'=>h1 (by rw [e'];exact hi)) e
 ·intro x n h;rcases hlv x n h with ⟨y,q1,q2,q3,q4,q5⟩|⟨q1,q2,q3⟩
  ·subst q4;refine ⟨fun b o s len cap he hlt=> ?_,(fun e dp he=>by cases he),(fun e gv ms he=>by cases he)⟩;rw [q5] at he;obtain ⟨z1,z2,z3⟩:=fK.1 y q2 b o s len cap he hlt;exact ⟨z1,dq hs.hB z2,z3⟩
  ·refine (hs.live x n q2).keep (fun b hb=>oy _ ((hs.live x n q2).lt hb) fun i hi e=> ?_) q3 fun y hy=>nI y (hs.f1 (3*x+2) y (by rw [q2];exact hy));obtain ⟨cs0,hc⟩:=hid i hi;exact hs.pg i cs0 x n b hc q2 hb e.symm
 ·intro i j cs1 nX h h' hne;rw [Gi] at h h';obtain ⟨d,hd⟩:=Ml i cs1 h;obtain ⟨d',hd'⟩:=Ml j nX h';exact hs.rH i j d d' hd hd' hne
 ·intro i cs1 x n b h hx hb;rw [Gi] at h;obtain ⟨d,hd⟩:=Ml i cs1 h;rcases hlv x n hx with ⟨y,q1,q2,q3,q4,q5⟩|⟨q1,q2,q3⟩
  ·subst q4;obtain ⟨o,s,len,cap,he,hlt⟩:=xd hb;rw [q5] at he;have:=hnew y q2 b o s len cap he hlt;have:=(hs.box i d hd).lt;omega
  ·exact hs.pg i d x n b hd q2 ((yp q3 fun y hy=>nI y (hs.f1 (3*x+2) y (by rw [q2];exact hy))).1 hb)
 ·intro x n y m b b' hx hy hne hb hb';rcases hlv x n hx with ⟨x1,q1,q2,q3,q4,q5⟩|⟨q1,q2,q3⟩<;>rcases hlv y m hy with ⟨y1,p1,p2,p3,p4,p5⟩|⟨p1,p2,p3⟩
  ·subst q4 p4;obtain ⟨o,s,len,cap,he,hlt⟩:=xd hb;obtain ⟨o',s',len',cap',he',FB⟩:=xd hb';rw [q5] at he;rw [p5] at he';exact fK.2 _ _ x1 y1 q1 p1 (by omega) _ _ _ _ _ _ _ _ _ _ he hlt he' FB
  ·subst q4;obtain ⟨o,s,len,cap,he,hlt⟩:=xd hb;rw [q5] at he;have h1:=hnew x1 q2 b o s len cap he hlt;have h2:=(hs.live y m p2).lt ((yp p3 fun z hz=>nI z (hs.f1 (3*y+2) z (by rw [p2];exact hz))).1 hb');omega
  ·subst p4;obtain ⟨o,s,len,cap,he,hlt⟩:=xd hb';rw [p5] at he;have h1:=hnew y1 p2 b' o s len cap he hlt;have h2:=(hs.live x n q2).lt ((yp q3 fun z hz=>nI z (hs.f1 (3*x+2) z (by rw [q2];exact hz))).1 hb);omega
  ·exact hs.rI x n y m b b' q2 p2 hne ((yp q3 fun z hz=>nI z (hs.f1 (3*x+2) z (by rw [q2];exact hz))).1 hb) ((yp p3 fun z hz=>nI z (hs.f1 (3*y+2) z (by rw [p2];exact hz))).1 hb')
 ·intro l x h;refine .inl ?_;have h3:l=3*(l/3)\/l=3*(l/3)+1\/l=3*(l/3)+2:=by omega
  rcases h3 with e|e|e
  ·rw [e,abw,ahy] at h;exact hs.f1 _ x h
  ·rw [e,Gi] at h;generalize hst:rF σ cs' oC (3*(l/3)+1)=st at h;cases oC with
   | none=>rw [<-hst] at h;exact hs.f1 _ x h
   | some id =>
    by_cases e':l/3=id
    ·simp only [rF] at hst;rw [e',eF] at hst;subst hst;exact absurd h (hno x)
    ·simp only [rF] at hst;rw [jm _ e'] at hst;rw [<-hst] at h;exact hs.f1 _ x h
  ·rw [e,abv] at h;split at h
   ·obtain ⟨_,_,h⟩:=h;cases h
   ·rw [ahx] at h;exact hs.f1 _ x h
 ·intro id cs h;rw [Gi] at h;obtain ⟨d,hd⟩:=Ml id cs h;exact .inl (hs.f2 id d hd)
 ·intro x n h;rcases hlv x n h with ⟨y,q1,q2,q3,q4,q5⟩|⟨q1,q2,q3⟩
  ·exact .inr ⟨q3.1,by omega⟩
  ·exact .inl (hs.f3 x n q2)
def abt: ∀{rt:List (Nat×Nat)} {g p x:Nat},tM g rt p= .own x-> ∃i y,rt[i]? =some y/\y.1=p/\x=g+i
 | [],g,p,x,h=>by simp [tM] at h
 | (q,m)::r,g,p,x,h=>by
  simp only [tM] at h;cases e:Nat.beq q p with
  | true => rw [e] at h;simp only [ib,KK.own.injEq] at h;exact ⟨0,(q,m),rfl,iW e,by omega⟩
  | false => rw [e] at h;simp only [Cm] at h;obtain ⟨i,y,h1,h2,h3⟩:=abt h;exact ⟨i+1,y,by simpa using h1,h2,by omega⟩
def ak6{rt:List (Nat×Nat)}{g p:Nat}{v u:Value}(hu:(mK v)[p]? =some u):rW (qm tm g v rt) (tM g rt p) u:=by
 cases h:tM g rt p with
 | d=>trivial
 | full =>
  exfalso;have: ∀(rt:List (Nat×Nat)) (g:Nat),tM g rt p≠ .full:=by
   intro rt;induction rt with
   | nil=>intro g h;simp [tM] at h
   | cons a r ih =>
    intro g h;obtain ⟨q,m⟩:=a;simp only [tM] at h;cases e:Nat.beq q p with
    | true=>rw [e] at h;simp at h
    | false=>rw [e] at h;exact ih _ h
  exact this rt g h
 | own x => obtain ⟨i,y,h1,h2,rfl⟩:=abt h;have hi:i<rt.length:=(dQ.1 h1).1;show u=qm tm g v rt (g+i);unfold qm;rw [aA (by omega),show g+i-g=i by omega];simp only [List.getD,h1,mX,wS,h2,hu]
def ak8{rt:List (Nat×Nat)}{g:Nat}{v:Value}{vt:VT}{e:E}{M:Addr->Prop}{w:World}(hty:Xd vt (e.den c.env))(hr:R w M (e.den c.env) v):cz w M (qm tm g v rt) c.env (Gh g rt vt) e v:=by
 have Ni: ∀(n j:Nat) (kk:KK) (u:Value),((List.range n).map (tM g rt))[j]? =some kk->(mK v)[j]? =some u->rW (qm tm g v rt) kk u:=fun n j kk u h1 h2=>by
  simp only [iI,lJ] at h1;obtain ⟨j',hj',rfl⟩:=h1;have:j'=j:=by rw [dQ] at hj';obtain ⟨_,q2⟩:=hj';simpa using q2.symm
  subst this;exact ak6 h2
 rcases vt with (t|ts)|vs
 ·exact akV hr (ak6 (by rw [aek hty hr];rfl))
 ·exact ⟨hr,Ni _⟩
 ·exact ⟨hr,Ni _⟩
def ak7{rt:List (Nat×Nat)}{g x:Nat}{vt:VT}(h:(Gh g rt vt).has x):g<=x/\x<g+rt.length:=by
 have key: ∀p,tM g rt p= .own x->g<=x/\x<g+rt.length:=fun p hp=>by obtain ⟨i,y,h1,_,rfl⟩:=abt hp;have:i<rt.length:=(dQ.1 h1).1;omega
 have Ni: ∀n,KK.own x∈(List.range n).map (tM g rt)->g<=x/\x<g+rt.length:=fun n hn=>by obtain ⟨p,_,hp⟩:=gD.1 hn;exact key p hp
 rcases vt with (t|ts)|vs
 ·exact key 0 (aeq h)
 ·exact Ni _ h
 ·exact Ni _ h
def abu: ∀{rt:List (Nat×Nat)} {g:Nat},∀p∈mh g rt,∀d,p.1≠3*d
 | [],_,p,h,_=>by simp [mh] at h
 | (q,m)::r,g,p,h,d=>by
  simp only [mh,fJ] at h;rcases h with rfl|h
  ·show 3*g+2≠3*d;omega
  ·exact abu p h d
def aEf(hs:aS c F σ bm tm a w){g n:Nat}(lQ: ∀x,lW g x-> ¬F x){o:Oper}{cl:Call}{f:FuncId}(ho:o.op= .call cl)(hcl:cl.callee= .value (.func f))(hd: ∀d,o.dst=some d->d<c.nt){es:List E}{Ts:List Nat}{vt:VT}{rt:List (Nat×Nat)}(hl:rt.length<=rm)
  (hes:ny tb Γ [] σ cl.args.toList Ts=some es) (hr:kS P c.env n (.cF f none es vt [] rt)) (K:Act->World->Prop) (Q:Exit->Act->World->Prop)
  (hK: ∀dD tm' a' w',aS c (fun x=>F x\/lW g x) (dS σ (wv o.dst (.v [] (Gh g rt vt) (.var n))++mh g rt)) dD tm' a' w'->K a' w'):o.wp P a w K Q:=by
 obtain ⟨hsh,hf,hrun⟩:=hr;have hargs:=HO hs (dZ _) _ _ _ hes;unfold Oper.wp;rw [Gj hf ho hcl];simp only [Oper.upon];have:=hrun w (MM c.M0 bm tm σ) 0 (cl.args.toList.map a.eval) hs.cE hargs (fun cs h=>by simp at h);simp only [XC] at this;have e:(cl.args.toList.map a.eval).toArray=cl.args.map a.eval:=by rw [<-kJ];simp
 rw [e] at this;refine this.mono ?_;rintro e' w' ⟨v,rfl,h1,h2,h3,_⟩;obtain ⟨hS,Aq⟩:=hs.ak2 lQ hl h3 none (cs':=[]) (fun id h=>by simp at h) (yq h2.Br hs.hB) (fun k hk _=>h2.block k hk (by simp)) (fun id M' tm' h=>by simp at h) (fun x ⟨z,hz,_⟩=>by simp at hz);refine hK bm (qm tm g v rt) _ w' ?_;rw [JJ abu];have hk:bY w' (fun p=>MM c.M0 bm tm σ p\/pT v rt p) w' (MM c.M0 bm (qm tm g v rt) (dS σ (mh g rt))):=fun p u hp hn=>⟨hp,fun h=>hn (Aq p h)⟩;refine hS.qW hd (fU (dZ _) (ak8 (vt:=vt) (e:= .var n) hsh (R.keep hk _ _ h1))) fun x hx=> .inr ?_;have:=ak7 (show (Gh g rt vt).has x from hx);exact ⟨this.1,by omega⟩
def ag5{env:List D}(aB:cq tb.tab Γ env): ∀(gs:Gd),gs.all (fun x=>iO .bool (x.1.inf tb.tab Γ))=true->(((Ao gs).den env).jZ=true↔cK env gs)
 | [],_=>by simp [Ao,E.den,cK]
 | (c,b)::r,h=>by
  simp only [List.all_cons,aP] at h;have ih:=ag5 aB r h.2;have hc:c.inf tb.tab Γ=some (.one (.c .bool)):=by simpa [iO] using h.1
  obtain ⟨x,hx⟩: ∃x,c.den env= .bool x:=yU (eG aB c _ hc);have e:cK env ((c,b)::r)↔c.den env= .bool b/\cK env r:=by simp [cK]
  rw [e, <-ih,hx];cases b<;>simp [Ao,E.den,hx]
def akT{M:Addr->Prop}{g:E}(hg:(g.den c.env).jZ=true): ∀{xs ys:List (K×E)} {vs:List Value},xs.length=ys.length->cQ w M tm c.env xs vs->cQ w M tm c.env (zh g xs ys) vs
 | [],[],_,_,h=>h
 | x::r,y::q,vs,hl,⟨v,z,e,h1,h2⟩=>⟨v,z,e,by simp only [cz,E.den,hg,ib];exact h1.rd,akT hg (by simpa using hl) h2⟩
 | [],_::_,_,hl,_=>by simp at hl
 | _::_,[],_,hl,_=>by simp at hl
def akU{M:Addr->Prop}{g:E}(hg:(g.den c.env).jZ=false): ∀{xs ys:List (K×E)} {vs:List Value},xs.length=ys.length->cQ w M tm c.env ys vs->cQ w M tm c.env (zh g xs ys) vs
 | [],[],_,_,h=>h
 | x::r,y::q,vs,hl,⟨v,z,e,h1,h2⟩=>⟨v,z,e,by simp only [cz,E.den,hg,Cm];exact h1.rd,akU hg (by simpa using hl) h2⟩
 | [],_::_,_,hl,_=>by simp at hl
 | _::_,[],_,hl,_=>by simp at hl
def aaQ(g:E): ∀(xs ys:List (K×E)) (q:Nat),¬ ∃z∈zh g xs ys,z.1.has q
 | [],_,_,⟨z,hz,_⟩=>by simp [zh] at hz
 | _::_,[],_,⟨z,hz,_⟩=>by simp [zh] at hz
 | x::r,y::p,q,⟨z,hz,hq⟩=>by
  simp only [zh,fJ] at hz;rcases hz with rfl|hz
  ·cases hq
  ·exact aaQ g r p q ⟨z,hz,hq⟩
def aiV: ∀{cs:List (K×E)} {nb:List CT},I8 tb.tab Γ cs=some nb->nb.length=cs.length
 | [],nb,h=>by simp [I8] at h;subst h;rfl
 | (k,e)::r,nb,h=>by
  unfold I8 at h;split at h
  ·rename_i t ts h1 h2;simp only [bg] at h;subst h;simp [aiV h2]
  ·simp at h
def amH: ∀(nb:List CT) (m:Nat),(vars m nb).length=nb.length
 | [],_=>rfl
 | _::r,m=>by simp [vars,amH r (m+1)]
def as4{id:Nat}{cs cs':List (K×E)}(gT:σ (3*id+1)= .box cs){M0:Addr->Prop}:MM M0 bm tm (bF σ (3*id+1) (.box cs'))=MM M0 bm tm σ:=by
 funext p;simp only [MM,pK];apply propext;constructor
 ·rintro (h|⟨i,q,q1,q2⟩|h)
  ·exact .inl h
  ·by_cases e:i=id
   ·subst e;exact .inr (.inl ⟨i,cs,gT,q2⟩)
   ·rw [jm _ e] at q1;exact .inr (.inl ⟨i,q,q1,q2⟩)
  ·exact .inr (.inr h)
 ·rintro (h|⟨i,q,q1,q2⟩|h)
  ·exact .inl h
  ·by_cases e:i=id
   ·subst e;exact .inr (.inl ⟨i,_,eF _ _ _,q2⟩)
   ·exact .inr (.inl ⟨i,q,by rw [jm _ e];exact q1,q2⟩)
  ·exact .inr (.inr h)
def aEe(hs:aS c F σ bm tm a w)(aB:cq tb.tab Γ c.env){g:Nat}{o:Oper}{cl:Call}{f:FuncId}{ti:TI}{rt:List (Nat×Nat)}(ho:o.op= .call cl)(hcl:cl.callee= .value (.func f))(hd: ∀d,o.dst=some d->d<c.nt)
  {x:Operand} {xs:List Operand} {T:Nat} {Ts:List Nat} (hxs:cl.args.toList=x::xs) {g':Gd} {id:Nat} (hp:Ja (aY tb σ T x)=some (g',id)) {aZ:bf}
  (h:Iu tb Γ gs o.dst σ rt ti f xs Ts g' id=some aZ):sR P c F σ bm tm a w g gs Γ.length o aZ:=by
 unfold Iu at h;split at h
 ·rename_i cs es gT hes;split at h
  ·rename_i nb hnb;split at h
   ·rename_i hc;obtain ⟨fK,IV,hall⟩:=hc;simp only [bg] at h;subst h;have hlen:(vars (Γ.length+1) nb).length=cs.length:=by rw [amH,aiV hnb]
    have hgd:=ag5 aB gs hall;have aaa:cK c.env gs->a.eval x= .pointer (some ⟨bm id,0,none⟩):=fun hg=>by
     unfold Ja at hp;split at hp
     ·rename_i g2 id2 hst;simp only [bg,oU] at hp;obtain ⟨rfl,rfl⟩:=hp;exact (uQ hs hst).1.1 (Mf IV hg)
     ·simp at hp
    obtain ⟨vs,T0,hblk,hrel,om⟩:=hs.box id cs gT;have hfr: ∀w',Fr w.heap.size (some (bm id)) w w'->Fr c.B c.X w w':=fun w' h2=>⟨h2.os,h2.tape,h2.output,h2.size,fun k hk hx=>h2.block k (dm hk hs.hB) (by
     rintro ⟨rfl⟩;rcases om with om|om
     ·omega
     ·exact hx om.2.symm)⟩
    refine ⟨fun hg hr K Q hK=> ?_,fun hn=> ?_⟩
    ·have e:(Value.pointer (some ⟨bm id,0,none⟩)::xs.map a.eval).toArray=cl.args.map a.eval:=by rw [<-kJ];simp [hxs,aaa hg]
     have hargs:=HO hs hg _ _ _ hes;have AP:kS P c.env Γ.length (.call gs f (some (cs.map (·.2))) es ti.vt nb):=hr _ (by simp);obtain ⟨hf,hrun⟩:=AP hg;unfold Oper.wp;rw [Gj hf ho hcl];simp only [Oper.upon];have:=hrun w (MM c.M0 bm tm σ) (bm id) (xs.map a.eval) hs.cE hargs (fun cs' h'=>by simp only [jP,bg] at h';subst h';exact ⟨vs,T0,hblk,hrel.rs,om.elim (fun h=>dq hs.m0.2.2.1 h) (fun h=>hs.m0.2.2.2 _ h.2),fun p hp=> .inr (.inl ⟨id,cs,gT,hp⟩)⟩)
     simp only [jP] at this;rw [e] at this;refine this.mono ?_;rintro e' w' ⟨v,rfl,h1,h2,h3⟩;obtain ⟨us,T1,hu1,qa⟩:=h3 rfl;have hsb:=hs.Ul (cs':=zh (Ao gs) (vars (Γ.length+1) nb) cs) gT (hfr w' h2) (fun k hk hne=>h2.block k hk (by simpa using hne)) (fun M' xA hk=>by subst xA;exact ⟨us,T1,hu1,akT (hgd.2 hg) hlen (Ju nb _ us qa),om⟩) fun q hq=>absurd hq (aaQ _ _ _ _)
     refine hK bm tm _ _ ?_;rw [NV];refine aS.mono (F:=F) (hsb.qW hd ⟨fun _=> ?_,fun h=>absurd hg h⟩ fun x hx=>by simp [cP,Go.Proofs.YtekplmpbkgchfaaGreatDoor.K.has] at hx) fun x hx=> .inl hx;rw [as4 gT];simpa [cz,E.den] using h1
    ·have hb:((Ao gs).den c.env).jZ=false:=by
      cases hq:((Ao gs).den c.env).jZ with
      | false=>rfl
      | true=>exact absurd (hgd.1 hq) hn
     have hsb:=hs.Ul (cs':=zh (Ao gs) (vars (Γ.length+1) nb) cs) gT ⟨rfl,rfl,rfl,bU _,fun _ _ _=>rfl⟩ (fun k hk hne=>rfl) (fun M' xA hk=>by subst xA;exact ⟨vs,T0,hblk,akU hb hlen hrel,om⟩) fun q hq=>absurd hq (aaQ _ _ _ _)
     rw [NV];exact aS.mono (F:=F) (hsb.qW hd (TZ rfl hn) fun x hx=>by simp [cP,Go.Proofs.YtekplmpbkgchfaaGreatDoor.K.has] at hx) fun x hx=> .inl hx
   ·simp at h
  ·simp at h
 ·simp at h
def aEd(hs:aS c F σ bm tm a w)(aB:cq tb.tab Γ c.env){g n:Nat}(lQ: ∀x,lW g x-> ¬F x){o:Oper}{cl:Call}{f:FuncId}{ti:TI}{rt:List (Nat×Nat)}(ho:o.op= .call cl)(hcl:cl.callee= .value (.func f))(hd: ∀d,o.dst=some d->d<c.nt)(hn:n=Γ.length){aZ:bf}
  (h:Ir tb Γ gs o.dst σ g rt ti f cl.args.toList cl.argTypes.toList=some aZ):sR P c F σ bm tm a w g gs n o aZ:=by
 subst hn;unfold Ir at h;split at h
 ·rename_i x xs T Ts hxs hTs;split at h
  ·rename_i g' id hp;split at h
   ·rename_i cs es gT hes;split at h
    ·rename_i nb hnb;have aaa:a.eval x= .pointer (some ⟨bm id,0,none⟩):=by
      unfold Ja at hp;split at hp
      ·rename_i g2 id2 hst;simp only [bg,oU] at hp;obtain ⟨rfl,rfl⟩:=hp;exact (uQ hs hst).1.1 (dZ _)
      ·simp at hp
     obtain ⟨vs,T0,hblk,hrel,om⟩:=hs.box id cs gT;have hid:bm id<w.heap.size:=(hs.box id cs gT).lt;have hfr: ∀w',Fr w.heap.size (some (bm id)) w w'->Fr c.B c.X w w':=fun w' h2=>⟨h2.os,h2.tape,h2.output,h2.size,fun k hk hx=>h2.block k (dm hk hs.hB) (by
      rintro ⟨rfl⟩;rcases om with om|om
      ·omega
      ·exact hx om.2.symm)⟩
     have hargs:=HO hs (dZ _) _ _ _ hes;have e:(Value.pointer (some ⟨bm id,0,none⟩)::xs.map a.eval).toArray=cl.args.map a.eval:=by rw [<-kJ];simp [hxs,aaa]
     split at h
     ·simp only [bg] at h;subst h;refine ⟨fun hg hr K Q hK=> ?_,fun hn=>absurd (dZ _) hn⟩;have AP:kS P c.env Γ.length (.call [] f (some (cs.map (·.2))) es ti.vt nb):=hr _ (by simp);obtain ⟨hf,hrun⟩:=AP hg;unfold Oper.wp;rw [Gj hf ho hcl];simp only [Oper.upon];have:=hrun w (MM c.M0 bm tm σ) (bm id) (xs.map a.eval) hs.cE hargs (fun cs' h'=>by simp only [jP,bg] at h';subst h';exact ⟨vs,T0,hblk,hrel.rs,om.elim (fun h=>dq hs.m0.2.2.1 h) (fun h=>hs.m0.2.2.2 _ h.2),fun p hp=> .inr (.inl ⟨id,cs,gT,hp⟩)⟩)
      simp only [jP] at this;rw [e] at this;refine this.mono ?_;rintro e' w' ⟨v,rfl,h1,h2,h3⟩;obtain ⟨us,T1,hu1,qa⟩:=h3 rfl;have hsb:=hs.Ul (cs':=vars (Γ.length+1) nb) gT (hfr w' h2) (fun k hk hne=>h2.block k hk (by simpa using hne)) (fun M' xA hk=>by subst xA;exact ⟨us,T1,hu1,Ju nb _ us qa,om⟩) fun q hq=>absurd hq (N7 _ _ _)
      refine hK bm tm _ _ ?_;rw [NV];refine aS.mono (F:=F) (hsb.qW hd (fU (dZ _) ?_) fun x hx=>by simp [cP,Go.Proofs.YtekplmpbkgchfaaGreatDoor.K.has] at hx) fun x hx=> .inl hx;have hM:MM c.M0 bm tm (bF σ (3*id+1) (.box (vars (Γ.length+1) nb)))=MM c.M0 bm tm σ:=by
       funext p;simp only [MM,pK];apply propext;constructor
       ·rintro (h|⟨i,q,q1,q2⟩|h)
        ·exact .inl h
        ·by_cases e:i=id
         ·subst e;exact .inr (.inl ⟨i,cs,gT,q2⟩)
         ·rw [jm _ e] at q1;exact .inr (.inl ⟨i,q,q1,q2⟩)
        ·exact .inr (.inr h)
       ·rintro (h|⟨i,q,q1,q2⟩|h)
        ·exact .inl h
        ·by_cases e:i=id
         ·subst e;exact .inr (.inl ⟨i,_,eF _ _ _,q2⟩)
         ·exact .inr (.inl ⟨i,q,by rw [jm _ e];exact q1,q2⟩)
        ·exact .inr (.inr h)
      rw [hM];simpa [cz,E.den] using h1
     ·split at h
      ·rename_i hl;simp only [bg] at h;subst h;refine ⟨fun hg hr K Q hK=> ?_,fun hn=>absurd (dZ _) hn⟩;have AP:kS P c.env Γ.length (.cF f (some (cs.map (·.2))) es ti.vt nb rt):=hr _ (by simp);obtain ⟨hsh,hf,hrun⟩:=AP;unfold Oper.wp;rw [Gj hf ho hcl];simp only [Oper.upon];have:=hrun w (MM c.M0 bm tm σ) (bm id) (xs.map a.eval) hs.cE hargs (fun cs' h'=>by simp only [jP,bg] at h';subst h';exact ⟨vs,T0,hblk,hrel.rs,om.elim (fun h=>dq hs.m0.2.2.1 h) (fun h=>hs.m0.2.2.2 _ h.2),fun p hp=> .inr (.inl ⟨id,cs,gT,hp⟩)⟩)
       simp only [jP] at this;rw [e] at this;refine this.mono ?_;rintro e' w' ⟨v,rfl,h1,h2,h4,h3⟩;obtain ⟨us,T1,hu1,qa⟩:=h3 rfl;obtain ⟨hS,Aq⟩:=hs.ak2 lQ hl h4 (some id) (cs':=vars (Γ.length+1) nb) (fun i h=>by simp at h;subst h;exact ⟨cs,gT⟩) (hfr w' h2) (fun k hk hne=>h2.block k hk (by simpa using hne id rfl))
        (fun i M' tm' h xA=>by simp at h;subst h;exact ⟨us,T1,hu1,Ju nb _ us (Rs.keep (fun p u hp hn=>⟨hp,fun h=>hn (xA p h)⟩) _ _ qa),om⟩) (fun x=>N7 _ _ x)
       refine hK bm (qm tm g v rt) _ w' ?_;have hnt: ∀p∈((3*id+1,ST.box (vars (Γ.length+1) nb))::mh g rt),∀d,p.1≠3*d:=fun p hp d=>by
        rcases fJ.1 hp with rfl|hp
        ·show 3*id+1≠3*d;omega
        ·exact abu p hp d
       rw [JJ hnt];show aS _ _ (dS (dS (rF σ (vars (Γ.length+1) nb) (some id)) (mh g rt)) _) _ _ _ _;have hk:bY w' (fun p=>MM c.M0 bm tm σ p\/pT v rt p) w' (MM c.M0 bm (qm tm g v rt) (dS (rF σ (vars (Γ.length+1) nb) (some id)) (mh g rt))):=fun p u hp hn=>⟨hp,fun h=>hn (Aq p h)⟩;refine hS.qW hd (fU (dZ _) (ak8 (vt:=ti.vt) (e:= .var Γ.length) hsh (R.keep hk _ _ h1))) fun x hx=> .inr ?_;have:=ak7 (show (Gh g rt ti.vt).has x from hx);exact ⟨this.1,by omega⟩
      ·simp at h
    ·simp at h
   ·exact aEe hs aB ho hcl hd hxs hp h
  ·split at h
   ·rename_i es hes;split at h
    ·rename_i hc;simp only [bg] at h;subst h;obtain ⟨rfl,_,hl⟩:=hc;exact ⟨fun hg hr K Q hK=>aEf hs lQ ho hcl hd hl hes (hr _ (by simp)) K Q hK,fun hn=>absurd (dZ _) hn⟩
    ·simp only [bg] at h;subst h;refine ⟨fun hg hr K Q hK=>alx (vt:=ti.vt) hs hg ho hcl hd hes (hr _ (by simp)) K Q hK,fun hg=> ?_⟩;exact aS.mono (F:=F) (hs.qW hd (TZ rfl hg) fun x hx=>by simp [cP,Go.Proofs.YtekplmpbkgchfaaGreatDoor.K.has] at hx) fun x hx=> .inl hx
   ·simp at h
 ·rename_i hxs hTs;simp only [bg] at h;subst h;refine ⟨fun hg hr K Q hK=>alx (vt:=ti.vt) (es:=[]) (Ts:=[]) hs hg ho hcl hd (by rw [hxs];exact (rfl:ny tb Γ gs σ [] []=some [])) (hr _ (by simp)) K Q hK,fun hg=> ?_⟩;exact aS.mono (F:=F) (hs.qW hd (TZ rfl hg) fun x hx=>by simp [cP,Go.Proofs.YtekplmpbkgchfaaGreatDoor.K.has] at hx) fun x hx=> .inl hx
 ·simp at h
end
end
end Go.Proofs.YtekplmpbkgchfaaGreatDoor
