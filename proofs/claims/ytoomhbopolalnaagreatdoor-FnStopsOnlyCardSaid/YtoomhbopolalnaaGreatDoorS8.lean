/- The head of a loop: the state that holds at each round's beginning. No program in sight. -/
import Derived.Test.YtoomhbopolalnaaGreatDoorS6
set_option linter.all false
namespace Go.Proofs.YtoomhbopolalnaaGreatDoor
variable {a:Act}{Q:D->List D->Prop}{m:LV}{L pre:List (List D->Prop)}{env env':List D}{g n:Nat}{F:Nat->Prop}{σ:Nat->ST}{tm tm':Nat->Value}{v:Value}{w:World}
section
open Go.RowKit
variable [GC]
def nu(n:Nat)(env env':List D):Prop:=∀e:E,e.gx n=true->e.den env'=e.den env
def zm{more:List D}(h:n<=env.length):nu n env (env++more):=fun e b=>afC h e b
def nu.symm(h:nu n env env'):nu n env' env:=fun e b=>(h e b).symm
def nu.trans{v:List D}(h:nu n env env')(d:nu n env' v):nu n env v:=fun e b=>(d e b).trans (h e b)
section
variable {w:World}{M:Addr->Prop}{bm:Nat->Nat}{tm:Nat->Value}{n:Nat}{env env':List D}
def qj(h:nu n env env'){gs:Gd}(hb:vO n gs=true):cO env' gs↔cO env gs:=by unfold vO at hb;have hb:=fM.1 hb;unfold cO;exact⟨fun q x b=>by rw[<-h x.1 (hb x b)];exact q x b,fun q x b=>by rw[h x.1 (hb x b)];exact q x b⟩
def amt(h:nu n env env'){k:K}{e:E}{v:Value}(hb:e.gx n=true)(r:cy w M tm env k e v):cy w M tm env' k e v:=by cases k<;>simp only[cy,h e hb]at * <;>exact r
def amu(h:nu n env env'){st:ST}{v:Value}(hb:oR n st=true)(r:rA w M bm tm env st v):rA w M bm tm env' st v:=by
 cases st with
 |v gs k e=> simp only[oR,aY]at hb;exact⟨fun b=>amt h hb.2 (r.1 ((qj h hb.1).1 b)),fun b=>r.2 fun q=>b ((qj h hb.1).2 q)⟩
 |ptr gs id off=> simp only[oR]at hb;exact⟨fun b=>r.1 ((qj h hb).1 b),fun b=>r.2 fun q=>b ((qj h hb).2 q)⟩
 |ro gs e off=> simp only[oR,aY]at hb;exact⟨fun b=>by rw[h e hb.2];exact r.1 ((qj h hb.1).1 b),fun b=>r.2 fun q=>b ((qj h hb.1).2 q)⟩
 |gp gs g x i=> simp only[oR,aY]at hb;exact⟨fun b=>by rw[h x (by simp[hb]),h i (by simp[hb])];exact r.1 ((qj h (by simp[hb])).1 b),fun b=>r.2 fun q=>b ((qj h (by simp[hb])).2 q)⟩
 |mp gs g d i off=> simp only[oR,aY]at hb;exact⟨fun b=>by rw[h i hb.2];exact r.1 ((qj h hb.1).1 b),fun b=>r.2 fun q=>b ((qj h hb.1).2 q)⟩
 |iv gs g f d i off l=> simp only[oR,aY]at hb;exact⟨fun b=>by rw[h i hb.1.2,h l hb.2];exact r.1 ((qj h hb.1.1).1 b),fun b=>r.2 fun q=>b ((qj h hb.1.1).2 q)⟩
 |ip gs g f d i off j m o=> simp only[oR,aY]at hb;exact⟨fun b=>by rw[h i hb.1.2,h j hb.2];exact r.1 ((qj h hb.1.1).1 b),fun b=>r.2 fun q=>b ((qj h hb.1.1).2 q)⟩
 |_=>trivial
def amn(h:nu n env env'):∀{cs:List (K×E)} {vs:List Value},(∀x∈cs,x.2.gx n=true)->dh w M tm env cs vs->dh w M tm env' cs vs
 |[],_,_,b=>b
 |c::r,vs,hb,⟨v,q,e,h1,h2⟩=>⟨v,q,e,amt h (hb c (by simp)) h1,amn h (fun x hx=>hb x (by simp[hx])) h2⟩
def tV.rr{c:SC}{id:Nat}{cs:List (K×E)}(h:nu n c.env env')(hb:∀x∈cs,x.2.gx n=true)(r:tV c w M bm tm id cs):tV {c with env:=env'} w M bm tm id cs:=by obtain⟨v,T,b,d,e⟩:=r;exact⟨v,T,b,amn h hb d,e⟩
def af0{c:SC}(h:nu n c.env env')(hb:∀l,oR n (σ l)=true)(b:aL c F σ bm tm a w):aL {c with env:=env'} F σ bm tm a w :=
 {b with
  tmps:=fun t=>amu h (hb _) (b.tmps t)
  box:=fun id k i=>(b.box id k i).rr h (by have:=hb (3*id+1);rw[i]at this;simpa[oR]using this)
  live:=fun g m d=>⟨(b.live g m d).sp,fun e p j=>by
   have f:e.gx n=true:=by have:=hb (3*g+2);rw[d]at this;simpa[oR,j]using this
   show tX w (tm g) m.n _ (e.den env');rw[h e f];exact(b.live g m d).bd e p j,(b.live g m d).dp⟩}
def Yg:∀{σ:Sg} {l:Nat},σ.get l≠.un->∃x∈σ,x.1=l
 |[],l,h=>absurd rfl h
 |(b,s)::r,l,h=>by
  simp only[Sg.get]at h;cases e:Nat.beq b l with
  |true=>exact⟨(b,s),by simp,gL e⟩
  |false=> rw[e]at h;obtain⟨x,hx,d⟩:=Yg (σ:=r) h;exact⟨x,by simp[hx],d⟩
def agi{σ:Sg}(h:σ.all (fun x=>oR n (σ.get x.1))=true)(l:Nat):oR n (σ.get l)=true:=by
 by_cases e:σ.get l=.un
 ·rw[e];rfl
 ·obtain⟨x,b,d⟩:=Yg e;have:=fM.1 h x b
  rwa[d]at this
end
def Oi{k:K}(h:Ka n k=true)(hg:k.has g):g<n:=by
 cases k with
 |own b=>have:g=b:=hg;subst this;exact gR h
 |ag d=> have:=fM.1 h _ (show KK.own g∈d from hg);exact gR this
 |_=>exact hg.elim
def am6{tab:Nat->List CT}{Γ:List VT}{σ:Nat->ST}:∀{l:List Slot} {ks:List K} {t:List VT} {vs:List (K×E)},Cj tab Γ σ l ks t=some vs->l.length=vs.length/\ks.length=vs.length/\t.length=vs.length /\
  ∀(i:Nat) (s:Slot),l[i]? =some s->∃k ty f g,ks[i]? =some k/\t[i]? =some ty/\vs[i]? =some (f,g)/\Ad σ s=some (f,g)/\g.inf tab Γ=some ty/\GA tab σ ty k f=true
 |[],[],[],vs,h=>by simp[Cj]at h;subst h;exact⟨rfl,rfl,rfl,fun i s m=>by simp at m⟩
 |s::l,k::ks,ty::t,vs,h=>by
  simp only[Cj]at h;split at h
  ·rename_i f g r h1 h2;cases j:(decide (g.inf tab Γ=some ty)&&GA tab σ ty k f)with
   |false=>rw[j]at h;simp at h
   |true=>
    rw[j]at h;simp only[gD,aS]at h;subst h;simp only[aY,dr]at j;obtain⟨o,p,q,u⟩:=am6 h2;refine⟨by simp[o],by simp[p],by simp[q],fun i v e=> ?_⟩;cases i with
    |zero=>simp at e;subst e;exact⟨k,ty,f,g,rfl,rfl,rfl,h1,j.1,j.2⟩
    |succ i=> simp at e;obtain⟨a,b,c,d,q1,q2,q3,q4⟩:=u i v e;exact⟨a,b,c,d,by simpa using q1,by simpa using q2,by simpa using q3,q4⟩
  ·simp at h
 |[],[],_::_,vs,h=>by simp[Cj]at h
 |[],_::_,_,vs,h=>by simp[Cj]at h
 |_::_,[],_,vs,h=>by simp[Cj]at h
 |_::_,_::_,[],vs,h=>by simp[Cj]at h
def UI{nt:Nat}:∀{ks:List K} {o:Nat},BO nt o ks=true->∀{i:Nat} {k:K},ks[i]? =some k->k=.d\/k=.own (nt+(o+i))
 |[],o,h,i,k,b=>by simp at b
 |.d::r,o,h,i,k,b=>by
  cases i with
  |zero=>simp at b;exact .inl b.symm
  |succ i=>
   simp only[BO]at h;simp at b;have:=UI h b
   rwa[show o+1+i=o+(i+1) by omega]at this
 |.own g::r,o,h,i,k,b=>by
  simp only[BO,aY]at h;cases i with
  |zero=>simp at b;subst b;exact .inr (by rw[gL h.1];simp)
  |succ i=>
   simp at b;have:=UI h.2 b
   rwa[show o+1+i=o+(i+1) by omega]at this
 |.full::r,o,h,i,k,b=>by simp[BO]at h
 |.ag _::r,o,h,i,k,b=>by simp[BO]at h
def VX:∀{ks:List K} {vs:List (K×E)} {i g' g:Nat} {e:E},ks[i]? =some (.own g')->vs[i]? =some (.own g,e)->g∈sM ks vs
 |[],_,i,g',g,e,h,_=>by simp at h
 |_::_,[],i,g',g,e,_,h=>by simp at h
 |k::ks,(d,f)::vs,i,g',g,e,h,b=>by
  cases i with
  |zero=>simp at h b;obtain⟨rfl,rfl⟩:=b;subst h;simp[sM]
  |succ i=> simp at h b;have ih:=VX h b;cases k<;>cases d<;>simp[sM,ih]
def adt:∀{ks:List K} {vs:List (K×E)},GK (sM ks vs)=true->∀{i j m o g g':Nat} {e p:E},i<j->ks[i]? =some (.own m)->ks[j]? =some (.own o)->vs[i]? =some (.own g,e)->vs[j]? =some (.own g',p)->g≠g'
 |[],_,_,i,j,_,_,_,_,_,_,_,h,_,_,_=>by simp at h
 |_::_,[],_,i,j,_,_,_,_,_,_,_,_,_,h,_=>by simp at h
 |k::ks,(q,u)::vs,b,i,j,m,o,g,g',e,p,r,h1,h2,d,f=>by
  obtain⟨j,rfl⟩:∃t,j=t+1:=⟨j-1,by omega⟩;simp at h2 f;cases i with
  |zero=> simp at h1 d;obtain⟨rfl,rfl⟩:=d;subst h1;simp only[sM,GK,aY,qH,Yu,qK]at b;have:=VX h2 f;exact fun h=>b.1 (h▸this)
  |succ i=>
   simp at h1 d;have l:GK (sM ks vs)=true:=by cases k<;>cases q<;>simp only[sM]at b<;>first|exact b|(simp only[GK,aY]at b;exact b.2)
   exact adt l (show i<j by omega) h1 h2 d f
section
variable {tb:TB}{H:Head}{s:SS}{n nt:Nat}{es:List E}{env0 env':List D}{c:SC}{bm:Nat->Nat}{tm:Nat->Value}{a:Act}{w:World}
def xM(σ:Nat->ST)(bm:Nat->Nat)(tm:Nat->Value)(a:Act)(w:World):Slot->Value
 |.t t=>a.tmps.getD t undef
 |.b id j=>(w.cell? ⟨bm id,j,none⟩).getD undef
 |.m g=>match σ (3*g+2)with|.live ⟨_,some (_,some (v,_))⟩=>tm v|_=>undef
def ab3{d:D}(h:wO d v):Fits d:=LO (w:=default) (M:=fun _=>False) _ _ (h _ _)
def aii:∀{l:List D},(∀(i:Nat) (d:D),l[i]? =some d->Fits d)->dC l
 |[],_=>trivial
 |d::r,h=>⟨h 0 d rfl,aii fun i b hd=>h (i+1) b (by simpa using hd)⟩
def aij:∀{l:List (List D)},(∀r∈l,dC r)->Ij l
 |[],_=>trivial
 |r::l,h=>⟨h r (by simp),aij fun x hx=>h x (by simp[hx])⟩
def amD{m:Nat}{Q:Nat->Nat->D->Value->Prop}{d:D}(hb:tX w v m Q d)(h:∀i j d u,Q i j d u->Fits d):Fits d:=by
 obtain⟨f,len,cap,e,y,g,z,A,B,k,C,l⟩:=hb;rw[g];refine⟨by omega,aij fun r p=> ?_⟩;obtain⟨i,q,rfl⟩:=AQ p;refine aii fun j d t=> ?_;rcases f with _|⟨b,o,s⟩
 ·have:=k rfl;omega
 ·obtain⟨u,_,x⟩:=(l b o s rfl).2 i _ (bX q) j d t;exact h _ _ _ _ x
def aDT{B:Nat}{p:Option (Nat×List Nat)}{i j:Nat}{d:D}{u:Value}(h:CM B w tm n p i j d u):Fits d:=by
 rcases p with _|⟨g,m⟩
 ·exact ab3 h
 ·by_cases b:m.getD j 0=0
  ·exact ab3 (h.1 b)
  ·exact amD (h.2 b).2.2 fun _ _ _ _ h=>ab3 h
def aGI(d:aL c F σ bm tm a w){g:Nat}{k:K}{e:E}(h:Ad σ (.m g)=some (k,e)):k=.d/\Fits (e.den c.env):=by
 simp only[Ad]at h;split at h
 ·rename_i f i p b;simp only[aS,gq]at h;obtain⟨rfl,rfl⟩:=h;exact⟨rfl,amD ((d.live g _ b).bd _ _ rfl) fun _ _ _ _ h=>aDT h⟩
 ·simp at h
structure AE(tm tm':Nat->Value)(env env':List D)(m m':LV):Prop where
 n:m'.n=m.n
 b:(m.body=none/\m'.body=none)\/∃e e' dp vH,m.body=some (e,dp)/\m'.body=some (e',vH)/\e.den env'=e'.den env/\((dp=none/\vH=none)\/∃gv jk ms,dp=some (gv,ms)/\vH=some (jk,ms)/\tm' gv=tm jk)
def AE.deep{f:LV}(h:AE tm tm' env env' m f){e:E}{v:Nat}{i:List Nat}(j:m.body=some (e,some (v,i))):∃k g,f.body=some (k,some (g,i))/\tm' v=tm g:=by
 rcases h.b with⟨b,_⟩|⟨y,l,z,p,b,o,_,q⟩
 ·rw[j]at b;cases b
 ·rw[j]at b;simp only[aS,gq]at b;rcases q with⟨d,_⟩|⟨A,r,t,d,u,x⟩
  ·rw[d]at b;cases b.2
  ·rw[d]at b;simp only[aS,gq]at b;obtain⟨_,rfl,rfl⟩:=b;exact⟨l,r,by rw[o,u],x⟩
def AE.blk{d:LV}{b:Nat}(h:AE tm tm' env env' m d)(hg:tm' g=tm g)(hb:jv tm' g m b):jv tm g d b:=by
 rcases hb with hb|⟨e,r,f,cells,u,i,j,k,l⟩
 ·rw[hg]at hb;exact .inl hb
 ·obtain⟨o,v,p,q⟩:=h.deep i;exact .inr ⟨o,v,f,cells,u,p,by rw[<-q];exact j,k,l⟩
def AE.xC{tm tm':Nat->Value}{env env':List D}{m q:LV}{g:Nat}{p:Addr}(h:AE tm tm' env env' m q)(hg:tm' g=tm g)(hb:xC tm' g m p):xC tm g q p:=by
 rcases hb with⟨b,o,s,len,cap,d,i,j,k⟩|⟨e,z,r,cells,u,d,i,j,k⟩
 ·rw[hg]at d;refine .inl ⟨b,o,s,len,cap,d,i,j,fun t=> ?_⟩;rw[h.n];refine k ?_;rcases h.b with⟨l,_⟩|⟨A,B,C,x,_,f,_⟩
  ·exact l
  ·rw[t]at f;cases f
 ·obtain⟨y,v,l,f⟩:=h.deep d;exact .inr ⟨y,v,r,cells,u,l,by rw[<-f];exact i,j,k⟩
def AE.live{c:SC}{y:LV}(h:AE tm tm' c.env env' m y)(hg:tm' g=tm g)(l:sS c w tm g y):sS {c with env:=env'} w tm' g m:=by
 refine⟨?_,fun e S b=> ?_,fun e A z b=> ?_⟩
 ·have:=l.sp;rw[h.n]at this;rw[hg];exact this
 ·rcases h.b with⟨f,_⟩|⟨B,C,G,p,f,I,J,L⟩
  ·rw[f]at b;cases b
  ·rw[f]at b;simp only[aS,gq]at b;obtain⟨rfl,rfl⟩:=b;have:=l.bd C p I;rw[h.n]at this;show tX w (tm' g) m.n _ (B.den env');rw[J,hg];refine this.keep (fun _ _=>rfl) fun i j d u q=> ?_;rcases L with⟨rfl,rfl⟩|⟨A,v,z,rfl,rfl,k⟩
   ·exact q
   ·refine⟨q.1,fun N=> ?_⟩;obtain⟨⟨cells,o,r⟩,t⟩:=q.2 N;exact⟨⟨cells,by rw[k];exact o,r⟩,t⟩
 ·obtain⟨O,v,k,o⟩:=h.deep b;obtain⟨cells,r,t,Q,x⟩:=l.dp O v z k;exact⟨cells,by rw[o];exact r,t,Q,by rw[hg];exact x⟩
def aGJ(i:aL c F σ bm tm a w){sl:Slot}{k:K}{e:E}(f:∀g,sl≠.m g)(h:Ad σ sl=some (k,e)):cy w (MM c.M0 bm tm σ) tm c.env k e (xM σ bm tm a w sl):=by
 cases sl with
 |m g=>exact absurd rfl (f g)
 |t t=>
  simp only[Ad]at h;split at h
  ·rename_i u x d;simp only[aS,gq]at h;obtain⟨rfl,rfl⟩:=h;have:=i.tmps t;rw[d]at this;exact this.1 (cP _)
  ·simp at h
 |b id j=>
  simp only[Ad]at h;split at h
  ·rename_i l d;obtain⟨y,T,o,r,_⟩:=i.box id l d;obtain⟨v,p,q⟩:=r.get h;have:w.cell? ⟨bm id,j,none⟩=some v:=by rw[ye w _ j _ T _ o];simpa using p
   simp only[xM,this,jZ];exact q
  ·simp at h
def ags(hb:back tb.tab n nt H s=some es)(hn:env0.length=n)(hpre:∃more,env'=env0++more)(ax:bV tb.tab s.Γ env')(hs:aL {c with env:=env'} (below s.nt) s.σ.get bm tm a w) :
  fK tb.tab H.eD (es.map (·.den env'))/\dC (es.map (·.den env'))/\es.length=H.slots.length/\H.eD.length=H.slots.length/\nt+H.slots.length=H.hd.nt/\∃tm',aL {c with env:=env0++es.map (·.den env')} (below H.hd.nt) H.hd.σ.get bm tm' a w:=by
 unfold back at hb;split at hb
 ·rename_i vs hvs;generalize l:(GK (sM H.ks vs)&&BO nt 0 H.ks&&Nat.beq H.hd.nt (nt+H.slots.length)&&Nat.ble nt s.nt&&Nat.blt 0 nt&&H.hd.σ.all (fun x=>Bd tb.tab n nt H s.σ.get (sM H.ks vs) x.1 (H.hd.σ.get x.1)))=C at hb;cases C with
  |false=>simp at hb
  |true=>
   simp only[gD,aS]at hb;subst hb;simp only[aY]at l;obtain⟨⟨⟨⟨⟨hnd,hks⟩,hnt⟩,f⟩,g⟩,j⟩:=l;replace g:=gR g;replace hnt:=gL hnt;replace f:=gR f;obtain⟨l1,l2,l3,f⟩:=am6 hvs;obtain⟨more,rfl⟩:=hpre;have T:∀(i:Nat) (sl:Slot),H.slots[i]? =some sl->∃k ty L B,H.ks[i]? =some k/\H.eD[i]? =some ty/\vs[i]? =some (L,B)/\((∃g,sl=.m g/\L=.d)\/cy w (MM c.M0 bm tm s.σ.get) tm (env0++more) L B (xM s.σ.get bm tm a w sl))/\bH tb.tab ty (B.den (env0++more))/\GA tb.tab s.σ.get ty k L=true/\Fits (B.den (env0++more))/\Ad s.σ.get sl=some (L,B):=fun i sl p=>by
    obtain⟨k,ty,L,B,q1,q2,q3,q4,q5,C⟩:=f i sl p;by_cases o:∃g,sl=.m g
    ·obtain⟨g,rfl⟩:=o;obtain⟨z1,z2⟩:=aGI hs q4;exact⟨k,ty,L,B,q1,q2,q3,.inl ⟨g,rfl,z1⟩,eu ax B ty q5,C,z2,q4⟩
    ·have hr:=aGJ hs (fun g h=>o ⟨g,h⟩) q4;exact⟨k,ty,L,B,q1,q2,q3,.inr hr,eu ax B ty q5,C,LO _ _ hr.rd,q4⟩
   have Q:∀l,H.hd.σ.get l≠.un->Bd tb.tab n nt H s.σ.get (sM H.ks vs) l (H.hd.σ.get l)=true:=fun l V=>by obtain⟨x,W,rfl⟩:=Yg V;exact fM.1 j x W
   generalize hys:(vs.map (·.2)).map (·.den (env0++more))=ys;have hyl:ys.length=H.slots.length:=by rw[<-hys];simp[l1]
   have abL:∀(i:Nat) (L:K) (B:E),vs[i]? =some (L,B)->ys[i]? =some (B.den (env0++more)):=fun i L B h=>by rw[<-hys];simp[h]
   have aaI:nu n (env0++more) (env0++ys):=(zm (by omega)).symm.trans (zm (by omega));have N:∀(i:Nat) (sl:Slot),H.slots[i]? =some sl->i<H.slots.length:=fun i sl h=>(db.1 h).1
   let tm':Nat->Value:=fun g=>if nt<=g/\g<nt+H.slots.length then((H.slots[g-nt]?).map (xM s.σ.get bm tm a w)).getD undef else tm g
   have q:∀g,g<nt->tm' g=tm g:=fun g Y=>aw (by omega);have X:∀(i:Nat) (sl:Slot),H.slots[i]? =some sl->tm' (nt+i)=xM s.σ.get bm tm a w sl:=fun i sl p=>by have:=N i sl p;show(if _ then _ else _)=_;rw[aD (by omega),show nt+i-nt=i by omega,p];rfl
   have O:∀g m,H.hd.σ.get (3*g+2)=.live m->(g<nt/\g∉sM H.ks vs/\(∀x,cE (.live m) x->x<nt+H.slots.length)/\∃m',s.σ.get (3*g+2)=.live m'/\AE tm tm' (env0++more) (env0++ys) m m') \/
     (∃i sl L B el,g=nt+i/\H.slots[i]? =some sl/\H.ks[i]? =some (.own g)/\vs[i]? =some (L,B)/\m=⟨(tb.tab el).length,none⟩/\tm' g=xM s.σ.get bm tm a w sl /\
     ((L=.full/\∃ad,xM s.σ.get bm tm a w sl=.slice ad 0 0)\/(∃I,L=.own I/\s.σ.get (3*I+2)=.live m/\xM s.σ.get bm tm a w sl=tm I))):=by
    intro g m V;have f:=Q (3*g+2) (by rw[V];simp);rw[V]at f;simp only[Bd,aY,jY,show(3*g+2)/3=g by omega]at f;obtain⟨_,f⟩:=f;rcases f with⟨⟨⟨U,y⟩,A⟩,Z⟩|⟨⟨A,Z⟩,y⟩
    ·right;have y:=gR y;simp only[dr]at A;split at Z
     ·rename_i el j;replace Z:=gL Z;have o:m=⟨(tb.tab el).length,none⟩:=by
       obtain⟨r,p⟩:=m;simp only at Z;cases p with
       |none=>rw[Z]
       |some _=>simp at U
      have hlt:g-nt<H.ks.length:=(db.1 A).1;have r:H.slots[g-nt]? =some (H.slots[g-nt]'(by omega)):=bX (by omega);obtain⟨k,ty,L,B,q1,q2,q3,q4,q5,C,_,_⟩:=T _ _ r;rw[A]at q1;simp at q1;subst q1;rw[j]at q2;simp at q2;subst q2;have Y:g=nt+(g-nt):=by omega
      refine⟨g-nt,_,L,B,el,Y,r,A,q3,o,(by have:=X _ _ r;rwa[show nt+(g-nt)=g by omega]at this),?_⟩;cases L with
      |d=>simp[GA]at C
      |ag _=>simp[GA]at C
      |full=>
       rcases q4 with⟨_,_,h⟩|q4
       ·cases h
       ·exact .inl ⟨rfl,q4.2⟩
      |own I=>
       rcases q4 with⟨_,_,h⟩|q4
       ·cases h
       simp only[GA,dr]at C;exact .inr ⟨I,rfl,by rw[C,o],q4.2⟩
     ·simp at Z
    ·left;refine⟨gR A,by simpa using Z,?_⟩;rcases y with y|y
     ·simp only[z8,aY,dr]at y;have o:∀e S ms,m.body=some (e,some (S,ms))->S<nt:=fun e S ms f=>by have:=y.2;simp only[rC,f]at this;exact gR this
      refine⟨fun x ⟨e,ms,W⟩=>by have:=o e x ms W;omega,m,y.1.1,rfl,?_⟩;cases p:m.body with
      |none=>exact .inl ⟨rfl,rfl⟩
      |some j=>
       obtain⟨e,dp⟩:=j;refine .inr ⟨e,e,dp,dp,rfl,rfl,aaI e ?_,?_⟩
       ·have:=y.1.2;simpa[oR,p]using this
       ·rcases dp with _|⟨S,ms⟩
        ·exact .inl ⟨rfl,rfl⟩
        ·exact .inr ⟨S,S,ms,rfl,rfl,q S (o e S ms p)⟩
     ·unfold mOk at y;split at y
      ·rename_i v dp n' e2 z p G;simp only[aY,dr,show(3*g+2)/3=g by omega]at y;obtain⟨⟨⟨z1,z2⟩,z3⟩,z4⟩:=y;have z1:=gR z1;have z3:=gL z3;obtain⟨k,ty,L,B,q1,q2,q3,q4,q5,C,_,q8⟩:=T _ _ z2;simp only[Ad,G,aS,gq]at q8;obtain⟨_,rfl⟩:=q8;have hlt:=N _ _ z2;have o:∀S ms,dp=some (S,ms)->S=nt+(v-n)/\∃j,z=some (j,ms):=fun S ms hd=>by
        subst hd;rcases z with _|⟨j,J⟩
        ·simp[SP]at z4
        ·simp only[SP,aY,dr]at z4;exact⟨gL z4.1,j,by rw[z4.2]⟩
       refine⟨fun x ⟨e,ms,W⟩=> ?_,_,G,z3,.inr ⟨_,_,dp,z,p,rfl,?_,?_⟩⟩
       ·rw[p]at W;simp only[aS,gq]at W;have:=(o x ms W.2).1;omega
       ·simp only[E.den,List.getD];rw[og (by omega),hn,abL _ _ _ q3];rfl
       ·rcases dp with _|⟨S,ms⟩
        ·rcases z with _|⟨j,J⟩
         ·exact .inl ⟨rfl,rfl⟩
         ·simp[SP]at z4
        ·obtain⟨y,j,rfl⟩:=o S ms rfl;refine .inr ⟨S,j,ms,rfl,rfl,?_⟩;rw[y,X _ _ z2];simp only[xM,G]
      ·simp at y
   have aaM:∀id G,H.hd.σ.get (3*id+1)=.box G->id<nt/\((∃J,s.σ.get (3*id+1)=.box J/\J.length=G.length/\∀j k e,G[j]? =some (k,e)->∃v,e=.var v/\n<=v/\H.slots[v-n]? =some (.b id j)/\H.ks[v-n]? =some k) \/
     (s.σ.get (3*id+1)=.box G/\(∀x∈G,x.2.gx n=true)/\∀x∈G,Ka nt x.1=true)):=by
    intro id G V;have f:=Q (3*id+1) (by rw[V];simp);rw[V]at f;simp only[Bd,aY,jY,show(3*id+1)/3=id by omega]at f;obtain⟨⟨_,U⟩,f⟩:=f;refine⟨gR U,?_⟩;rcases f with⟨y,A⟩|y
    ·left;split at y
     ·rename_i J o;refine⟨J,o,gL y,fun j k e hj=> ?_⟩;have hz:((k,e),j)∈G.zipIdx:=by rw[agh];exact hj
      have:=fM.1 A _ hz;simp only at this;split at this
      ·rename_i v;simp only[aY,dr]at this;exact⟨v,rfl,gR this.1.1,this.1.2,this.2⟩
      ·simp at this
     ·simp at y
    ·right;simp only[z8,aY,dr,oR,rC,fM]at y;exact⟨y.1.1,y.1.2,y.2⟩
   have U:∀id G,H.hd.σ.get (3*id+1)=.box G->∃J,s.σ.get (3*id+1)=.box J:=fun id G h=>by
    rcases (aaM id G h).2 with⟨J,y,_⟩|⟨y,_⟩
    ·exact⟨J,y⟩
    ·exact⟨G,y⟩
   have z:∀p,MM c.M0 bm tm' H.hd.σ.get p->MM c.M0 bm tm s.σ.get p:=by
    rintro p (h|⟨id,G,y,A⟩|⟨g,m,y,A⟩)
    ·exact .inl h
    ·obtain⟨J,Z⟩:=U id G y;exact .inr (.inl ⟨id,J,Z,A⟩)
    ·rcases O g m y with⟨q1,_,_,m',q2,q3⟩|⟨i,sl,L,B,el,rfl,q1,q2,q3,q4,q5,C⟩
     ·exact .inr (.inr ⟨g,m',q2,q3.xC (q g q1) A⟩)
     ·subst q4;have A:=Kk A;rw[q5]at A;rcases C with⟨_,ad,q7⟩|⟨I,_,q7,q8⟩
      ·rw[q7]at A;obtain⟨o,s',len',cap',Z,h4⟩:=Kw A;simp only[fA]at Z;omega
      ·rw[q8]at A;exact .inr (.inr ⟨I,_,q7,DU A⟩)
   have hkk:bR w (MM c.M0 bm tm s.σ.get) w (MM c.M0 bm tm' H.hd.σ.get):=fun p v hp hn=>⟨hp,fun h=>hn (z p h)⟩;have hcar:∀v sl k,(∀g,sl≠Slot.m g)->n<=v->H.slots[v-n]? =some sl->H.ks[v-n]? =some k->cy w (MM c.M0 bm tm' H.hd.σ.get) tm' (env0++ys) k (.var v) (xM s.σ.get bm tm a w sl):=by
    intro v sl k hne hv r hk;obtain⟨p,ty,L,B,q1,q2,q3,q4,q5,C,_,_⟩:=T _ _ r;rcases q4 with⟨g,h,_⟩|q4
    ·exact absurd h (hne g)
    rw[hk]at q1;simp at q1;subst q1;have hd:(E.var v).den (env0++ys)=B.den (env0++more):=by simp only[E.den,List.getD];rw[og (by omega),hn,abL _ _ _ q3];rfl
    have hr:R w (MM c.M0 bm tm' H.hd.σ.get) ((E.var v).den (env0++ys)) (xM s.σ.get bm tm a w sl):=by rw[hd];exact R.keep hkk _ _ q4.rd
    rcases UI hks hk with rfl|rfl
    ·exact hr
    ·refine⟨hr,?_⟩;rw[show nt+(0+(v-n))=nt+(v-n) by omega,X _ _ r]
   have hplain:∀l p,z8 n nt s.σ.get l p=true->s.σ.get l=p/\oR n p=true/\rC nt p=true:=fun l p h=>by simp only[z8,aY,dr]at h;exact⟨h.1.1,h.1.2,h.2⟩
   have aA3:∀p,rC nt p=true->∀g,cE p g->bm g=bm g/\tm' g=tm g:=by
    intro p z g Y;refine⟨rfl,q g ?_⟩;cases p with
    |v gs k e=>exact Oi (show Ka nt k=true from z) Y
    |ptr gs id off=>simp only[cE]at Y;subst Y;simp only[rC]at z;exact gR z
    |mp gs I n' i off=>simp only[cE]at Y;subst Y;simp only[rC]at z;exact gR z
    |iv gs I S n' i off l=>
     simp only[rC,aY]at z;rcases Y with rfl|rfl
     ·exact gR z.1
     ·exact gR z.2
    |ip gs I S n' i off j m o2=>
     simp only[rC,aY]at z;rcases Y with rfl|rfl
     ·exact gR z.1
     ·exact gR z.2
    |live m=> obtain⟨e,ms,W⟩:=Y;simp only[rC,W]at z;exact gR z
    |box G=> obtain⟨x,W,hk⟩:=Y;simp only[rC,fM]at z;exact Oi (z x W) hk
    |_=>exact Y.elim
   refine⟨?_,?_,by simp[l1],by omega,hnt.symm,tm',?_⟩
   ·have:∀(X:List VT) (r:List (K×E)),X.length=r.length->(∀(i:Nat) (ty:VT) (L:K) (B:E),X[i]? =some ty->r[i]? =some (L,B)->bH tb.tab ty (B.den (env0++more)))->fK tb.tab X ((r.map (·.2)).map (·.den (env0++more))):=by
     intro X;induction X with
     |nil=>intro r V _;cases r with|nil=>trivial|cons _ _=>simp at V
     |cons ty X ih=>
      intro r V hh;cases r with
      |nil=>simp at V
      |cons x r=>exact⟨hh 0 ty x.1 x.2 rfl rfl,ih r (by simpa using V) fun i t k e y A=>hh (i+1) t k e (by simpa using y) (by simpa using A)⟩
    rw[<-hys];refine this H.eD vs l3 fun i ty L B y A=> ?_;have hlt:i<H.slots.length:=by rw[l1];exact(db.1 A).1
    obtain⟨k,X,k2,e2,q1,q2,q3,q4,q5,C,q7,_⟩:=T i _ (bX hlt);rw[y]at q2;simp at q2;subst q2;rw[A]at q3;simp at q3;obtain⟨rfl,rfl⟩:=q3;exact q5
   ·have:∀(l:List D),(∀(i:Nat) (d:D),l[i]? =some d->Fits d)->dC l:=by
     intro l;induction l with
     |nil=>intro _;trivial
     |cons d r ih=>intro hh;exact⟨hh 0 d rfl,ih fun i d' hd=>hh (i+1) d' (by simpa using hd)⟩
    refine this ys fun i d hd=> ?_;have hlt:i<H.slots.length:=by rw[<-hyl];exact(db.1 hd).1
    obtain⟨k,X,k2,e2,q1,q2,q3,q4,q5,C,q7,_⟩:=T i _ (bX hlt);rw[abL _ _ _ q3]at hd;simp at hd;subst hd;exact q7
   ·have T:aL {c with env:=env0++more} (below s.nt) s.σ.get bm tm a w:=hs;refine⟨hs.fr,hs.hB,hs.m0,fun t=> ?_,fun id G h=> ?_,fun g m h=> ?_,fun id id' G J h h'=> ?_,fun id G g m b h Y hb=> ?_,fun g m I m' b b' Y hg' hne hb hb'=> ?_,fun l g h=> ?_,fun id G h=> ?_,fun g m h=> ?_,hs.size,hs.defers,fun g Y=>⟨(hs.x0 g Y).1,by unfold below;omega⟩⟩
    ·
     by_cases hu:H.hd.σ.get (3*t)=.un
     ·rw[hu];trivial
     ·have f:=Q _ hu;generalize z:H.hd.σ.get (3*t)=p at f hu;have X:z8 n nt s.σ.get (3*t) p=true->rA w (MM c.M0 bm tm' H.hd.σ.get) bm tm' (env0++ys) p (a.tmps.getD t undef):=fun hp=>by obtain⟨p1,p2,p3⟩:=hplain _ _ hp;have:=hs.tmps t;rw[p1]at this;exact amu aaI p2 (this.keep hkk (aA3 p p3))
      cases p with
      |un=>trivial
      |box G=>trivial
      |live m=>trivial
      |ptr gs id off=>exact X f
      |ro gs e off=>exact X f
      |gp gs g x i=>exact X f
      |mp gs g n' i off=>exact X f
      |iv gs g S n' i off l=>exact X f
      |ip gs g S n' i off j m o2=>exact X f
      |v gs k e=>
       cases gs with
       |cons _ _=>exact X f
       |nil=>
        cases e with
        |var v=>
         simp only[Bd,jY,aY,dr,show 3*t/3=t by omega]at f;rcases f with⟨⟨⟨y,_⟩,A⟩,Z⟩|hp
         ·exact⟨fun _=>hcar v (.t t) k (fun _ h=>by cases h) (gR y) A Z,fun hh=>absurd (cP _) hh⟩
         ·exact X hp
        |_=>exact X f
    ·
     rcases (aaM id G h).2 with⟨J,y,A,Z⟩|⟨y,A,Z⟩
     ·obtain⟨us,T,hb1,hb2,hb3⟩:=hs.box id J y;refine⟨us,T,hb1,?_,hb3⟩;have jN:us.length=G.length:=by rw[hb2.length,A]
      have hcell:∀j u,us[j]? =some u->w.cell? ⟨bm id,j,none⟩=some u:=fun j u hu=>by rw[ye w _ j _ T _ hb1];simpa using hu
      have:∀(cs0:List (K×E)) (T:List Value) (o:Nat),T.length=cs0.length->(∀j x,cs0[j]? =some x->G[o+j]? =some x)->(∀j u,T[j]? =some u->us[o+j]? =some u)->dh w (MM c.M0 bm tm' H.hd.σ.get) tm' (env0++ys) cs0 T:=by
       intro cs0;induction cs0 with
       |nil=>intro T o V _ _;exact mM V
       |cons x r ih=>
        intro T o V hc hu;cases T with
        |nil=>simp at V
        |cons u0 r=> refine⟨u0,r,rfl,?_,ih r (o+1) (by simpa using V) (fun j T W=>by have:=hc (j+1) T (by simpa using W);rwa[show o+(j+1)=o+1+j by omega]at this) (fun j T r=>by have:=hu (j+1) T (by simpa using r);rwa[show o+(j+1)=o+1+j by omega]at this)⟩;have r:=hc 0 x rfl;have T:=hu 0 u0 rfl;obtain⟨v,hv,BG,hvs,Uq⟩:=Z (o+0) x.1 x.2 r;rw[hv];have:=hcar v _ x.1 (fun _ h=>by cases h) BG hvs Uq;simp only[xM,hcell _ _ T,jZ]at this;exact this
      exact this G us 0 jN (fun j x W=>by simpa using W) (fun j u hu=>by simpa using hu)
     ·refine tV.rr (c:={c with env:=env0++more}) aaI A ((hs.box id G y).keep hkk rfl rfl fun g ⟨x,W,hk⟩=> ?_);exact q g (Oi (Z x W) hk)
    ·rcases O g m h with⟨q1,_,_,m',q2,q3⟩|⟨i,sl,L,B,el,rfl,q1,q2,q3,q4,q5,C⟩
     ·exact q3.live (c:={c with env:=env0++more}) (q g q1) (hs.live g m' q2)
     ·refine⟨fun b o s' len cap f V=> ?_,(fun e dp f=>by rw[q4]at f;cases f),(fun e S ms f=>by rw[q4]at f;cases f)⟩;rw[q5]at f;rcases C with⟨_,ad,q7⟩|⟨I,_,q7,q8⟩
      ·rw[q7]at f;simp only[fA]at f;omega
      ·rw[q8]at f;exact(hs.live I m q7).sp b o s' len cap f V
    ·obtain⟨d,hd⟩:=U id G h;obtain⟨d',r⟩:=U id' J h';exact hs.pu id id' d d' hd r
    ·obtain⟨d,hd⟩:=U id G h;rcases O g m Y with⟨q1,_,_,m',q2,q3⟩|⟨i,sl,L,B,el,rfl,q1,q2,q3,q4,q5,C⟩
     ·exact hs.lI id d g m' b hd q2 (q3.blk (q g q1) hb)
     ·subst q4;obtain⟨o,s',len,cap,f,V⟩:=xY hb;rw[q5]at f;rcases C with⟨_,ad,q7⟩|⟨I,_,q7,q8⟩
      ·rw[q7]at f;simp only[fA]at f;omega
      ·rw[q8]at f;exact hs.lI id d I _ b hd q7 (.inl ⟨o,s',len,cap,f,V⟩)
    ·
     have r:∀g m b,H.hd.σ.get (3*g+2)=.live m->jv tm' g m b->∃J T,s.σ.get (3*J+2)=.live T/\jv tm J T b/\((g<nt/\J=g/\g∉sM H.ks vs)\/(∃i B,g=nt+i/\H.ks[i]? =some (.own g)/\vs[i]? =some (.own J,B))):=by
      intro g m b Y hb;rcases O g m Y with⟨q1,q0,_,m',q2,q3⟩|⟨i,sl,L,B,el,rfl,q1,q2,q3,q4,q5,C⟩
      ·exact⟨g,m',q2,q3.blk (q g q1) hb,.inl ⟨q1,rfl,q0⟩⟩
      ·subst q4;obtain⟨o,s',len,cap,f,V⟩:=xY hb;rw[q5]at f;rcases C with⟨_,ad,q7⟩|⟨I,rfl,q7,q8⟩
       ·rw[q7]at f;simp only[fA]at f;omega
       ·exact⟨I,_,q7,.inl ⟨o,s',len,cap,by rw[<-q8];exact f,V⟩,.inr ⟨i,B,rfl,q2,q3⟩⟩
     obtain⟨J,T,z1,z2,z3⟩:=r g m b Y hb;obtain⟨q,B,C,L,o⟩:=r I m' b' hg' hb';refine hs.lU J T q B b b' z1 C ?_ z2 L;rcases z3 with⟨z3,rfl,z4⟩|⟨i,r,rfl,z3,z4⟩<;>rcases o with⟨o,rfl,q⟩|⟨j,e2,rfl,o,q⟩
     ·exact hne
     ·exact fun h=>z4 (h▸VX o q)
     ·exact fun h=>q (h▸VX z3 z4)
     ·rcases Fh i j with h|h|h
      ·exact adt hnd h z3 o z4 q
      ·subst h;exact absurd rfl hne
      ·exact fun e=>adt hnd h o z3 q z4 e.symm
    ·
     unfold below;rw[hnt];by_cases hu:H.hd.σ.get l=.un
     ·rw[hu]at h;exact h.elim
     ·have f:=Q _ hu;generalize z:H.hd.σ.get l=p at f hu h;have X:z8 n nt s.σ.get l p=true->g<nt+H.slots.length:=fun hp=>by
       obtain⟨p1,p2,p3⟩:=hplain _ _ hp;rcases dO g nt with hlt|o
       ·omega
       ·exfalso;cases p with
        |v gs k e=>have:=Oi (show Ka nt k=true from p3) h;omega
        |ptr gs id off=>simp only[cE]at h;subst h;simp only[rC]at p3;have:=gR p3;omega
        |mp gs I n' i off=>simp only[cE]at h;subst h;simp only[rC]at p3;have:=gR p3;omega
        |iv gs I S n' i off l=> simp only[rC,aY]at p3;have y:=gR p3.1;have A:=gR p3.2;rcases h with rfl|rfl<;>omega
        |ip gs I S n' i off j m o2=> simp only[rC,aY]at p3;have y:=gR p3.1;have A:=gR p3.2;rcases h with rfl|rfl<;>omega
        |live m=> obtain⟨e,ms,W⟩:=h;simp only[rC,W]at p3;have:=gR p3;omega
        |box G=> obtain⟨x,W,hk⟩:=h;simp only[rC,fM]at p3;have:=Oi (p3 x W) hk;omega
        |_=>exact h.elim
      have o:∀(i I:Nat) (k:K),H.ks[i]? =some k->k.has I->I<nt+H.slots.length:=fun i I k hk hg'=>by
       have hlt:i<H.slots.length:=by rw[l1, <-l2];exact(db.1 hk).1
       rcases UI hks hk with rfl|rfl
       ·exact hg'.elim
       ·have:I=nt+(0+i):=hg';omega
      cases p with
      |un=>exact h.elim
      |live m=>
       simp only[Bd,aY]at f;have p:l=3*(l/3)+2:=by have:=gL f.1;omega
       rw[p]at z;rcases O (l/3) m z with⟨_,_,q3,_⟩|⟨i,sl,_,_,_,_,_,_,_,q4,_⟩
       ·exact q3 g h
       ·subst q4;obtain⟨_,_,h⟩:=h;cases h
      |ro gs e off=>exact h.elim
      |gp gs g x i=>exact h.elim
      |ptr gs id off=>exact X f
      |mp gs I n' i off=>exact X f
      |iv gs I S n' i off l=>exact X f
      |ip gs I S n' i off j m o2=>exact X f
      |box G=>
       simp only[Bd,aY,jY]at f;obtain⟨_,f⟩:=f;rcases f with⟨_,A⟩|hp
       ·obtain⟨x,W,hk⟩:=h;obtain⟨j,hj⟩:=List.getElem?_of_mem W;have hz:(x,j)∈G.zipIdx:=by rw[agh];exact hj
        have:=fM.1 A _ hz;simp only at this;split at this
        ·rename_i v _;simp only[aY,dr]at this;exact o _ _ _ this.2 hk
        ·simp at this
       ·exact X hp
      |v gs k e=>
       cases gs with
       |cons _ _=>exact X f
       |nil=>
        cases e with
        |var v=>
         simp only[Bd,jY,aY,dr]at f;rcases f with⟨⟨⟨y,_⟩,A⟩,Z⟩|hp
         ·exact o _ _ _ Z h
         ·exact X hp
        |_=>exact X f
    ·unfold below;rw[hnt];have:=(aaM id G h).1;omega
    ·unfold below;rw[hnt];rcases O g m h with⟨q1,_⟩|⟨i,sl,_,_,_,rfl,q1,_⟩
     ·omega
     ·have:=N i sl q1;omega
 ·simp at hb
end
section
variable {P:Program}{tab:Nat->List CT}
def bV.append{Γ b:List VT}{ds:List D}(h:bV tab Γ env)(l:env.length=Γ.length)(hd:fK tab b ds):bV tab (Γ++b) (env++ds):=by
 have key:∀(b:List VT) (ds:List D),fK tab b ds->∀(i:Nat) (t:VT),b[i]? =some t->bH tab t (ds.getD i .un):=by
  intro b;induction b with
  |nil=>intro ds _ i t h;simp at h
  |cons v b ih=>
   intro ds hd i t h;cases ds with
   |nil=>exact hd.elim
   |cons d r=>
    cases i with
    |zero=>simp at h;subst h;exact hd.1
    |succ i=>simp at h;simpa using ih r hd.2 i t h
 intro i t e;rw[List.getElem?_append]at e;split at e
 ·rename_i f;have:=h i t e
  rwa[List.getD,mN (by omega)]
 ·rename_i f;have:=key b ds hd _ t e;rw[List.getD,og (by omega),l];exact this
def F9:∀{b:List VT} {ds:List D},fK tab b ds->ds.length=b.length
 |[],[],_=>rfl
 |t::b,d::ds,h=>by simp[F9 h.2]
 |[],_::_,h=>h.elim
 |_::_,[],h=>h.elim
def Vt:∀{b:List CT} {ds:List D},bE tab b ds->fK tab (b.map fun t=>.one (.c t)) ds
 |[],[],_=>trivial
 |t::b,d::ds,h=>by simp only[bE]at h;exact⟨h.1,Vt h.2⟩
 |[],_::_,h=>by simp[bE]at h
 |_::_,[],h=>by simp[bE]at h
def aFB:∀(rs:List Rq) (k:VC) (env:List D),(∀r∈rs,Eb env.length r=true)->(rs.length<=1)->(rs.foldr VC.rq k).den P tab env Q L ->
  ∃ds,fK tab (lN rs) ds/\(∀more,∀r∈rs,jH P (env++ds++more) env.length r)/\k.den P tab (env++ds) Q L
 |[],k,env,_,_,h=>⟨[],trivial,fun _ r m=>by simp at m,by simpa using h⟩
 |[.cond gs c],k,env,hb,_,h=>by
  have hb:=hb (.cond gs c) (by simp);simp only[Eb,aY]at hb;obtain⟨q,p⟩:=h;refine⟨[],trivial,fun more r m=> ?_,by simpa using p⟩;simp only[mP]at m;subst m;have o:nu env.length env (env++[]++more):=by rw[qJ];exact zm (bK _)
  intro A;rw[o c hb.2];exact q ((qj o hb.1).1 A)
 |[.xh g B ix],k,env,hb,_,h=>by
  have hb:=hb (.xh g B ix) (by simp);obtain⟨d,q,p,v,y⟩:=h;refine⟨[d],⟨q,trivial⟩,fun more r m=> ?_,y⟩;simp only[mP]at m;subst m;have e:(env++[d]++more).getD env.length .un=d:=by simp[List.getD]
  refine⟨by rw[e];exact p,?_,?_⟩
  ·cases ix with
   |none=>trivial
   |some x=>
    obtain⟨gs,T,n⟩:=x;simp only[Eb,aY]at hb;have o:nu env.length env (env++[d]++more):=by rw[iU];exact zm (bK _)
    intro A;rw[o T hb.2];exact v ((qj o hb.1).1 A)
  ·rw[e];unfold afx;split
   ·obtain⟨l,q1,q2⟩:=lX q;exact⟨l,q1,q2.length⟩
   ·trivial
 |[.new f args t],k,env,hb,_,h=>by
  have hb:=hb (.new f args t) (by simp);simp only[Eb]at hb;obtain⟨b,p,v,y⟩:=h;refine⟨b,?_,fun more r m=> ?_,y⟩
  ·simp only[lN,qJ];exact Vt p
  ·simp only[mP]at m;subst m;have o:nu env.length env (env++b++more):=by rw[iU];exact zm (bK _)
   have C:args.map (·.den (env++b++more))=args.map (·.den env):=Fe fun e u=>o e (fM.1 hb e u);have I:(List.range t.length).map (fun j=>(env++b++more).getD (env.length+j) .un)=b:=by
    have O:=p.length;refine zx fun i=> ?_;simp only[iq];by_cases J:i<t.length
    ·rw[IC J];simp only[j0,List.getD];rw[iU,og (by omega),show env.length+i-env.length=i by omega];simp[mN (show i<b.length by omega),bX (show i<b.length by omega)]
    ·rw[nB (by simp;omega),nB (by omega)];rfl
   show Qw P f _ _;rw[C,I];exact v
 |[.call gs f z args B t],k,env,hb,_,h=>by
  have hb:=hb (.call gs f z args B t) (by simp);simp only[Eb,aY]at hb;obtain⟨d,b,q,p,v,y⟩:=h;refine⟨d::b,?_,fun more r m=> ?_,y⟩
  ·simp only[lN,qJ];exact⟨q,Vt p⟩
  ·simp only[mP]at m;subst m;have o:nu env.length env (env++d::b++more):=by rw[iU];exact zm (bK _)
   intro A;have N:=v ((qj o hb.1.1).1 A);have C:args.map (·.den (env++d::b++more))=args.map (·.den env):=Fe fun e u=>o e (fM.1 hb.2 e u);have S:z.map (·.map (·.den (env++d::b++more)))=z.map (·.map (·.den env)):=by
    cases z with
    |none=>rfl
    |some l=>simp only[j0];exact congrArg some (Fe fun e u=>o e (fM.1 hb.1.2 e u))
   have G:(env++d::b++more).getD env.length .un=d:=by simp[List.getD]
   have I:(List.range t.length).map (fun j=>(env++d::b++more).getD (env.length+1+j) .un)=b:=by
    have O:=p.length;refine zx fun i=> ?_;simp only[iq];by_cases J:i<t.length
    ·rw[IC J];simp only[j0,List.getD];rw[iU,og (by omega),show env.length+1+i-env.length=i+1 by omega];simp[mN (show i<b.length by omega),bX (show i<b.length by omega)]
    ·rw[nB (by simp;omega),nB (by omega)];rfl
   rw[C,S,G,I];exact N
 |[.lH gs e args B],k,env,hb,_,h=>by
  have hb:=hb (.lH gs e args B) (by simp);simp only[Eb,aY]at hb;obtain⟨d,q,v,y⟩:=h;refine⟨[d],?_,fun more r m=> ?_,y⟩
  ·simp only[lN];exact⟨q,trivial⟩
  ·simp only[mP]at m;subst m;have o:nu env.length env (env++[d]++more):=by rw[iU];exact zm (bK _)
   intro A;have N:=v ((qj o hb.1.1).1 A);have C:args.map (·.den (env++[d]++more))=args.map (·.den env):=Fe fun e u=>o e (fM.1 hb.2 e u);have G:(env++[d]++more).getD env.length .un=d:=by simp[List.getD]
   rw[C,G,o e hb.1.2];exact N
 |[.cM f z args B t U],k,env,hb,_,h=>by
  have hb:=hb (.cM f z args B t U) (by simp);simp only[Eb,aY]at hb;obtain⟨d,b,q,p,v,y⟩:=h;refine⟨d::b,?_,fun more r m=> ?_,y⟩
  ·simp only[lN,qJ];exact⟨q,Vt p⟩
  ·simp only[mP]at m;subst m;have o:nu env.length env (env++d::b++more):=by rw[iU];exact zm (bK _)
   have N:=v;have C:args.map (·.den (env++d::b++more))=args.map (·.den env):=Fe fun e u=>o e (fM.1 hb.2 e u);have S:z.map (·.map (·.den (env++d::b++more)))=z.map (·.map (·.den env)):=by
    cases z with
    |none=>rfl
    |some l=>simp only[j0];exact congrArg some (Fe fun e u=>o e (fM.1 hb.1 e u))
   have G:(env++d::b++more).getD env.length .un=d:=by simp[List.getD]
   have I:(List.range t.length).map (fun j=>(env++d::b++more).getD (env.length+1+j) .un)=b:=by
    have O:=p.length;refine zx fun i=> ?_;simp only[iq];by_cases J:i<t.length
    ·rw[IC J];simp only[j0,List.getD];rw[iU,og (by omega),show env.length+1+i-env.length=i+1 by omega];simp[mN (show i<b.length by omega),bX (show i<b.length by omega)]
    ·rw[nB (by simp;omega),nB (by omega)];rfl
   refine⟨by rw[G];exact afZ q,?_⟩;rw[C,S,G,I];exact N
 |_::_::_,_,_,_,O,_=>by simp at O
def acR{Q:D->List D->Prop}{L:List (List D->Prop)}:∀(es:List bp) (k:VC) (env:List D) (Γ:List VT),bV tab Γ env->env.length=Γ.length->Jx Γ.length es=true->(∀e∈es,e.rq.length<=1)->(Ed es k).den P tab env Q L ->
  ∃ds,bV tab (Γ++es.flatMap fun e=>lN e.rq) (env++ds)/\(env++ds).length=(Γ++es.flatMap fun e=>lN e.rq).length/\(∀more,AK P (env++ds++more) Γ.length es)/\k.den P tab (env++ds) Q L
 |[],k,env,Γ,b,l,_,_,h=>⟨[],by simpa using b,by simpa using l,fun _=>trivial,by simpa[Ed]using h⟩
 |e::r,k,env,Γ,b,l,hb,h1,h=>by
  simp only[Jx,aY,fM]at hb;obtain⟨ds,j,m,o⟩:=aFB e.rq (Ed r k) env (by rw[l];exact hb.1) (h1 e (by simp)) h;have f:=F9 j;have g:=b.append l j;obtain⟨d,q1,q2,q3,q4⟩:=acR r k (env++ds) (Γ++lN e.rq) g (by simp[l,f]) (by simpa using hb.2) (fun x i=>h1 x (by simp[i])) o;refine⟨ds++d,by simpa[iU]using q1,by simpa[iU]using q2,fun more=>⟨fun x i=> ?_,?_⟩,by simpa[iU]using q4⟩
  ·have:=m (d++more) x i;rw[l]at this;simpa[iU]using this
  ·have:=q3 more;simpa[iU]using this
end
def acM{cx:Cx}{ops:Array Oper}:∀{l:List Oper} {d:SS} {es:List bp} {s:SS},oP cx ops l d=some (es,s)->s.Γ=d.Γ++es.flatMap fun e=>lN e.rq
 |[],d,es,s,h=>by simp[oP]at h;obtain⟨rfl,rfl⟩:=h;simp
 |o::r,d,es,s,h=>by
  simp only[oP]at h;split at h
  ·simp at h
  ·split at h
   ·simp at h
   ·rename_i e g f i b;simp only[aS,gq]at h;obtain⟨rfl,rfl⟩:=h;rw[acM b];simp[SS.step]
section
variable {P:Program}{fx:Fx}{c0:SC}
def Good(c0:SC)(tab:Nat->List CT)(env:List D)(s:SS)(a:Act)(w:World):Prop :=
 bV tab s.Γ env/\env.length=s.Γ.length/\∃bm tm,aL {c0 with env:=env} (below s.nt) s.σ.get bm tm a w
def Il(P:Program)(c0:SC)(tab:Nat->List CT)(Q:D->List D->Prop)(env:List D)(L:List (List D->Prop))(k:SS->VC)(a:Act)(w:World):Prop :=
 ∃(more:List D) (pre:List (List D->Prop)) (s:SS),Good c0 tab (env++more) s a w/\(pre++L).length=s.lv/\(k s).den P tab (env++more) Q (pre++L)
def avw(P:Program)(fx:Fx)(c0:SC)(Q:D->List D->Prop)(a:Act)(w:World):Prop :=
 ∃(env:List D) (s:SS) (L:List (List D->Prop)),Good c0 fx.cx.tb.tab env s a w/\(yV fx s).den P fx.cx.tb.tab env Q L
def Post(P:Program)(fx:Fx)(c0:SC)(Q:D->List D->Prop)(env:List D)(L:List (List D->Prop))(ex:List (Nat×(SS->VC)))(k:SS->VC):Exit->Act->World->Prop
 |.normal,a,w=>Il P c0 fx.cx.tb.tab Q env L k a w
 |.exit id,a,w=>∃b,Ol id ex=some b/\Il P c0 fx.cx.tb.tab Q env L b a w
 |.ret,a,w=>avw P fx c0 Q a w
 |_,_,_=>False
def Il.weaken{tab:Nat->List CT}{more:List D}{k:SS->VC}(h:Il P c0 tab Q (env++more) (pre++L) k a w):Il P c0 tab Q env L k a w:=by obtain⟨m,p,s,b,d,e⟩:=h;exact⟨more++m,p++pre,s,by simpa[iU]using b,by simpa[iU]using d,by simpa[iU]using e⟩
def Post.weaken{more:List D}{ex:List (Nat×(SS->VC))}{k:SS->VC}{e:Exit}(h:Post P fx c0 Q (env++more) (pre++L) ex k e a w):Post P fx c0 Q env L ex k e a w:=by
 cases e with
 |normal=>exact Il.weaken h
 |exit id=>obtain⟨b,d,f⟩:=h;exact⟨b,d,f.weaken⟩
 |ret=>exact h
 |_=>exact h
end
def am7:∀l:List Oper,(Ae l).1++(Ae l).2=l
 |[]=>rfl
 |o::r=>by
  unfold Ae;split
  ·simp[am7 r]
  ·rfl
section
variable {P:Program}{c:SC}{F:Nat->Prop}{σ:Nat->ST}{bm:Nat->Nat}{tm:Nat->Value}{a:Act}{w:World}{cx:Cx}{Γ:List VT}{gs:Gd}{ops:Array Oper}
def auk{j d:Nat}{v:Bool}(e:(ops[j]?).bind (·.dst)=some d)(h:a.tmps.getD d undef=.bool v):yielded ops a.tmps j=some v:=by
 unfold yielded;rw[e];rw[sW]at h;cases b:a.tmps[d]? with
 |none=>rw[b]at h;simp[undef]at h
 |some u=>rw[b]at h;simp at h;subst h;simp[b]
def azl(A:cY P cx.tb cx.tb=true)(u:c.nt=cx.nt)(J:aL c F σ bm tm a w)(B:bV cx.tb.tab Γ c.env){g i j d:Nat}{v:Bool}(hg:∀x,jf g x->¬F x){o:Oper}(L:ops[i]? =some o){z:bp}(h:aab cx ops j d v Γ g o σ=some z)
  (W:(ops[j]?).bind (·.dst)=some d) (O:a.tmps.getD d undef=.bool v)
  (S:∀r∈z.rq,jH P c.env Γ.length r) {Q:Exit->Act->World->Prop} {K:Act->World->Prop} (N:∀T tm' X w',aL c (fun x=>F x\/jf g x) (di σ z.wr) T tm' X w'->K X w'):wpOp P ops Q i K a w:=by
 have plain:yP cx ops Γ g o σ=some z->wpOp P ops Q i K a w:=fun U=>XP A u J B hg L U S N;unfold aab at h;split at h
 ·rename_i k f;unfold bu at f;split at f
  ·rename_i I b p;cases l:Nat.beq I j with
   |false=>rw[l]at f;simp at f;subst f;exact plain h
   |true=>
    have:I=j:=gL l;subst this;rw[l]at f;simp only[gD]at f;cases m:b==v with
    |false=>rw[m]at f;simp at f
    |true=>
     rw[m]at f;simp only[gD,aS]at f;have:b=v:=by simpa using m
     subst this;subst f;obtain⟨gs,q,C⟩:=acq A u J B hg h;have:gs=[]:=by simp[zI]at q;exact q
     subst this;unfold wpOp;rw[L];simp only;rw[aD (by simp[Region.wanted,p,auk W O])];exact .inl (C.1 (cP _) S K Q N)
  ·rename_i p;split at f
   ·rename_i t x y V;cases G:Nat.beq t d with
    |false=>rw[G]at f;simp at f;subst f;exact plain h
    |true=>
     have:t=d:=gL G;subst this;rw[G]at f;simp only[gD,aS]at f;subst f;obtain⟨gs,q,C⟩:=acq A u J B hg h;have:gs=[]:=by simp[zI,p]at q;exact q
     subst this;unfold wpOp;rw[L];simp only;rw[aD (by simp[Region.wanted,p])];refine .inl ?_;have Y:=C.1 (cP _) S K Q N;unfold Oper.wp at Y ⊢;have e:(execOp a.eval o).run P w=(execOp a.eval {o with op:=.move (bif v then x else y)}).run P w:=by have:a.eval (.tmp t)=.bool v:=O;cases v<;>simp[execOp,V,this,asBool]
     rw[e];exact Y
   ·simp only[aS]at f;subst f;exact plain h
 ·rename_i f;cases k:Jl cx.nt o.dst with
  |false=>rw[k]at h;simp at h
  |true=>
   rw[k]at h;simp only[gD,aS]at h;subst h;have Z:∀d,o.dst=some d->d<c.nt:=fun d U=>by rw[U]at k;simp only[Jl]at k;rw[u];exact gR k
   unfold bu at f;split at f
   ·rename_i I b p;cases l:Nat.beq I j with
    |false=>rw[l]at f;simp at f
    |true=>
     have:I=j:=gL l;subst this;rw[l]at f;simp only[gD]at f;cases m:b==v with
     |true=>rw[m]at f;simp at f
     |false=> unfold wpOp;rw[L];simp only;rw[aw (by simp[Region.wanted,p,auk W O];intro e;rw[e]at m;simp at m)];exact N _ _ _ _ ((J.nT Z (st:=.un) (v:=undef) trivial (fun g h=>by simp[cE]at h)).mono fun x k=>.inl k)
   ·split at f
    ·rename_i t x y _;cases k:Nat.beq t d<;>rw[k]at f<;>simp at f
    ·simp at f
def acX{j d:Nat}{v:Bool}{g:E}:∀{l:List Oper} {b:SS} {es:List bp} {s:SS},Ee cx ops j d v g l b=some (es,s)->s.Γ=b.Γ++(es.flatMap fun e=>lN e.rq)/\s.lv=b.lv
 |[],b,es,s,h=>by simp[Ee]at h;obtain⟨rfl,rfl⟩:=h;simp
 |o::r,b,es,s,h=>by
  simp only[Ee]at h;cases i:Ub b.σ.get d g with
  |false=>rw[i]at h;simp at h
  |true=>
   rw[i]at h;simp only[gD]at h;split at h
   ·simp at h
   ·rename_i e q;split at h
    ·simp at h
    ·rename_i k t f;simp only[aS,gq]at h;obtain⟨rfl,rfl⟩:=h;obtain⟨m,p⟩:=acX f;exact⟨by rw[m];simp[SS.step],by rw[p];rfl⟩
def amH(q:cY P cx.tb cx.tb=true)(t:c.nt=cx.nt){Q:Exit->Act->World->Prop}{rest:List Nat}{j d:Nat}{v:Bool}{y:E}(O:(ops[j]?).bind (·.dst)=some d)(S:y.den c.env=.bool v):∀(l:List Oper) (k:Nat) (f:SS) (es:List bp) (s:SS),(∀i o,l[i]? =some o->ops[k+i]? =some o)->Ee cx ops j d v y l f=some (es,s)->bV cx.tb.tab s.Γ c.env->AK P c.env f.Γ.length es ->
  (∀m tm' z w',aL c (below s.nt) s.σ.get m tm' z w'->wpOps P ops Q rest z w')->∀bm tm a w,aL c (below f.nt) f.σ.get bm tm a w->wpOps P ops Q (List.range' k l.length++rest) a w
 |[],k,f,es,s,B,h,b,C,G,bm,tm,a,w,A=>by simp[Ee]at h;obtain⟨_,rfl⟩:=h;exact G _ _ _ _ A
 |o::r,k,f,es,s,B,h,b,C,G,bm,tm,a,w,A=>by
  simp only[Ee]at h;cases p:Ub f.σ.get d y with
  |false=>rw[p]at h;simp at h
  |true=>
   rw[p]at h;simp only[gD]at h;split at h
   ·simp at h
   ·rename_i e V;split at h
    ·simp at h
    ·rename_i I W g;simp only[aS,gq]at h;obtain⟨rfl,rfl⟩:=h;obtain⟨X,_⟩:=acX g;have u:bV cx.tb.tab f.Γ c.env:=by rw[X]at b;simp only[SS.step,iU]at b;exact b.Tn
     have J:a.tmps.getD d undef=.bool v:=by
      have T:=A.tmps d;unfold Ub at p;split at p
      ·rename_i kk Y L;have:Y=y:=by simpa using p
       subst this;rw[L]at T;have:=(T.1 (cP _)).rd;rw[S]at this;simpa[R]using this
      ·simp at p
     simp only[dU,L3,gY];rw[wpOps_cons];refine azl q t A u (g:=f.nt) (fun x U=>by have:=U.1;simp only[below];omega) (by simpa using B 0 o (by simp)) V O J C.1 fun m tm' z w' Z=> ?_;refine amH q t O S r (k+1) (f.step e) I W (fun i l N=>by have:=B (i+1) l (by simpa using N);simpa[wV,C8 1 i]using this) g b (by have:=C.2;simpa[SS.step]using this) G m tm' z w' ?_
     rw[OL];exact Z.mono fun x U=>by simp only[below,SS.step,jf]at *;omega
def am1(g:cY P cx.tb cx.tb=true)(t:c.nt=cx.nt){Q:Exit->Act->World->Prop}{rest:List Nat}:∀(l:List Oper) (k:Nat) (d:SS) (es:List bp) (s:SS),(∀i o,l[i]? =some o->ops[k+i]? =some o)->oP cx ops l d=some (es,s)->bV cx.tb.tab s.Γ c.env->AK P c.env d.Γ.length es ->
  (∀m tm' p w',aL c (below s.nt) s.σ.get m tm' p w'->wpOps P ops Q rest p w')->∀bm tm a w,aL c (below d.nt) d.σ.get bm tm a w->wpOps P ops Q (List.range' k l.length++rest) a w
 |[],k,d,es,s,q,h,b,u,v,bm,tm,a,w,y=>by simp[oP]at h;obtain⟨_,rfl⟩:=h;exact v _ _ _ _ y
 |o::r,k,d,es,s,q,h,b,u,v,bm,tm,a,w,y=>by
  simp only[oP]at h;split at h
  ·simp at h
  ·rename_i e C;split at h
   ·simp at h
   ·rename_i z G f;simp only[aS,gq]at h;obtain⟨rfl,rfl⟩:=h;obtain⟨L,I,N,_⟩:=G6 f;have j:bV cx.tb.tab d.Γ c.env:=by rw[I]at b;simp only[SS.step,iU]at b;exact b.Tn
    simp only[dU,L3,gY];rw[wpOps_cons];refine XP g t y j (g:=d.nt) (fun x B=>by have:=B.1;simp only[below];omega) (by simpa using q 0 o (by simp)) C u.1 fun m tm' p w' S=> ?_;refine am1 g t r (k+1) (d.step e) z G (fun i J A=>by have:=q (i+1) J (by simpa using A);simpa[wV,C8 1 i]using this) f b (by have:=u.2;simpa[SS.step]using this) v m tm' p w' ?_
    rw[OL];exact S.mono fun x B=>by simp only[below,SS.step,jf]at *;omega
end
section
variable {P:Program}{c0:SC}{tab:Nat->List CT}
def amN{b s:SS}{es:List bp}{V:VC}(k:Kj b es=true)(i:bV tab b.Γ env)(f:env.length=b.Γ.length)(t:s.Γ=b.Γ++es.flatMap fun e=>lN e.rq)
  (h:(Ed es V).den P tab env Q L) :
  ∃ds,bV tab s.Γ (env++ds)/\(env++ds).length=s.Γ.length/\(∀more,AK P (env++ds++more) b.Γ.length es)/\V.den P tab (env++ds) Q L/\∀F bm tm a w,aL {c0 with env:=env} F b.σ.get bm tm a w->aL {c0 with env:=env++ds} F b.σ.get bm tm a w:=by
 unfold Kj at k;simp only[aY]at k;obtain⟨⟨l,d⟩,o⟩:=k;obtain⟨ds,q1,q2,q3,q4⟩:=acR es V env b.Γ i f d (fun e j=>gR (fM.1 o e j)) h;rw[<-t]at q1 q2;refine⟨ds,q1,q2,q3,q4,fun F bm tm a w S=> ?_⟩;simp only[jY]at l;rcases l with g|m
 ·have:ds=[]:=by
   have z:(es.flatMap fun e=>lN e.rq)=[]:=by
    clear q1 q2 q4 t d o f i h q3;induction es with
    |nil=>rfl
    |cons e r ih=>
     simp only[J9,aY]at g;have p:e.rq=[]:=by
      have:=g.1;split at this
      ·assumption
      ·simp at this
     simp[p,lN,ih g.2]
   rw[t,z,qJ]at q2;simp only[jI]at q2;exact mM (by omega)
  subst this;rw[qJ];exact S
 ·exact af0 (c:={c0 with env:=env}) (zm (by rw[f];exact bK _)) (agi m) S
def aFg{cx:Cx}{ops:Array Oper}(y:cY P cx.tb cx.tb=true)(z:c0.nt=cx.nt){Q:D->List D->Prop}{L:List (List D->Prop)}{A:SS}{n id:Nat}{k:SS->VC}{env:List D}{a:Act}{w:World}{X:Exit->Act->World->Prop}
  (hG:Good c0 cx.tb.tab env A a w) (h:(acL cx ops A n k).den P cx.tb.tab env Q L)
  (N:∀ds s v w',Good c0 cx.tb.tab (env++ds) s v w'->s.lv=A.lv->(k s).den P cx.tb.tab (env++ds) Q L->X .normal v w'):(Code.region id ops false).wp P X a w:=by
 obtain⟨e,f,bm,tm,W⟩:=hG;have p:=am7 ops.toList;unfold acL at h;split at h
 ·exact h.elim
 rename_i o r t;rw[t]at p;split at h
 ·exact h.elim
 rename_i j l g;split at h
 ·exact h.elim
 rename_i d hj;split at h
 ·exact h.elim
 rename_i es s u;split at h
 ·rename_i kk g l;cases x:Kj A es&&gU .bool (g.inf cx.tb.tab s.Γ)&&g.gx s.Γ.length with
  |false=>rw[x]at h;exact h.elim
  |true=>
   rw[x]at h;simp only[gD]at h;simp only[aY]at x;obtain⟨_,_,_,O⟩:=G6 u;obtain⟨ds,q1,q2,q3,q4,q5⟩:=amN (c0:=c0) x.1.1 e f (acM u) h;obtain⟨b,Y⟩:∃b,g.den (env++ds)=.bool b:=yw (eu q1 g _ (vX x.1.2));have V:(Tq cx ops j d g (o::r) s n k b).den P cx.tb.tab (env++ds) Q L:=by
    obtain⟨Z,e⟩:=q4;rw[Y]at Z e;cases b with
    |true=>exact Z rfl
    |false=>exact e rfl
   unfold Tq at V;split at V
   ·rename_i B j e;cases C:Kj s B with
    |false=>rw[C]at V;exact V.elim
    |true=>
     rw[C]at V;simp only[gD]at V;obtain⟨G,I⟩:=acX e;obtain⟨l,t,Z,p3,p4,p5⟩:=amN (c0:=c0) C q1 q2 G V;have S:g.den (env++ds++l)=.bool b:=by rw[afC (by rw[q2];exact bK _) g x.2];exact Y
     have J:(Ae ops.toList).1.length+(o::r).length=ops.size:=by have:=congrArg List.length p;simpa using this
     refine wp_region ?_;rw[QV, <-J, <-List.range'_append_1];refine am1 (c:={c0 with env:=env++ds}) y z _ 0 A es s (fun i T f=> ?_) u q1 (by have:=q3 [];rw[qJ]at this;exact this) (fun m q v w' U=> ?_) bm tm a w (q5 _ _ _ _ _ W)
     ·have:ops.toList[i]? =some T:=by rw[<-p,mN (db.1 f).1];exact f
      simpa using this
     ·rw[<-qJ (List.range' _ _)];refine amH (c:={c0 with env:=env++ds++l}) y z hj S _ _ s B j (fun i T f=> ?_) e t (by have:=p3 [];rw[qJ]at this;exact this) (fun m q v w' W=> ?_) m q v w' (p5 _ _ _ _ _ U)
      ·have e:((Ae ops.toList).1++(o::r))[(Ae ops.toList).1.length+i]? =some T:=by rw[og (by omega),Nat.add_sub_cancel_left];exact f
       rw[p]at e;simpa using e
      ·exact N (ds++l) j v w' ⟨by rw[<-iU];exact t,by rw[<-iU];exact Z,m,q,by rw[<-iU];exact W⟩ (by rw[I,O]) (by rw[<-iU];exact p4)
   ·exact V.elim
 ·exact h.elim
end
section
variable {P:Program}{fx:Fx}{c0:SC}
def ani(Z:cY P fx.cx.tb fx.cx.tb=true)(hnt:c0.nt=fx.cx.nt)(hm:P.follows .mixedOrders=true)(Q:D->List D->Prop):∀(g:Code) (d:SS) (ex:List (Nat×(SS->VC))) (k:SS->VC) (env:List D) (L:List (List D->Prop)) (a:Act) (w:World),
  Good c0 fx.cx.tb.tab env d a w->L.length=d.lv->(sx fx g d ex k).den P fx.cx.tb.tab env Q L->g.wp P (Post P fx c0 Q env L ex k) a w:=by
 intro g;induction g with
 |skip=> intro d ex k env L a w G i h;exact wp_skip ⟨[],[],d,by simpa using G,by simpa using i,by simpa[sx]using h⟩
 |region id ops t=>
  intro d ex k env L a w G i h;simp only[sx]at h;split at h
  ·rename_i es s u;generalize g:((!t||SQ ops es d)&&(J9 es||d.σ.all fun x=>oR d.Γ.length (d.σ.get x.1))&&Jx d.Γ.length es&&acp es)=C at h;cases C with
   |false=>exact h.elim
   |true=>
    simp only[gD]at h;simp only[aY]at g;obtain⟨⟨⟨l,S⟩,j⟩,T⟩:=g;obtain⟨U,N,bm,tm,V⟩:=G;obtain⟨W,q1,q2,q3,q4⟩:=acR es (k s) env d.Γ U N j (fun e o=>gR (fM.1 T e o)) h;have A:=acM u;rw[<-A]at q1 q2;obtain⟨_,_,_,v⟩:=G6 u;have p:aL {c0 with env:=env++W} (below d.nt) d.σ.get bm tm a w:=by
     simp only[jY]at S;rcases S with B|q
     ·have:W=[]:=by
       have I:(es.flatMap fun e=>lN e.rq)=[]:=by
        clear q1 q2 q3 q4 h A u l j T;induction es with
        |nil=>rfl
        |cons e r ih=>
         simp only[J9,aY]at B;have o:e.rq=[]:=by
          have:=B.1;split at this
          ·assumption
          ·simp at this
         simp[o,lN,ih B.2]
       rw[A,I,qJ]at q2;have:=q2;simp only[jI]at this;exact mM (by omega)
      subst this;rw[qJ];exact V
     ·exact af0 (c:={c0 with env:=env}) (zm (by rw[N];exact bK _)) (agi q) V
    have A:=q3 [];rw[qJ]at A;have r:∀j B X Y,aL {c0 with env:=env++W} (below s.nt) s.σ.get j B X Y->Post P fx c0 Q env L ex k .normal X Y:=fun j B X Y I=>
     ⟨W,[],s,⟨q1,q2,j,B,I⟩,by rw[iw,i,v],by simpa using q4⟩
    cases t with
    |false=>exact aFl (c:={c0 with env:=env++W}) Z hnt u q1 A r p
    |true=>exact aFk (c:={c0 with env:=env++W}) Z hnt hm u (by simpa using l) q1 A r p
  ·cases t with
   |true=>exact h.elim
   |false=> simp only[yf]at h;exact aFg Z hnt G h fun W s X Y j v l=>⟨W,[],s,j,by rw[iw,i,v],by simpa using l⟩
 |seq x y l j=>
  intro d ex k env L a w G i h;simp only[sx]at h;refine wp_seq (AY (l d ex _ env L a w G i h) fun e X Y p=> ?_);cases e with
  |normal=> obtain⟨more,pre,s,u,A,l⟩:=p;exact AY (j s ex k (env++more) (pre++L) X Y u A l) fun e a w p=>p.weaken
  |_=>exact p
 |cond x y z j r=>
  intro d ex k env L a w G i h;simp only[sx]at h;split at h
  ·rename_i kk e t;generalize g:gU .bool (e.inf fx.cx.tb.tab d.Γ)=C at h;cases C with
   |false=>exact h.elim
   |true=>
    simp only[gD]at h;obtain⟨U,N,bm,tm,V⟩:=G;obtain⟨b,q,I⟩:=Dn U (vX g) ((dL V t).1 (cP _));obtain⟨o,l⟩:=h;rw[q]at o l;refine wp_cond I ?_;cases b with
    |true=>exact j d ex k env L a w ⟨U,N,bm,tm,V⟩ i (o rfl)
    |false=>exact r d ex k env L a w ⟨U,N,bm,tm,V⟩ i (l rfl)
  ·exact h.elim
 |block id b ih=>
  intro d ex k env L a w G i h;simp only[sx]at h;refine wp_block (AY (ih d _ k env L a w G i h) fun e X Y p=> ?_);cases e with
  |normal=>exact p
  |exit J=>
   obtain⟨j,o,l⟩:=p;simp only[Ol]at o;simp only[Exit.inBlock];by_cases e:J=id
   ·rw[aD e];subst e;have:Nat.beq J J=true:=by simp
    rw[this]at o;simp only[gD,aS]at o;subst o;exact l
   ·rw[aw e];have:Nat.beq id J=false:=by
     cases q:Nat.beq id J with
     |false=>rfl
     |true=>exact absurd (gL q).symm e
    rw[this]at o;exact⟨j,o,l⟩
  |ret=>exact p
  |_=>exact p
 |exit id=>
  intro d ex k env L a w G i h;simp only[sx]at h;refine wp_exit ?_;split at h
  ·rename_i j q;exact⟨j,q,[],[],d,by simpa using G,by simpa using i,by simpa using h⟩
  ·exact h.elim
 |loop b ih=>
  intro d ex k env L a w G i h;simp only[sx]at h;generalize ak9 fx.cx.tb.tab b d=H at h;split at h
  ·rename_i es j;generalize g:(Nat.beq H.hd.lv (d.lv+1)&&decide (H.hd.Γ=d.Γ++H.eD)&&Nat.beq H.slots.length H.eD.length)=C at h;cases C with
   |false=>exact h.elim
   |true=>
    simp only[gD]at h;simp only[aY,dr]at g;obtain⟨⟨v,C⟩,q⟩:=g;replace v:=gL v;obtain⟨U,N,bm,tm,V⟩:=G;obtain⟨I,q,o,l⟩:=h;have r:∀g,fK fx.cx.tb.tab H.eD g->bV fx.cx.tb.tab H.hd.Γ (env++g)/\(env++g).length=H.hd.Γ.length:=fun g t=>by rw[C];exact⟨U.append N t,by simp[N,F9 t]⟩
    obtain⟨b1,b2,b3,C,J,B,t⟩:=ags (c:=c0) (env0:=env) (env':=env) j N ⟨[],by simp⟩ U V;refine wp_loop_ghost (fun m a w=>∃g,q g=m/\fK fx.cx.tb.tab H.eD g/\dC g/\I g/\∃bm tm,aL {c0 with env:=env++g} (below H.hd.nt) H.hd.σ.get bm tm a w) (q (es.map (·.den env))) ⟨_,rfl,b1,b2,o,bm,B,t⟩ ?_;rintro m a w ⟨g,rfl,o,t,B,bm,tm,C⟩;obtain⟨u,A⟩:=r g o;refine AY (ih H.hd ex _ (env++g) ((fun j=>I j/\q j<q g)::L) a w ⟨u,A,bm,tm,C⟩ (by simp[i,v]) (l g o t B)) fun e X Y p=> ?_;have u:∀{e a w},Post P fx c0 Q (env++g) ((fun j=>I j/\q j<q g)::L) ex (QF fx.cx.tb.tab d.Γ.length d.nt d.lv H) e a w->e≠.normal->Post P fx c0 Q env L ex k e a w:=fun {e a w} p l=>by
     have:Post P fx c0 Q env L ex (QF fx.cx.tb.tab d.Γ.length d.nt d.lv H) e a w:=Post.weaken (more:=g) (pre:=[fun j=>I j/\q j<q g]) p;cases e with
     |normal=>exact absurd rfl l
     |exit id=>exact this
     |ret=>exact this
     |_=>exact this
    cases e with
    |normal=>
     obtain⟨more,pre,s,q1,q2,q3⟩:=p;simp only[QF]at q3;split at q3
     ·rename_i l O;cases l:Nat.blt d.lv s.lv with
      |false=>rw[l]at q3;exact q3.elim
      |true=>
       rw[l]at q3;simp only[gD]at q3;obtain⟨l,t,o,v,r⟩:=q1;obtain⟨v,A,C,J,S,t,B⟩:=ags (c:=c0) (env0:=env) (env':=env++g++more) O N ⟨g++more,by simp⟩ l r;have l:(pre++(fun j=>I j/\q j<q g)::L)[s.lv-d.lv-1]? =some (fun j=>I j/\q j<q g):=by
        have g:s.lv-d.lv-1=pre.length:=by simp only[jI,dU]at q2;omega
        rw[g];simp
       simp only[VC.den,l]at q3;exact⟨_,q3.2,_,rfl,v,A,q3.1,o,t,B⟩
     ·exact q3.elim
    |exit id=>exact u p (by simp)
    |goto l=>exact p.elim
    |ret=>exact u p (by simp)
    |panic g=>exact p.elim
    |outgrown=>exact p.elim
  ·exact h.elim
 |ret=> intro d ex k env L a w G i h;simp only[sx]at h;exact wp_ret ⟨env,d,L,G,h⟩
 |rangeFunc f p g b j o=>intro d ex k env L a w G i h;exact h.elim
 |scope b ih=>intro d ex k env L a w G i h;exact h.elim
 |label l=>intro d ex k env L a w G i h;exact h.elim
 |goto l=>intro d ex k env L a w G i h;exact h.elim
 |refuse s=>intro d ex k env L a w G i h;exact h.elim
end
end
end Go.Proofs.YtoomhbopolalnaaGreatDoor
