/- The head of a loop: the state that holds at each round's beginning. No program in sight. -/
import Derived.Test.YtoomhbopolalnabGreatDoorT6
set_option linter.all false
namespace Go.Proofs.YtoomhbopolalnabGreatDoor
variable {a:Act}{Q:D->List D->Prop}{m:LV}{L pre:List (List D->Prop)}{env env':List D}{g n:Nat}{F:Nat->Prop}{σ:Nat->ST}{tm tm':Nat->Value}{v:Value}{w:World}
section
open Go.RowKit
variable [GC]
def nC(n:Nat)(env env':List D):Prop:=∀e:E,e.gr n=true->e.den env'=e.den env
def zq{more:List D}(h:n<=env.length):nC n env (env++more):=fun e b=>agl h e b
def nC.symm(h:nC n env env'):nC n env' env:=fun e b=>(h e b).symm
def nC.trans{v:List D}(h:nC n env env')(d:nC n env' v):nC n env v:=fun e b=>(d e b).trans (h e b)
section
variable {w:World}{M:Addr->Prop}{bm:Nat->Nat}{tm:Nat->Value}{n:Nat}{env env':List D}
def qu(h:nC n env env'){gs:Gd}(hb:vM n gs=true):cP env' gs↔cP env gs:=by unfold vM at hb;have hb:=fH.1 hb;unfold cP;exact⟨fun q x b=>by rw[<-h x.1 (hb x b)];exact q x b,fun q x b=>by rw[h x.1 (hb x b)];exact q x b⟩
def anj(h:nC n env env'){k:K}{e:E}{v:Value}(hb:e.gr n=true)(r:cB w M tm env k e v):cB w M tm env' k e v:=by cases k<;>simp only[cB,h e hb]at * <;>exact r
def ank(h:nC n env env'){st:ST}{v:Value}(hb:pd n st=true)(r:rC w M bm tm env st v):rC w M bm tm env' st v:=by
 cases st with
 |v gs k e=> simp only[pd,aX]at hb;exact⟨fun b=>anj h hb.2 (r.1 ((qu h hb.1).1 b)),fun b=>r.2 fun q=>b ((qu h hb.1).2 q)⟩
 |ptr gs id off=> simp only[pd]at hb;exact⟨fun b=>r.1 ((qu h hb).1 b),fun b=>r.2 fun q=>b ((qu h hb).2 q)⟩
 |ro gs e off=> simp only[pd,aX]at hb;exact⟨fun b=>by rw[h e hb.2];exact r.1 ((qu h hb.1).1 b),fun b=>r.2 fun q=>b ((qu h hb.1).2 q)⟩
 |gp gs g x i=> simp only[pd,aX]at hb;exact⟨fun b=>by rw[h x (by simp[hb]),h i (by simp[hb])];exact r.1 ((qu h (by simp[hb])).1 b),fun b=>r.2 fun q=>b ((qu h (by simp[hb])).2 q)⟩
 |mp gs g d i off=> simp only[pd,aX]at hb;exact⟨fun b=>by rw[h i hb.2];exact r.1 ((qu h hb.1).1 b),fun b=>r.2 fun q=>b ((qu h hb.1).2 q)⟩
 |iv gs g f d i off l=> simp only[pd,aX]at hb;exact⟨fun b=>by rw[h i hb.1.2,h l hb.2];exact r.1 ((qu h hb.1.1).1 b),fun b=>r.2 fun q=>b ((qu h hb.1.1).2 q)⟩
 |ip gs g f d i off j m o=> simp only[pd,aX]at hb;exact⟨fun b=>by rw[h i hb.1.2,h j hb.2];exact r.1 ((qu h hb.1.1).1 b),fun b=>r.2 fun q=>b ((qu h hb.1.1).2 q)⟩
 |_=>trivial
def ane(h:nC n env env'):∀{cs:List (K×E)} {vs:List Value},(∀x∈cs,x.2.gr n=true)->dm w M tm env cs vs->dm w M tm env' cs vs
 |[],_,_,b=>b
 |c::r,vs,hb,⟨v,q,e,h1,h2⟩=>⟨v,q,e,anj h (hb c (by simp)) h1,ane h (fun x hx=>hb x (by simp[hx])) h2⟩
def tR.Dd{c:SC}{id:Nat}{cs:List (K×E)}(h:nC n c.env env')(hb:∀x∈cs,x.2.gr n=true)(r:tR c w M bm tm id cs):tR {c with env:=env'} w M bm tm id cs:=by obtain⟨v,T,b,d,e⟩:=r;exact⟨v,T,b,ane h hb d,e⟩
def agK{c:SC}(h:nC n c.env env')(hb:∀l,pd n (σ l)=true)(b:aN c F σ bm tm a w):aN {c with env:=env'} F σ bm tm a w :=
 {b with
  tmps:=fun t=>ank h (hb _) (b.tmps t)
  box:=fun id k i=>(b.box id k i).Dd h (by have:=hb (3*id+1);rw[i]at this;simpa[pd]using this)
  live:=fun g m d=>⟨(b.live g m d).sp,fun e p j=>by
   have f:e.gr n=true:=by have:=hb (3*g+2);rw[d]at this;simpa[pd,j]using this
   show tT w (tm g) m.n _ (e.den env');rw[h e f];exact(b.live g m d).bd e p j,(b.live g m d).dp⟩}
def YL:∀{σ:Sg} {l:Nat},σ.get l≠.un->∃x∈σ,x.1=l
 |[],l,h=>absurd rfl h
 |(b,s)::r,l,h=>by
  simp only[Sg.get]at h;cases e:Nat.beq b l with
  |true=>exact⟨(b,s),by simp,gI e⟩
  |false=> rw[e]at h;obtain⟨x,hx,d⟩:=YL (σ:=r) h;exact⟨x,by simp[hx],d⟩
def ag2{σ:Sg}(h:σ.all (fun x=>pd n (σ.get x.1))=true)(l:Nat):pd n (σ.get l)=true:=by
 by_cases e:σ.get l=.un
 ·rw[e];rfl
 ·obtain⟨x,b,d⟩:=YL e;have:=fH.1 h x b
  rwa[d]at this
end
def Oz{k:K}(h:J2 n k=true)(hg:k.has g):g<n:=by
 cases k with
 |own b=>have:g=b:=hg;subst this;exact gT h
 |ag d=> have:=fH.1 h _ (show KK.own g∈d from hg);exact gT this
 |_=>exact hg.elim
def an0{tab:Nat->List CT}{Γ:List VT}{σ:Nat->ST}:∀{l:List Slot} {ks:List K} {t:List VT} {vs:List (K×E)},Cl tab Γ σ l ks t=some vs->l.length=vs.length/\ks.length=vs.length/\t.length=vs.length /\
  ∀(i:Nat) (s:Slot),l[i]? =some s->∃k ty f g,ks[i]? =some k/\t[i]? =some ty/\vs[i]? =some (f,g)/\Aj σ s=some (f,g)/\g.inf tab Γ=some ty/\Gv tab σ ty k f=true
 |[],[],[],vs,h=>by simp[Cl]at h;subst h;exact⟨rfl,rfl,rfl,fun i s m=>by simp at m⟩
 |s::l,k::ks,ty::t,vs,h=>by
  simp only[Cl]at h;split at h
  ·rename_i f g r h1 h2;cases j:(decide (g.inf tab Γ=some ty)&&Gv tab σ ty k f)with
   |false=>rw[j]at h;simp at h
   |true=>
    rw[j]at h;simp only[gD,aS]at h;subst h;simp only[aX,du]at j;obtain⟨o,p,q,u⟩:=an0 h2;refine⟨by simp[o],by simp[p],by simp[q],fun i v e=> ?_⟩;cases i with
    |zero=>simp at e;subst e;exact⟨k,ty,f,g,rfl,rfl,rfl,h1,j.1,j.2⟩
    |succ i=> simp at e;obtain⟨a,b,c,d,q1,q2,q3,q4⟩:=u i v e;exact⟨a,b,c,d,by simpa using q1,by simpa using q2,by simpa using q3,q4⟩
  ·simp at h
 |[],[],_::_,vs,h=>by simp[Cl]at h
 |[],_::_,_,vs,h=>by simp[Cl]at h
 |_::_,[],_,vs,h=>by simp[Cl]at h
 |_::_,_::_,[],vs,h=>by simp[Cl]at h
def Vq{nt:Nat}:∀{ks:List K} {o:Nat},BR nt o ks=true->∀{i:Nat} {k:K},ks[i]? =some k->k=.d\/k=.own (nt+(o+i))
 |[],o,h,i,k,b=>by simp at b
 |.d::r,o,h,i,k,b=>by
  cases i with
  |zero=>simp at b;exact .inl b.symm
  |succ i=>
   simp only[BR]at h;simp at b;have:=Vq h b
   rwa[show o+1+i=o+(i+1) by omega]at this
 |.own g::r,o,h,i,k,b=>by
  simp only[BR,aX]at h;cases i with
  |zero=>simp at b;subst b;exact .inr (by rw[gI h.1];simp)
  |succ i=>
   simp at b;have:=Vq h.2 b
   rwa[show o+1+i=o+(i+1) by omega]at this
 |.full::r,o,h,i,k,b=>by simp[BR]at h
 |.ag _::r,o,h,i,k,b=>by simp[BR]at h
def WB:∀{ks:List K} {vs:List (K×E)} {i g' g:Nat} {e:E},ks[i]? =some (.own g')->vs[i]? =some (.own g,e)->g∈sN ks vs
 |[],_,i,g',g,e,h,_=>by simp at h
 |_::_,[],i,g',g,e,_,h=>by simp at h
 |k::ks,(d,f)::vs,i,g',g,e,h,b=>by
  cases i with
  |zero=>simp at h b;obtain⟨rfl,rfl⟩:=b;subst h;simp[sN]
  |succ i=> simp at h b;have ih:=WB h b;cases k<;>cases d<;>simp[sN,ih]
def aea:∀{ks:List K} {vs:List (K×E)},GF (sN ks vs)=true->∀{i j m o g g':Nat} {e p:E},i<j->ks[i]? =some (.own m)->ks[j]? =some (.own o)->vs[i]? =some (.own g,e)->vs[j]? =some (.own g',p)->g≠g'
 |[],_,_,i,j,_,_,_,_,_,_,_,h,_,_,_=>by simp at h
 |_::_,[],_,i,j,_,_,_,_,_,_,_,_,_,h,_=>by simp at h
 |k::ks,(q,u)::vs,b,i,j,m,o,g,g',e,p,r,h1,h2,d,f=>by
  obtain⟨j,rfl⟩:∃t,j=t+1:=⟨j-1,by omega⟩;simp at h2 f;cases i with
  |zero=> simp at h1 d;obtain⟨rfl,rfl⟩:=d;subst h1;simp only[sN,GF,aX,qi,YZ,oH]at b;have:=WB h2 f;exact fun h=>b.1 (h▸this)
  |succ i=>
   simp at h1 d;have l:GF (sN ks vs)=true:=by cases k<;>cases q<;>simp only[sN]at b<;>first|exact b|(simp only[GF,aX]at b;exact b.2)
   exact aea l (show i<j by omega) h1 h2 d f
section
variable {tb:TB}{H:Head}{s:SS}{n nt:Nat}{es:List E}{env0 env':List D}{c:SC}{bm:Nat->Nat}{tm:Nat->Value}{a:Act}{w:World}
def xP(σ:Nat->ST)(bm:Nat->Nat)(tm:Nat->Value)(a:Act)(w:World):Slot->Value
 |.t t=>a.tmps.getD t undef
 |.b id j=>(w.cell? ⟨bm id,j,none⟩).getD undef
 |.m g=>match σ (3*g+2)with|.live ⟨_,some (_,some (v,_))⟩=>tm v|_=>undef
def acI{d:D}(h:wL d v):Fits d:=LY (w:=default) (M:=fun _=>False) _ _ (h _ _)
def aiV:∀{l:List D},(∀(i:Nat) (d:D),l[i]? =some d->Fits d)->dI l
 |[],_=>trivial
 |d::r,h=>⟨h 0 d rfl,aiV fun i b hd=>h (i+1) b (by simpa using hd)⟩
def aiW:∀{l:List (List D)},(∀r∈l,dI r)->Ig l
 |[],_=>trivial
 |r::l,h=>⟨h r (by simp),aiW fun x hx=>h x (by simp[hx])⟩
def anx{m:Nat}{Q:Nat->Nat->D->Value->Prop}{d:D}(hb:tT w v m Q d)(h:∀i j d u,Q i j d u->Fits d):Fits d:=by
 obtain⟨f,len,cap,e,y,g,z,A,B,k,C,l⟩:=hb;rw[g];refine⟨by omega,aiW fun r p=> ?_⟩;obtain⟨i,q,rfl⟩:=tX p;refine aiV fun j d t=> ?_;rcases f with _|⟨b,o,s⟩
 ·have:=k rfl;omega
 ·obtain⟨u,_,x⟩:=(l b o s rfl).2 i _ (bX q) j d t;exact h _ _ _ _ x
def aEy{B:Nat}{p:Option (Nat×List Nat)}{i j:Nat}{d:D}{u:Value}(h:CP B w tm n p i j d u):Fits d:=by
 rcases p with _|⟨g,m⟩
 ·exact acI h
 ·by_cases b:m.getD j 0=0
  ·exact acI (h.1 b)
  ·exact anx (h.2 b).2.2 fun _ _ _ _ h=>acI h
def aHi(d:aN c F σ bm tm a w){g:Nat}{k:K}{e:E}(h:Aj σ (.m g)=some (k,e)):k=.d/\Fits (e.den c.env):=by
 simp only[Aj]at h;split at h
 ·rename_i f i p b;simp only[aS,gj]at h;obtain⟨rfl,rfl⟩:=h;exact⟨rfl,anx ((d.live g _ b).bd _ _ rfl) fun _ _ _ _ h=>aEy h⟩
 ·simp at h
structure AQ(tm tm':Nat->Value)(env env':List D)(m m':LV):Prop where
 n:m'.n=m.n
 b:(m.body=none/\m'.body=none)\/∃e e' dp vC,m.body=some (e,dp)/\m'.body=some (e',vC)/\e.den env'=e'.den env/\((dp=none/\vC=none)\/∃gv jn ms,dp=some (gv,ms)/\vC=some (jn,ms)/\tm' gv=tm jn)
def AQ.deep{f:LV}(h:AQ tm tm' env env' m f){e:E}{v:Nat}{i:List Nat}(j:m.body=some (e,some (v,i))):∃k g,f.body=some (k,some (g,i))/\tm' v=tm g:=by
 rcases h.b with⟨b,_⟩|⟨y,l,z,p,b,o,_,q⟩
 ·rw[j]at b;cases b
 ·rw[j]at b;simp only[aS,gj]at b;rcases q with⟨d,_⟩|⟨A,r,t,d,u,x⟩
  ·rw[d]at b;cases b.2
  ·rw[d]at b;simp only[aS,gj]at b;obtain⟨_,rfl,rfl⟩:=b;exact⟨l,r,by rw[o,u],x⟩
def AQ.blk{d:LV}{b:Nat}(h:AQ tm tm' env env' m d)(hg:tm' g=tm g)(hb:jy tm' g m b):jy tm g d b:=by
 rcases hb with hb|⟨e,r,f,cells,u,i,j,k,l⟩
 ·rw[hg]at hb;exact .inl hb
 ·obtain⟨o,v,p,q⟩:=h.deep i;exact .inr ⟨o,v,f,cells,u,p,by rw[<-q];exact j,k,l⟩
def AQ.xD{tm tm':Nat->Value}{env env':List D}{m q:LV}{g:Nat}{p:Addr}(h:AQ tm tm' env env' m q)(hg:tm' g=tm g)(hb:xD tm' g m p):xD tm g q p:=by
 rcases hb with⟨b,o,s,len,cap,d,i,j,k⟩|⟨e,z,r,cells,u,d,i,j,k⟩
 ·rw[hg]at d;refine .inl ⟨b,o,s,len,cap,d,i,j,fun t=> ?_⟩;rw[h.n];refine k ?_;rcases h.b with⟨l,_⟩|⟨A,B,C,x,_,f,_⟩
  ·exact l
  ·rw[t]at f;cases f
 ·obtain⟨y,v,l,f⟩:=h.deep d;exact .inr ⟨y,v,r,cells,u,l,by rw[<-f];exact i,j,k⟩
def AQ.live{c:SC}{y:LV}(h:AQ tm tm' c.env env' m y)(hg:tm' g=tm g)(l:sV c w tm g y):sV {c with env:=env'} w tm' g m:=by
 refine⟨?_,fun e S b=> ?_,fun e A z b=> ?_⟩
 ·have:=l.sp;rw[h.n]at this;rw[hg];exact this
 ·rcases h.b with⟨f,_⟩|⟨B,C,G,p,f,I,J,L⟩
  ·rw[f]at b;cases b
  ·rw[f]at b;simp only[aS,gj]at b;obtain⟨rfl,rfl⟩:=b;have:=l.bd C p I;rw[h.n]at this;show tT w (tm' g) m.n _ (B.den env');rw[J,hg];refine this.keep (fun _ _=>rfl) fun i j d u q=> ?_;rcases L with⟨rfl,rfl⟩|⟨A,v,z,rfl,rfl,k⟩
   ·exact q
   ·refine⟨q.1,fun N=> ?_⟩;obtain⟨⟨cells,o,r⟩,t⟩:=q.2 N;exact⟨⟨cells,by rw[k];exact o,r⟩,t⟩
 ·obtain⟨O,v,k,o⟩:=h.deep b;obtain⟨cells,r,t,Q,x⟩:=l.dp O v z k;exact⟨cells,by rw[o];exact r,t,Q,by rw[hg];exact x⟩
def aHj(i:aN c F σ bm tm a w){sl:Slot}{k:K}{e:E}(f:∀g,sl≠.m g)(h:Aj σ sl=some (k,e)):cB w (MM c.M0 bm tm σ) tm c.env k e (xP σ bm tm a w sl):=by
 cases sl with
 |m g=>exact absurd rfl (f g)
 |t t=>
  simp only[Aj]at h;split at h
  ·rename_i u x d;simp only[aS,gj]at h;obtain⟨rfl,rfl⟩:=h;have:=i.tmps t;rw[d]at this;exact this.1 (cR _)
  ·simp at h
 |b id j=>
  simp only[Aj]at h;split at h
  ·rename_i l d;obtain⟨y,T,o,r,_⟩:=i.box id l d;obtain⟨v,p,q⟩:=r.get h;have:w.cell? ⟨bm id,j,none⟩=some v:=by rw[yg w _ j _ T _ o];simpa using p
   simp only[xP,this,j0];exact q
  ·simp at h
def ahb(hb:back tb.tab n nt H s=some es)(hn:env0.length=n)(hpre:∃more,env'=env0++more)(ax:bV tb.tab s.Γ env')(hs:aN {c with env:=env'} (below s.nt) s.σ.get bm tm a w) :
  fO tb.tab H.eJ (es.map (·.den env'))/\dI (es.map (·.den env'))/\es.length=H.slots.length/\H.eJ.length=H.slots.length/\nt+H.slots.length=H.hd.nt/\∃tm',aN {c with env:=env0++es.map (·.den env')} (below H.hd.nt) H.hd.σ.get bm tm' a w:=by
 unfold back at hb;split at hb
 ·rename_i vs hvs;generalize l:(GF (sN H.ks vs)&&BR nt 0 H.ks&&Nat.beq H.hd.nt (nt+H.slots.length)&&Nat.ble nt s.nt&&Nat.blt 0 nt&&H.hd.σ.all (fun x=>Bi tb.tab n nt H s.σ.get (sN H.ks vs) x.1 (H.hd.σ.get x.1)))=C at hb;cases C with
  |false=>simp at hb
  |true=>
   simp only[gD,aS]at hb;subst hb;simp only[aX]at l;obtain⟨⟨⟨⟨⟨hnd,hks⟩,hnt⟩,f⟩,g⟩,j⟩:=l;replace g:=gT g;replace hnt:=gI hnt;replace f:=gT f;obtain⟨l1,l2,l3,f⟩:=an0 hvs;obtain⟨more,rfl⟩:=hpre;have T:∀(i:Nat) (sl:Slot),H.slots[i]? =some sl->∃k ty L B,H.ks[i]? =some k/\H.eJ[i]? =some ty/\vs[i]? =some (L,B)/\((∃g,sl=.m g/\L=.d)\/cB w (MM c.M0 bm tm s.σ.get) tm (env0++more) L B (xP s.σ.get bm tm a w sl))/\bG tb.tab ty (B.den (env0++more))/\Gv tb.tab s.σ.get ty k L=true/\Fits (B.den (env0++more))/\Aj s.σ.get sl=some (L,B):=fun i sl p=>by
    obtain⟨k,ty,L,B,q1,q2,q3,q4,q5,C⟩:=f i sl p;by_cases o:∃g,sl=.m g
    ·obtain⟨g,rfl⟩:=o;obtain⟨z1,z2⟩:=aHi hs q4;exact⟨k,ty,L,B,q1,q2,q3,.inl ⟨g,rfl,z1⟩,eG ax B ty q5,C,z2,q4⟩
    ·have hr:=aHj hs (fun g h=>o ⟨g,h⟩) q4;exact⟨k,ty,L,B,q1,q2,q3,.inr hr,eG ax B ty q5,C,LY _ _ hr.rd,q4⟩
   have Q:∀l,H.hd.σ.get l≠.un->Bi tb.tab n nt H s.σ.get (sN H.ks vs) l (H.hd.σ.get l)=true:=fun l V=>by obtain⟨x,W,rfl⟩:=YL V;exact fH.1 j x W
   generalize hys:(vs.map (·.2)).map (·.den (env0++more))=ys;have hyl:ys.length=H.slots.length:=by rw[<-hys];simp[l1]
   have acu:∀(i:Nat) (L:K) (B:E),vs[i]? =some (L,B)->ys[i]? =some (B.den (env0++more)):=fun i L B h=>by rw[<-hys];simp[h]
   have abk:nC n (env0++more) (env0++ys):=(zq (by omega)).symm.trans (zq (by omega));have N:∀(i:Nat) (sl:Slot),H.slots[i]? =some sl->i<H.slots.length:=fun i sl h=>(dh.1 h).1
   let tm':Nat->Value:=fun g=>if nt<=g/\g<nt+H.slots.length then((H.slots[g-nt]?).map (xP s.σ.get bm tm a w)).getD undef else tm g
   have q:∀g,g<nt->tm' g=tm g:=fun g Y=>aw (by omega);have X:∀(i:Nat) (sl:Slot),H.slots[i]? =some sl->tm' (nt+i)=xP s.σ.get bm tm a w sl:=fun i sl p=>by have:=N i sl p;show(if _ then _ else _)=_;rw[aC (by omega),show nt+i-nt=i by omega,p];rfl
   have O:∀g m,H.hd.σ.get (3*g+2)=.live m->(g<nt/\g∉sN H.ks vs/\(∀x,cE (.live m) x->x<nt+H.slots.length)/\∃m',s.σ.get (3*g+2)=.live m'/\AQ tm tm' (env0++more) (env0++ys) m m') \/
     (∃i sl L B el,g=nt+i/\H.slots[i]? =some sl/\H.ks[i]? =some (.own g)/\vs[i]? =some (L,B)/\m=⟨(tb.tab el).length,none⟩/\tm' g=xP s.σ.get bm tm a w sl /\
     ((L=.full/\∃ad,xP s.σ.get bm tm a w sl=.slice ad 0 0)\/(∃I,L=.own I/\s.σ.get (3*I+2)=.live m/\xP s.σ.get bm tm a w sl=tm I))):=by
    intro g m V;have f:=Q (3*g+2) (by rw[V];simp);rw[V]at f;simp only[Bi,aX,jM,show(3*g+2)/3=g by omega]at f;obtain⟨_,f⟩:=f;rcases f with⟨⟨⟨U,y⟩,A⟩,Z⟩|⟨⟨A,Z⟩,y⟩
    ·right;have y:=gT y;simp only[du]at A;split at Z
     ·rename_i el j;replace Z:=gI Z;have o:m=⟨(tb.tab el).length,none⟩:=by
       obtain⟨r,p⟩:=m;simp only at Z;cases p with
       |none=>rw[Z]
       |some _=>simp at U
      have hlt:g-nt<H.ks.length:=(dh.1 A).1;have r:H.slots[g-nt]? =some (H.slots[g-nt]'(by omega)):=bX (by omega);obtain⟨k,ty,L,B,q1,q2,q3,q4,q5,C,_,_⟩:=T _ _ r;rw[A]at q1;simp at q1;subst q1;rw[j]at q2;simp at q2;subst q2;have Y:g=nt+(g-nt):=by omega
      refine⟨g-nt,_,L,B,el,Y,r,A,q3,o,(by have:=X _ _ r;rwa[show nt+(g-nt)=g by omega]at this),?_⟩;cases L with
      |d=>simp[Gv]at C
      |ag _=>simp[Gv]at C
      |full=>
       rcases q4 with⟨_,_,h⟩|q4
       ·cases h
       ·exact .inl ⟨rfl,q4.2⟩
      |own I=>
       rcases q4 with⟨_,_,h⟩|q4
       ·cases h
       simp only[Gv,du]at C;exact .inr ⟨I,rfl,by rw[C,o],q4.2⟩
     ·simp at Z
    ·left;refine⟨gT A,by simpa using Z,?_⟩;rcases y with y|y
     ·simp only[Ag,aX,du]at y;have o:∀e S ms,m.body=some (e,some (S,ms))->S<nt:=fun e S ms f=>by have:=y.2;simp only[rD,f]at this;exact gT this
      refine⟨fun x ⟨e,ms,W⟩=>by have:=o e x ms W;omega,m,y.1.1,rfl,?_⟩;cases p:m.body with
      |none=>exact .inl ⟨rfl,rfl⟩
      |some j=>
       obtain⟨e,dp⟩:=j;refine .inr ⟨e,e,dp,dp,rfl,rfl,abk e ?_,?_⟩
       ·have:=y.1.2;simpa[pd,p]using this
       ·rcases dp with _|⟨S,ms⟩
        ·exact .inl ⟨rfl,rfl⟩
        ·exact .inr ⟨S,S,ms,rfl,rfl,q S (o e S ms p)⟩
     ·unfold mOk at y;split at y
      ·rename_i v dp n' e2 z p G;simp only[aX,du,show(3*g+2)/3=g by omega]at y;obtain⟨⟨⟨z1,z2⟩,z3⟩,z4⟩:=y;have z1:=gT z1;have z3:=gI z3;obtain⟨k,ty,L,B,q1,q2,q3,q4,q5,C,_,q8⟩:=T _ _ z2;simp only[Aj,G,aS,gj]at q8;obtain⟨_,rfl⟩:=q8;have hlt:=N _ _ z2;have o:∀S ms,dp=some (S,ms)->S=nt+(v-n)/\∃j,z=some (j,ms):=fun S ms hd=>by
        subst hd;rcases z with _|⟨j,J⟩
        ·simp[TG]at z4
        ·simp only[TG,aX,du]at z4;exact⟨gI z4.1,j,by rw[z4.2]⟩
       refine⟨fun x ⟨e,ms,W⟩=> ?_,_,G,z3,.inr ⟨_,_,dp,z,p,rfl,?_,?_⟩⟩
       ·rw[p]at W;simp only[aS,gj]at W;have:=(o x ms W.2).1;omega
       ·simp only[E.den,List.getD];rw[nH (by omega),hn,acu _ _ _ q3];rfl
       ·rcases dp with _|⟨S,ms⟩
        ·rcases z with _|⟨j,J⟩
         ·exact .inl ⟨rfl,rfl⟩
         ·simp[TG]at z4
        ·obtain⟨y,j,rfl⟩:=o S ms rfl;refine .inr ⟨S,j,ms,rfl,rfl,?_⟩;rw[y,X _ _ z2];simp only[xP,G]
      ·simp at y
   have abo:∀id G,H.hd.σ.get (3*id+1)=.box G->id<nt/\((∃J,s.σ.get (3*id+1)=.box J/\J.length=G.length/\∀j k e,G[j]? =some (k,e)->∃v,e=.var v/\n<=v/\H.slots[v-n]? =some (.b id j)/\H.ks[v-n]? =some k) \/
     (s.σ.get (3*id+1)=.box G/\(∀x∈G,x.2.gr n=true)/\∀x∈G,J2 nt x.1=true)):=by
    intro id G V;have f:=Q (3*id+1) (by rw[V];simp);rw[V]at f;simp only[Bi,aX,jM,show(3*id+1)/3=id by omega]at f;obtain⟨⟨_,U⟩,f⟩:=f;refine⟨gT U,?_⟩;rcases f with⟨y,A⟩|y
    ·left;split at y
     ·rename_i J o;refine⟨J,o,gI y,fun j k e hj=> ?_⟩;have hz:((k,e),j)∈G.zipIdx:=by rw[agZ];exact hj
      have:=fH.1 A _ hz;simp only at this;split at this
      ·rename_i v;simp only[aX,du]at this;exact⟨v,rfl,gT this.1.1,this.1.2,this.2⟩
      ·simp at this
     ·simp at y
    ·right;simp only[Ag,aX,du,pd,rD,fH]at y;exact⟨y.1.1,y.1.2,y.2⟩
   have U:∀id G,H.hd.σ.get (3*id+1)=.box G->∃J,s.σ.get (3*id+1)=.box J:=fun id G h=>by
    rcases (abo id G h).2 with⟨J,y,_⟩|⟨y,_⟩
    ·exact⟨J,y⟩
    ·exact⟨G,y⟩
   have z:∀p,MM c.M0 bm tm' H.hd.σ.get p->MM c.M0 bm tm s.σ.get p:=by
    rintro p (h|⟨id,G,y,A⟩|⟨g,m,y,A⟩)
    ·exact .inl h
    ·obtain⟨J,Z⟩:=U id G y;exact .inr (.inl ⟨id,J,Z,A⟩)
    ·rcases O g m y with⟨q1,_,_,m',q2,q3⟩|⟨i,sl,L,B,el,rfl,q1,q2,q3,q4,q5,C⟩
     ·exact .inr (.inr ⟨g,m',q2,q3.xD (q g q1) A⟩)
     ·subst q4;have A:=Kg A;rw[q5]at A;rcases C with⟨_,ad,q7⟩|⟨I,_,q7,q8⟩
      ·rw[q7]at A;obtain⟨o,s',len',cap',Z,h4⟩:=Ks A;simp only[fE]at Z;omega
      ·rw[q8]at A;exact .inr (.inr ⟨I,_,q7,DV A⟩)
   have hkk:bQ w (MM c.M0 bm tm s.σ.get) w (MM c.M0 bm tm' H.hd.σ.get):=fun p v hp hn=>⟨hp,fun h=>hn (z p h)⟩;have hcar:∀v sl k,(∀g,sl≠Slot.m g)->n<=v->H.slots[v-n]? =some sl->H.ks[v-n]? =some k->cB w (MM c.M0 bm tm' H.hd.σ.get) tm' (env0++ys) k (.var v) (xP s.σ.get bm tm a w sl):=by
    intro v sl k hne hv r hk;obtain⟨p,ty,L,B,q1,q2,q3,q4,q5,C,_,_⟩:=T _ _ r;rcases q4 with⟨g,h,_⟩|q4
    ·exact absurd h (hne g)
    rw[hk]at q1;simp at q1;subst q1;have hd:(E.var v).den (env0++ys)=B.den (env0++more):=by simp only[E.den,List.getD];rw[nH (by omega),hn,acu _ _ _ q3];rfl
    have hr:R w (MM c.M0 bm tm' H.hd.σ.get) ((E.var v).den (env0++ys)) (xP s.σ.get bm tm a w sl):=by rw[hd];exact R.keep hkk _ _ q4.rd
    rcases Vq hks hk with rfl|rfl
    ·exact hr
    ·refine⟨hr,?_⟩;rw[show nt+(0+(v-n))=nt+(v-n) by omega,X _ _ r]
   have hplain:∀l p,Ag n nt s.σ.get l p=true->s.σ.get l=p/\pd n p=true/\rD nt p=true:=fun l p h=>by simp only[Ag,aX,du]at h;exact⟨h.1.1,h.1.2,h.2⟩
   have aBM:∀p,rD nt p=true->∀g,cE p g->bm g=bm g/\tm' g=tm g:=by
    intro p z g Y;refine⟨rfl,q g ?_⟩;cases p with
    |v gs k e=>exact Oz (show J2 nt k=true from z) Y
    |ptr gs id off=>simp only[cE]at Y;subst Y;simp only[rD]at z;exact gT z
    |mp gs I n' i off=>simp only[cE]at Y;subst Y;simp only[rD]at z;exact gT z
    |iv gs I S n' i off l=>
     simp only[rD,aX]at z;rcases Y with rfl|rfl
     ·exact gT z.1
     ·exact gT z.2
    |ip gs I S n' i off j m o2=>
     simp only[rD,aX]at z;rcases Y with rfl|rfl
     ·exact gT z.1
     ·exact gT z.2
    |live m=> obtain⟨e,ms,W⟩:=Y;simp only[rD,W]at z;exact gT z
    |box G=> obtain⟨x,W,hk⟩:=Y;simp only[rD,fH]at z;exact Oz (z x W) hk
    |_=>exact Y.elim
   refine⟨?_,?_,by simp[l1],by omega,hnt.symm,tm',?_⟩
   ·have:∀(X:List VT) (r:List (K×E)),X.length=r.length->(∀(i:Nat) (ty:VT) (L:K) (B:E),X[i]? =some ty->r[i]? =some (L,B)->bG tb.tab ty (B.den (env0++more)))->fO tb.tab X ((r.map (·.2)).map (·.den (env0++more))):=by
     intro X;induction X with
     |nil=>intro r V _;cases r with|nil=>trivial|cons _ _=>simp at V
     |cons ty X ih=>
      intro r V hh;cases r with
      |nil=>simp at V
      |cons x r=>exact⟨hh 0 ty x.1 x.2 rfl rfl,ih r (by simpa using V) fun i t k e y A=>hh (i+1) t k e (by simpa using y) (by simpa using A)⟩
    rw[<-hys];refine this H.eJ vs l3 fun i ty L B y A=> ?_;have hlt:i<H.slots.length:=by rw[l1];exact(dh.1 A).1
    obtain⟨k,X,k2,e2,q1,q2,q3,q4,q5,C,q7,_⟩:=T i _ (bX hlt);rw[y]at q2;simp at q2;subst q2;rw[A]at q3;simp at q3;obtain⟨rfl,rfl⟩:=q3;exact q5
   ·have:∀(l:List D),(∀(i:Nat) (d:D),l[i]? =some d->Fits d)->dI l:=by
     intro l;induction l with
     |nil=>intro _;trivial
     |cons d r ih=>intro hh;exact⟨hh 0 d rfl,ih fun i d' hd=>hh (i+1) d' (by simpa using hd)⟩
    refine this ys fun i d hd=> ?_;have hlt:i<H.slots.length:=by rw[<-hyl];exact(dh.1 hd).1
    obtain⟨k,X,k2,e2,q1,q2,q3,q4,q5,C,q7,_⟩:=T i _ (bX hlt);rw[acu _ _ _ q3]at hd;simp at hd;subst hd;exact q7
   ·have T:aN {c with env:=env0++more} (below s.nt) s.σ.get bm tm a w:=hs;refine⟨hs.fr,hs.hB,hs.m0,fun t=> ?_,fun id G h=> ?_,fun g m h=> ?_,fun id id' G J h h'=> ?_,fun id G g m b h Y hb=> ?_,fun g m I m' b b' Y hg' hne hb hb'=> ?_,fun l g h=> ?_,fun id G h=> ?_,fun g m h=> ?_,hs.size,hs.defers,fun g Y=>⟨(hs.x0 g Y).1,by unfold below;omega⟩⟩
    ·
     by_cases hu:H.hd.σ.get (3*t)=.un
     ·rw[hu];trivial
     ·have f:=Q _ hu;generalize z:H.hd.σ.get (3*t)=p at f hu;have X:Ag n nt s.σ.get (3*t) p=true->rC w (MM c.M0 bm tm' H.hd.σ.get) bm tm' (env0++ys) p (a.tmps.getD t undef):=fun hp=>by obtain⟨p1,p2,p3⟩:=hplain _ _ hp;have:=hs.tmps t;rw[p1]at this;exact ank abk p2 (this.keep hkk (aBM p p3))
      cases p with
      |un=>trivial
      |box G=>trivial
      |live m=>trivial
      |ptr gs id off=>exact X f
      |ro gs e off=>exact X f
      |gp gs g x i=>exact X f
      |mp gs g n' i off=>exact X f
      |iv gs g S n' i off l=>exact X f
      |ip gs g S n' i off j m o2=>exact X f
      |v gs k e=>
       cases gs with
       |cons _ _=>exact X f
       |nil=>
        cases e with
        |var v=>
         simp only[Bi,jM,aX,du,show 3*t/3=t by omega]at f;rcases f with⟨⟨⟨y,_⟩,A⟩,Z⟩|hp
         ·exact⟨fun _=>hcar v (.t t) k (fun _ h=>by cases h) (gT y) A Z,fun hh=>absurd (cR _) hh⟩
         ·exact X hp
        |_=>exact X f
    ·
     rcases (abo id G h).2 with⟨J,y,A,Z⟩|⟨y,A,Z⟩
     ·obtain⟨us,T,hb1,hb2,hb3⟩:=hs.box id J y;refine⟨us,T,hb1,?_,hb3⟩;have jR:us.length=G.length:=by rw[hb2.length,A]
      have hcell:∀j u,us[j]? =some u->w.cell? ⟨bm id,j,none⟩=some u:=fun j u hu=>by rw[yg w _ j _ T _ hb1];simpa using hu
      have:∀(cs0:List (K×E)) (T:List Value) (o:Nat),T.length=cs0.length->(∀j x,cs0[j]? =some x->G[o+j]? =some x)->(∀j u,T[j]? =some u->us[o+j]? =some u)->dm w (MM c.M0 bm tm' H.hd.σ.get) tm' (env0++ys) cs0 T:=by
       intro cs0;induction cs0 with
       |nil=>intro T o V _ _;exact mO V
       |cons x r ih=>
        intro T o V hc hu;cases T with
        |nil=>simp at V
        |cons u0 r=> refine⟨u0,r,rfl,?_,ih r (o+1) (by simpa using V) (fun j T W=>by have:=hc (j+1) T (by simpa using W);rwa[show o+(j+1)=o+1+j by omega]at this) (fun j T r=>by have:=hu (j+1) T (by simpa using r);rwa[show o+(j+1)=o+1+j by omega]at this)⟩;have r:=hc 0 x rfl;have T:=hu 0 u0 rfl;obtain⟨v,hv,BK,hvs,Va⟩:=Z (o+0) x.1 x.2 r;rw[hv];have:=hcar v _ x.1 (fun _ h=>by cases h) BK hvs Va;simp only[xP,hcell _ _ T,j0]at this;exact this
      exact this G us 0 jR (fun j x W=>by simpa using W) (fun j u hu=>by simpa using hu)
     ·refine tR.Dd (c:={c with env:=env0++more}) abk A ((hs.box id G y).keep hkk rfl rfl fun g ⟨x,W,hk⟩=> ?_);exact q g (Oz (Z x W) hk)
    ·rcases O g m h with⟨q1,_,_,m',q2,q3⟩|⟨i,sl,L,B,el,rfl,q1,q2,q3,q4,q5,C⟩
     ·exact q3.live (c:={c with env:=env0++more}) (q g q1) (hs.live g m' q2)
     ·refine⟨fun b o s' len cap f V=> ?_,(fun e dp f=>by rw[q4]at f;cases f),(fun e S ms f=>by rw[q4]at f;cases f)⟩;rw[q5]at f;rcases C with⟨_,ad,q7⟩|⟨I,_,q7,q8⟩
      ·rw[q7]at f;simp only[fE]at f;omega
      ·rw[q8]at f;exact(hs.live I m q7).sp b o s' len cap f V
    ·obtain⟨d,hd⟩:=U id G h;obtain⟨d',r⟩:=U id' J h';exact hs.pJ id id' d d' hd r
    ·obtain⟨d,hd⟩:=U id G h;rcases O g m Y with⟨q1,_,_,m',q2,q3⟩|⟨i,sl,L,B,el,rfl,q1,q2,q3,q4,q5,C⟩
     ·exact hs.lK id d g m' b hd q2 (q3.blk (q g q1) hb)
     ·subst q4;obtain⟨o,s',len,cap,f,V⟩:=x9 hb;rw[q5]at f;rcases C with⟨_,ad,q7⟩|⟨I,_,q7,q8⟩
      ·rw[q7]at f;simp only[fE]at f;omega
      ·rw[q8]at f;exact hs.lK id d I _ b hd q7 (.inl ⟨o,s',len,cap,f,V⟩)
    ·
     have r:∀g m b,H.hd.σ.get (3*g+2)=.live m->jy tm' g m b->∃J T,s.σ.get (3*J+2)=.live T/\jy tm J T b/\((g<nt/\J=g/\g∉sN H.ks vs)\/(∃i B,g=nt+i/\H.ks[i]? =some (.own g)/\vs[i]? =some (.own J,B))):=by
      intro g m b Y hb;rcases O g m Y with⟨q1,q0,_,m',q2,q3⟩|⟨i,sl,L,B,el,rfl,q1,q2,q3,q4,q5,C⟩
      ·exact⟨g,m',q2,q3.blk (q g q1) hb,.inl ⟨q1,rfl,q0⟩⟩
      ·subst q4;obtain⟨o,s',len,cap,f,V⟩:=x9 hb;rw[q5]at f;rcases C with⟨_,ad,q7⟩|⟨I,rfl,q7,q8⟩
       ·rw[q7]at f;simp only[fE]at f;omega
       ·exact⟨I,_,q7,.inl ⟨o,s',len,cap,by rw[<-q8];exact f,V⟩,.inr ⟨i,B,rfl,q2,q3⟩⟩
     obtain⟨J,T,z1,z2,z3⟩:=r g m b Y hb;obtain⟨q,B,C,L,o⟩:=r I m' b' hg' hb';refine hs.lT J T q B b b' z1 C ?_ z2 L;rcases z3 with⟨z3,rfl,z4⟩|⟨i,r,rfl,z3,z4⟩<;>rcases o with⟨o,rfl,q⟩|⟨j,e2,rfl,o,q⟩
     ·exact hne
     ·exact fun h=>z4 (h▸WB o q)
     ·exact fun h=>q (h▸WB z3 z4)
     ·rcases E8 i j with h|h|h
      ·exact aea hnd h z3 o z4 q
      ·subst h;exact absurd rfl hne
      ·exact fun e=>aea hnd h o z3 q z4 e.symm
    ·
     unfold below;rw[hnt];by_cases hu:H.hd.σ.get l=.un
     ·rw[hu]at h;exact h.elim
     ·have f:=Q _ hu;generalize z:H.hd.σ.get l=p at f hu h;have X:Ag n nt s.σ.get l p=true->g<nt+H.slots.length:=fun hp=>by
       obtain⟨p1,p2,p3⟩:=hplain _ _ hp;rcases dP g nt with hlt|o
       ·omega
       ·exfalso;cases p with
        |v gs k e=>have:=Oz (show J2 nt k=true from p3) h;omega
        |ptr gs id off=>simp only[cE]at h;subst h;simp only[rD]at p3;have:=gT p3;omega
        |mp gs I n' i off=>simp only[cE]at h;subst h;simp only[rD]at p3;have:=gT p3;omega
        |iv gs I S n' i off l=> simp only[rD,aX]at p3;have y:=gT p3.1;have A:=gT p3.2;rcases h with rfl|rfl<;>omega
        |ip gs I S n' i off j m o2=> simp only[rD,aX]at p3;have y:=gT p3.1;have A:=gT p3.2;rcases h with rfl|rfl<;>omega
        |live m=> obtain⟨e,ms,W⟩:=h;simp only[rD,W]at p3;have:=gT p3;omega
        |box G=> obtain⟨x,W,hk⟩:=h;simp only[rD,fH]at p3;have:=Oz (p3 x W) hk;omega
        |_=>exact h.elim
      have o:∀(i I:Nat) (k:K),H.ks[i]? =some k->k.has I->I<nt+H.slots.length:=fun i I k hk hg'=>by
       have hlt:i<H.slots.length:=by rw[l1, <-l2];exact(dh.1 hk).1
       rcases Vq hks hk with rfl|rfl
       ·exact hg'.elim
       ·have:I=nt+(0+i):=hg';omega
      cases p with
      |un=>exact h.elim
      |live m=>
       simp only[Bi,aX]at f;have p:l=3*(l/3)+2:=by have:=gI f.1;omega
       rw[p]at z;rcases O (l/3) m z with⟨_,_,q3,_⟩|⟨i,sl,_,_,_,_,_,_,_,q4,_⟩
       ·exact q3 g h
       ·subst q4;obtain⟨_,_,h⟩:=h;cases h
      |ro gs e off=>exact h.elim
      |gp gs g x i=>exact h.elim
      |ptr gs id off=>exact X f
      |mp gs I n' i off=>exact X f
      |iv gs I S n' i off l=>exact X f
      |ip gs I S n' i off j m o2=>exact X f
      |box G=>
       simp only[Bi,aX,jM]at f;obtain⟨_,f⟩:=f;rcases f with⟨_,A⟩|hp
       ·obtain⟨x,W,hk⟩:=h;obtain⟨j,hj⟩:=List.getElem?_of_mem W;have hz:(x,j)∈G.zipIdx:=by rw[agZ];exact hj
        have:=fH.1 A _ hz;simp only at this;split at this
        ·rename_i v _;simp only[aX,du]at this;exact o _ _ _ this.2 hk
        ·simp at this
       ·exact X hp
      |v gs k e=>
       cases gs with
       |cons _ _=>exact X f
       |nil=>
        cases e with
        |var v=>
         simp only[Bi,jM,aX,du]at f;rcases f with⟨⟨⟨y,_⟩,A⟩,Z⟩|hp
         ·exact o _ _ _ Z h
         ·exact X hp
        |_=>exact X f
    ·unfold below;rw[hnt];have:=(abo id G h).1;omega
    ·unfold below;rw[hnt];rcases O g m h with⟨q1,_⟩|⟨i,sl,_,_,_,rfl,q1,_⟩
     ·omega
     ·have:=N i sl q1;omega
 ·simp at hb
end
section
variable {P:Program}{tab:Nat->List CT}
def bV.append{Γ b:List VT}{ds:List D}(h:bV tab Γ env)(l:env.length=Γ.length)(hd:fO tab b ds):bV tab (Γ++b) (env++ds):=by
 have key:∀(b:List VT) (ds:List D),fO tab b ds->∀(i:Nat) (t:VT),b[i]? =some t->bG tab t (ds.getD i .un):=by
  intro b;induction b with
  |nil=>intro ds _ i t h;simp at h
  |cons v b ih=>
   intro ds hd i t h;cases ds with
   |nil=>exact hd.elim
   |cons d r=>
    cases i with
    |zero=>simp at h;subst h;exact hd.1
    |succ i=>simp at h;simpa using ih r hd.2 i t h
 intro i t e;rw[List.getElem?_append]at e;split at e
 ·rename_i f;have:=h i t e
  rwa[List.getD,mP (by omega)]
 ·rename_i f;have:=key b ds hd _ t e;rw[List.getD,nH (by omega),l];exact this
def F4:∀{b:List VT} {ds:List D},fO tab b ds->ds.length=b.length
 |[],[],_=>rfl
 |t::b,d::ds,h=>by simp[F4 h.2]
 |[],_::_,h=>h.elim
 |_::_,[],h=>h.elim
def V3:∀{b:List CT} {ds:List D},bD tab b ds->fO tab (b.map fun t=>.one (.c t)) ds
 |[],[],_=>trivial
 |t::b,d::ds,h=>by simp only[bD]at h;exact⟨h.1,V3 h.2⟩
 |[],_::_,h=>by simp[bD]at h
 |_::_,[],h=>by simp[bD]at h
def aGe:∀(rs:List Rq) (k:VC) (env:List D),(∀r∈rs,D2 env.length r=true)->(rs.length<=1)->(rs.foldr VC.rq k).den P tab env Q L ->
  ∃ds,fO tab (lN rs) ds/\(∀more,∀r∈rs,jL P (env++ds++more) env.length r)/\k.den P tab (env++ds) Q L
 |[],k,env,_,_,h=>⟨[],trivial,fun _ r m=>by simp at m,by simpa using h⟩
 |[.cond gs c],k,env,hb,_,h=>by
  have hb:=hb (.cond gs c) (by simp);simp only[D2,aX]at hb;obtain⟨q,p⟩:=h;refine⟨[],trivial,fun more r m=> ?_,by simpa using p⟩;simp only[mQ]at m;subst m;have o:nC env.length env (env++[]++more):=by rw[qP];exact zq (bM _)
  intro A;rw[o c hb.2];exact q ((qu o hb.1).1 A)
 |[.xg g B ix],k,env,hb,_,h=>by
  have hb:=hb (.xg g B ix) (by simp);obtain⟨d,q,p,v,y⟩:=h;refine⟨[d],⟨q,trivial⟩,fun more r m=> ?_,y⟩;simp only[mQ]at m;subst m;have e:(env++[d]++more).getD env.length .un=d:=by simp[List.getD]
  refine⟨by rw[e];exact p,?_,?_⟩
  ·cases ix with
   |none=>trivial
   |some x=>
    obtain⟨gs,T,n⟩:=x;simp only[D2,aX]at hb;have o:nC env.length env (env++[d]++more):=by rw[iY];exact zq (bM _)
    intro A;rw[o T hb.2];exact v ((qu o hb.1).1 A)
  ·rw[e];unfold agf;split
   ·obtain⟨l,q1,q2⟩:=lV q;exact⟨l,q1,q2.length⟩
   ·trivial
 |[.new f args t],k,env,hb,_,h=>by
  have hb:=hb (.new f args t) (by simp);simp only[D2]at hb;obtain⟨b,p,v,y⟩:=h;refine⟨b,?_,fun more r m=> ?_,y⟩
  ·simp only[lN,qP];exact V3 p
  ·simp only[mQ]at m;subst m;have o:nC env.length env (env++b++more):=by rw[iY];exact zq (bM _)
   have C:args.map (·.den (env++b++more))=args.map (·.den env):=E6 fun e u=>o e (fH.1 hb e u);have I:(List.range t.length).map (fun j=>(env++b++more).getD (env.length+j) .un)=b:=by
    have O:=p.length;refine zB fun i=> ?_;simp only[iw];by_cases J:i<t.length
    ·rw[Ix J];simp only[j6,List.getD];rw[iY,nH (by omega),show env.length+i-env.length=i by omega];simp[mP (show i<b.length by omega),bX (show i<b.length by omega)]
    ·rw[nI (by simp;omega),nI (by omega)];rfl
   show QU P f _ _;rw[C,I];exact v
 |[.call gs f z args B t],k,env,hb,_,h=>by
  have hb:=hb (.call gs f z args B t) (by simp);simp only[D2,aX]at hb;obtain⟨d,b,q,p,v,y⟩:=h;refine⟨d::b,?_,fun more r m=> ?_,y⟩
  ·simp only[lN,qP];exact⟨q,V3 p⟩
  ·simp only[mQ]at m;subst m;have o:nC env.length env (env++d::b++more):=by rw[iY];exact zq (bM _)
   intro A;have N:=v ((qu o hb.1.1).1 A);have C:args.map (·.den (env++d::b++more))=args.map (·.den env):=E6 fun e u=>o e (fH.1 hb.2 e u);have S:z.map (·.map (·.den (env++d::b++more)))=z.map (·.map (·.den env)):=by
    cases z with
    |none=>rfl
    |some l=>simp only[j6];exact congrArg some (E6 fun e u=>o e (fH.1 hb.1.2 e u))
   have G:(env++d::b++more).getD env.length .un=d:=by simp[List.getD]
   have I:(List.range t.length).map (fun j=>(env++d::b++more).getD (env.length+1+j) .un)=b:=by
    have O:=p.length;refine zB fun i=> ?_;simp only[iw];by_cases J:i<t.length
    ·rw[Ix J];simp only[j6,List.getD];rw[iY,nH (by omega),show env.length+1+i-env.length=i+1 by omega];simp[mP (show i<b.length by omega),bX (show i<b.length by omega)]
    ·rw[nI (by simp;omega),nI (by omega)];rfl
   rw[C,S,G,I];exact N
 |[.lJ gs e args B],k,env,hb,_,h=>by
  have hb:=hb (.lJ gs e args B) (by simp);simp only[D2,aX]at hb;obtain⟨d,q,v,y⟩:=h;refine⟨[d],?_,fun more r m=> ?_,y⟩
  ·simp only[lN];exact⟨q,trivial⟩
  ·simp only[mQ]at m;subst m;have o:nC env.length env (env++[d]++more):=by rw[iY];exact zq (bM _)
   intro A;have N:=v ((qu o hb.1.1).1 A);have C:args.map (·.den (env++[d]++more))=args.map (·.den env):=E6 fun e u=>o e (fH.1 hb.2 e u);have G:(env++[d]++more).getD env.length .un=d:=by simp[List.getD]
   rw[C,G,o e hb.1.2];exact N
 |[.cF f z args B t U],k,env,hb,_,h=>by
  have hb:=hb (.cF f z args B t U) (by simp);simp only[D2,aX]at hb;obtain⟨d,b,q,p,v,y⟩:=h;refine⟨d::b,?_,fun more r m=> ?_,y⟩
  ·simp only[lN,qP];exact⟨q,V3 p⟩
  ·simp only[mQ]at m;subst m;have o:nC env.length env (env++d::b++more):=by rw[iY];exact zq (bM _)
   have N:=v;have C:args.map (·.den (env++d::b++more))=args.map (·.den env):=E6 fun e u=>o e (fH.1 hb.2 e u);have S:z.map (·.map (·.den (env++d::b++more)))=z.map (·.map (·.den env)):=by
    cases z with
    |none=>rfl
    |some l=>simp only[j6];exact congrArg some (E6 fun e u=>o e (fH.1 hb.1 e u))
   have G:(env++d::b++more).getD env.length .un=d:=by simp[List.getD]
   have I:(List.range t.length).map (fun j=>(env++d::b++more).getD (env.length+1+j) .un)=b:=by
    have O:=p.length;refine zB fun i=> ?_;simp only[iw];by_cases J:i<t.length
    ·rw[Ix J];simp only[j6,List.getD];rw[iY,nH (by omega),show env.length+1+i-env.length=i+1 by omega];simp[mP (show i<b.length by omega),bX (show i<b.length by omega)]
    ·rw[nI (by simp;omega),nI (by omega)];rfl
   refine⟨by rw[G];exact agJ q,?_⟩;rw[C,S,G,I];exact N
 |_::_::_,_,_,_,O,_=>by simp at O
def adv{Q:D->List D->Prop}{L:List (List D->Prop)}:∀(es:List bq) (k:VC) (env:List D) (Γ:List VT),bV tab Γ env->env.length=Γ.length->Jq Γ.length es=true->(∀e∈es,e.rq.length<=1)->(D3 es k).den P tab env Q L ->
  ∃ds,bV tab (Γ++es.flatMap fun e=>lN e.rq) (env++ds)/\(env++ds).length=(Γ++es.flatMap fun e=>lN e.rq).length/\(∀more,AY P (env++ds++more) Γ.length es)/\k.den P tab (env++ds) Q L
 |[],k,env,Γ,b,l,_,_,h=>⟨[],by simpa using b,by simpa using l,fun _=>trivial,by simpa[D3]using h⟩
 |e::r,k,env,Γ,b,l,hb,h1,h=>by
  simp only[Jq,aX,fH]at hb;obtain⟨ds,j,m,o⟩:=aGe e.rq (D3 r k) env (by rw[l];exact hb.1) (h1 e (by simp)) h;have f:=F4 j;have g:=b.append l j;obtain⟨d,q1,q2,q3,q4⟩:=adv r k (env++ds) (Γ++lN e.rq) g (by simp[l,f]) (by simpa using hb.2) (fun x i=>h1 x (by simp[i])) o;refine⟨ds++d,by simpa[iY]using q1,by simpa[iY]using q2,fun more=>⟨fun x i=> ?_,?_⟩,by simpa[iY]using q4⟩
  ·have:=m (d++more) x i;rw[l]at this;simpa[iY]using this
  ·have:=q3 more;simpa[iY]using this
end
def adp{cx:Cx}{ops:Array Oper}:∀{l:List Oper} {d:SS} {es:List bq} {s:SS},oW cx ops l d=some (es,s)->s.Γ=d.Γ++es.flatMap fun e=>lN e.rq
 |[],d,es,s,h=>by simp[oW]at h;obtain⟨rfl,rfl⟩:=h;simp
 |o::r,d,es,s,h=>by
  simp only[oW]at h;split at h
  ·simp at h
  ·split at h
   ·simp at h
   ·rename_i e g f i b;simp only[aS,gj]at h;obtain⟨rfl,rfl⟩:=h;rw[adp b];simp[SS.step]
section
variable {P:Program}{fx:Fx}{c0:SC}
def Good(c0:SC)(tab:Nat->List CT)(env:List D)(s:SS)(a:Act)(w:World):Prop :=
 bV tab s.Γ env/\env.length=s.Γ.length/\∃bm tm,aN {c0 with env:=env} (below s.nt) s.σ.get bm tm a w
def Ii(P:Program)(c0:SC)(tab:Nat->List CT)(Q:D->List D->Prop)(env:List D)(L:List (List D->Prop))(k:SS->VC)(a:Act)(w:World):Prop :=
 ∃(more:List D) (pre:List (List D->Prop)) (s:SS),Good c0 tab (env++more) s a w/\(pre++L).length=s.lv/\(k s).den P tab (env++more) Q (pre++L)
def awq(P:Program)(fx:Fx)(c0:SC)(Q:D->List D->Prop)(a:Act)(w:World):Prop :=
 ∃(env:List D) (s:SS) (L:List (List D->Prop)),Good c0 fx.cx.tb.tab env s a w/\(zb fx s).den P fx.cx.tb.tab env Q L
def Post(P:Program)(fx:Fx)(c0:SC)(Q:D->List D->Prop)(env:List D)(L:List (List D->Prop))(ex:List (Nat×(SS->VC)))(k:SS->VC):Exit->Act->World->Prop
 |.normal,a,w=>Ii P c0 fx.cx.tb.tab Q env L k a w
 |.exit id,a,w=>∃b,OD id ex=some b/\Ii P c0 fx.cx.tb.tab Q env L b a w
 |.ret,a,w=>awq P fx c0 Q a w
 |_,_,_=>False
def Ii.weaken{tab:Nat->List CT}{more:List D}{k:SS->VC}(h:Ii P c0 tab Q (env++more) (pre++L) k a w):Ii P c0 tab Q env L k a w:=by obtain⟨m,p,s,b,d,e⟩:=h;exact⟨more++m,p++pre,s,by simpa[iY]using b,by simpa[iY]using d,by simpa[iY]using e⟩
def Post.weaken{more:List D}{ex:List (Nat×(SS->VC))}{k:SS->VC}{e:Exit}(h:Post P fx c0 Q (env++more) (pre++L) ex k e a w):Post P fx c0 Q env L ex k e a w:=by
 cases e with
 |normal=>exact Ii.weaken h
 |exit id=>obtain⟨b,d,f⟩:=h;exact⟨b,d,f.weaken⟩
 |ret=>exact h
 |_=>exact h
end
def an1:∀l:List Oper,(Ak l).1++(Ak l).2=l
 |[]=>rfl
 |o::r=>by
  unfold Ak;split
  ·simp[an1 r]
  ·rfl
section
variable {P:Program}{c:SC}{F:Nat->Prop}{σ:Nat->ST}{bm:Nat->Nat}{tm:Nat->Value}{a:Act}{w:World}{cx:Cx}{Γ:List VT}{gs:Gd}{ops:Array Oper}
def avh{j d:Nat}{v:Bool}(e:(ops[j]?).bind (·.dst)=some d)(h:a.tmps.getD d undef=.bool v):yielded ops a.tmps j=some v:=by
 unfold yielded;rw[e];rw[sX]at h;cases b:a.tmps[d]? with
 |none=>rw[b]at h;simp[undef]at h
 |some u=>rw[b]at h;simp at h;subst h;simp[b]
def az3(A:cX P cx.tb cx.tb=true)(u:c.nt=cx.nt)(J:aN c F σ bm tm a w)(B:bV cx.tb.tab Γ c.env){g i j d:Nat}{v:Bool}(hg:∀x,ji g x->¬F x){o:Oper}(L:ops[i]? =some o){z:bq}(h:aaM cx ops j d v Γ g o σ=some z)
  (W:(ops[j]?).bind (·.dst)=some d) (O:a.tmps.getD d undef=.bool v)
  (S:∀r∈z.rq,jL P c.env Γ.length r) {Q:Exit->Act->World->Prop} {K:Act->World->Prop} (N:∀T tm' X w',aN c (fun x=>F x\/ji g x) (dq σ z.wr) T tm' X w'->K X w'):wpOp P ops Q i K a w:=by
 have plain:yP cx ops Γ g o σ=some z->wpOp P ops Q i K a w:=fun U=>Yl A u J B hg L U S N;unfold aaM at h;split at h
 ·rename_i k f;unfold ed at f;split at f
  ·rename_i I b p;cases l:Nat.beq I j with
   |false=>rw[l]at f;simp at f;subst f;exact plain h
   |true=>
    have:I=j:=gI l;subst this;rw[l]at f;simp only[gD]at f;cases m:b==v with
    |false=>rw[m]at f;simp at f
    |true=>
     rw[m]at f;simp only[gD,aS]at f;have:b=v:=by simpa using m
     subst this;subst f;obtain⟨gs,q,C⟩:=ac3 A u J B hg h;have:gs=[]:=by simp[zQ]at q;exact q
     subst this;unfold wpOp;rw[L];simp only;rw[aC (by simp[Region.wanted,p,avh W O])];exact .inl (C.1 (cR _) S K Q N)
  ·rename_i p;split at f
   ·rename_i t x y V;cases G:Nat.beq t d with
    |false=>rw[G]at f;simp at f;subst f;exact plain h
    |true=>
     have:t=d:=gI G;subst this;rw[G]at f;simp only[gD,aS]at f;subst f;obtain⟨gs,q,C⟩:=ac3 A u J B hg h;have:gs=[]:=by simp[zQ,p]at q;exact q
     subst this;unfold wpOp;rw[L];simp only;rw[aC (by simp[Region.wanted,p])];refine .inl ?_;have Y:=C.1 (cR _) S K Q N;unfold Oper.wp at Y ⊢;have e:(execOp a.eval o).run P w=(execOp a.eval {o with op:=.move (bif v then x else y)}).run P w:=by have:a.eval (.tmp t)=.bool v:=O;cases v<;>simp[execOp,V,this,asBool]
     rw[e];exact Y
   ·simp only[aS]at f;subst f;exact plain h
 ·rename_i f;cases k:Je cx.nt o.dst with
  |false=>rw[k]at h;simp at h
  |true=>
   rw[k]at h;simp only[gD,aS]at h;subst h;have Z:∀d,o.dst=some d->d<c.nt:=fun d U=>by rw[U]at k;simp only[Je]at k;rw[u];exact gT k
   unfold ed at f;split at f
   ·rename_i I b p;cases l:Nat.beq I j with
    |false=>rw[l]at f;simp at f
    |true=>
     have:I=j:=gI l;subst this;rw[l]at f;simp only[gD]at f;cases m:b==v with
     |true=>rw[m]at f;simp at f
     |false=> unfold wpOp;rw[L];simp only;rw[aw (by simp[Region.wanted,p,avh W O];intro e;rw[e]at m;simp at m)];exact N _ _ _ _ ((J.nY Z (st:=.un) (v:=undef) trivial (fun g h=>by simp[cE]at h)).mono fun x k=>.inl k)
   ·split at f
    ·rename_i t x y _;cases k:Nat.beq t d<;>rw[k]at f<;>simp at f
    ·simp at f
def adE{j d:Nat}{v:Bool}{g:E}:∀{l:List Oper} {b:SS} {es:List bq} {s:SS},Ea cx ops j d v g l b=some (es,s)->s.Γ=b.Γ++(es.flatMap fun e=>lN e.rq)/\s.lv=b.lv
 |[],b,es,s,h=>by simp[Ea]at h;obtain⟨rfl,rfl⟩:=h;simp
 |o::r,b,es,s,h=>by
  simp only[Ea]at h;cases i:UL b.σ.get d g with
  |false=>rw[i]at h;simp at h
  |true=>
   rw[i]at h;simp only[gD]at h;split at h
   ·simp at h
   ·rename_i e q;split at h
    ·simp at h
    ·rename_i k t f;simp only[aS,gj]at h;obtain⟨rfl,rfl⟩:=h;obtain⟨m,p⟩:=adE f;exact⟨by rw[m];simp[SS.step],by rw[p];rfl⟩
def anE(q:cX P cx.tb cx.tb=true)(t:c.nt=cx.nt){Q:Exit->Act->World->Prop}{rest:List Nat}{j d:Nat}{v:Bool}{y:E}(O:(ops[j]?).bind (·.dst)=some d)(S:y.den c.env=.bool v):∀(l:List Oper) (k:Nat) (f:SS) (es:List bq) (s:SS),(∀i o,l[i]? =some o->ops[k+i]? =some o)->Ea cx ops j d v y l f=some (es,s)->bV cx.tb.tab s.Γ c.env->AY P c.env f.Γ.length es ->
  (∀m tm' z w',aN c (below s.nt) s.σ.get m tm' z w'->wpOps P ops Q rest z w')->∀bm tm a w,aN c (below f.nt) f.σ.get bm tm a w->wpOps P ops Q (List.range' k l.length++rest) a w
 |[],k,f,es,s,B,h,b,C,G,bm,tm,a,w,A=>by simp[Ea]at h;obtain⟨_,rfl⟩:=h;exact G _ _ _ _ A
 |o::r,k,f,es,s,B,h,b,C,G,bm,tm,a,w,A=>by
  simp only[Ea]at h;cases p:UL f.σ.get d y with
  |false=>rw[p]at h;simp at h
  |true=>
   rw[p]at h;simp only[gD]at h;split at h
   ·simp at h
   ·rename_i e V;split at h
    ·simp at h
    ·rename_i I W g;simp only[aS,gj]at h;obtain⟨rfl,rfl⟩:=h;obtain⟨X,_⟩:=adE g;have u:bV cx.tb.tab f.Γ c.env:=by rw[X]at b;simp only[SS.step,iY]at b;exact b.Ue
     have J:a.tmps.getD d undef=.bool v:=by
      have T:=A.tmps d;unfold UL at p;split at p
      ·rename_i kk Y L;have:Y=y:=by simpa using p
       subst this;rw[L]at T;have:=(T.1 (cR _)).rd;rw[S]at this;simpa[R]using this
      ·simp at p
     simp only[dR,Mh,ia];rw[wpOps_cons];refine az3 q t A u (g:=f.nt) (fun x U=>by have:=U.1;simp only[below];omega) (by simpa using B 0 o (by simp)) V O J C.1 fun m tm' z w' Z=> ?_;refine anE q t O S r (k+1) (f.step e) I W (fun i l N=>by have:=B (i+1) l (by simpa using N);simpa[wS,Dc 1 i]using this) g b (by have:=C.2;simpa[SS.step]using this) G m tm' z w' ?_
     rw[Pn];exact Z.mono fun x U=>by simp only[below,SS.step,ji]at *;omega
def anV(g:cX P cx.tb cx.tb=true)(t:c.nt=cx.nt){Q:Exit->Act->World->Prop}{rest:List Nat}:∀(l:List Oper) (k:Nat) (d:SS) (es:List bq) (s:SS),(∀i o,l[i]? =some o->ops[k+i]? =some o)->oW cx ops l d=some (es,s)->bV cx.tb.tab s.Γ c.env->AY P c.env d.Γ.length es ->
  (∀m tm' p w',aN c (below s.nt) s.σ.get m tm' p w'->wpOps P ops Q rest p w')->∀bm tm a w,aN c (below d.nt) d.σ.get bm tm a w->wpOps P ops Q (List.range' k l.length++rest) a w
 |[],k,d,es,s,q,h,b,u,v,bm,tm,a,w,y=>by simp[oW]at h;obtain⟨_,rfl⟩:=h;exact v _ _ _ _ y
 |o::r,k,d,es,s,q,h,b,u,v,bm,tm,a,w,y=>by
  simp only[oW]at h;split at h
  ·simp at h
  ·rename_i e C;split at h
   ·simp at h
   ·rename_i z G f;simp only[aS,gj]at h;obtain⟨rfl,rfl⟩:=h;obtain⟨L,I,N,_⟩:=GZ f;have j:bV cx.tb.tab d.Γ c.env:=by rw[I]at b;simp only[SS.step,iY]at b;exact b.Ue
    simp only[dR,Mh,ia];rw[wpOps_cons];refine Yl g t y j (g:=d.nt) (fun x B=>by have:=B.1;simp only[below];omega) (by simpa using q 0 o (by simp)) C u.1 fun m tm' p w' S=> ?_;refine anV g t r (k+1) (d.step e) z G (fun i J A=>by have:=q (i+1) J (by simpa using A);simpa[wS,Dc 1 i]using this) f b (by have:=u.2;simpa[SS.step]using this) v m tm' p w' ?_
    rw[Pn];exact S.mono fun x B=>by simp only[below,SS.step,ji]at *;omega
end
section
variable {P:Program}{c0:SC}{tab:Nat->List CT}
def anK{b s:SS}{es:List bq}{V:VC}(k:Kd b es=true)(i:bV tab b.Γ env)(f:env.length=b.Γ.length)(t:s.Γ=b.Γ++es.flatMap fun e=>lN e.rq)
  (h:(D3 es V).den P tab env Q L) :
  ∃ds,bV tab s.Γ (env++ds)/\(env++ds).length=s.Γ.length/\(∀more,AY P (env++ds++more) b.Γ.length es)/\V.den P tab (env++ds) Q L/\∀F bm tm a w,aN {c0 with env:=env} F b.σ.get bm tm a w->aN {c0 with env:=env++ds} F b.σ.get bm tm a w:=by
 unfold Kd at k;simp only[aX]at k;obtain⟨⟨l,d⟩,o⟩:=k;obtain⟨ds,q1,q2,q3,q4⟩:=adv es V env b.Γ i f d (fun e j=>gT (fH.1 o e j)) h;rw[<-t]at q1 q2;refine⟨ds,q1,q2,q3,q4,fun F bm tm a w S=> ?_⟩;simp only[jM]at l;rcases l with g|m
 ·have:ds=[]:=by
   have z:(es.flatMap fun e=>lN e.rq)=[]:=by
    clear q1 q2 q4 t d o f i h q3;induction es with
    |nil=>rfl
    |cons e r ih=>
     simp only[J1,aX]at g;have p:e.rq=[]:=by
      have:=g.1;split at this
      ·assumption
      ·simp at this
     simp[p,lN,ih g.2]
   rw[t,z,qP]at q2;simp only[iZ]at q2;exact mO (by omega)
  subst this;rw[qP];exact S
 ·exact agK (c:={c0 with env:=env}) (zq (by rw[f];exact bM _)) (ag2 m) S
def aFR{cx:Cx}{ops:Array Oper}(y:cX P cx.tb cx.tb=true)(z:c0.nt=cx.nt){Q:D->List D->Prop}{L:List (List D->Prop)}{A:SS}{n id:Nat}{k:SS->VC}{env:List D}{a:Act}{w:World}{X:Exit->Act->World->Prop}
  (hG:Good c0 cx.tb.tab env A a w) (h:(ado cx ops A n k).den P cx.tb.tab env Q L)
  (N:∀ds s v w',Good c0 cx.tb.tab (env++ds) s v w'->s.lv=A.lv->(k s).den P cx.tb.tab (env++ds) Q L->X .normal v w'):(Code.region id ops false).wp P X a w:=by
 obtain⟨e,f,bm,tm,W⟩:=hG;have p:=an1 ops.toList;unfold ado at h;split at h
 ·exact h.elim
 rename_i o r t;rw[t]at p;split at h
 ·exact h.elim
 rename_i j l g;split at h
 ·exact h.elim
 rename_i d hj;split at h
 ·exact h.elim
 rename_i es s u;split at h
 ·rename_i kk g l;cases x:Kd A es&&gV .bool (g.inf cx.tb.tab s.Γ)&&g.gr s.Γ.length with
  |false=>rw[x]at h;exact h.elim
  |true=>
   rw[x]at h;simp only[gD]at h;simp only[aX]at x;obtain⟨_,_,_,O⟩:=GZ u;obtain⟨ds,q1,q2,q3,q4,q5⟩:=anK (c0:=c0) x.1.1 e f (adp u) h;obtain⟨b,Y⟩:∃b,g.den (env++ds)=.bool b:=yx (eG q1 g _ (vW x.1.2));have V:(Ug cx ops j d g (o::r) s n k b).den P cx.tb.tab (env++ds) Q L:=by
    obtain⟨Z,e⟩:=q4;rw[Y]at Z e;cases b with
    |true=>exact Z rfl
    |false=>exact e rfl
   unfold Ug at V;split at V
   ·rename_i B j e;cases C:Kd s B with
    |false=>rw[C]at V;exact V.elim
    |true=>
     rw[C]at V;simp only[gD]at V;obtain⟨G,I⟩:=adE e;obtain⟨l,t,Z,p3,p4,p5⟩:=anK (c0:=c0) C q1 q2 G V;have S:g.den (env++ds++l)=.bool b:=by rw[agl (by rw[q2];exact bM _) g x.2];exact Y
     have J:(Ak ops.toList).1.length+(o::r).length=ops.size:=by have:=congrArg List.length p;simpa using this
     refine wp_region ?_;rw[Ro, <-J, <-List.range'_append_1];refine anV (c:={c0 with env:=env++ds}) y z _ 0 A es s (fun i T f=> ?_) u q1 (by have:=q3 [];rw[qP]at this;exact this) (fun m q v w' U=> ?_) bm tm a w (q5 _ _ _ _ _ W)
     ·have:ops.toList[i]? =some T:=by rw[<-p,mP (dh.1 f).1];exact f
      simpa using this
     ·rw[<-qP (List.range' _ _)];refine anE (c:={c0 with env:=env++ds++l}) y z hj S _ _ s B j (fun i T f=> ?_) e t (by have:=p3 [];rw[qP]at this;exact this) (fun m q v w' W=> ?_) m q v w' (p5 _ _ _ _ _ U)
      ·have e:((Ak ops.toList).1++(o::r))[(Ak ops.toList).1.length+i]? =some T:=by rw[nH (by omega),Nat.add_sub_cancel_left];exact f
       rw[p]at e;simpa using e
      ·exact N (ds++l) j v w' ⟨by rw[<-iY];exact t,by rw[<-iY];exact Z,m,q,by rw[<-iY];exact W⟩ (by rw[I,O]) (by rw[<-iY];exact p4)
   ·exact V.elim
 ·exact h.elim
end
section
variable {P:Program}{fx:Fx}{c0:SC}
def aoa(Z:cX P fx.cx.tb fx.cx.tb=true)(hnt:c0.nt=fx.cx.nt)(hm:P.follows .mixedOrders=true)(Q:D->List D->Prop):∀(g:Code) (d:SS) (ex:List (Nat×(SS->VC))) (k:SS->VC) (env:List D) (L:List (List D->Prop)) (a:Act) (w:World),
  Good c0 fx.cx.tb.tab env d a w->L.length=d.lv->(sx fx g d ex k).den P fx.cx.tb.tab env Q L->g.wp P (Post P fx c0 Q env L ex k) a w:=by
 intro g;induction g with
 |skip=> intro d ex k env L a w G i h;exact wp_skip ⟨[],[],d,by simpa using G,by simpa using i,by simpa[sx]using h⟩
 |region id ops t=>
  intro d ex k env L a w G i h;simp only[sx]at h;split at h
  ·rename_i es s u;generalize g:((!t||TH ops es d)&&(J1 es||d.σ.all fun x=>pd d.Γ.length (d.σ.get x.1))&&Jq d.Γ.length es&&ac2 es)=C at h;cases C with
   |false=>exact h.elim
   |true=>
    simp only[gD]at h;simp only[aX]at g;obtain⟨⟨⟨l,S⟩,j⟩,T⟩:=g;obtain⟨U,N,bm,tm,V⟩:=G;obtain⟨W,q1,q2,q3,q4⟩:=adv es (k s) env d.Γ U N j (fun e o=>gT (fH.1 T e o)) h;have A:=adp u;rw[<-A]at q1 q2;obtain⟨_,_,_,v⟩:=GZ u;have p:aN {c0 with env:=env++W} (below d.nt) d.σ.get bm tm a w:=by
     simp only[jM]at S;rcases S with B|q
     ·have:W=[]:=by
       have I:(es.flatMap fun e=>lN e.rq)=[]:=by
        clear q1 q2 q3 q4 h A u l j T;induction es with
        |nil=>rfl
        |cons e r ih=>
         simp only[J1,aX]at B;have o:e.rq=[]:=by
          have:=B.1;split at this
          ·assumption
          ·simp at this
         simp[o,lN,ih B.2]
       rw[A,I,qP]at q2;have:=q2;simp only[iZ]at this;exact mO (by omega)
      subst this;rw[qP];exact V
     ·exact agK (c:={c0 with env:=env}) (zq (by rw[N];exact bM _)) (ag2 q) V
    have A:=q3 [];rw[qP]at A;have r:∀j B X Y,aN {c0 with env:=env++W} (below s.nt) s.σ.get j B X Y->Post P fx c0 Q env L ex k .normal X Y:=fun j B X Y I=>
     ⟨W,[],s,⟨q1,q2,j,B,I⟩,by rw[iy,i,v],by simpa using q4⟩
    cases t with
    |false=>exact aFW (c:={c0 with env:=env++W}) Z hnt u q1 A r p
    |true=>exact aFV (c:={c0 with env:=env++W}) Z hnt hm u (by simpa using l) q1 A r p
  ·cases t with
   |true=>exact h.elim
   |false=> simp only[yh]at h;exact aFR Z hnt G h fun W s X Y j v l=>⟨W,[],s,j,by rw[iy,i,v],by simpa using l⟩
 |seq x y l j=>
  intro d ex k env L a w G i h;simp only[sx]at h;refine wp_seq (A9 (l d ex _ env L a w G i h) fun e X Y p=> ?_);cases e with
  |normal=> obtain⟨more,pre,s,u,A,l⟩:=p;exact A9 (j s ex k (env++more) (pre++L) X Y u A l) fun e a w p=>p.weaken
  |_=>exact p
 |cond x y z j r=>
  intro d ex k env L a w G i h;simp only[sx]at h;split at h
  ·rename_i kk e t;generalize g:gV .bool (e.inf fx.cx.tb.tab d.Γ)=C at h;cases C with
   |false=>exact h.elim
   |true=>
    simp only[gD]at h;obtain⟨U,N,bm,tm,V⟩:=G;obtain⟨b,q,I⟩:=Ds U (vW g) ((dN V t).1 (cR _));obtain⟨o,l⟩:=h;rw[q]at o l;refine wp_cond I ?_;cases b with
    |true=>exact j d ex k env L a w ⟨U,N,bm,tm,V⟩ i (o rfl)
    |false=>exact r d ex k env L a w ⟨U,N,bm,tm,V⟩ i (l rfl)
  ·exact h.elim
 |block id b ih=>
  intro d ex k env L a w G i h;simp only[sx]at h;refine wp_block (A9 (ih d _ k env L a w G i h) fun e X Y p=> ?_);cases e with
  |normal=>exact p
  |exit J=>
   obtain⟨j,o,l⟩:=p;simp only[OD]at o;simp only[Exit.inBlock];by_cases e:J=id
   ·rw[aC e];subst e;have:Nat.beq J J=true:=by simp
    rw[this]at o;simp only[gD,aS]at o;subst o;exact l
   ·rw[aw e];have:Nat.beq id J=false:=by
     cases q:Nat.beq id J with
     |false=>rfl
     |true=>exact absurd (gI q).symm e
    rw[this]at o;exact⟨j,o,l⟩
  |ret=>exact p
  |_=>exact p
 |exit id=>
  intro d ex k env L a w G i h;simp only[sx]at h;refine wp_exit ?_;split at h
  ·rename_i j q;exact⟨j,q,[],[],d,by simpa using G,by simpa using i,by simpa using h⟩
  ·exact h.elim
 |loop b ih=>
  intro d ex k env L a w G i h;simp only[sx]at h;generalize alU fx.cx.tb.tab b d=H at h;split at h
  ·rename_i es j;generalize g:(Nat.beq H.hd.lv (d.lv+1)&&decide (H.hd.Γ=d.Γ++H.eJ)&&Nat.beq H.slots.length H.eJ.length)=C at h;cases C with
   |false=>exact h.elim
   |true=>
    simp only[gD]at h;simp only[aX,du]at g;obtain⟨⟨v,C⟩,q⟩:=g;replace v:=gI v;obtain⟨U,N,bm,tm,V⟩:=G;obtain⟨I,q,o,l⟩:=h;have r:∀g,fO fx.cx.tb.tab H.eJ g->bV fx.cx.tb.tab H.hd.Γ (env++g)/\(env++g).length=H.hd.Γ.length:=fun g t=>by rw[C];exact⟨U.append N t,by simp[N,F4 t]⟩
    obtain⟨b1,b2,b3,C,J,B,t⟩:=ahb (c:=c0) (env0:=env) (env':=env) j N ⟨[],by simp⟩ U V;refine wp_loop_ghost (fun m a w=>∃g,q g=m/\fO fx.cx.tb.tab H.eJ g/\dI g/\I g/\∃bm tm,aN {c0 with env:=env++g} (below H.hd.nt) H.hd.σ.get bm tm a w) (q (es.map (·.den env))) ⟨_,rfl,b1,b2,o,bm,B,t⟩ ?_;rintro m a w ⟨g,rfl,o,t,B,bm,tm,C⟩;obtain⟨u,A⟩:=r g o;refine A9 (ih H.hd ex _ (env++g) ((fun j=>I j/\q j<q g)::L) a w ⟨u,A,bm,tm,C⟩ (by simp[i,v]) (l g o t B)) fun e X Y p=> ?_;have u:∀{e a w},Post P fx c0 Q (env++g) ((fun j=>I j/\q j<q g)::L) ex (Q5 fx.cx.tb.tab d.Γ.length d.nt d.lv H) e a w->e≠.normal->Post P fx c0 Q env L ex k e a w:=fun {e a w} p l=>by
     have:Post P fx c0 Q env L ex (Q5 fx.cx.tb.tab d.Γ.length d.nt d.lv H) e a w:=Post.weaken (more:=g) (pre:=[fun j=>I j/\q j<q g]) p;cases e with
     |normal=>exact absurd rfl l
     |exit id=>exact this
     |ret=>exact this
     |_=>exact this
    cases e with
    |normal=>
     obtain⟨more,pre,s,q1,q2,q3⟩:=p;simp only[Q5]at q3;split at q3
     ·rename_i l O;cases l:Nat.blt d.lv s.lv with
      |false=>rw[l]at q3;exact q3.elim
      |true=>
       rw[l]at q3;simp only[gD]at q3;obtain⟨l,t,o,v,r⟩:=q1;obtain⟨v,A,C,J,S,t,B⟩:=ahb (c:=c0) (env0:=env) (env':=env++g++more) O N ⟨g++more,by simp⟩ l r;have l:(pre++(fun j=>I j/\q j<q g)::L)[s.lv-d.lv-1]? =some (fun j=>I j/\q j<q g):=by
        have g:s.lv-d.lv-1=pre.length:=by simp only[iZ,dR]at q2;omega
        rw[g];simp
       simp only[VC.den,l]at q3;exact⟨_,q3.2,_,rfl,v,A,q3.1,o,t,B⟩
     ·exact q3.elim
    |exit id=>exact u p (by simp)
    |goto l=>exact p.elim
    |ret=>exact u p (by simp)
    |panic g=>exact p.elim
    |outgrown=>exact p.elim
  ·exact h.elim
 |ret=> intro d ex k env L a w G i h;simp only[sx]at h;exact wp_ret ⟨env,d,L,G,h⟩
 |rangeFunc f p g b j o=>intro d ex k env L a w G i h;exact h.elim
 |scope b ih=>intro d ex k env L a w G i h;exact h.elim
 |label l=>intro d ex k env L a w G i h;exact h.elim
 |goto l=>intro d ex k env L a w G i h;exact h.elim
 |refuse s=>intro d ex k env L a w G i h;exact h.elim
end
end
end Go.Proofs.YtoomhbopolalnabGreatDoor
