/- The head of a loop: the state that holds at each round's beginning. No program in sight. -/
import Derived.Test.YtekplmpbkgchfaaGreatDoorE5
set_option linter.all false
namespace Go.Proofs.YtekplmpbkgchfaaGreatDoor
section
open Go.RowKit
variable [GC]
def mw(n:Nat)(env env':List D):Prop:= ∀e:E,e.fF n=true->e.den env'=e.den env
def yn{n:Nat}{env more:List D}(h:n<=env.length):mw n env (env++more):=fun e he=>ael h e he
def mw.symm{n:Nat}{env env':List D}(h:mw n env env'):mw n env' env:=fun e he=>(h e he).symm
def mw.trans{n:Nat}{env env' agt:List D}(h:mw n env env')(h':mw n env' agt):mw n env agt:=fun e he=>(h' e he).trans (h e he)
section
variable {w:World}{M:Addr->Prop}{bm:Nat->Nat}{tm:Nat->Value}{n:Nat}{env env':List D}
def pq(h:mw n env env'){gs:Gd}(hb:uB n gs=true):cK env' gs↔cK env gs:=by unfold uB at hb;have hb:=fO.1 hb;unfold cK;exact ⟨fun q x hx=>by rw [<-h x.1 (hb x hx)];exact q x hx,fun q x hx=>by rw [h x.1 (hb x hx)];exact q x hx⟩
def akX(h:mw n env env'){k:K}{e:E}{v:Value}(hb:e.fF n=true)(hr:cz w M tm env k e v):cz w M tm env' k e v:=by cases k<;>simp only [cz,h e hb] at * <;>exact hr
def akY(h:mw n env env'){st:ST}{v:Value}(hb:nN n st=true)(hr:qi w M bm tm env st v):qi w M bm tm env' st v:=by
 cases st with
 | v gs k e => simp only [nN,aP] at hb;exact ⟨fun hg=>akX h hb.2 (hr.1 ((pq h hb.1).1 hg)),fun hg=>hr.2 fun q=>hg ((pq h hb.1).2 q)⟩
 | ptr gs id off => simp only [nN] at hb;exact ⟨fun hg=>hr.1 ((pq h hb).1 hg),fun hg=>hr.2 fun q=>hg ((pq h hb).2 q)⟩
 | ro gs e off => simp only [nN,aP] at hb;exact ⟨fun hg=>by rw [h e hb.2];exact hr.1 ((pq h hb.1).1 hg),fun hg=>hr.2 fun q=>hg ((pq h hb.1).2 q)⟩
 | gp gs g x i => simp only [nN,aP] at hb;exact ⟨fun hg=>by rw [h x (by simp [hb]),h i (by simp [hb])];exact hr.1 ((pq h (by simp [hb])).1 hg),fun hg=>hr.2 fun q=>hg ((pq h (by simp [hb])).2 q)⟩
 | mp gs g n' i off => simp only [nN,aP] at hb;exact ⟨fun hg=>by rw [h i hb.2];exact hr.1 ((pq h hb.1).1 hg),fun hg=>hr.2 fun q=>hg ((pq h hb.1).2 q)⟩
 | iv gs g gv n' i off l => simp only [nN,aP] at hb;exact ⟨fun hg=>by rw [h i hb.1.2,h l hb.2];exact hr.1 ((pq h hb.1.1).1 hg),fun hg=>hr.2 fun q=>hg ((pq h hb.1.1).2 q)⟩
 | ip gs g gv n' i off j m o2 => simp only [nN,aP] at hb;exact ⟨fun hg=>by rw [h i hb.1.2,h j hb.2];exact hr.1 ((pq h hb.1.1).1 hg),fun hg=>hr.2 fun q=>hg ((pq h hb.1.1).2 q)⟩
 | _=>trivial
def akS(h:mw n env env'): ∀{cs:List (K×E)} {vs:List Value},(∀x∈cs,x.2.fF n=true)->cQ w M tm env cs vs->cQ w M tm env' cs vs
 | [],_,_,hr=>hr
 | c::r,vs,hb,⟨v,q,e,h1,h2⟩=>⟨v,q,e,akX h (hb c (by simp)) h1,akS h (fun x hx=>hb x (by simp [hx])) h2⟩
def sO.agr{c:SC}{id:Nat}{cs:List (K×E)}(h:mw n c.env env')(hb: ∀x∈cs,x.2.fF n=true)(hr:sO c w M bm tm id cs):sO {c with env:=env'} w M bm tm id cs:=by obtain ⟨vs,T,h1,h2,h3⟩:=hr;exact ⟨vs,T,h1,akS h hb h2,h3⟩
def aeJ{c:SC}{F:Nat->Prop}{σ:Nat->ST}{a:Act}(h:mw n c.env env')(hb: ∀l,nN n (σ l)=true)(hs:aS c F σ bm tm a w):aS {c with env:=env'} F σ bm tm a w :=
 {hs with
  tmps:=fun t=>akY h (hb _) (hs.tmps t)
  box:=fun id cs hc=>(hs.box id cs hc).agr h (by have:=hb (3*id+1);rw [hc] at this;simpa [nN] using this)
  live:=fun g m hm=>⟨(hs.live g m hm).sp,fun e dp he=>by
   have Ms:e.fF n=true:=by have:=hb (3*g+2);rw [hm] at this;simpa [nN,he] using this
   show xg w (tm g) m.n _ (e.den env');rw [h e Ms];exact (hs.live g m hm).bd e dp he,(hs.live g m hm).dp⟩}
def Xb: ∀{σ:Sg} {l:Nat},σ.get l≠ .un-> ∃x∈σ,x.1=l
 | [],l,h=>absurd rfl h
 | (l',s)::r,l,h=>by
  simp only [Sg.get] at h;cases e:Nat.beq l' l with
  | true=>exact ⟨(l',s),by simp,iW e⟩
  | false => rw [e] at h;obtain ⟨x,hx,hl⟩:=Xb (σ:=r) h;exact ⟨x,by simp [hx],hl⟩
def aeW{σ:Sg}(h:σ.all (fun x=>nN n (σ.get x.1))=true)(l:Nat):nN n (σ.get l)=true:=by
 by_cases he:σ.get l= .un
 ·rw [he];rfl
 ·obtain ⟨x,hx,hl⟩:=Xb he;have:=fO.1 h x hx
  rwa [hl] at this
end
def Nd{n:Nat}{k:K}{g:Nat}(h:Jc n k=true)(hg:k.has g):g<n:=by
 cases k with
 | own g'=>have:g=g':=hg;subst this;exact ia h
 | ag ks => have:=fO.1 h _ (show KK.own g∈ks from hg);exact ia this
 | _=>exact hg.elim
def alH{tab:Nat->List CT}{Γ:List VT}{σ:Nat->ST}: ∀{ss:List Slot} {ks:List K} {dR:List VT} {vs:List (K×E)},Bp tab Γ σ ss ks dR=some vs->ss.length=vs.length/\ks.length=vs.length/\dR.length=vs.length /\
  ∀(i:Nat) (s:Slot),ss[i]? =some s-> ∃k ty k' e',ks[i]? =some k/\dR[i]? =some ty/\vs[i]? =some (k',e')/\zr σ s=some (k',e')/\e'.inf tab Γ=some ty/\FQ tab σ ty k k'=true
 | [],[],[],vs,h=>by simp [Bp] at h;subst h;exact ⟨rfl,rfl,rfl,fun i s hs=>by simp at hs⟩
 | s::ss,k::ks,ty::dR,vs,h=>by
  simp only [Bp] at h;split at h
  ·rename_i k' e' r h1 h2;cases hc:(decide (e'.inf tab Γ=some ty)&&FQ tab σ ty k k') with
   | false=>rw [hc] at h;simp at h
   | true =>
    rw [hc] at h;simp only [ib,bg] at h;subst h;simp only [aP,cC] at hc;obtain ⟨i1,i2,i3,i4⟩:=alH h2;refine ⟨by simp [i1],by simp [i2],by simp [i3],fun i s' hs'=> ?_⟩;cases i with
    | zero=>simp at hs';subst hs';exact ⟨k,ty,k',e',rfl,rfl,rfl,h1,hc.1,hc.2⟩
    | succ i => simp at hs';obtain ⟨a,b,c,d,q1,q2,q3,q4⟩:=i4 i s' hs';exact ⟨a,b,c,d,by simpa using q1,by simpa using q2,by simpa using q3,q4⟩
  ·simp at h
 | [],[],_::_,vs,h=>by simp [Bp] at h
 | [],_::_,_,vs,h=>by simp [Bp] at h
 | _::_,[],_,vs,h=>by simp [Bp] at h
 | _::_,_::_,[],vs,h=>by simp [Bp] at h
def Tp{nt:Nat}: ∀{ks:List K} {o:Nat},A6 nt o ks=true-> ∀{i:Nat} {k:K},ks[i]? =some k->k= .d\/k= .own (nt+(o+i))
 | [],o,h,i,k,hk=>by simp at hk
 | .d::r,o,h,i,k,hk=>by
  cases i with
  | zero=>simp at hk;exact .inl hk.symm
  | succ i =>
   simp only [A6] at h;simp at hk;have:=Tp h hk
   rwa [show o+1+i=o+(i+1) by omega] at this
 | .own g::r,o,h,i,k,hk=>by
  simp only [A6,aP] at h;cases i with
  | zero=>simp at hk;subst hk;exact .inr (by rw [iW h.1];simp)
  | succ i =>
   simp at hk;have:=Tp h.2 hk
   rwa [show o+1+i=o+(i+1) by omega] at this
 | .full::r,o,h,i,k,hk=>by simp [A6] at h
 | .ag _::r,o,h,i,k,hk=>by simp [A6] at h
def UX: ∀{ks:List K} {vs:List (K×E)} {i g' g:Nat} {e:E},ks[i]? =some (.own g')->vs[i]? =some (.own g,e)->g∈ru ks vs
 | [],_,i,g',g,e,h,_=>by simp at h
 | _::_,[],i,g',g,e,_,h=>by simp at h
 | k::ks,(k',e')::vs,i,g',g,e,h,h'=>by
  cases i with
  | zero=>simp at h h';obtain ⟨rfl,rfl⟩:=h';subst h;simp [ru]
  | succ i => simp at h h';have ih:=UX h h';cases k<;>cases k'<;>simp [ru,ih]
def ab3: ∀{ks:List K} {vs:List (K×E)},FZ (ru ks vs)=true-> ∀{i j g1 g2 g g':Nat} {e e':E},i<j->ks[i]? =some (.own g1)->ks[j]? =some (.own g2)->vs[i]? =some (.own g,e)->vs[j]? =some (.own g',e')->g≠g'
 | [],_,_,i,j,_,_,_,_,_,_,_,h,_,_,_=>by simp at h
 | _::_,[],_,i,j,_,_,_,_,_,_,_,_,_,h,_=>by simp at h
 | k::ks,(k',e0)::vs,hn,i,j,g1,g2,g,g',e,e',hij,h1,h2,h3,h4=>by
  obtain ⟨j,rfl⟩: ∃j',j=j'+1:=⟨j-1,by omega⟩;simp at h2 h4;cases i with
  | zero => simp at h1 h3;obtain ⟨rfl,rfl⟩:=h3;subst h1;simp only [ru,FZ,aP,oP,Xm,mZ] at hn;have:=UX h2 h4;exact fun h=>hn.1 (h▸this)
  | succ i =>
   simp at h1 h3;have hn':FZ (ru ks vs)=true:=by cases k<;>cases k'<;>simp only [ru] at hn<;>first|exact hn|(simp only [FZ,aP] at hn;exact hn.2)
   exact ab3 hn' (show i<j by omega) h1 h2 h3 h4
section
variable {tb:TB}{H:Head}{s:SS}{n nt:Nat}{es:List E}{env0 env':List D}{c:SC}{bm:Nat->Nat}{tm:Nat->Value}{a:Act}{w:World}
def wU(σ:Nat->ST)(bm:Nat->Nat)(tm:Nat->Value)(a:Act)(w:World):Slot->Value
 | .t t=>a.tmps.getD t undef
 | .b id j=>(w.cell? ⟨bm id,j,none⟩).getD undef
 | .m g=>match σ (3*g+2) with| .live ⟨_,some (_,some (gv,_))⟩=>tm gv|_=>undef
def aaF{d:D}{v:Value}(h:Py d v):Fits d:=Kl (w:=default) (M:=fun _=>False) _ _ (h _ _)
def agQ: ∀{l:List D},(∀(i:Nat) (d:D),l[i]? =some d->Fits d)->dW l
 | [],_=>trivial
 | d::r,hh=>⟨hh 0 d rfl,agQ fun i d' hd=>hh (i+1) d' (by simpa using hd)⟩
def agR: ∀{l:List (List D)},(∀r∈l,dW r)->Kf l
 | [],_=>trivial
 | r::l,hh=>⟨hh r (by simp),agR fun x hx=>hh x (by simp [hx])⟩
def ak5{v:Value}{m:Nat}{Q:Nat->Nat->D->Value->Prop}{d:D}(hb:xg w v m Q d)(hQ: ∀i j d u,Q i j d u->Fits d):Fits d:=by
 obtain ⟨ad,len,cap,rows,h1,h2,h3,h4,h5,h6,h7,h8⟩:=hb;rw [h2];refine ⟨by omega,agR fun r hr=> ?_⟩;obtain ⟨i,hi,rfl⟩:=yE hr;refine agQ fun j d hj=> ?_;rcases ad with _|⟨b,o,s⟩
 ·have:=h6 rfl;omega
 ·obtain ⟨u,_,hl⟩:=(h8 b o s rfl).2 i _ (cO hi) j d hj;exact hQ _ _ _ _ hl
def aB5{B n:Nat}{dp:Option (Nat×List Nat)}{i j:Nat}{d:D}{u:Value}(h:Kj B w tm n dp i j d u):Fits d:=by
 rcases dp with _|⟨gv,ms⟩
 ·exact aaF h
 ·by_cases h0:ms.getD j 0=0
  ·exact aaF (h.1 h0)
  ·exact ak5 (h.2 h0).2.2 fun _ _ _ _ h=>aaF h
def aEM{F:Nat->Prop}{σ:Nat->ST}(hs:aS c F σ bm tm a w){g:Nat}{k:K}{e:E}(h:zr σ (.m g)=some (k,e)):k= .d/\Fits (e.den c.env):=by
 simp only [zr] at h;split at h
 ·rename_i n' e' dp hσ;simp only [bg,oU] at h;obtain ⟨rfl,rfl⟩:=h;exact ⟨rfl,ak5 ((hs.live g _ hσ).bd _ _ rfl) fun _ _ _ _ h=>aB5 h⟩
 ·simp at h
structure zR(tm tm':Nat->Value)(env env':List D)(m m':LV):Prop where
 n:m'.n=m.n
 b:(m.body=none/\m'.body=none)\/ ∃e e' dp v7,m.body=some (e,dp)/\m'.body=some (e',v7)/\e.den env'=e'.den env/\((dp=none/\v7=none)\/ ∃gv og ms,dp=some (gv,ms)/\v7=some (og,ms)/\tm' gv=tm og)
def zR.deep{tm tm':Nat->Value}{env env':List D}{m m':LV}(h:zR tm tm' env env' m m'){e:E}{gv:Nat}{ms:List Nat}(hm:m.body=some (e,some (gv,ms))): ∃e' og,m'.body=some (e',some (og,ms))/\tm' gv=tm og:=by
 rcases h.b with ⟨h1,_⟩|⟨e1,e2,dp,v7,h1,h2,_,h3⟩
 ·rw [hm] at h1;cases h1
 ·rw [hm] at h1;simp only [bg,oU] at h1;rcases h3 with ⟨h4,_⟩|⟨g1,g2,ms',h4,h5,h6⟩
  ·rw [h4] at h1;cases h1.2
  ·rw [h4] at h1;simp only [bg,oU] at h1;obtain ⟨_,rfl,rfl⟩:=h1;exact ⟨e2,g2,by rw [h2,h5],h6⟩
def zR.blk{tm tm':Nat->Value}{env env':List D}{m m':LV}{g b:Nat}(h:zR tm tm' env env' m m')(hg:tm' g=tm g)(hb:mz tm' g m b):mz tm g m' b:=by
 rcases hb with hb|⟨e,gv,ms,cells,u,h1,h2,h3,h4⟩
 ·rw [hg] at hb;exact .inl hb
 ·obtain ⟨e',og,h5,h6⟩:=h.deep h1;exact .inr ⟨e',og,ms,cells,u,h5,by rw [<-h6];exact h2,h3,h4⟩
def zR.xT{tm tm':Nat->Value}{env env':List D}{m m':LV}{g:Nat}{p:Addr}(h:zR tm tm' env env' m m')(hg:tm' g=tm g)(hb:xT tm' g m p):xT tm g m' p:=by
 rcases hb with ⟨b,o,s,len,cap,h1,h2,h3,h4⟩|⟨e,gv,ms,cells,u,h1,h2,h3,h4⟩
 ·rw [hg] at h1;refine .inl ⟨b,o,s,len,cap,h1,h2,h3,fun hn=> ?_⟩;rw [h.n];refine h4 ?_;rcases h.b with ⟨h5,_⟩|⟨e1,e2,dp,v7,_,h6,_⟩
  ·exact h5
  ·rw [hn] at h6;cases h6
 ·obtain ⟨e',og,h5,h6⟩:=h.deep h1;exact .inr ⟨e',og,ms,cells,u,h5,by rw [<-h6];exact h2,h3,h4⟩
def zR.live{c:SC}{tm tm':Nat->Value}{env':List D}{m m':LV}{g:Nat}(h:zR tm tm' c.env env' m m')(hg:tm' g=tm g)(hl:tX c w tm g m'):tX {c with env:=env'} w tm' g m:=by
 refine ⟨?_,fun e dp he=> ?_,fun e gv ms he=> ?_⟩
 ·have:=hl.sp;rw [h.n] at this;rw [hg];exact this
 ·rcases h.b with ⟨h1,_⟩|⟨e1,e2,dp1,dp2,h1,h2,h3,h4⟩
  ·rw [h1] at he;cases he
  ·rw [h1] at he;simp only [bg,oU] at he;obtain ⟨rfl,rfl⟩:=he;have:=hl.bd e2 dp2 h2;rw [h.n] at this;show xg w (tm' g) m.n _ (e1.den env');rw [h3,hg];refine this.keep (fun _ _=>rfl) fun i j d u hq=> ?_;rcases h4 with ⟨rfl,rfl⟩|⟨gv,og,ms,rfl,rfl,h5⟩
   ·exact hq
   ·refine ⟨hq.1,fun h0=> ?_⟩;obtain ⟨⟨cells,h6,h7⟩,h8⟩:=hq.2 h0;exact ⟨⟨cells,by rw [h5];exact h6,h7⟩,h8⟩
 ·obtain ⟨e',og,h5,h6⟩:=h.deep he;obtain ⟨cells,h7,h8,h9,h10⟩:=hl.dp e' og ms h5;exact ⟨cells,by rw [h6];exact h7,h8,h9,by rw [hg];exact h10⟩
def aEN{F:Nat->Prop}{σ:Nat->ST}(hs:aS c F σ bm tm a w){sl:Slot}{k:K}{e:E}(hne: ∀g,sl≠ .m g)(h:zr σ sl=some (k,e)):cz w (MM c.M0 bm tm σ) tm c.env k e (wU σ bm tm a w sl):=by
 cases sl with
 | m g=>exact absurd rfl (hne g)
 | t t =>
  simp only [zr] at h;split at h
  ·rename_i k' e' hσ;simp only [bg,oU] at h;obtain ⟨rfl,rfl⟩:=h;have:=hs.tmps t;rw [hσ] at this;exact this.1 (dZ _)
  ·simp at h
 | b id j =>
  simp only [zr] at h;split at h
  ·rename_i cs hσ;obtain ⟨vs,T,hb,hr,_⟩:=hs.box id cs hσ;obtain ⟨v,hv,hk⟩:=hr.get h;have:w.cell? ⟨bm id,j,none⟩=some v:=by rw [z7 w _ j _ T _ hb];simpa using hv
   simp only [wU,this,mX];exact hk
  ·simp at h
def ae4(hb:back tb.tab n nt H s=some es)(hn:env0.length=n)(hpre: ∃more,env'=env0++more)(aB:cq tb.tab s.Γ env')(hs:aS {c with env:=env'} (below s.nt) s.σ.get bm tm a w) :
  fM tb.tab H.dR (es.map (·.den env'))/\dW (es.map (·.den env'))/\es.length=H.slots.length/\H.dR.length=H.slots.length/\nt+H.slots.length=H.hd.nt/\ ∃tm',aS {c with env:=env0++es.map (·.den env')} (below H.hd.nt) H.hd.σ.get bm tm' a w:=by
 unfold back at hb;split at hb
 ·rename_i vs hvs;generalize hC:(FZ (ru H.ks vs)&&A6 nt 0 H.ks&&Nat.beq H.hd.nt (nt+H.slots.length)&&Nat.ble nt s.nt&&Nat.blt 0 nt&&H.hd.σ.all (fun x=>Ah tb.tab n nt H s.σ.get (ru H.ks vs) x.1 (H.hd.σ.get x.1)))=C at hb;cases C with
  | false=>simp at hb
  | true =>
   simp only [ib,bg] at hb;subst hb;simp only [aP] at hC;obtain ⟨⟨⟨⟨⟨hnd,hks⟩,hnt⟩,SD⟩,hpos⟩,hall⟩:=hC;replace hpos:=ia hpos;replace hnt:=iW hnt;replace SD:=ia SD;obtain ⟨l1,l2,l3,hget⟩:=alH hvs;obtain ⟨more,rfl⟩:=hpre;have hval: ∀(i:Nat) (sl:Slot),H.slots[i]? =some sl-> ∃k ty k' e',H.ks[i]? =some k/\H.dR[i]? =some ty/\vs[i]? =some (k',e')/\((∃g,sl= .m g/\k'= .d)\/cz w (MM c.M0 bm tm s.σ.get) tm (env0++more) k' e' (wU s.σ.get bm tm a w sl))/\bA tb.tab ty (e'.den (env0++more))/\FQ tb.tab s.σ.get ty k k'=true/\Fits (e'.den (env0++more))/\zr s.σ.get sl=some (k',e'):=fun i sl hi=>by
    obtain ⟨k,ty,k',e',q1,q2,q3,q4,q5,q6⟩:=hget i sl hi;by_cases hm: ∃g,sl= .m g
    ·obtain ⟨g,rfl⟩:=hm;obtain ⟨z1,z2⟩:=aEM hs q4;exact ⟨k,ty,k',e',q1,q2,q3,.inl ⟨g,rfl,z1⟩,eG aB e' ty q5,q6,z2,q4⟩
    ·have hr:=aEN hs (fun g h=>hm ⟨g,h⟩) q4;exact ⟨k,ty,k',e',q1,q2,q3,.inr hr,eG aB e' ty q5,q6,Kl _ _ hr.rd,q4⟩
   have R8: ∀l,H.hd.σ.get l≠ .un->Ah tb.tab n nt H s.σ.get (ru H.ks vs) l (H.hd.σ.get l)=true:=fun l hl=>by obtain ⟨x,hx,rfl⟩:=Xb hl;exact fO.1 hall x hx
   generalize hys:(vs.map (·.2)).map (·.den (env0++more))=ys;have hyl:ys.length=H.slots.length:=by rw [<-hys];simp [l1]
   have aam: ∀(i:Nat) (k':K) (e':E),vs[i]? =some (k',e')->ys[i]? =some (e'.den (env0++more)):=fun i k' e' h=>by rw [<-hys];simp [h]
   have Zy:mw n (env0++more) (env0++ys):=(yn (by omega)).symm.trans (yn (by omega));have aad: ∀(i:Nat) (sl:Slot),H.slots[i]? =some sl->i<H.slots.length:=fun i sl h=>(dQ.1 h).1
   let tm':Nat->Value:=fun g=>if nt<=g/\g<nt+H.slots.length then ((H.slots[g-nt]?).map (wU s.σ.get bm tm a w)).getD undef else tm g
   have FJ: ∀g,g<nt->tm' g=tm g:=fun g hg=>ak (by omega);have aag: ∀(i:Nat) (sl:Slot),H.slots[i]? =some sl->tm' (nt+i)=wU s.σ.get bm tm a w sl:=fun i sl hi=>by have:=aad i sl hi;show (if _ then _ else _)=_;rw [aA (by omega),show nt+i-nt=i by omega,hi];rfl
   have rP: ∀g m,H.hd.σ.get (3*g+2)= .live m->(g<nt/\g∉ru H.ks vs/\(∀x,cP (.live m) x->x<nt+H.slots.length)/\ ∃m',s.σ.get (3*g+2)= .live m'/\zR tm tm' (env0++more) (env0++ys) m m') \/
     (∃i sl k' e' el,g=nt+i/\H.slots[i]? =some sl/\H.ks[i]? =some (.own g)/\vs[i]? =some (k',e')/\m=⟨(tb.tab el).length,none⟩/\tm' g=wU s.σ.get bm tm a w sl /\
     ((k'= .full/\ ∃ad,wU s.σ.get bm tm a w sl= .slice ad 0 0)\/(∃g',k'= .own g'/\s.σ.get (3*g'+2)= .live m/\wU s.σ.get bm tm a w sl=tm g'))):=by
    intro g m hl;have he:=R8 (3*g+2) (by rw [hl];simp);rw [hl] at he;simp only [Ah,aP,gK,show (3*g+2)/3=g by omega] at he;obtain ⟨_,he⟩:=he;rcases he with ⟨⟨⟨h0,h1⟩,h2⟩,h3⟩|⟨⟨h2,h3⟩,h1⟩
    ·right;have h1:=ia h1;simp only [cC] at h2;split at h3
     ·rename_i el hty;replace h3:=iW h3;have hm:m=⟨(tb.tab el).length,none⟩:=by
       obtain ⟨mn,mb⟩:=m;simp only at h3;cases mb with
       | none=>rw [h3]
       | some _=>simp at h0
      have hlt:g-nt<H.ks.length:=(dQ.1 h2).1;have hsl:H.slots[g-nt]? =some (H.slots[g-nt]'(by omega)):=cO (by omega);obtain ⟨k,ty,k',e',q1,q2,q3,q4,q5,q6,_,_⟩:=hval _ _ hsl;rw [h2] at q1;simp at q1;subst q1;rw [hty] at q2;simp at q2;subst q2;have hg:g=nt+(g-nt):=by omega
      refine ⟨g-nt,_,k',e',el,hg,hsl,h2,q3,hm,(by have:=aag _ _ hsl;rwa [show nt+(g-nt)=g by omega] at this),?_⟩;cases k' with
      | d=>simp [FQ] at q6
      | ag _=>simp [FQ] at q6
      | full =>
       rcases q4 with ⟨_,_,h⟩|q4
       ·cases h
       ·exact .inl ⟨rfl,q4.2⟩
      | own g' =>
       rcases q4 with ⟨_,_,h⟩|q4
       ·cases h
       simp only [FQ,cC] at q6;exact .inr ⟨g',rfl,by rw [q6,hm],q4.2⟩
     ·simp at h3
    ·left;refine ⟨ia h2,by simpa using h3,?_⟩;rcases h1 with h1|h1
     ·simp only [zn,aP,cC] at h1;have Fy: ∀e gv ms,m.body=some (e,some (gv,ms))->gv<nt:=fun e gv ms he=>by have:=h1.2;simp only [qj,he] at this;exact ia this
      refine ⟨fun x ⟨e,ms,hx⟩=>by have:=Fy e x ms hx;omega,m,h1.1.1,rfl,?_⟩;cases MI:m.body with
      | none=>exact .inl ⟨rfl,rfl⟩
      | some ed =>
       obtain ⟨e,dp⟩:=ed;refine .inr ⟨e,e,dp,dp,rfl,rfl,Zy e ?_,?_⟩
       ·have:=h1.1.2;simpa [nN,MI] using this
       ·rcases dp with _|⟨gv,ms⟩
        ·exact .inl ⟨rfl,rfl⟩
        ·exact .inr ⟨gv,gv,ms,rfl,rfl,FJ gv (Fy e gv ms MI)⟩
     ·unfold mOk at h1;split at h1
      ·rename_i v dp n' e2 v7 MI hσ;simp only [aP,cC,show (3*g+2)/3=g by omega] at h1;obtain ⟨⟨⟨z1,z2⟩,z3⟩,z4⟩:=h1;have z1:=ia z1;have z3:=iW z3;obtain ⟨k,ty,k',e',q1,q2,q3,q4,q5,q6,_,q8⟩:=hval _ _ z2;simp only [zr,hσ,bg,oU] at q8;obtain ⟨_,rfl⟩:=q8;have hlt:=aad _ _ z2;have Fy: ∀gv ms,dp=some (gv,ms)->gv=nt+(v-n)/\ ∃og,v7=some (og,ms):=fun gv ms hd=>by
        subst hd;rcases v7 with _|⟨og,ms'⟩
        ·simp [Rk] at z4
        ·simp only [Rk,aP,cC] at z4;exact ⟨iW z4.1,og,by rw [z4.2]⟩
       refine ⟨fun x ⟨e,ms,hx⟩=> ?_,_,hσ,z3,.inr ⟨_,_,dp,v7,MI,rfl,?_,?_⟩⟩
       ·rw [MI] at hx;simp only [bg,oU] at hx;have:=(Fy x ms hx.2).1;omega
       ·simp only [E.den,List.getD];rw [oT (by omega),hn,aam _ _ _ q3];rfl
       ·rcases dp with _|⟨gv,ms⟩
        ·rcases v7 with _|⟨og,ms'⟩
         ·exact .inl ⟨rfl,rfl⟩
         ·simp [Rk] at z4
        ·obtain ⟨h1,og,rfl⟩:=Fy gv ms rfl;refine .inr ⟨gv,og,ms,rfl,rfl,?_⟩;rw [h1,aag _ _ z2];simp only [wU,hσ]
      ·simp at h1
   have ZB: ∀id cs,H.hd.σ.get (3*id+1)= .box cs->id<nt/\((∃cs',s.σ.get (3*id+1)= .box cs'/\cs'.length=cs.length/\ ∀j k e,cs[j]? =some (k,e)-> ∃v,e= .var v/\n<=v/\H.slots[v-n]? =some (.b id j)/\H.ks[v-n]? =some k) \/
     (s.σ.get (3*id+1)= .box cs/\(∀x∈cs,x.2.fF n=true)/\ ∀x∈cs,Jc nt x.1=true)):=by
    intro id cs hl;have he:=R8 (3*id+1) (by rw [hl];simp);rw [hl] at he;simp only [Ah,aP,gK,show (3*id+1)/3=id by omega] at he;obtain ⟨⟨_,h0⟩,he⟩:=he;refine ⟨ia h0,?_⟩;rcases he with ⟨h1,h2⟩|h1
    ·left;split at h1
     ·rename_i cs' hcs';refine ⟨cs',hcs',iW h1,fun j k e hj=> ?_⟩;have hz:((k,e),j)∈cs.zipIdx:=by rw [aeV];exact hj
      have:=fO.1 h2 _ hz;simp only at this;split at this
      ·rename_i v;simp only [aP,cC] at this;exact ⟨v,rfl,ia this.1.1,this.1.2,this.2⟩
      ·simp at this
     ·simp at h1
    ·right;simp only [zn,aP,cC,nN,qj,fO] at h1;exact ⟨h1.1.1,h1.1.2,h1.2⟩
   have RX: ∀id cs,H.hd.σ.get (3*id+1)= .box cs-> ∃cs',s.σ.get (3*id+1)= .box cs':=fun id cs h=>by
    rcases (ZB id cs h).2 with ⟨cs',h1,_⟩|⟨h1,_⟩
    ·exact ⟨cs',h1⟩
    ·exact ⟨cs,h1⟩
   have hsub: ∀p,MM c.M0 bm tm' H.hd.σ.get p->MM c.M0 bm tm s.σ.get p:=by
    rintro p (h|⟨id,cs,h1,h2⟩|⟨g,m,h1,h2⟩)
    ·exact .inl h
    ·obtain ⟨cs',h3⟩:=RX id cs h1;exact .inr (.inl ⟨id,cs',h3,h2⟩)
    ·rcases rP g m h1 with ⟨q1,_,_,m',q2,q3⟩|⟨i,sl,k',e',el,rfl,q1,q2,q3,q4,q5,q6⟩
     ·exact .inr (.inr ⟨g,m',q2,q3.xT (FJ g q1) h2⟩)
     ·subst q4;have h2:=Jo h2;rw [q5] at h2;rcases q6 with ⟨_,ad,q7⟩|⟨g',_,q7,q8⟩
      ·rw [q7] at h2;obtain ⟨o,s',len',cap',h3,h4⟩:=JB h2;simp only [gF] at h3;omega
      ·rw [q8] at h2;exact .inr (.inr ⟨g',_,q7,Dc h2⟩)
   have hkk:bY w (MM c.M0 bm tm s.σ.get) w (MM c.M0 bm tm' H.hd.σ.get):=fun p v hp hn=>⟨hp,fun h=>hn (hsub p h)⟩;have hcar: ∀v sl k,(∀g,sl≠Slot.m g)->n<=v->H.slots[v-n]? =some sl->H.ks[v-n]? =some k->cz w (MM c.M0 bm tm' H.hd.σ.get) tm' (env0++ys) k (.var v) (wU s.σ.get bm tm a w sl):=by
    intro v sl k hne hv hsl hk;obtain ⟨k0,ty,k',e',q1,q2,q3,q4,q5,q6,_,_⟩:=hval _ _ hsl;rcases q4 with ⟨g,h,_⟩|q4
    ·exact absurd h (hne g)
    rw [hk] at q1;simp at q1;subst q1;have hd:(E.var v).den (env0++ys)=e'.den (env0++more):=by simp only [E.den,List.getD];rw [oT (by omega),hn,aam _ _ _ q3];rfl
    have hr:R w (MM c.M0 bm tm' H.hd.σ.get) ((E.var v).den (env0++ys)) (wU s.σ.get bm tm a w sl):=by rw [hd];exact R.keep hkk _ _ q4.rd
    rcases Tp hks hk with rfl|rfl
    ·exact hr
    ·refine ⟨hr,?_⟩;rw [show nt+(0+(v-n))=nt+(v-n) by omega,aag _ _ hsl]
   have hplain: ∀l st,zn n nt s.σ.get l st=true->s.σ.get l=st/\nN n st=true/\qj nt st=true:=fun l st h=>by simp only [zn,aP,cC] at h;exact ⟨h.1.1,h.1.2,h.2⟩
   have azh: ∀st,qj nt st=true-> ∀g,cP st g->bm g=bm g/\tm' g=tm g:=by
    intro st hst g hg;refine ⟨rfl,FJ g ?_⟩;cases st with
    | v gs k e=>exact Nd (show Jc nt k=true from hst) hg
    | ptr gs id off=>simp only [cP] at hg;subst hg;simp only [qj] at hst;exact ia hst
    | mp gs g' n' i off=>simp only [cP] at hg;subst hg;simp only [qj] at hst;exact ia hst
    | iv gs g' gv n' i off l =>
     simp only [qj,aP] at hst;rcases hg with rfl|rfl
     ·exact ia hst.1
     ·exact ia hst.2
    | ip gs g' gv n' i off j m o2 =>
     simp only [qj,aP] at hst;rcases hg with rfl|rfl
     ·exact ia hst.1
     ·exact ia hst.2
    | live m => obtain ⟨e,ms,hx⟩:=hg;simp only [qj,hx] at hst;exact ia hst
    | box cs => obtain ⟨x,hx,hk⟩:=hg;simp only [qj,fO] at hst;exact Nd (hst x hx) hk
    | _=>exact hg.elim
   refine ⟨?_,?_,by simp [l1],by omega,hnt.symm,tm',?_⟩
   ·have: ∀(dR:List VT) (vs':List (K×E)),dR.length=vs'.length->(∀(i:Nat) (ty:VT) (k':K) (e':E),dR[i]? =some ty->vs'[i]? =some (k',e')->bA tb.tab ty (e'.den (env0++more)))->fM tb.tab dR ((vs'.map (·.2)).map (·.den (env0++more))):=by
     intro dR;induction dR with
     | nil=>intro vs' hl _;cases vs' with|nil=>trivial|cons _ _=>simp at hl
     | cons ty dR ih =>
      intro vs' hl hh;cases vs' with
      | nil=>simp at hl
      | cons x r=>exact ⟨hh 0 ty x.1 x.2 rfl rfl,ih r (by simpa using hl) fun i t k e h1 h2=>hh (i+1) t k e (by simpa using h1) (by simpa using h2)⟩
    rw [<-hys];refine this H.dR vs l3 fun i ty k' e' h1 h2=> ?_;have hlt:i<H.slots.length:=by rw [l1];exact (dQ.1 h2).1
    obtain ⟨k,oH,k2,e2,q1,q2,q3,q4,q5,q6,q7,_⟩:=hval i _ (cO hlt);rw [h1] at q2;simp at q2;subst q2;rw [h2] at q3;simp at q3;obtain ⟨rfl,rfl⟩:=q3;exact q5
   ·have: ∀(l:List D),(∀(i:Nat) (d:D),l[i]? =some d->Fits d)->dW l:=by
     intro l;induction l with
     | nil=>intro _;trivial
     | cons d r ih=>intro hh;exact ⟨hh 0 d rfl,ih fun i d' hd=>hh (i+1) d' (by simpa using hd)⟩
    refine this ys fun i d hd=> ?_;have hlt:i<H.slots.length:=by rw [<-hyl];exact (dQ.1 hd).1
    obtain ⟨k,oH,k2,e2,q1,q2,q3,q4,q5,q6,q7,_⟩:=hval i _ (cO hlt);rw [aam _ _ _ q3] at hd;simp at hd;subst hd;exact q7
   ·have hs':aS {c with env:=env0++more} (below s.nt) s.σ.get bm tm a w:=hs;refine ⟨hs.fr,hs.hB,hs.m0,fun t=> ?_,fun id cs h=> ?_,fun g m h=> ?_,fun id id' cs cs' h h'=> ?_,fun id cs g m b h hg hb=> ?_,fun g m g' m' b b' hg hg' hne hb hb'=> ?_,fun l g h=> ?_,fun id cs h=> ?_,fun g m h=> ?_,hs.size,hs.defers,fun g hg=>⟨(hs.x0 g hg).1,by unfold below;omega⟩⟩
    ·
     by_cases hu:H.hd.σ.get (3*t)= .un
     ·rw [hu];trivial
     ·have he:=R8 _ hu;generalize hst:H.hd.σ.get (3*t)=st at he hu;have pl:zn n nt s.σ.get (3*t) st=true->qi w (MM c.M0 bm tm' H.hd.σ.get) bm tm' (env0++ys) st (a.tmps.getD t undef):=fun hp=>by obtain ⟨p1,p2,p3⟩:=hplain _ _ hp;have:=hs.tmps t;rw [p1] at this;exact akY Zy p2 (this.keep hkk (azh st p3))
      cases st with
      | un=>trivial
      | box cs=>trivial
      | live m=>trivial
      | ptr gs id off=>exact pl he
      | ro gs e off=>exact pl he
      | gp gs g x i=>exact pl he
      | mp gs g n' i off=>exact pl he
      | iv gs g gv n' i off l=>exact pl he
      | ip gs g gv n' i off j m o2=>exact pl he
      | v gs k e =>
       cases gs with
       | cons _ _=>exact pl he
       | nil =>
        cases e with
        | var v =>
         simp only [Ah,gK,aP,cC,show 3*t/3=t by omega] at he;rcases he with ⟨⟨⟨h1,_⟩,h2⟩,h3⟩|hp
         ·exact ⟨fun _=>hcar v (.t t) k (fun _ h=>by cases h) (ia h1) h2 h3,fun hh=>absurd (dZ _) hh⟩
         ·exact pl hp
        | _=>exact pl he
    ·
     rcases (ZB id cs h).2 with ⟨cs',h1,h2,h3⟩|⟨h1,h2,h3⟩
     ·obtain ⟨us,T,hb1,hb2,hb3⟩:=hs.box id cs' h1;refine ⟨us,T,hb1,?_,hb3⟩;have nJ:us.length=cs.length:=by rw [hb2.length,h2]
      have hcell: ∀j u,us[j]? =some u->w.cell? ⟨bm id,j,none⟩=some u:=fun j u hu=>by rw [z7 w _ j _ T _ hb1];simpa using hu
      have: ∀(cs0:List (K×E)) (JK:List Value) (o:Nat),JK.length=cs0.length->(∀j x,cs0[j]? =some x->cs[o+j]? =some x)->(∀j u,JK[j]? =some u->us[o+j]? =some u)->cQ w (MM c.M0 bm tm' H.hd.σ.get) tm' (env0++ys) cs0 JK:=by
       intro cs0;induction cs0 with
       | nil=>intro JK o hl _ _;exact oR hl
       | cons x r ih =>
        intro JK o hl hc hu;cases JK with
        | nil=>simp at hl
        | cons u0 ur => refine ⟨u0,ur,rfl,?_,ih ur (o+1) (by simpa using hl) (fun j x' hx=>by have:=hc (j+1) x' (by simpa using hx);rwa [show o+(j+1)=o+1+j by omega] at this) (fun j u' hu'=>by have:=hu (j+1) u' (by simpa using hu');rwa [show o+(j+1)=o+1+j by omega] at this)⟩;have hx0:=hc 0 x rfl;have hu0:=hu 0 u0 rfl;obtain ⟨v,hv,AV,hvs,SW⟩:=h3 (o+0) x.1 x.2 hx0;rw [hv];have:=hcar v _ x.1 (fun _ h=>by cases h) AV hvs SW;simp only [wU,hcell _ _ hu0,mX] at this;exact this
      exact this cs us 0 nJ (fun j x hx=>by simpa using hx) (fun j u hu=>by simpa using hu)
     ·refine sO.agr (c:={c with env:=env0++more}) Zy h2 ((hs.box id cs h1).keep hkk rfl rfl fun g ⟨x,hx,hk⟩=> ?_);exact FJ g (Nd (h3 x hx) hk)
    ·rcases rP g m h with ⟨q1,_,_,m',q2,q3⟩|⟨i,sl,k',e',el,rfl,q1,q2,q3,q4,q5,q6⟩
     ·exact q3.live (c:={c with env:=env0++more}) (FJ g q1) (hs.live g m' q2)
     ·refine ⟨fun b o s' len cap he hl=> ?_,(fun e dp he=>by rw [q4] at he;cases he),(fun e gv ms he=>by rw [q4] at he;cases he)⟩;rw [q5] at he;rcases q6 with ⟨_,ad,q7⟩|⟨g',_,q7,q8⟩
      ·rw [q7] at he;simp only [gF] at he;omega
      ·rw [q8] at he;exact (hs.live g' m q7).sp b o s' len cap he hl
    ·obtain ⟨d,hd⟩:=RX id cs h;obtain ⟨d',hd'⟩:=RX id' cs' h';exact hs.rH id id' d d' hd hd'
    ·obtain ⟨d,hd⟩:=RX id cs h;rcases rP g m hg with ⟨q1,_,_,m',q2,q3⟩|⟨i,sl,k',e',el,rfl,q1,q2,q3,q4,q5,q6⟩
     ·exact hs.pg id d g m' b hd q2 (q3.blk (FJ g q1) hb)
     ·subst q4;obtain ⟨o,s',len,cap,he,hl⟩:=xd hb;rw [q5] at he;rcases q6 with ⟨_,ad,q7⟩|⟨g',_,q7,q8⟩
      ·rw [q7] at he;simp only [gF] at he;omega
      ·rw [q8] at he;exact hs.pg id d g' _ b hd q7 (.inl ⟨o,s',len,cap,he,hl⟩)
    ·
     have hone: ∀g m b,H.hd.σ.get (3*g+2)= .live m->mz tm' g m b-> ∃g0 m0,s.σ.get (3*g0+2)= .live m0/\mz tm g0 m0 b/\((g<nt/\g0=g/\g∉ru H.ks vs)\/(∃i e',g=nt+i/\H.ks[i]? =some (.own g)/\vs[i]? =some (.own g0,e'))):=by
      intro g m b hg hb;rcases rP g m hg with ⟨q1,q0,_,m',q2,q3⟩|⟨i,sl,k',e',el,rfl,q1,q2,q3,q4,q5,q6⟩
      ·exact ⟨g,m',q2,q3.blk (FJ g q1) hb,.inl ⟨q1,rfl,q0⟩⟩
      ·subst q4;obtain ⟨o,s',len,cap,he,hl⟩:=xd hb;rw [q5] at he;rcases q6 with ⟨_,ad,q7⟩|⟨g',rfl,q7,q8⟩
       ·rw [q7] at he;simp only [gF] at he;omega
       ·exact ⟨g',_,q7,.inl ⟨o,s',len,cap,by rw [<-q8];exact he,hl⟩,.inr ⟨i,e',rfl,q2,q3⟩⟩
     obtain ⟨g0,m0,z1,z2,z3⟩:=hone g m b hg hb;obtain ⟨g1,m1,y1,y2,y3⟩:=hone g' m' b' hg' hb';refine hs.rI g0 m0 g1 m1 b b' z1 y1 ?_ z2 y2;rcases z3 with ⟨z3,rfl,z4⟩|⟨i,e1,rfl,z3,z4⟩<;>rcases y3 with ⟨y3,rfl,y4⟩|⟨j,e2,rfl,y3,y4⟩
     ·exact hne
     ·exact fun h=>z4 (h▸UX y3 y4)
     ·exact fun h=>y4 (h▸UX z3 z4)
     ·rcases Hf i j with h|h|h
      ·exact ab3 hnd h z3 y3 z4 y4
      ·subst h;exact absurd rfl hne
      ·exact fun e=>ab3 hnd h y3 z3 y4 z4 e.symm
    ·
     unfold below;rw [hnt];by_cases hu:H.hd.σ.get l= .un
     ·rw [hu] at h;exact h.elim
     ·have he:=R8 _ hu;generalize hst:H.hd.σ.get l=st at he hu h;have pl:zn n nt s.σ.get l st=true->g<nt+H.slots.length:=fun hp=>by
       obtain ⟨p1,p2,p3⟩:=hplain _ _ hp;rcases dY g nt with hlt|hge
       ·omega
       ·exfalso;cases st with
        | v gs k e=>have:=Nd (show Jc nt k=true from p3) h;omega
        | ptr gs id off=>simp only [cP] at h;subst h;simp only [qj] at p3;have:=ia p3;omega
        | mp gs g' n' i off=>simp only [cP] at h;subst h;simp only [qj] at p3;have:=ia p3;omega
        | iv gs g' gv n' i off l => simp only [qj,aP] at p3;have h1:=ia p3.1;have h2:=ia p3.2;rcases h with rfl|rfl<;>omega
        | ip gs g' gv n' i off j m o2 => simp only [qj,aP] at p3;have h1:=ia p3.1;have h2:=ia p3.2;rcases h with rfl|rfl<;>omega
        | live m => obtain ⟨e,ms,hx⟩:=h;simp only [qj,hx] at p3;have:=ia p3;omega
        | box cs => obtain ⟨x,hx,hk⟩:=h;simp only [qj,fO] at p3;have:=Nd (p3 x hx) hk;omega
        | _=>exact h.elim
      have hown: ∀(i g':Nat) (k:K),H.ks[i]? =some k->k.has g'->g'<nt+H.slots.length:=fun i g' k hk hg'=>by
       have hlt:i<H.slots.length:=by rw [l1, <-l2];exact (dQ.1 hk).1
       rcases Tp hks hk with rfl|rfl
       ·exact hg'.elim
       ·have:g'=nt+(0+i):=hg';omega
      cases st with
      | un=>exact h.elim
      | live m =>
       simp only [Ah,aP] at he;have lC:l=3*(l/3)+2:=by have:=iW he.1;omega
       rw [lC] at hst;rcases rP (l/3) m hst with ⟨_,_,q3,_⟩|⟨i,sl,_,_,_,_,_,_,_,q4,_⟩
       ·exact q3 g h
       ·subst q4;obtain ⟨_,_,h⟩:=h;cases h
      | ro gs e off=>exact h.elim
      | gp gs g x i=>exact h.elim
      | ptr gs id off=>exact pl he
      | mp gs g' n' i off=>exact pl he
      | iv gs g' gv n' i off l=>exact pl he
      | ip gs g' gv n' i off j m o2=>exact pl he
      | box cs =>
       simp only [Ah,aP,gK] at he;obtain ⟨_,he⟩:=he;rcases he with ⟨_,h2⟩|hp
       ·obtain ⟨x,hx,hk⟩:=h;obtain ⟨j,hj⟩:=List.getElem?_of_mem hx;have hz:(x,j)∈cs.zipIdx:=by rw [aeV];exact hj
        have:=fO.1 h2 _ hz;simp only at this;split at this
        ·rename_i v _;simp only [aP,cC] at this;exact hown _ _ _ this.2 hk
        ·simp at this
       ·exact pl hp
      | v gs k e =>
       cases gs with
       | cons _ _=>exact pl he
       | nil =>
        cases e with
        | var v =>
         simp only [Ah,gK,aP,cC] at he;rcases he with ⟨⟨⟨h1,_⟩,h2⟩,h3⟩|hp
         ·exact hown _ _ _ h3 h
         ·exact pl hp
        | _=>exact pl he
    ·unfold below;rw [hnt];have:=(ZB id cs h).1;omega
    ·unfold below;rw [hnt];rcases rP g m h with ⟨q1,_⟩|⟨i,sl,_,_,_,rfl,q1,_⟩
     ·omega
     ·have:=aad i sl q1;omega
 ·simp at hb
end
section
variable {P:Program}{tab:Nat->List CT}
def cq.append{Γ Δ:List VT}{env ds:List D}(h:cq tab Γ env)(hl:env.length=Γ.length)(hd:fM tab Δ ds):cq tab (Γ++Δ) (env++ds):=by
 have key: ∀(Δ:List VT) (ds:List D),fM tab Δ ds-> ∀(i:Nat) (t:VT),Δ[i]? =some t->bA tab t (ds.getD i .un):=by
  intro Δ;induction Δ with
  | nil=>intro ds _ i t h;simp at h
  | cons v Δ ih =>
   intro ds hd i t h;cases ds with
   | nil=>exact hd.elim
   | cons d r =>
    cases i with
    | zero=>simp at h;subst h;exact hd.1
    | succ i=>simp at h;simpa using ih r hd.2 i t h
 intro i t ht;rw [List.getElem?_append] at ht;split at ht
 ·rename_i hi;have:=h i t ht
  rwa [List.getD,mW (by omega)]
 ·rename_i hi;have:=key Δ ds hd _ t ht;rw [List.getD,oT (by omega),hl];exact this
def Mp: ∀{ts:List VT} {ds:List D},fM tab ts ds->ds.length=ts.length
 | [],[],_=>rfl
 | t::ts,d::ds,h=>by simp [Mp h.2]
 | [],_::_,h=>h.elim
 | _::_,[],h=>h.elim
def Ue: ∀{ts:List CT} {ds:List D},br tab ts ds->fM tab (ts.map fun t=> .one (.c t)) ds
 | [],[],_=>trivial
 | t::ts,d::ds,h=>by simp only [br] at h;exact ⟨h.1,Ue h.2⟩
 | [],_::_,h=>by simp [br] at h
 | _::_,[],h=>by simp [br] at h
def aDH{Q:D->List D->Prop}{L:List (List D->Prop)}: ∀(rs:List Rq) (k:VC) (env:List D),(∀r∈rs,Dm env.length r=true)->(rs.length<=1)->(rs.foldr VC.rq k).den P tab env Q L ->
  ∃ds,fM tab (kN rs) ds/\(∀more,∀r∈rs,kS P (env++ds++more) env.length r)/\k.den P tab (env++ds) Q L
 | [],k,env,_,_,h=>⟨[],trivial,fun _ r hr=>by simp at hr,by simpa using h⟩
 | [.cond gs c],k,env,hb,_,h=>by
  have hb:=hb (.cond gs c) (by simp);simp only [Dm,aP] at hb;obtain ⟨h1,h2⟩:=h;refine ⟨[],trivial,fun more r hr=> ?_,by simpa using h2⟩;simp only [nV] at hr;subst hr;have ha:mw env.length env (env++[]++more):=by rw [oQ];exact yn (bU _)
  intro hg;rw [ha c hb.2];exact h1 ((pq ha hb.1).1 hg)
 | [.rK g vt ix],k,env,hb,_,h=>by
  have hb:=hb (.rK g vt ix) (by simp);obtain ⟨d,h1,h2,h3,h4⟩:=h;refine ⟨[d],⟨h1,trivial⟩,fun more r hr=> ?_,h4⟩;simp only [nV] at hr;subst hr;have e:(env++[d]++more).getD env.length .un=d:=by simp [List.getD]
  refine ⟨by rw [e];exact h2,?_,?_⟩
  ·cases ix with
   | none=>trivial
   | some x =>
    obtain ⟨gs,ei,n⟩:=x;simp only [Dm,aP] at hb;have ha:mw env.length env (env++[d]++more):=by rw [iG];exact yn (bU _)
    intro hg;rw [ha ei hb.2];exact h3 ((pq ha hb.1).1 hg)
  ·rw [e];unfold aeh;split
   ·obtain ⟨l,q1,q2⟩:=lO h1;exact ⟨l,q1,q2.length⟩
   ·trivial
 | [.new f args nb],k,env,hb,_,h=>by
  have hb:=hb (.new f args nb) (by simp);simp only [Dm] at hb;obtain ⟨cs,h2,h3,h4⟩:=h;refine ⟨cs,?_,fun more r hr=> ?_,h4⟩
  ·simp only [kN,oQ];exact Ue h2
  ·simp only [nV] at hr;subst hr;have ha:mw env.length env (env++cs++more):=by rw [iG];exact yn (bU _)
   have e1:args.map (·.den (env++cs++more))=args.map (·.den env):=Ex fun e he=>ha e (fO.1 hb e he);have e4:(List.range nb.length).map (fun j=>(env++cs++more).getD (env.length+j) .un)=cs:=by
    have hl:=h2.length;refine zV fun i=> ?_;simp only [iI];by_cases hi:i<nb.length
    ·rw [PN hi];simp only [jP,List.getD];rw [iG,oT (by omega),show env.length+i-env.length=i by omega];simp [mW (show i<cs.length by omega),cO (show i<cs.length by omega)]
    ·rw [nU (by simp;omega),nU (by omega)];rfl
   show Pw P f _ _;rw [e1,e4];exact h3
 | [.call gs f bx args vt nb],k,env,hb,_,h=>by
  have hb:=hb (.call gs f bx args vt nb) (by simp);simp only [Dm,aP] at hb;obtain ⟨d,cs,h1,h2,h3,h4⟩:=h;refine ⟨d::cs,?_,fun more r hr=> ?_,h4⟩
  ·simp only [kN,oQ];exact ⟨h1,Ue h2⟩
  ·simp only [nV] at hr;subst hr;have ha:mw env.length env (env++d::cs++more):=by rw [iG];exact yn (bU _)
   intro hg;have hf:=h3 ((pq ha hb.1.1).1 hg);have e1:args.map (·.den (env++d::cs++more))=args.map (·.den env):=Ex fun e he=>ha e (fO.1 hb.2 e he);have e2:bx.map (·.map (·.den (env++d::cs++more)))=bx.map (·.map (·.den env)):=by
    cases bx with
    | none=>rfl
    | some l=>simp only [jP];exact congrArg some (Ex fun e he=>ha e (fO.1 hb.1.2 e he))
   have e3:(env++d::cs++more).getD env.length .un=d:=by simp [List.getD]
   have e4:(List.range nb.length).map (fun j=>(env++d::cs++more).getD (env.length+1+j) .un)=cs:=by
    have hl:=h2.length;refine zV fun i=> ?_;simp only [iI];by_cases hi:i<nb.length
    ·rw [PN hi];simp only [jP,List.getD];rw [iG,oT (by omega),show env.length+1+i-env.length=i+1 by omega];simp [mW (show i<cs.length by omega),cO (show i<cs.length by omega)]
    ·rw [nU (by simp;omega),nU (by omega)];rfl
   rw [e1,e2,e3,e4];exact hf
 | [.oZ gs e args vt],k,env,hb,_,h=>by
  have hb:=hb (.oZ gs e args vt) (by simp);simp only [Dm,aP] at hb;obtain ⟨d,h1,h3,h4⟩:=h;refine ⟨[d],?_,fun more r hr=> ?_,h4⟩
  ·simp only [kN];exact ⟨h1,trivial⟩
  ·simp only [nV] at hr;subst hr;have ha:mw env.length env (env++[d]++more):=by rw [iG];exact yn (bU _)
   intro hg;have hf:=h3 ((pq ha hb.1.1).1 hg);have e1:args.map (·.den (env++[d]++more))=args.map (·.den env):=Ex fun e he=>ha e (fO.1 hb.2 e he);have e3:(env++[d]++more).getD env.length .un=d:=by simp [List.getD]
   rw [e1,e3,ha e hb.1.2];exact hf
 | [.cF f bx args vt nb rt],k,env,hb,_,h=>by
  have hb:=hb (.cF f bx args vt nb rt) (by simp);simp only [Dm,aP] at hb;obtain ⟨d,cs,h1,h2,h3,h4⟩:=h;refine ⟨d::cs,?_,fun more r hr=> ?_,h4⟩
  ·simp only [kN,oQ];exact ⟨h1,Ue h2⟩
  ·simp only [nV] at hr;subst hr;have ha:mw env.length env (env++d::cs++more):=by rw [iG];exact yn (bU _)
   have hf:=h3;have e1:args.map (·.den (env++d::cs++more))=args.map (·.den env):=Ex fun e he=>ha e (fO.1 hb.2 e he);have e2:bx.map (·.map (·.den (env++d::cs++more)))=bx.map (·.map (·.den env)):=by
    cases bx with
    | none=>rfl
    | some l=>simp only [jP];exact congrArg some (Ex fun e he=>ha e (fO.1 hb.1 e he))
   have e3:(env++d::cs++more).getD env.length .un=d:=by simp [List.getD]
   have e4:(List.range nb.length).map (fun j=>(env++d::cs++more).getD (env.length+1+j) .un)=cs:=by
    have hl:=h2.length;refine zV fun i=> ?_;simp only [iI];by_cases hi:i<nb.length
    ·rw [PN hi];simp only [jP,List.getD];rw [iG,oT (by omega),show env.length+1+i-env.length=i+1 by omega];simp [mW (show i<cs.length by omega),cO (show i<cs.length by omega)]
    ·rw [nU (by simp;omega),nU (by omega)];rfl
   refine ⟨by rw [e3];exact aeI h1,?_⟩;rw [e1,e2,e3,e4];exact hf
 | _::_::_,_,_,_,hl,_=>by simp at hl
def abr{Q:D->List D->Prop}{L:List (List D->Prop)}: ∀(es:List bf) (k:VC) (env:List D) (Γ:List VT),cq tab Γ env->env.length=Γ.length->IA Γ.length es=true->(∀e∈es,e.rq.length<=1)->(Dn es k).den P tab env Q L ->
  ∃ds,cq tab (Γ++es.flatMap fun e=>kN e.rq) (env++ds)/\(env++ds).length=(Γ++es.flatMap fun e=>kN e.rq).length/\(∀more,zU P (env++ds++more) Γ.length es)/\k.den P tab (env++ds) Q L
 | [],k,env,Γ,hE,hl,_,_,h=>⟨[],by simpa using hE,by simpa using hl,fun _=>trivial,by simpa [Dn] using h⟩
 | e::r,k,env,Γ,hE,hl,hb,h1,h=>by
  simp only [IA,aP,fO] at hb;obtain ⟨ds,d1,d2,d3⟩:=aDH e.rq (Dn r k) env (by rw [hl];exact hb.1) (h1 e (by simp)) h;have hdl:=Mp d1;have hE':=hE.append hl d1;obtain ⟨ds',q1,q2,q3,q4⟩:=abr r k (env++ds) (Γ++kN e.rq) hE' (by simp [hl,hdl]) (by simpa using hb.2) (fun x hx=>h1 x (by simp [hx])) d3;refine ⟨ds++ds',by simpa [iG] using q1,by simpa [iG] using q2,fun more=>⟨fun x hx=> ?_,?_⟩,by simpa [iG] using q4⟩
  ·have:=d2 (ds'++more) x hx;rw [hl] at this;simpa [iG] using this
  ·have:=q3 more;simpa [iG] using this
end
def abl{cx:Cx}{ops:Array Oper}: ∀{l:List Oper} {ss:SS} {es:List bf} {s:SS},nM cx ops l ss=some (es,s)->s.Γ=ss.Γ++es.flatMap fun e=>kN e.rq
 | [],ss,es,s,h=>by simp [nM] at h;obtain ⟨rfl,rfl⟩:=h;simp
 | o::r,ss,es,s,h=>by
  simp only [nM] at h;split at h
  ·simp at h
  ·split at h
   ·simp at h
   ·rename_i e he es' s' hrec;simp only [bg,oU] at h;obtain ⟨rfl,rfl⟩:=h;rw [abl hrec];simp [SS.step]
section
variable {P:Program}{fx:Fx}{c0:SC}
def Good(c0:SC)(tab:Nat->List CT)(env:List D)(s:SS)(a:Act)(w:World):Prop :=
 cq tab s.Γ env/\env.length=s.Γ.length/\ ∃bm tm,aS {c0 with env:=env} (below s.nt) s.σ.get bm tm a w
def G4(P:Program)(c0:SC)(tab:Nat->List CT)(Q:D->List D->Prop)(env:List D)(L:List (List D->Prop))(k:SS->VC)(a:Act)(w:World):Prop :=
 ∃(more:List D) (pre:List (List D->Prop)) (s:SS),Good c0 tab (env++more) s a w/\(pre++L).length=s.lv/\(k s).den P tab (env++more) Q (pre++L)
def atN(P:Program)(fx:Fx)(c0:SC)(Q:D->List D->Prop)(a:Act)(w:World):Prop :=
 ∃(env:List D) (s:SS) (L:List (List D->Prop)),Good c0 fx.cx.tb.tab env s a w/\(Gf fx s).den P fx.cx.tb.tab env Q L
def Post(P:Program)(fx:Fx)(c0:SC)(Q:D->List D->Prop)(env:List D)(L:List (List D->Prop))(ex:List (Nat×(SS->VC)))(k:SS->VC):Exit->Act->World->Prop
 | .normal,a,w=>G4 P c0 fx.cx.tb.tab Q env L k a w
 | .exit id,a,w=> ∃k',Nh id ex=some k'/\G4 P c0 fx.cx.tb.tab Q env L k' a w
 | .ret,a,w=>atN P fx c0 Q a w
 | _,_,_=>False
def G4.weaken{Q:D->List D->Prop}{tab:Nat->List CT}{env more:List D}{L pre:List (List D->Prop)}{k:SS->VC}{a:Act}{w:World}(h:G4 P c0 tab Q (env++more) (pre++L) k a w):G4 P c0 tab Q env L k a w:=by obtain ⟨m2,p2,s,h1,h2,h3⟩:=h;exact ⟨more++m2,p2++pre,s,by simpa [iG] using h1,by simpa [iG] using h2,by simpa [iG] using h3⟩
def Post.weaken{Q:D->List D->Prop}{env more:List D}{L pre:List (List D->Prop)}{ex:List (Nat×(SS->VC))}{k:SS->VC}{e:Exit}{a:Act}{w:World}(h:Post P fx c0 Q (env++more) (pre++L) ex k e a w):Post P fx c0 Q env L ex k e a w:=by
 cases e with
 | normal=>exact G4.weaken h
 | exit id=>obtain ⟨k',h1,h2⟩:=h;exact ⟨k',h1,h2.weaken⟩
 | ret=>exact h
 | _=>exact h
end
def alJ: ∀l:List Oper,(zt l).1++(zt l).2=l
 | []=>rfl
 | o::r=>by
  unfold zt;split
  ·simp [alJ r]
  ·rfl
section
variable {P:Program}{c:SC}{F:Nat->Prop}{σ:Nat->ST}{bm:Nat->Nat}{tm:Nat->Value}{a:Act}{w:World}{cx:Cx}{Γ:List VT}{gs:Gd}{ops:Array Oper}
def asA{j d:Nat}{v:Bool}(hj:(ops[j]?).bind (·.dst)=some d)(hv:a.tmps.getD d undef= .bool v):yielded ops a.tmps j=some v:=by
 unfold yielded;rw [hj];rw [rC] at hv;cases h2:a.tmps[d]? with
 | none=>rw [h2] at hv;simp [undef] at hv
 | some u=>rw [h2] at hv;simp at hv;subst hv;simp [h2]
def axC(aJ:dz P cx.tb cx.tb=true)(hnt:c.nt=cx.nt)(hs:aS c F σ bm tm a w)(aB:cq cx.tb.tab Γ c.env){g i j d:Nat}{v:Bool}(hg: ∀x,lW g x-> ¬F x){o:Oper}(hi:ops[i]? =some o){aZ:bf}(h:YY cx ops j d v Γ g o σ=some aZ)
  (hj:(ops[j]?).bind (·.dst)=some d) (hv:a.tmps.getD d undef= .bool v)
  (hr: ∀r∈aZ.rq,kS P c.env Γ.length r) {Q:Exit->Act->World->Prop} {K:Act->World->Prop} (hK: ∀dD tm' a' w',aS c (fun x=>F x\/lW g x) (dS σ aZ.wr) dD tm' a' w'->K a' w'):wpOp P ops Q i K a w:=by
 have plain:xS cx ops Γ g o σ=some aZ->wpOp P ops Q i K a w:=fun he=>WD aJ hnt hs aB hg hi he hr hK;unfold YY at h;split at h
 ·rename_i o' ho;unfold YZ at ho;split at ho
  ·rename_i i' b hgd;cases hij:Nat.beq i' j with
   | false=>rw [hij] at ho;simp at ho;subst ho;exact plain h
   | true =>
    have:i'=j:=iW hij;subst this;rw [hij] at ho;simp only [ib] at ho;cases jh:b==v with
    | false=>rw [jh] at ho;simp at ho
    | true =>
     rw [jh] at ho;simp only [ib,bg] at ho;have:b=v:=by simpa using jh
     subst this;subst ho;obtain ⟨gs,hgs,hok⟩:=aa1 aJ hnt hs aB hg h;have:gs=[]:=by simp [yR] at hgs;exact hgs
     subst this;unfold wpOp;rw [hi];simp only;rw [aA (by simp [Region.wanted,hgd,asA hj hv])];exact .inl (hok.1 (dZ _) hr K Q hK)
  ·rename_i hgd;split at ho
   ·rename_i t x y hop;cases htd:Nat.beq t d with
    | false=>rw [htd] at ho;simp at ho;subst ho;exact plain h
    | true =>
     have:t=d:=iW htd;subst this;rw [htd] at ho;simp only [ib,bg] at ho;subst ho;obtain ⟨gs,hgs,hok⟩:=aa1 aJ hnt hs aB hg h;have:gs=[]:=by simp [yR,hgd] at hgs;exact hgs
     subst this;unfold wpOp;rw [hi];simp only;rw [aA (by simp [Region.wanted,hgd])];refine .inl ?_;have h1:=hok.1 (dZ _) hr K Q hK;unfold Oper.wp at h1 ⊢;have e:(execOp a.eval o).run P w=(execOp a.eval {o with op:= .move (bif v then x else y)}).run P w:=by have:a.eval (.tmp t)= .bool v:=hv;cases v<;>simp [execOp,hop,this,asBool]
     rw [e];exact h1
   ·simp only [bg] at ho;subst ho;exact plain h
 ·rename_i ho;cases rM:Io cx.nt o.dst with
  | false=>rw [rM] at h;simp at h
  | true =>
   rw [rM] at h;simp only [ib,bg] at h;subst h;have hd: ∀d,o.dst=some d->d<c.nt:=fun d he=>by rw [he] at rM;simp only [Io] at rM;rw [hnt];exact ia rM
   unfold YZ at ho;split at ho
   ·rename_i i' b hgd;cases hij:Nat.beq i' j with
    | false=>rw [hij] at ho;simp at ho
    | true =>
     have:i'=j:=iW hij;subst this;rw [hij] at ho;simp only [ib] at ho;cases jh:b==v with
     | true=>rw [jh] at ho;simp at ho
     | false => unfold wpOp;rw [hi];simp only;rw [ak (by simp [Region.wanted,hgd,asA hj hv];intro e;rw [e] at jh;simp at jh)];exact hK _ _ _ _ ((hs.qW hd (st:= .un) (v:=undef) trivial (fun g h=>by simp [cP] at h)).mono fun x hx=> .inl hx)
   ·split at ho
    ·rename_i t x y _;cases hb:Nat.beq t d<;>rw [hb] at ho<;>simp at ho
    ·simp at ho
def aby{j d:Nat}{v:Bool}{e0:E}: ∀{l:List Oper} {ss:SS} {es:List bf} {s:SS},Dp cx ops j d v e0 l ss=some (es,s)->s.Γ=ss.Γ++(es.flatMap fun e=>kN e.rq)/\s.lv=ss.lv
 | [],ss,es,s,h=>by simp [Dp] at h;obtain ⟨rfl,rfl⟩:=h;simp
 | o::r,ss,es,s,h=>by
  simp only [Dp] at h;cases hh:SE ss.σ.get d e0 with
  | false=>rw [hh] at h;simp at h
  | true =>
   rw [hh] at h;simp only [ib] at h;split at h
   ·simp at h
   ·rename_i e he;split at h
    ·simp at h
    ·rename_i es' s' hrec;simp only [bg,oU] at h;obtain ⟨rfl,rfl⟩:=h;obtain ⟨h1,h3⟩:=aby hrec;exact ⟨by rw [h1];simp [SS.step],by rw [h3];rfl⟩
def ak9(aJ:dz P cx.tb cx.tb=true)(hnt:c.nt=cx.nt){Q:Exit->Act->World->Prop}{rest:List Nat}{j d:Nat}{v:Bool}{e0:E}(hj:(ops[j]?).bind (·.dst)=some d)(hv:e0.den c.env= .bool v): ∀(l:List Oper) (k:Nat) (ss:SS) (es:List bf) (s:SS),(∀i o,l[i]? =some o->ops[k+i]? =some o)->Dp cx ops j d v e0 l ss=some (es,s)->cq cx.tb.tab s.Γ c.env->zU P c.env ss.Γ.length es ->
  (∀dD tm' a' w',aS c (below s.nt) s.σ.get dD tm' a' w'->wpOps P ops Q rest a' w')-> ∀bm tm a w,aS c (below ss.nt) ss.σ.get bm tm a w->wpOps P ops Q (List.range' k l.length++rest) a w
 | [],k,ss,es,s,hl,h,aB,hr,hQ,bm,tm,a,w,hs=>by simp [Dp] at h;obtain ⟨_,rfl⟩:=h;exact hQ _ _ _ _ hs
 | o::r,k,ss,es,s,hl,h,aB,hr,hQ,bm,tm,a,w,hs=>by
  simp only [Dp] at h;cases hh:SE ss.σ.get d e0 with
  | false=>rw [hh] at h;simp at h
  | true =>
   rw [hh] at h;simp only [ib] at h;split at h
   ·simp at h
   ·rename_i e he;split at h
    ·simp at h
    ·rename_i es' s' hrec;simp only [bg,oU] at h;obtain ⟨rfl,rfl⟩:=h;obtain ⟨h1,_⟩:=aby hrec;have FL:cq cx.tb.tab ss.Γ c.env:=by rw [h1] at aB;simp only [SS.step,iG] at aB;exact aB.RF
     have hvd:a.tmps.getD d undef= .bool v:=by
      have ht:=hs.tmps d;unfold SE at hh;split at hh
      ·rename_i kk e1 hσ;have:e1=e0:=by simpa using hh
       subst this;rw [hσ] at ht;have:=(ht.1 (dZ _)).rd;rw [hv] at this;simpa [R] using this
      ·simp at hh
     simp only [fw,KE,iH];rw [wpOps_cons];refine axC aJ hnt hs FL (g:=ss.nt) (fun x hx=>by have:=hx.1;simp only [below];omega) (by simpa using hl 0 o (by simp)) he hj hvd hr.1 fun dD tm' a' w' hS=> ?_;refine ak9 aJ hnt hj hv r (k+1) (ss.step e) es' s' (fun i o' ho'=>by have:=hl (i+1) o' (by simpa using ho');simpa [zX,Ck 1 i] using this) hrec aB (by have:=hr.2;simpa [SS.step] using this) hQ dD tm' a' w' ?_
     rw [NI];exact hS.mono fun x hx=>by simp only [below,SS.step,lW] at *;omega
def alC(aJ:dz P cx.tb cx.tb=true)(hnt:c.nt=cx.nt){Q:Exit->Act->World->Prop}{rest:List Nat}: ∀(l:List Oper) (k:Nat) (ss:SS) (es:List bf) (s:SS),(∀i o,l[i]? =some o->ops[k+i]? =some o)->nM cx ops l ss=some (es,s)->cq cx.tb.tab s.Γ c.env->zU P c.env ss.Γ.length es ->
  (∀dD tm' a' w',aS c (below s.nt) s.σ.get dD tm' a' w'->wpOps P ops Q rest a' w')-> ∀bm tm a w,aS c (below ss.nt) ss.σ.get bm tm a w->wpOps P ops Q (List.range' k l.length++rest) a w
 | [],k,ss,es,s,hl,h,aB,hr,hQ,bm,tm,a,w,hs=>by simp [nM] at h;obtain ⟨_,rfl⟩:=h;exact hQ _ _ _ _ hs
 | o::r,k,ss,es,s,hl,h,aB,hr,hQ,bm,tm,a,w,hs=>by
  simp only [nM] at h;split at h
  ·simp at h
  ·rename_i e he;split at h
   ·simp at h
   ·rename_i es' s' hrec;simp only [bg,oU] at h;obtain ⟨rfl,rfl⟩:=h;obtain ⟨Δ,h1,h2,_⟩:=Ge hrec;have FL:cq cx.tb.tab ss.Γ c.env:=by rw [h1] at aB;simp only [SS.step,iG] at aB;exact aB.RF
    simp only [fw,KE,iH];rw [wpOps_cons];refine WD aJ hnt hs FL (g:=ss.nt) (fun x hx=>by have:=hx.1;simp only [below];omega) (by simpa using hl 0 o (by simp)) he hr.1 fun dD tm' a' w' hS=> ?_;refine alC aJ hnt r (k+1) (ss.step e) es' s' (fun i o' ho'=>by have:=hl (i+1) o' (by simpa using ho');simpa [zX,Ck 1 i] using this) hrec aB (by have:=hr.2;simpa [SS.step] using this) hQ dD tm' a' w' ?_
    rw [NI];exact hS.mono fun x hx=>by simp only [below,SS.step,lW] at *;omega
end
section
variable {P:Program}{c0:SC}{tab:Nat->List CT}
def alf{Q:D->List D->Prop}{L:List (List D->Prop)}{ss s:SS}{es:List bf}{V:VC}{env:List D}(hok:Jm ss es=true)(hE:cq tab ss.Γ env)(hl:env.length=ss.Γ.length)(FK:s.Γ=ss.Γ++es.flatMap fun e=>kN e.rq)
  (h:(Dn es V).den P tab env Q L) :
  ∃ds,cq tab s.Γ (env++ds)/\(env++ds).length=s.Γ.length/\(∀more,zU P (env++ds++more) ss.Γ.length es)/\V.den P tab (env++ds) Q L/\ ∀F bm tm a w,aS {c0 with env:=env} F ss.σ.get bm tm a w->aS {c0 with env:=env++ds} F ss.σ.get bm tm a w:=by
 unfold Jm at hok;simp only [aP] at hok;obtain ⟨⟨hbel,Mw⟩,hone⟩:=hok;obtain ⟨ds,q1,q2,q3,q4⟩:=abr es V env ss.Γ hE hl Mw (fun e he=>ia (fO.1 hone e he)) h;rw [<-FK] at q1 q2;refine ⟨ds,q1,q2,q3,q4,fun F bm tm a w hS=> ?_⟩;simp only [gK] at hbel;rcases hbel with hr|hb
 ·have:ds=[]:=by
   have hz:(es.flatMap fun e=>kN e.rq)=[]:=by
    clear q1 q2 q4 FK Mw hone hl hE h q3;induction es with
    | nil=>rfl
    | cons e r ih =>
     simp only [Jb,aP] at hr;have h1:e.rq=[]:=by
      have:=hr.1;split at this
      ·assumption
      ·simp at this
     simp [h1,kN,ih hr.2]
   rw [FK,hz,oQ] at q2;simp only [jw] at q2;exact oR (by omega)
  subst this;rw [oQ];exact hS
 ·exact aeJ (c:={c0 with env:=env}) (yn (by rw [hl];exact bU _)) (aeW hb) hS
def aDs{cx:Cx}{ops:Array Oper}(aJ:dz P cx.tb cx.tb=true)(hnt:c0.nt=cx.nt){Q:D->List D->Prop}{L:List (List D->Prop)}{ss:SS}{n id:Nat}{k:SS->VC}{env:List D}{a:Act}{w:World}{Qp:Exit->Act->World->Prop}
  (hG:Good c0 cx.tb.tab env ss a w) (h:(abk cx ops ss n k).den P cx.tb.tab env Q L)
  (hgo: ∀ds s a' w',Good c0 cx.tb.tab (env++ds) s a' w'->s.lv=ss.lv->(k s).den P cx.tb.tab (env++ds) Q L->Qp .normal a' w'):(Code.region id ops false).wp P Qp a w:=by
 obtain ⟨hE,hl,bm,tm,hS⟩:=hG;have SN:=alJ ops.toList;unfold abk at h;split at h
 ·exact h.elim
 rename_i o r hrest;rw [hrest] at SN;split at h
 ·exact h.elim
 rename_i j bj hgd;split at h
 ·exact h.elim
 rename_i d hj;split at h
 ·exact h.elim
 rename_i es s hrun;split at h
 ·rename_i kk e0 hσ;cases hC:Jm ss es&&iO .bool (e0.inf cx.tb.tab s.Γ)&&e0.fF s.Γ.length with
  | false=>rw [hC] at h;exact h.elim
  | true =>
   rw [hC] at h;simp only [ib] at h;simp only [aP] at hC;obtain ⟨_,_,_,hlv⟩:=Ge hrun;obtain ⟨ds,q1,q2,q3,q4,q5⟩:=alf (c0:=c0) hC.1.1 hE hl (abl hrun) h;obtain ⟨b,hb⟩: ∃b,e0.den (env++ds)= .bool b:=yU (eG q1 e0 _ (wH hC.1.2));have hV:(RI cx ops j d e0 (o::r) s n k b).den P cx.tb.tab (env++ds) Q L:=by
    obtain ⟨h1,h2⟩:=q4;rw [hb] at h1 h2;cases b with
    | true=>exact h1 rfl
    | false=>exact h2 rfl
   unfold RI at hV;split at hV
   ·rename_i Fb s2 SK;cases Zi:Jm s Fb with
    | false=>rw [Zi] at hV;exact hV.elim
    | true =>
     rw [Zi] at hV;simp only [ib] at hV;obtain ⟨aAd,aze⟩:=aby SK;obtain ⟨YB,p1,p2,p3,p4,p5⟩:=alf (c0:=c0) Zi q1 q2 aAd hV;have hb2:e0.den (env++ds++YB)= .bool b:=by rw [ael (by rw [q2];exact bU _) e0 hC.2];exact hb
     have hlen:(zt ops.toList).1.length+(o::r).length=ops.size:=by have:=congrArg List.length SN;simpa using this
     refine wp_region ?_;rw [PX, <-hlen, <-List.range'_append_1];refine alC (c:={c0 with env:=env++ds}) aJ hnt _ 0 ss es s (fun i o' ho'=> ?_) hrun q1 (by have:=q3 [];rw [oQ] at this;exact this) (fun dD tm' a' w' Zv=> ?_) bm tm a w (q5 _ _ _ _ _ hS)
     ·have:ops.toList[i]? =some o':=by rw [<-SN,mW (dQ.1 ho').1];exact ho'
      simpa using this
     ·rw [<-oQ (List.range' _ _)];refine ak9 (c:={c0 with env:=env++ds++YB}) aJ hnt hj hb2 _ _ s Fb s2 (fun i o' ho'=> ?_) SK p1 (by have:=p3 [];rw [oQ] at this;exact this) (fun dD tm' a' w' hS3=> ?_) dD tm' a' w' (p5 _ _ _ _ _ Zv)
      ·have h0:((zt ops.toList).1++(o::r))[(zt ops.toList).1.length+i]? =some o':=by rw [oT (by omega),Nat.add_sub_cancel_left];exact ho'
       rw [SN] at h0;simpa using h0
      ·exact hgo (ds++YB) s2 a' w' ⟨by rw [<-iG];exact p1,by rw [<-iG];exact p2,dD,tm',by rw [<-iG];exact hS3⟩ (by rw [aze,hlv]) (by rw [<-iG];exact p4)
   ·exact hV.elim
 ·exact h.elim
end
section
variable {P:Program}{fx:Fx}{c0:SC}
def aE3(aJ:dz P fx.cx.tb fx.cx.tb=true)(hnt:c0.nt=fx.cx.nt)(hm:P.follows .mixedOrders=true)(Q:D->List D->Prop): ∀(cd:Code) (ss:SS) (ex:List (Nat×(SS->VC))) (k:SS->VC) (env:List D) (L:List (List D->Prop)) (a:Act) (w:World),
  Good c0 fx.cx.tb.tab env ss a w->L.length=ss.lv->(sx fx cd ss ex k).den P fx.cx.tb.tab env Q L->cd.wp P (Post P fx c0 Q env L ex k) a w:=by
 intro cd;induction cd with
 | skip => intro ss ex k env L a w hG hL h;exact wp_skip ⟨[],[],ss,by simpa using hG,by simpa using hL,by simpa [sx] using h⟩
 | region id ops draw =>
  intro ss ex k env L a w hG hL h;simp only [sx] at h;split at h
  ·rename_i es s hrun;generalize hC:((!draw||Rl ops es ss)&&(Jb es||ss.σ.all fun x=>nN ss.Γ.length (ss.σ.get x.1))&&IA ss.Γ.length es&&aa0 es)=C at h;cases C with
   | false=>exact h.elim
   | true =>
    simp only [ib] at h;simp only [aP] at hC;obtain ⟨⟨⟨hdr,hbel⟩,Mw⟩,hone⟩:=hC;obtain ⟨hE,hl,bm,tm,hS⟩:=hG;obtain ⟨ds,q1,q2,q3,q4⟩:=abr es (k s) env ss.Γ hE hl Mw (fun e he=>ia (fO.1 hone e he)) h;have FK:=abl hrun;rw [<-FK] at q1 q2;obtain ⟨_,_,_,hlv⟩:=Ge hrun;have RT:aS {c0 with env:=env++ds} (below ss.nt) ss.σ.get bm tm a w:=by
     simp only [gK] at hbel;rcases hbel with hr|hb
     ·have:ds=[]:=by
       have hz:(es.flatMap fun e=>kN e.rq)=[]:=by
        clear q1 q2 q3 q4 h FK hrun hdr Mw hone;induction es with
        | nil=>rfl
        | cons e r ih =>
         simp only [Jb,aP] at hr;have h1:e.rq=[]:=by
          have:=hr.1;split at this
          ·assumption
          ·simp at this
         simp [h1,kN,ih hr.2]
       rw [FK,hz,oQ] at q2;have:=q2;simp only [jw] at this;exact oR (by omega)
      subst this;rw [oQ];exact hS
     ·exact aeJ (c:={c0 with env:=env}) (yn (by rw [hl];exact bU _)) (aeW hb) hS
    have hq:=q3 [];rw [oQ] at hq;have hgo: ∀dD tm' a' w',aS {c0 with env:=env++ds} (below s.nt) s.σ.get dD tm' a' w'->Post P fx c0 Q env L ex k .normal a' w':=fun dD tm' a' w' Zv =>
     ⟨ds,[],s,⟨q1,q2,dD,tm',Zv⟩,by rw [iw,hL,hlv],by simpa using q4⟩
    cases draw with
    | false=>exact aDw (c:={c0 with env:=env++ds}) aJ hnt hrun q1 hq hgo RT
    | true=>exact aDv (c:={c0 with env:=env++ds}) aJ hnt hm hrun (by simpa using hdr) q1 hq hgo RT
  ·cases draw with
   | true=>exact h.elim
   | false => simp only [Cm] at h;exact aDs aJ hnt hG h fun ds s a' w' hG2 hlv hd=>⟨ds,[],s,hG2,by rw [iw,hL,hlv],by simpa using hd⟩
 | seq x y ihx ihy =>
  intro ss ex k env L a w hG hL h;simp only [sx] at h;refine wp_seq (ET (ihx ss ex _ env L a w hG hL h) fun e a' w' hp=> ?_);cases e with
  | normal => obtain ⟨more,pre,s,g1,g2,g3⟩:=hp;exact ET (ihy s ex k (env++more) (pre++L) a' w' g1 g2 g3) fun e a w hp=>hp.weaken
  | _=>exact hp
 | cond x y z ihy ihz =>
  intro ss ex k env L a w hG hL h;simp only [sx] at h;split at h
  ·rename_i kk e hx;generalize hC:iO .bool (e.inf fx.cx.tb.tab ss.Γ)=C at h;cases C with
   | false=>exact h.elim
   | true =>
    simp only [ib] at h;obtain ⟨hE,hl,bm,tm,hS⟩:=hG;obtain ⟨b,hb,hv⟩:=Cy hE (wH hC) ((dU hS hx).1 (dZ _));obtain ⟨h1,h2⟩:=h;rw [hb] at h1 h2;refine wp_cond hv ?_;cases b with
    | true=>exact ihy ss ex k env L a w ⟨hE,hl,bm,tm,hS⟩ hL (h1 rfl)
    | false=>exact ihz ss ex k env L a w ⟨hE,hl,bm,tm,hS⟩ hL (h2 rfl)
  ·exact h.elim
 | block id b ih =>
  intro ss ex k env L a w hG hL h;simp only [sx] at h;refine wp_block (ET (ih ss _ k env L a w hG hL h) fun e a' w' hp=> ?_);cases e with
  | normal=>exact hp
  | exit id' =>
   obtain ⟨k',h1,h2⟩:=hp;simp only [Nh] at h1;simp only [Exit.inBlock];by_cases e:id'=id
   ·rw [aA e];subst e;have:Nat.beq id' id'=true:=by simp
    rw [this] at h1;simp only [ib,bg] at h1;subst h1;exact h2
   ·rw [ak e];have:Nat.beq id id'=false:=by
     cases hb:Nat.beq id id' with
     | false=>rfl
     | true=>exact absurd (iW hb).symm e
    rw [this] at h1;exact ⟨k',h1,h2⟩
  | ret=>exact hp
  | _=>exact hp
 | exit id =>
  intro ss ex k env L a w hG hL h;simp only [sx] at h;refine wp_exit ?_;split at h
  ·rename_i k' hk;exact ⟨k',hk,[],[],ss,by simpa using hG,by simpa using hL,by simpa using h⟩
  ·exact h.elim
 | loop b ih =>
  intro ss ex k env L a w hG hL h;simp only [sx] at h;generalize ajF fx.cx.tb.tab b ss=H at h;split at h
  ·rename_i es hback;generalize hC:(Nat.beq H.hd.lv (ss.lv+1)&&decide (H.hd.Γ=ss.Γ++H.dR)&&Nat.beq H.slots.length H.dR.length)=C at h;cases C with
   | false=>exact h.elim
   | true =>
    simp only [ib] at h;simp only [aP,cC] at hC;obtain ⟨⟨hlv,aB⟩,hst⟩:=hC;replace hlv:=iW hlv;obtain ⟨hE,hl,bm,tm,hS⟩:=hG;obtain ⟨I,μ,h1,h2⟩:=h;have hhead: ∀xs,fM fx.cx.tb.tab H.dR xs->cq fx.cx.tb.tab H.hd.Γ (env++xs)/\(env++xs).length=H.hd.Γ.length:=fun xs hx=>by rw [aB];exact ⟨hE.append hl hx,by simp [hl,Mp hx]⟩
    obtain ⟨b1,b2,b3,b4,b5,tm',b6⟩:=ae4 (c:=c0) (env0:=env) (env':=env) hback hl ⟨[],by simp⟩ hE hS;refine wp_loop_ghost (fun m a w=> ∃xs,μ xs=m/\fM fx.cx.tb.tab H.dR xs/\dW xs/\I xs/\ ∃bm tm,aS {c0 with env:=env++xs} (below H.hd.nt) H.hd.σ.get bm tm a w) (μ (es.map (·.den env))) ⟨_,rfl,b1,b2,h1,bm,tm',b6⟩ ?_;rintro m a w ⟨xs,rfl,x1,x2,x3,bm,tm,x4⟩;obtain ⟨g1,g2⟩:=hhead xs x1;refine ET (ih H.hd ex _ (env++xs) ((fun ys=>I ys/\μ ys<μ xs)::L) a w ⟨g1,g2,bm,tm,x4⟩ (by simp [hL,hlv]) (h2 xs x1 x2 x3)) fun e a' w' hp=> ?_;have hw: ∀{e a w},Post P fx c0 Q (env++xs) ((fun ys=>I ys/\μ ys<μ xs)::L) ex (PG fx.cx.tb.tab ss.Γ.length ss.nt ss.lv H) e a w->e≠ .normal->Post P fx c0 Q env L ex k e a w:=fun {e a w} hp hne=>by
     have:Post P fx c0 Q env L ex (PG fx.cx.tb.tab ss.Γ.length ss.nt ss.lv H) e a w:=Post.weaken (more:=xs) (pre:=[fun ys=>I ys/\μ ys<μ xs]) hp;cases e with
     | normal=>exact absurd rfl hne
     | exit id=>exact this
     | ret=>exact this
     | _=>exact this
    cases e with
    | normal =>
     obtain ⟨more,pre,s,q1,q2,q3⟩:=hp;simp only [PG] at q3;split at q3
     ·rename_i es' ayl;cases hlt:Nat.blt ss.lv s.lv with
      | false=>rw [hlt] at q3;exact q3.elim
      | true =>
       rw [hlt] at q3;simp only [ib] at q3;obtain ⟨q11,q12,bm2,tm2,q13⟩:=q1;obtain ⟨c1,c2,c3,c4,c5,tm3,c6⟩:=ae4 (c:=c0) (env0:=env) (env':=env++xs++more) ayl hl ⟨xs++more,by simp⟩ q11 q13;have ayW:(pre++(fun ys=>I ys/\μ ys<μ xs)::L)[s.lv-ss.lv-1]? =some (fun ys=>I ys/\μ ys<μ xs):=by
        have hpl:s.lv-ss.lv-1=pre.length:=by simp only [jw,fw] at q2;omega
        rw [hpl];simp
       simp only [VC.den,ayW] at q3;exact ⟨_,q3.2,_,rfl,c1,c2,q3.1,bm2,tm3,c6⟩
     ·exact q3.elim
    | exit id=>exact hw hp (by simp)
    | goto l=>exact hp.elim
    | ret=>exact hw hp (by simp)
    | panic ch=>exact hp.elim
    | outgrown=>exact hp.elim
  ·exact h.elim
 | ret => intro ss ex k env L a w hG hL h;simp only [sx] at h;exact wp_ret ⟨env,ss,L,hG,h⟩
 | rangeFunc f ps sZ b AX FM=>intro ss ex k env L a w hG hL h;exact h.elim
 | scope b ih=>intro ss ex k env L a w hG hL h;exact h.elim
 | label l=>intro ss ex k env L a w hG hL h;exact h.elim
 | goto l=>intro ss ex k env L a w hG hL h;exact h.elim
 | refuse s=>intro ss ex k env L a w hG hL h;exact h.elim
end
end
end Go.Proofs.YtekplmpbkgchfaaGreatDoor
