/- Each operation does to a world what the executor says it does: append; and all operations together. No program in sight. -/
import Derived.Test.YtoomhbopolalnabGreatDoorT4
set_option linter.all false
namespace Go.Proofs.YtoomhbopolalnabGreatDoor
variable {M:Addr->Prop}{rows:List (List D)}{cap n:Nat}{o:Option Nat}
section
open Go.RowKit
variable [GC]
section
variable {w:World}{M:Addr->Prop}
def jj.cells:∀{rows:List (List D)} {b o:Nat},jj w M rows b o->∃vs:List Value,vs.length=rows.flatten.length/\Rs w M rows.flatten vs/\∀i u,vs[i]? =some u->w.cell? ⟨b,o+i,none⟩=some u
 |[],_,_,_=>⟨[],rfl,rfl,fun i u h=>by simp at h⟩
 |r::l,b,o,⟨h1,h2⟩=>by
  obtain⟨vs,e,r1,c1⟩:=h1.cells;obtain⟨s,f,r2,g⟩:=jj.cells h2;refine⟨vs++s,by simp[e,f],by simpa using r1.append r2,fun i u d=> ?_⟩;rw[List.getElem?_append]at d;split at d
  ·exact c1 i u d
  ·have:=g _ _ d
   rwa[show o+r.length+(i-vs.length)=o+i by omega]at this
def Uf{n:Nat}:∀{rows:List (List D)},(∀r∈rows,r.length=n)->rows.flatten.length=rows.length*n
 |[],_=>by simp
 |r::l,h=>by have ih:=Uf (rows:=l) (fun x b=>h x (by simp[b]));have d:=h r (by simp);simp only[Y4,iZ,dR,ih,d,iK,oG];omega
def amm{tab:Nat->List CT}{s:List CT}:∀{rows:List (List D)} {vs:List Value},dc tab s rows->Rs w M rows.flatten vs->∀v∈vs,v.oneCell'=true
 |[],vs,_,h,v,b=>by simp[Rs]at h;subst h;simp at b
 |r::l,vs,t,h,v,b=>by
  simp only[dc]at t;simp only[Y4]at h;have h1:=h.take r.length;have d:=h.drop r.length;rw[List.take_left' rfl]at h1;rw[List.drop_left' rfl]at d;rw[<-Db r.length vs]at b;rcases iJ.1 b with b|b
  ·exact MU t.1 h1 v b
  ·exact amm t.2 d v b
def jj.append:∀{rows r2:List (List D)} {b o:Nat},jj w M rows b o->jj w M r2 b (o+rows.flatten.length)->jj w M (rows++r2) b o
 |[],_,_,_,_,h=>by simpa using h
 |r::l,r2,b,o,⟨h1,h2⟩,h=>⟨h1,jj.append h2 (by simpa[wS]using h)⟩
def aja(n:Nat):∀(r c:Nat),Builtin.growBy n r c+768<=(c+768)*2^r
 |0,c=>by simp[Builtin.growBy]
 |r+1,c=>by
  have h:0<2^r:=Nat.two_pow_pos r;simp only[Builtin.growBy];split
  ·rw[Nat.pow_succ];have:(c+768)*1<=(c+768)*(2^r*2):=Nat.mul_le_mul_left _ (by omega)
   rwa[Nat.mul_one]at this
  ·refine dK (aja n r _) ?_;rw[Nat.pow_succ,show(c+768)*(2^r*2)=((c+768)*2)*2^r by rw[Nat.mul_assoc,Nat.mul_comm 2]];exact mw _ (by omega)
def aAo(n c:Nat):Builtin.growBy n 4 c<=16*(c+768):=by
 have h:=aja n 4 c;have b:(2:Nat)^4=16:=by decide
 have e:(c+768)*2^4=16*(c+768):=by rw[b,Nat.mul_comm]
 rw[e]at h;exact dK (Nat.le_add_right _ _) h
def al9(h:cap<n)(e:n<=4294967296):Builtin.nextslicecap n cap<=16*(4294967296+768):=by
 unfold Builtin.nextslicecap;by_cases b:n>2*cap
 ·rw[aC b];omega
 ·rw[aw b];by_cases d:cap<256
  ·rw[aC d];omega
  ·rw[aw d];exact dK (aAo n cap) (Nat.mul_le_mul_left _ (by omega))
end
section
variable {P:Program}{c:SC}{F:Nat->Prop}{σ:Nat->ST}{bm:Nat->Nat}{tm:Nat->Value}{a:Act}{w w':World}{tb:TB}{Γ:List VT}{gs:Gd}
def aN.append(i:aN c F σ bm tm a w){g n:Nat}(hg:¬F g)(O:Option Nat)(Q:∀h,O=some h->σ (3*h+2)=.live ⟨n,none⟩)(G:Value)(blk:Option Nat)
  (X:Fr c.B c.X w w') (hk:bQ w (MM c.M0 bm tm σ) w' (MM c.M0 bm (aW tm g G) (aW (jE σ O) (3*g+2) (.live ⟨n,none⟩))))
  (S:∀k,k<w.heap.size->some k≠blk->w'.heap[k]? =w.heap[k]?)
  (H:∀b,blk=some b->∃h o s len cap,O=some h/\tm h=.slice (some ⟨b,o,s⟩) len cap/\0<cap)
  (I:sV c w' (aW tm g G) g ⟨n,none⟩) (Y:∀b o s len cap,G=.slice (some ⟨b,o,s⟩) len cap->0<cap->w.heap.size<=b\/blk=some b) :
  aN c (fun x=>F x\/x=g) (aW (jE σ O) (3*g+2) (.live ⟨n,none⟩)) bm (aW tm g G) a w':=by
 have A:∀x,F x->aW tm g G x=tm x:=fun x f=>fZ _ _ (fun e=>hg (e▸f));have v:∀x m,σ (3*x+2)=.live m->aW tm g G x=tm x/\∀y,cE (.live m) y->aW tm g G y=tm y:=fun x m h=>⟨A x (i.f3 x m h),fun y B=>A y (i.f1 (3*x+2) y (by rw[h];exact B))⟩;have T:∀id p,σ (3*id+1)=.box p->some (bm id)≠blk:=fun id p j e=>by obtain⟨h,o,s,len,cap,d,r,u⟩:=H _ e.symm;exact i.lK id p h ⟨n,none⟩ _ j (Q h d) (.inl ⟨o,s,len,cap,r,u⟩) rfl
 have J:∀x m b,σ (3*x+2)=.live m->O≠some x->jy tm x m b->some b≠blk:=fun x m b f C j e=>by obtain⟨h,l,z,U,V,d,r,u⟩:=H _ e.symm;exact i.lT x m h ⟨n,none⟩ b b f (Q h d) (fun e=>C (e▸d)) j (.inl ⟨l,z,U,V,r,u⟩) rfl
 have L:∀b,jy (aW tm g G) g ⟨n,none⟩ b->w.heap.size<=b\/blk=some b:=fun b j=>by obtain⟨o,s,len,cap,d,r⟩:=x9 j;rw[cH]at d;exact Y b o s len cap d r
 refine i.turn (fun t=>by rw[PE,ail]) (fun x f=>⟨rfl,A x f⟩) (fun _ h=>.inl h) X hk ?_ ?_ ?_ ?_ ?_ ?_ ?_ ?_
 ·intro id p h;rw[wD,FH]at h;refine(i.box id p h).keep hk rfl (S _ (i.box id p h).lt (T id p h)) fun x f=>A x ?_;exact i.f1 (3*id+1) x (by rw[h];exact f)
 ·intro x m h;by_cases e:x=g
  ·subst e;rw[cH]at h;simp at h;subst h;exact I
  ·rw[pY _ e]at h;obtain⟨d,r⟩:=yt h;exact(i.live x m d).keep (fun b j=>S _ ((i.live x m d).lt j) (J x m b d r j)) (v x m d).1 (v x m d).2
 ·intro id Z p l h z;rw[wD,FH]at h z;exact i.pJ id Z p l h z
 ·intro id p x m b h f j;rw[wD,FH]at h;by_cases e:x=g
  ·subst e;rw[cH]at f;simp at f;subst f;rcases L b j with d|d
   ·have:=(i.box id p h).lt;omega
   ·exact fun e=>T id p h (by rw[e,d])
  ·rw[pY _ e]at f;obtain⟨d,r⟩:=yt f;exact i.lK id p x m b h d ((ox (v x m d).1 (v x m d).2).1 j)
 ·intro x m y N b l f B C j z;by_cases e:x=g<;>by_cases W:y=g
  ·exact absurd (e.trans W.symm) C
  ·subst e;rw[cH]at f;simp at f;subst f;rw[pY _ W]at B;obtain⟨d,r⟩:=yt B;have z:=(ox (v y N d).1 (v y N d).2).1 z;rcases L b j with u|u
   ·have:=(i.live y N d).lt z;omega
   ·exact fun q=>J y N l d r z (by rw[<-q,u])
  ·subst W;rw[cH]at B;simp at B;subst B;rw[pY _ e]at f;obtain⟨d,r⟩:=yt f;have j:=(ox (v x m d).1 (v x m d).2).1 j;rcases L l z with u|u
   ·have:=(i.live x m d).lt j;omega
   ·exact fun q=>J x m b d r j (by rw[q,u])
  ·rw[pY _ e]at f;rw[pY _ W]at B;obtain⟨d,r⟩:=yt f;obtain⟨u,f⟩:=yt B;exact i.lT x m y N b l d u C ((ox (v x m d).1 (v x m d).2).1 j) ((ox (v y N u).1 (v y N u).2).1 z)
 ·intro l x h;by_cases e:l=3*g+2
  ·subst e;rw[cH]at h;obtain⟨_,_,h⟩:=h;cases h
  ·rw[fZ _ _ e]at h;exact .inl (i.f1 l x (aik h))
 ·intro id p h;rw[wD,FH]at h;exact .inl (i.f2 id p h)
 ·intro x m h;by_cases e:x=g
  ·exact .inr e
  ·rw[pY _ e]at h;exact .inl (i.f3 x m (yt h).1)
def aN.al8(s:aN c F σ bm tm a w){g:Nat}{r:LV}(hg:∀x,ji g x->¬F x){tm':Nat->Value}(C:∀x,¬ji g x->tm' x=tm x)(hb:Below w.heap.size w w')(n:∀b,jy tm' g r b->w.heap.size<=b)
  (G:sV c w' tm' g r) (z:∀x,cE (.live r) x->ji g x):aN c (fun x=>F x\/ji g x) (aW σ (3*g+2) (.live r)) bm tm' a w':=by
 have k:∀x,F x->tm' x=tm x:=fun x d=>C x fun h=>hg x h d;have v:∀x m,σ (3*x+2)=.live m->tm' x=tm x/\∀y,cE (.live m) y->tm' y=tm y:=fun x m h=>⟨k x (s.f3 x m h),fun y i=>k y (s.f1 (3*x+2) y (by rw[h];exact i))⟩;have O:∀p,p.block<w.heap.size->MM c.M0 bm tm' (aW σ (3*g+2) (.live r)) p->MM c.M0 bm tm σ p:=by
  rintro p Q (h|⟨id,j,f,q⟩|⟨x,m,f,q⟩)
  ·exact .inl h
  ·rw[wD]at f;exact .inr (.inl ⟨id,j,f,q⟩)
  ·by_cases e:x=g
   ·subst e;rw[cH]at f;simp at f;subst f;have:=n _ (OT q);omega
   ·rw[pY _ e]at f;exact .inr (.inr ⟨x,m,f,VN (v x m f).1 (v x m f).2 q⟩)
 have J:bQ w (MM c.M0 bm tm σ) w' (MM c.M0 bm tm' (aW σ (3*g+2) (.live r))):=bQ.below hb O;refine s.turn (fun t=>PE _ _ _) (fun x d=>⟨rfl,k x d⟩) (fun _ h=>.inl h) (zt hb s.hB) J ?_ ?_ ?_ ?_ ?_ ?_ ?_ ?_
 ·intro id j h;rw[wD]at h;exact(s.box id j h).keep J rfl (hb.block _ (s.box id j h).lt) fun x d=>k x (s.f1 (3*id+1) x (by rw[h];exact d))
 ·intro x m h;by_cases e:x=g
  ·subst e;rw[cH]at h;simp at h;subst h;exact G
  ·rw[pY _ e]at h;exact(s.live x m h).keep (fun b o=>hb.block _ ((s.live x m h).lt o)) (v x m h).1 (v x m h).2
 ·intro id H j I h L;rw[wD]at h L;exact s.pJ id H j I h L
 ·intro id j x m b h d o;rw[wD]at h;by_cases e:x=g
  ·subst e;rw[cH]at d;simp at d;subst d;have:=n b o;have:=(s.box id j h).lt;omega
  ·rw[pY _ e]at d;exact s.lK id j x m b h d ((ox (v x m d).1 (v x m d).2).1 o)
 ·intro x m y u b N d i A f q;by_cases e:x=g<;>by_cases B:y=g
  ·exact absurd (e.trans B.symm) A
  ·subst e;rw[cH]at d;simp at d;subst d;rw[pY _ B]at i;have:=n b f;have:=(s.live y u i).lt ((ox (v y u i).1 (v y u i).2).1 q);omega
  ·subst B;rw[cH]at i;simp at i;subst i;rw[pY _ e]at d;have:=n N q;have:=(s.live x m d).lt ((ox (v x m d).1 (v x m d).2).1 f);omega
  ·rw[pY _ e]at d;rw[pY _ B]at i;exact s.lT x m y u b N d i A ((ox (v x m d).1 (v x m d).2).1 f) ((ox (v y u i).1 (v y u i).2).1 q)
 ·intro l x h;by_cases e:l=3*g+2
  ·subst e;rw[cH]at h;exact .inr (z x h)
  ·rw[fZ _ _ e]at h;exact .inl (s.f1 l x h)
 ·intro id j h;rw[wD]at h;exact .inl (s.f2 id j h)
 ·intro x m h;by_cases e:x=g
  ·subst e;exact .inr (AX x)
  ·rw[pY _ e]at h;exact .inl (s.f3 x m h)
def AR{p:Addr}{g:Nat}{v:Value}(s:aN c F σ bm tm a w)(hg:¬F g)(h:MM c.M0 bm (aW tm g v) (aW (jE σ o) (3*g+2) (.live ⟨n,none⟩)) p) :
  (MM c.M0 bm tm (jE σ o) p)\/He v n p:=by
 rcases h with h|⟨id,f,b,d⟩|⟨x,m,b,d⟩
 ·exact .inl (.inl h)
 ·rw[wD]at b;exact .inl (.inr (.inl ⟨id,f,b,d⟩))
 ·by_cases e:x=g
  ·subst e;rw[cH]at b;simp at b;subst b;have:=Kg d;rw[cH]at this;exact .inr this
  ·rw[pY _ e]at b;obtain⟨i,_⟩:=yt b;refine .inl (.inr (.inr ⟨x,m,b,VN (fZ _ _ e) (fun y j=>fZ _ _ fun k=> ?_) d⟩));subst k;exact hg (s.f1 (3*x+2) _ (by rw[i];exact j))
def CQ{p:Addr}(h:MM c.M0 bm tm (jE σ o) p):MM c.M0 bm tm σ p:=by
 rcases h with h|⟨id,s,b,d⟩|⟨x,m,b,d⟩
 ·exact .inl h
 ·rw[FH]at b;exact .inr (.inl ⟨id,s,b,d⟩)
 ·exact .inr (.inr ⟨x,m,(yt b).1,d⟩)
def adJ:∀(l:List Value) (C:Array Value) (o i:Nat),i<o\/o+l.length<=i->(iF C o l)[i]? =C[i]?
 |[],_,_,_,_=>rfl
 |x::r,C,o,i,h=>by simp only[dR]at h;unfold iF;rw[adJ r _ _ _ (by omega)];simp[C5];omega
def anX:∀(l:List Value) (C:Array Value) (o j:Nat) (u:Value),o+l.length<=C.size->l[j]? =some u->(iF C o l)[o+j]? =some u
 |[],_,_,_,_,_,h=>by simp at h
 |v::r,C,o,0,u,s,h=>by simp only[dR]at s;simp at h;subst h;unfold iF;rw[adJ r _ _ _ (by omega)];simp[C5];omega
 |v::r,C,o,j+1,u,s,h=>by
  simp only[dR]at s;simp at h;unfold iF;have:=anX r (C.setIfInBounds o v) (o+1) j u (by simp;omega) h
  rwa[show o+(j+1)=o+1+j by omega]
def Io(w:World)(M:Addr->Prop)(rows:List (List D))(d:Option Addr)(len cap:Nat):Prop :=
 len=rows.length/\len<=cap/\cap<=maxLen/\(d=none->cap=0)/\∀b o s,d=some ⟨b,o,s⟩->(0<len->s=none)/\jj w M rows b o
def Uc{f:Option Addr}{len:Nat}(h:Io w M rows f len cap)(p:∀r∈rows,r.length=n) :
  ∃vs:List Value,vs.length=len*n/\Rs w M rows.flatten vs/\∀d:World,d.heap=w.heap->(Builtin.firstCells n len (.slice f len cap)).run P d=.ok vs.toArray d:=by
 obtain⟨g,z,A,q,m⟩:=h;rcases f with _|⟨b,o,s⟩
 ·have:rows=[]:=mO (by have:=q rfl;omega);subst this;exact⟨[],by simp at g;simp[g],rfl,fun d _=>by simp[Builtin.firstCells]⟩
 ·obtain⟨vs,e,t,v⟩:=(m b o s rfl).2.cells;have l:vs.length=len*n:=by rw[e,Uf p,g]
  refine⟨vs,l,t,fun d i=> ?_⟩;by_cases x:len=0
  ·subst x;have:vs=[]:=mO (by simpa using l);subst this;simp[Builtin.firstCells,loadCells,loadCellsFrom]
  ·have k:=(m b o s rfl).1 (by omega);subst k;have:=IQ (P:=P) (w:=d) ⟨b,o,none⟩ vs (fun j u y=>by rw[addr_add,Df (w:=w) (by rw[i])];exact v j u y)
   rw[l]at this;simpa[Builtin.firstCells]using this
def az7{b o len:Nat}{vs:List Value}(h:Io w M rows (some ⟨b,o,none⟩) len cap)(j:∀r∈rows,r.length=n)(f:(Builtin.firstCells n len (.slice (some ⟨b,o,none⟩) len cap)).run P w=.ok vs.toArray w)(q:0<len):∀(k:Nat) (u:Value),vs[k]? =some u->w.cell? ⟨b,o+k,none⟩=some u:=by
 obtain⟨v,e,_,g⟩:=(h.2.2.2.2 b o none rfl).2.cells;have l:v.length=len*n:=by rw[e,Uf j,h.1]
 have i:=IQ (P:=P) (w:=w) ⟨b,o,none⟩ v (fun k u m=>by rw[addr_add];exact g k u m);rw[l]at i;have d:(Builtin.firstCells n len (.slice (some ⟨b,o,none⟩) len cap)).run P w=.ok v.toArray w:=by
  have p:¬len=0:=by omega
  simp[Builtin.firstCells,i]
 rw[f]at d;simp only[Zg,yf]at d;have:vs=v:=by simpa using d
 subst this;exact g
def aGx(aE:cX P tb tb=true)(hs:aN c F σ bm tm a w)(ax:bV tb.tab Γ c.env){g n:Nat}(mH:¬F g){o:Oper}{x y:Operand}{T U:Nat}{cl:Call}(ho:o.op=.call cl)(hcl:cl.callee=.builtin .append)(har:cl.args.toList=[x,y])(hat:cl.argTypes.toList=[T,U])
  (hd:∀d,o.dst=some d->d<c.nt) {ti ui:TI} (aK:tb.get T=some ti) (DI:tb.get U=some ui) {aQ:bq}
  (h:Jg tb Γ gs o.dst σ g ti ui (aY tb σ T x) (aY tb σ U y)=some aQ):oB P c F σ bm tm a w g gs n o aQ:=by
 have W:cl.args=#[x,y]:=by rw[<-iX,har]
 have X:cl.argTypes=#[T,U]:=by rw[<-iX,hat]
 unfold Jg at h;split at h
 ·rename_i el qp hv hv';split at h
  ·rename_i k ex ky ey ei hx hy gU;split at h
   ·rename_i hc;obtain⟨ajW,aA7,hby,aA2,DF⟩:=hc;split at h
    ·simp at h
    ·rename_i v1 hv1;obtain⟨j,hj,hjs,hjb⟩:=tH aE gU hv1;have NK:ei.cells=v1.cells:=by simp[TI.cells,hv1]
     have htab:tb.tab el=v1.cells:=by simp[TB.tab,gU,NK]
     rw[NK]at h DF;obtain⟨z0,hz0,hz1⟩:∃z,j.zero=some z/\z.cells.size=v1.cells.length:=by
      cases v1 with
      |c t=> obtain⟨i',d',hi',_,_,⟨z,hz,hzv⟩,_⟩:=fX aE gU hv1;rw[hj]at hi';simp at hi';subst hi';refine⟨z,hz,?_⟩;cases t<;>cases z<;>simp[zeroV]at hzv<;>rfl
      |agg ts=> obtain⟨i',f',cs',hi',_,_,hz,hzv,_⟩:=pX aE gU hv1;rw[hj]at hi';simp at hi';subst hi';refine⟨_,hz,?_⟩;have:=(Yo (w:=w) (M:=fun _=>False) (tm:=tm) (c:=c) hzv).1.length;simpa[Value.cells,V1.cells]using this
     obtain⟨_,d1,_,_,_,_,hd1,eT⟩:=fX aE aK hv;simp only[iI]at eT;subst eT;obtain⟨_,d2,_,_,_,_,lW,yA⟩:=fX aE DI hv';simp only[iI]at yA;subst yA;have Oj:=(dN hs hx).1 (cR _);have aCv:=(dN hs hy).1 (cR _);obtain⟨Y,Z,eY,ad,len,cap,C,hF⟩:=FO ax (vW ajW) Oj;obtain⟨O,akD,akE,Q4,l,Z4,I,hFy⟩:=FO ax (vW aA7) aCv;have aa8:Io w (MM c.M0 bm tm σ) Y ad len cap:=hF;have Um:Io w (MM c.M0 bm tm σ) O Q4 l Z4:=hFy;have hnx:∀r∈Y,r.length=v1.cells.length:=fun r hr=>by rw[eY.len r hr,htab]
     have hny:∀r∈O,r.length=v1.cells.length:=fun r hr=>by rw[akE.len r hr,htab]
     obtain⟨vx,acn,aCy,aco⟩:=Uc (P:=P) aa8 hnx;obtain⟨vy,DJ,Vb,H⟩:=Uc (P:=P) Um hny;have hone:=amm akE Vb;have fQ:(E.app ex ey).den c.env=.sl (Y++O):=by simp[E.den,Z,akD]
     have UA:(Y++O).flatten=Y.flatten++O.flatten:=by simp
     obtain⟨hl1,iT,JK,NW,UD⟩:=hF;obtain⟨lM,hm2,JN,l4,hm5⟩:=hFy;generalize hsz:v1.cells.length=A at *;have acd:len+l<=cap->(l=0\/∃b B cells T0,ad=some ⟨b,B,none⟩/\w.heap[b]? =some (.cells cells T0 (0,0))/\B+len*A+l*A<=cells.size) ->
       ∃w',(execOp a.eval o).run P w=.ok (.value (.slice ad (len+l) cap)) w'/\((l=0/\w'=w)\/∃b B cells T0,ad=some ⟨b,B,none⟩/\w.heap[b]? =some (.cells cells T0 (0,0))/\w'.heap[b]? =some (.cells (iF cells (B+len*A) vy) T0 (0,0))/\bU w w' b/\B+len*A+l*A<=cells.size):=by
      intro hle S;rcases S with h0|⟨b,B,cells,T0,rfl,J,hrm⟩
      ·subst h0;have Ol:vy=[]:=mO (by simpa using DJ);subst Ol;refine⟨w,?_,.inl ⟨rfl,rfl⟩⟩;rcases ad with _|ad
       ·simp[execOp,ho,resolve,hcl,invoke,builtin,Builtin.append_,W,X,C,I,run_underlying hd1,run_underlying lW,run_sizeOf hj,hjs,Builtin.lenOf,iT,H w rfl,show len<=cap from iT]
       ·simp[execOp,ho,resolve,hcl,invoke,builtin,Builtin.append_,W,X,C,I,run_underlying hd1,run_underlying lW,run_sizeOf hj,hjs,Builtin.lenOf,iT,H w rfl,show len<=cap from iT,storeCells]
      ·obtain⟨w',h1,h2,h3⟩:=Eb (P:=P) b T0 vy w cells (B+len*A) 0 J hone (by rw[DJ];omega);refine⟨w',?_,.inr ⟨b,B,cells,T0,rfl,J,by simpa using h2,h3,hrm⟩⟩;simp[execOp,ho,resolve,hcl,invoke,builtin,Builtin.append_,W,X,C,I,run_underlying hd1,run_underlying lW,run_sizeOf hj,hjs,Builtin.lenOf,hle,H w rfl,addr_add,h1]
     have UT:cap<len+l->len+l<=4294967296->∃(cells:Array Value) (nc:Nat),(execOp a.eval o).run P w=.ok (.value (.slice (some ⟨w.heap.size,0,none⟩) (len+l) nc)) (w.drew.alloc (.cells cells el))/\len+l<=nc/\nc<=maxLen/\cells.size=nc*A/\∀(i:Nat) (u:Value),(vx++vy)[i]? =some u->cells[i]? =some u:=by
      intro hgt xp;have hq:¬(Builtin.nextslicecap (len+l) cap*j.bytes>2^48):=by have h1:=al9 hgt xp;have h2:Builtin.nextslicecap (len+l) cap*j.bytes<=(16*(4294967296+768))*1024:=Zc h1 (by omega);omega
      have abp:¬(j.bytes=0):=by omega
      have hnl:¬(len+l<=cap):=by omega
      refine⟨vx.toArray++vy.toArray++Builtin.zeroCells z0.cells ((len+l+w.tape w.drawn (.appendCap (len+l) cap el)%(2^63-(len+l)))-(len+l)),len+l+w.tape w.drawn (.appendCap (len+l) cap el)%(2^63-(len+l)),?_,by omega,?_,?_,?_⟩
      ·have aA9:(w.drew).heap.size=w.heap.size:=rfl;simp[execOp,ho,resolve,hcl,invoke,builtin,Builtin.append_,W,X,C,I,run_underlying hd1,run_underlying lW,run_sizeOf hj,run_typeInfo hj,hjs,Builtin.lenOf,hnl,abp,Nat.not_lt.2 (Nat.not_lt.1 hq),Question.forced,Question.cut,zeroValue,hz0,newRow,aco w.drew rfl,H w.drew rfl];rw[<-List.append_toArray,Array.append_assoc]
      ·have:=Nat.mod_lt (w.tape w.drawn (.appendCap (len+l) cap el)) (show 0<2^63-(len+l) by omega);unfold maxLen;omega
      ·simp[Builtin.zeroCells,acn,DJ,hz1];rw[<-iK, <-iK]
      ·intro i u hu;have hi:i<(vx++vy).length:=(dh.1 hu).1;rw[Q7 (by simpa using hi)];rw[List.append_toArray];simpa using hu
     have main:∀oh:Option Nat,(∀h,oh=some h->σ (3*h+2)=.live ⟨A,none⟩/\tm h=.slice ad len cap)->(oh=none->cap=0)->len+l<=4294967296->∀(K:Act->World->Prop) (Q:Exit->Act->World->Prop),
       (∀ep tm' a' w',aN c (fun x=>F x\/ji g x) (dq (aW (jE σ oh) (3*g+2) (.live ⟨A,none⟩)) (wv o.dst (.v [] (.own g) (.app ex ey)))) ep tm' a' w'->K a' w')->o.wp P a w K Q:=by
      intro oh DB akt xp K Q hK;have aBU:∀h,oh=some h->σ (3*h+2)=.live ⟨A,none⟩:=fun h e=>(DB h e).1;have fin:∀(v':Value) (w':World) (blk:Option Nat),(execOp a.eval o).run P w=.ok (.value v') w'->Fr c.B c.X w w' ->
        bQ w (MM c.M0 bm tm σ) w' (MM c.M0 bm (aW tm g v') (aW (jE σ oh) (3*g+2) (.live ⟨A,none⟩))) ->
        (∀k,k<w.heap.size->some k≠blk->w'.heap[k]? =w.heap[k]?) ->
        (∀b,blk=some b->∃h o s len cap,oh=some h/\tm h=.slice (some ⟨b,o,s⟩) len cap/\0<cap) ->
        sV c w' (aW tm g v') g ⟨A,none⟩->(∀b o s len cap,v'=.slice (some ⟨b,o,s⟩) len cap->0<cap->w.heap.size<=b\/blk=some b) ->
        R w' (MM c.M0 bm (aW tm g v') (aW (jE σ oh) (3*g+2) (.live ⟨A,none⟩))) (.sl (Y++O)) v'->o.wp P a w K Q:=by
       intro v' w' blk G hfr hk mI J jc aCp hR;unfold Oper.wp;rw[G];refine hK _ _ _ _ (Ma ((hs.append mH oh aBU v' blk hfr hk mI J jc aCp).nY hd (fj (cR _) ⟨?_,?_⟩) fun x hx=> ?_))
       ·rw[fQ];exact hR
       ·rw[cH]
       ·exact .inr hx
      by_cases hle:len+l<=cap
      ·
       by_cases h0:l=0
       ·subst h0;obtain⟨w',G,hcase⟩:=acd hle (.inl rfl);have hw:w'=w:=by
         rcases hcase with⟨_,h⟩|⟨b,B,cells,T0,h1,h2,h3,h4,h5⟩
         ·exact h
         ·have Ol:vy=[]:=mO (by simpa using DJ);subst Ol;obtain⟨w2,aCc,hc2⟩:=acd hle (.inl rfl);have e1:=G.symm.trans aCc;simp only[Zg,wV]at e1;have:(execOp a.eval o).run P w=.ok (.value (.slice ad (len+0) cap)) w:=by
           rcases ad with _|ad
           ·simp[execOp,ho,resolve,hcl,invoke,builtin,Builtin.append_,W,X,C,I,run_underlying hd1,run_underlying lW,run_sizeOf hj,hjs,Builtin.lenOf,iT,H w rfl]
           ·simp[execOp,ho,resolve,hcl,invoke,builtin,Builtin.append_,W,X,C,I,run_underlying hd1,run_underlying lW,run_sizeOf hj,hjs,Builtin.lenOf,iT,H w rfl,storeCells]
          have e2:=G.symm.trans this;simp only[Zg,wV]at e2;exact e2
        subst hw;have BJ:O=[]:=mO (by omega);subst BJ;simp only[rT]at G;by_cases hlc:0<cap
        ·obtain⟨L,rfl⟩:∃L,oh=some L:=by
          cases oh with
          |none=>have:=akt rfl;omega
          |some L=>exact⟨L,rfl⟩
         obtain⟨hl',V⟩:=DB L rfl;rcases ad with _|⟨b,B,s⟩
         ·have:=NW rfl;omega
         refine fin _ _ (some b) G (Fr.refl _ _ _) (fun p v hp hn=>⟨hp,fun hm=> ?_⟩) (fun _ _ _=>rfl) (fun b' hb'=>⟨L,B,s,len,cap,rfl,by simp at hb';subst hb';exact V,hlc⟩) ?_ (fun b' o2 s2 l2 c2 f _=>.inr (by simp at f;rw[f.1.1])) ?_
         ·rcases AR hs mH hm with h|h
          ·exact hn (CQ h)
          ·exact hn (.inr (.inr ⟨L,⟨A,none⟩,hl',DV (by rw[V];exact h)⟩))
         ·refine⟨fun b' o2 s2 l2 c2 f hlt=> ?_,(fun e dp f=>by cases f),(fun e gv ms f=>by cases f)⟩;rw[cH]at f;exact(hs.live L ⟨A,none⟩ hl').sp b' o2 s2 l2 c2 (by rw[V,f]) hlt
         ·rw[qP, <-Z, <-C];refine R.keep (fun p v hp hn=>⟨hp,fun hm=> ?_⟩) _ _ Oj.rd;rw[C]at hm;rcases AR hs mH hm with h|h
          ·exact hn (CQ h)
          ·exact hn (.inr (.inr ⟨L,⟨A,none⟩,hl',DV (by rw[V];exact h)⟩))
        ·have aBR:∀p,¬He (.slice ad len cap) A p:=by
          rintro p ⟨b,B,s,l2,c2,f,_,h1,h2⟩;simp only[fE]at f;obtain⟨_,rfl,rfl⟩:=f;have e1:cap=0:=by omega
          rw[e1]at h2;omega
         have hkk:bQ w' (MM c.M0 bm tm σ) w' (MM c.M0 bm (aW tm g (.slice ad len cap)) (aW (jE σ oh) (3*g+2) (.live ⟨A,none⟩))):=fun p v hp hn=>⟨hp,fun hm=>by
          rcases AR hs mH hm with h|h
          ·exact hn (CQ h)
          ·exact aBR p h⟩
         refine fin _ _ none G (Fr.refl _ _ _) hkk (fun _ _ _=>rfl) (fun b' hb'=>by cases hb') ?_ (fun b' o2 s2 l2 c2 f hlt=>by simp only[fE]at f;omega) ?_
         ·refine⟨fun b' o2 s2 l2 c2 f hlt=> ?_,(fun e dp f=>by cases f),(fun e gv ms f=>by cases f)⟩;rw[cH]at f;simp only[fE]at f;omega
         ·rw[qP, <-Z];have:=R.keep hkk _ _ Oj.rd
          rwa[C]at this
       ·
        have hlc:0<cap:=by omega
        obtain⟨L,rfl⟩:∃L,oh=some L:=by
         cases oh with
         |none=>have:=akt rfl;omega
         |some L=>exact⟨L,rfl⟩
        obtain⟨hl',V⟩:=DB L rfl;rcases ad with _|⟨b,B,s⟩
        ·have:=NW rfl;omega
        obtain⟨lY,FW,cells,T0,J,S⟩:=(hs.live L ⟨A,none⟩ hl').sp b B s len cap V hlc;subst lY;replace S:B+cap*A<=cells.size:=S;have hmul:len*A+l*A<=cap*A:=by rw[<-iK];exact mw _ hle
        obtain⟨w',G,hcase⟩:=acd hle (.inr ⟨b,B,cells,T0,rfl,J,by omega⟩);rcases hcase with⟨h,_⟩|⟨b1,o1,FB,T1,h1,h2,h3,h4,h5⟩
        ·exact absurd h h0
        simp only[aS,kC,yf]at h1;obtain⟨rfl,rfl⟩:=h1;rw[J]at h2;simp only[aS,Obj.cells.injEq]at h2;obtain⟨rfl,rfl,_⟩:=h2;have hspare:∀i,len*A<=i->i<cap*A->MM c.M0 bm tm σ ⟨b,B+i,none⟩:=fun i hi1 hi2=>
         .inr (.inr ⟨L,⟨A,none⟩,hl',DV ⟨b,B,none,len,cap,V,rfl,by show B+len*A<=B+i;omega,by show B+i<B+cap*A;omega⟩⟩)
        have N:∀i,w'.cell? ⟨b,i,none⟩=(iF cells (B+len*A) vy)[i]? :=fun i=>yg w' b i _ _ _ h3;have aA5:∀i,w.cell? ⟨b,i,none⟩=cells[i]? :=fun i=>yg w b i _ _ _ J;have FZ:∀p,p.block=b->¬MM c.M0 bm tm (jE σ (some L)) p:=by
         rintro p ku (h|⟨id,cs,q1,q2⟩|⟨x,m,q1,q2⟩)
         ·have:=hs.m0.1 p h;omega
         ·rw[FH]at q1;exact hs.lK id cs L ⟨A,none⟩ b q1 hl' (.inl ⟨B,none,len,cap,V,hlc⟩) (by rw[<-q2,ku])
         ·obtain⟨q6,q7⟩:=yt q1;exact hs.lT x m L ⟨A,none⟩ p.block b q6 hl' (fun e=>q7 (by rw[e])) (OT q2) (.inl ⟨B,none,len,cap,V,hlc⟩) ku
        have hkk:bQ w (MM c.M0 bm tm σ) w' (MM c.M0 bm (aW tm g (.slice (some ⟨b,B,none⟩) (len+l) cap)) (aW (jE σ (some L)) (3*g+2) (.live ⟨A,none⟩))):=by
         intro p v hp hn;constructor
         ·by_cases ku:p.block=b
          ·have hsp:=World.cell?_spot hp;obtain⟨pb,po,ps⟩:=p;simp only at ku hsp;subst ku hsp;rw[N,adJ]
           ·rw[<-aA5];exact hp
           ·rcases dP po (B+len*A)with h|h
            ·exact .inl h
            ·refine .inr ?_;rcases dP po (B+len*A+vy.length)with h6|h6
             ·refine absurd (hspare (po-B) (by omega) (by omega)) ?_
              rwa[show B+(po-B)=po by omega]
             ·exact h6
          ·rw[<-hp];exact Df (h4.block _ ku)
         ·intro hm;rcases AR hs mH hm with h|⟨b2,o2,s2,l2,c2,q1,q2,q3,q4⟩
          ·exact hn (CQ h)
          ·simp only[fE,aS,kC]at q1;obtain⟨⟨rfl,rfl,rfl⟩,rfl,rfl⟩:=q1;rw[iK]at q3;exact hn (.inr (.inr ⟨L,⟨A,none⟩,hl',DV ⟨b,B,none,len,cap,V,q2,(by show B+len*A<=_;omega),q4⟩⟩))
        refine fin _ _ (some b) G (Ih h4 (.inl FW)) hkk (fun k _ hk=>h4.block k (fun e=>hk (by rw[e]))) (fun b' hb'=>⟨L,B,none,len,cap,rfl,by simp at hb';subst hb';exact V,hlc⟩) ?_ (fun b' o2 s2 l2 c2 f _=>.inr (by simp at f;rw[f.1.1])) ?_
        ·refine⟨fun b' o2 s2 l2 c2 f hlt=> ?_,(fun e dp f=>by cases f),(fun e gv ms f=>by cases f)⟩;rw[cH]at f;simp only[fE,aS,kC]at f;obtain⟨⟨rfl,rfl,rfl⟩,rfl,rfl⟩:=f;exact⟨rfl,FW,_,T0,h3,by rw[Kr];exact S⟩
        ·refine⟨_,_,_,rfl,by simp;omega,hle,JK,(fun h=>by cases h),fun b2 o2 s2 f=> ?_⟩;simp only[aS,kC]at f;obtain⟨rfl,rfl,rfl⟩:=f;refine⟨fun _=>rfl,jj.append (jj.keep hkk _ _ _ (UD b B none rfl).2) ?_⟩;rw[Uf hnx, <-hl1];refine Q1 Vb hkk fun i u hu=> ?_;have hi:i<vy.length:=(dh.1 hu).1;refine⟨by rw[N];exact anX vy cells _ i u (by omega) hu,fun hm=> ?_⟩;rcases AR hs mH hm with h|⟨b2,o2,s2,l2,c2,q1,q2,q3,q4⟩
         ·exact FZ _ rfl h
         ·simp only[fE,aS,kC]at q1;obtain⟨⟨rfl,rfl,rfl⟩,rfl,rfl⟩:=q1;simp only at q3;rw[iK]at q3;omega
      ·
       obtain⟨cells,nc,G,hn1,hn2,JP,l6⟩:=UT (by omega) xp;have hb:Below w.heap.size w (w.drew.alloc (.cells cells el)):=((dQ _ _).drew).alloc (bM _) _;have N:∀i,(w.drew.alloc (.cells cells el)).cell? ⟨w.heap.size,i,none⟩=cells[i]? :=fun i=>by have:=SR (w:=w.drew) cells el i;exact this
       have hkk:bQ w (MM c.M0 bm tm σ) (w.drew.alloc (.cells cells el)) (MM c.M0 bm (aW tm g (.slice (some ⟨w.heap.size,0,none⟩) (len+l) nc)) (aW (jE σ oh) (3*g+2) (.live ⟨A,none⟩))):=by
        refine bQ.below hb fun p hp hm=> ?_;rcases AR hs mH hm with h|⟨b2,o2,s2,l2,c2,q1,q2,q3,q4⟩
        ·exact CQ h
        ·simp only[fE,aS,kC]at q1;omega
       refine fin _ _ none G (zt hb hs.hB) hkk (fun k hk _=>hb.block k hk) (fun b' hb'=>by cases hb') ?_ (fun b' o2 s2 l2 c2 f _=>.inl (by simp at f;omega)) ?_
       ·refine⟨fun b' o2 s2 l2 c2 f hlt=> ?_,(fun e dp f=>by cases f),(fun e gv ms f=>by cases f)⟩;rw[cH]at f;simp only[fE,aS,kC]at f;obtain⟨⟨rfl,rfl,rfl⟩,rfl,rfl⟩:=f;exact⟨rfl,hs.hB,cells,el,vg w.drew _,by show 0+nc*A<=_;rw[JP];omega⟩
       ·refine⟨_,_,_,rfl,by simp;omega,hn1,hn2,(fun h=>by cases h),fun b2 o2 s2 f=> ?_⟩;simp only[aS,kC]at f;obtain⟨rfl,rfl,rfl⟩:=f;refine⟨fun _=>rfl,Q1 (by rw[UA];exact aCy.append Vb) hkk fun i u hu=> ?_⟩;have hi:i<(vx++vy).length:=(dh.1 hu).1;rw[nJ];refine⟨by rw[N];exact l6 i u hu,fun hm=> ?_⟩;rcases AR hs mH hm with h|⟨b2,o2,s2,l2,c2,q1,q2,q3,q4⟩
        ·have:=hs.YC _ (CQ h);simp at this
        ·simp only[fE,aS,kC]at q1;obtain⟨⟨rfl,rfl,rfl⟩,rfl,rfl⟩:=q1;simp only[nJ,iK]at q3;simp only[iZ]at hi;omega
     have aj6:(∀r∈aQ.rq,jL P c.env n r)->(Rq.cond [] (.few ex ey))∈aQ.rq->len+l<=4294967296:=fun hr hin=>by have:=hr _ hin (cR _);simp[E.den,Z,akD]at this;omega
     cases k with
     |d=>simp at h
     |full=>
      simp only[aS]at h;subst h;refine⟨fun _ hr K Q hK=>main none (by simp) (fun _=> ?_) (aj6 hr (by simp)) K Q fun ep tm' a' w' hS=>hK ep tm' a' w' ?_,fun hn=>absurd (cR _) hn⟩
      ·obtain⟨_,a2,f⟩:=Oj;rw[C]at f;simp only[fE]at f;omega
      ·rw[Cs (by intro p hp d;simp at hp;subst hp;simp;omega)];exact hS
     |ag _=>simp at h
     |own L=>
      simp only at h;split at h
      ·rename_i m hm;split at h
       ·rename_i UG;subst UG;simp only[aS]at h;subst h;refine⟨fun _ hr K Q hK=>main (some L) (fun q hq=> ?_) (by simp) (aj6 hr (by simp)) K Q fun ep tm' a' w' hS=>hK ep tm' a' w' ?_,fun hn=>absurd (cR _) hn⟩
        ·simp only[aS]at hq;subst hq;exact⟨hm,by rw[<-C];exact Oj.2.symm⟩
        ·rw[Cs (by intro p hp d;simp at hp;rcases hp with rfl|rfl<;>simp<;>omega)];exact hS
       ·simp at h
      ·simp at h
   ·simp at h
  ·simp at h
 ·simp at h
def aGC(t:cX P tb tb=true)(s:aN c F σ bm tm a w)(u:bV tb.tab Γ c.env){g n:Nat}(i:¬F g){o:Oper}{T len:Nat}{parts:Array (Nat×Operand)}(ho:o.op=.buildSlice T len parts)(hd:∀d,o.dst=some d->d<c.nt){ti:TI}(v:tb.get T=some ti){j:bq}
  (h:TL tb Γ gs o.dst σ g ti len parts.toList=some j):oB P c F σ bm tm a w g gs n o j:=by
 unfold TL at h;split at h
 ·rename_i y I;split at h
  ·rename_i l;obtain⟨m,z⟩:=l;simp only[kN]at h;obtain⟨e,f,rfl⟩:=h;refine⟨fun _ _ K Q J=> ?_,fun L=>absurd (cR _) L⟩;obtain⟨w',cells,N,A,O,S,U⟩:=anF t s u ho v I m z f (cR _);have q:∀p,MM c.M0 bm (aW tm g (.slice (some ⟨w.heap.size,0,none⟩) len len)) (aW (jE σ none) (3*g+2) (.live ⟨(tb.tab y).length,none⟩)) p->MM c.M0 bm tm σ p:=fun p r=>by
    rcases AR s i r with h|⟨b2,B,C,G,H,q1,q2,q3,q4⟩
    ·exact CQ h
    ·simp only[fE]at q1;obtain⟨_,rfl,rfl⟩:=q1;omega
   unfold Oper.wp;rw[N];refine J bm (aW tm g (.slice (some ⟨w.heap.size,0,none⟩) len len)) _ _ ?_;rw[Cs (by intro p r d;simp at r;subst r;simp;omega)];refine Ma ((s.append i none (by simp) _ none (zt A s.hB) (bQ.below A fun p _ h=>q p h) (fun k V _=>A.block k V) (fun b W=>by cases W) ?_ (fun X B C G H f _=>.inl (by simp at f;omega))).nY hd (fj (cR _) ⟨U _ q,?_⟩) fun x Y=> ?_)
   ·refine⟨fun X B C G H f Z=> ?_,(fun e l f=>by cases f),(fun e l m f=>by cases f)⟩;rw[cH]at f;simp only[fE,aS,kC]at f;obtain⟨⟨rfl,rfl,rfl⟩,rfl,rfl⟩:=f;exact⟨rfl,s.hB,cells,y,O,by show 0+len*(tb.tab y).length<=_;omega⟩
   ·rw[cH]
   ·exact .inr Y
  ·simp at h
 ·simp at h
def aEz{z:Array Value}{m i j:Nat}(h:z.size=n)(d:i<m)(b:j<n):(madeCells z (m*n))[i*n+j]? =z[j]? :=by
 have e:i*n+j<m*n:=by have:(i+1)*n<=m*n:=mw _ d;rw[iK,oG]at this;omega
 simp only[madeCells,Array.getElem?_map,Array.getElem?_range,e, ↓reduceIte,j6];rw[h,Nat.mul_comm i n,Nat.mul_add_mod,Nat.mod_eq_of_lt b];simp[h,b]
def agd:∀{s:List CT} {vs:List Value},sU s vs=true->vs.length=s.length
 |[],[],_=>rfl
 |t::s,v::vs,h=>by simp only[sU,aX]at h;simp[agd h.2]
 |[],_::_,h=>by simp[sU]at h
 |_::_,[],h=>by simp[sU]at h
def agc:∀{s:List CT} {vs:List Value},sU s vs=true->∀{j:Nat},j<s.length->∃t u,s[j]? =some t/\vs[j]? =some u/\zeroV t u=true
 |[],_,_,j,b=>by simp at b
 |t::s,v::vs,h,j,b=>by
  simp only[sU,aX]at h;cases j with
  |zero=>exact⟨t,v,rfl,rfl,h.1⟩
  |succ j=>simpa using agc h.2 (j:=j) (by simpa using b)
 |_::_,[],h,_,_=>by simp[sU]at h
def ah5:∀{s:List CT} {m:List Nat},I8 tb s=some m->∀(j:Nat) (t:CT),s[j]? =some t->(m.getD j 0=0->yL t=true)/\(m.getD j 0≠0->∃e,t=.sl e)
 |[],m,h,j,t,d=>by simp at d
 |t::s,m,h,j,i,d=>by
  simp only[I8]at h;split at h
  ·simp at h
  ·rename_i k g;cases j with
   |zero=>
    simp at d;subst d;split at h
    ·rename_i e;cases b:(BS (tb.tab e)&&Nat.blt 0 (tb.tab e).length)with
     |false=>rw[b]at h;simp at h
     |true=> rw[b]at h;simp only[gD,aS]at h;subst h;simp only[aX]at b;have:=gT b.2;refine⟨fun f=> ?_,fun _=>⟨e,rfl⟩⟩;simp at f;rw[f]at this;simp at this
    ·simp at h
    ·simp at h
    ·rename_i l n o;simp only[aS]at h;subst h;refine⟨fun _=> ?_,fun f=>absurd rfl f⟩;cases t<;>simp[yL]at * <;>simp_all
   |succ j=>
    have key:=ah5 g j i (by simpa using d);split at h
    ·rename_i e;cases b:(BS (tb.tab e)&&Nat.blt 0 (tb.tab e).length)with
     |false=>rw[b]at h;simp at h
     |true=>rw[b]at h;simp only[gD,aS]at h;subst h;simpa using key
    ·simp at h
    ·simp at h
    ·simp only[aS]at h;subst h;simpa using key
def aGZ(aE:cX P tb tb=true)(hs:aN c F σ bm tm a w)(ax:bV tb.tab Γ c.env){g n:Nat}(yB:∀x,ji g x->¬F x){o:Oper}{T T1 T2:Nat}{l cc:Operand}(ho:o.op=.makeSlice T l cc)(hd:∀d,o.dst=some d->d<c.nt){ti:TI}(aK:tb.get T=some ti){aQ:bq}
  (h:aaC tb Γ gs o.dst g ti (aY tb σ T1 l) (aY tb σ T2 cc)=some aQ):oB P c F σ bm tm a w g gs n o aQ:=by
 unfold aaC at h;split at h
 ·rename_i el k1 en k2 ec hv hl hc;split at h
  ·rename_i ei gU;split at h
   ·simp at h
   ·rename_i v1 hv1;split at h
    ·rename_i hcnd;simp only[aS]at h;subst h;obtain⟨rfl,hint,hby,hpos,hlm⟩:=hcnd;refine⟨fun _ hr K Q hK=> ?_,fun hn=>absurd (cR _) hn⟩;have hin:jL P c.env n (.cond [] (.an (.ic .leq (.li .i64 0) en) (.ic .leq en (.li .i64 4294967296)))):=hr _ (by simp);replace hin:=hin (cR _);have hki:en.inf tb.tab Γ=some (.one (.c (.int .i64))):=by obtain⟨k,hk⟩:=yJ (show(isInt (en.inf tb.tab Γ)).isSome=true by rw[hint];rfl);rw[hk]at hint ⊢;simp[isInt]at hint;rw[hint]
     obtain⟨m,hm,hmv,_⟩:=nP ax hki ((dN hs hl).1 (cR _));obtain⟨m',hm',aBP,_⟩:=nP ax hki ((dN hs hc).1 (cR _));rw[hm]at hm';cases hm';simp only[E.den,hm,gQ,AO,bg,D.bool.injEq,aX,du]at hin;obtain⟨i',d,hi',_,_,_,hdd,jQ⟩:=fX aE aK hv;simp only[iI]at jQ;subst jQ;have htab:tb.tab el=v1.cells:=by simp[TB.tab,gU,TI.cells,hv1]
     obtain⟨j,z,hj,hjs,hjb,hz,hzl⟩:∃(j:TypeInfo) (z:Value),P.info? el=some j/\j.size=v1.cells.length/\j.bytes=ei.bytes/\j.zero=some z/\sU v1.cells z.cells.toList=true:=by
      cases v1 with
      |c t=> obtain⟨j,d',h1,h2,h3,⟨z,h4,h5⟩,h6,h7⟩:=fX aE gU hv1;refine⟨j,z,h1,h2,h3,h4,?_⟩;have hc1:=(Bd (w:=default) (M:=fun _=>False) (tab:=fun _=>[]) (agb _ t) (Yn (c:=⟨default,0,none,fun _=>False,0,[]⟩) (w:=default) (tm:=fun _=>undef) (M:=fun _=>False) h5).1).1;rw[hc1];simp[V1.cells,sU,h5]
      |agg ts=> obtain⟨j,fields,cs,h1,h2,h3,h4,h5,_⟩:=pX aE gU hv1;exact⟨j,.agg cs,h1,h2,h3,h4,h5⟩
     have hrun:=run_make (P:=P) w T el j z hdd hj hz .i64 .i64 m m hin.1 (Rf _) (by rw[hjb];have h1:(ei.bytes:Int)*m<=1024*m:=Int.mul_le_mul_of_nonneg_right (by omega) hin.1;omega) (by omega)
     have hrun':(execOp a.eval o).run P w=.ok (.value (.slice (some ⟨w.heap.size,0,none⟩) m.toNat m.toNat)) (w.alloc (.cells (madeCells z.cells (m.toNat*j.size)) el)):=by simp[execOp,ho,hmv,aBP,hrun]
     have hb:Below w.heap.size w (w.alloc (.cells (madeCells z.cells (m.toNat*j.size)) el)):=(dQ _ _).alloc (bM _) _;have kr:m.toNat<=maxLen:=by unfold maxLen;omega
     have ak1:z.cells.toList.length=v1.cells.length:=agd hzl
     let tm':Nat->Value:=aW (aW tm g (.slice (some ⟨w.heap.size,0,none⟩) m.toNat m.toNat)) (g+1) (.tuple (madeCells z.cells (m.toNat*j.size)))
     have Gm:tm' g=.slice (some ⟨w.heap.size,0,none⟩) m.toNat m.toNat:=by show aW _ _ _ g=_;rw[fZ _ _ (by omega),cH]
     have acg:tm' (g+1)=.tuple (madeCells z.cells (m.toNat*j.size)):=cH _ _ _;have hto:∀x,¬ji g x->tm' x=tm x:=fun x hx=>by show aW _ _ _ x=_;rw[fZ _ _ fun e=>hx (by subst e;unfold ji qH;omega),fZ _ _ fun e=>hx (by subst e;exact AX _)]
     have hcell:∀i r,(List.replicate m.toNat (v1.cells.map eF))[i]? =some r->∀j' d',r[j']? =some d'->j'<v1.cells.length/\i<m.toNat/\∃t u,v1.cells[j']? =some t/\z.cells[j']? =some u/\zeroV t u=true/\d'=eF t/\(madeCells z.cells (m.toNat*j.size))[i*v1.cells.length+j']? =some u:=by
      intro i r hi j' d' hj';have hlt:=(dh.1 hi).1;simp only[Ri]at hlt;rw[List.getElem?_replicate_of_lt hlt]at hi;simp only[aS]at hi;subst hi;have hjn:=(dh.1 hj').1;simp only[di]at hjn;obtain⟨t,u,h1,h2,h3⟩:=agc hzl hjn;refine⟨hjn,hlt,t,u,h1,by simpa using h2,h3,?_,?_⟩
      ·simp[h1]at hj';exact hj'.symm
      ·rw[hjs,aEz (by rw[<-uV,ak1]) hlt hjn];simpa using h2
     have UF:∀u∈(madeCells z.cells (m.toNat*j.size)).toList,∀b,¬dV u b:=by
      intro u hu b hb;simp only[madeCells,Q8,fJ]at hu;obtain⟨q,hq,rfl⟩:=hu;obtain⟨o1,s1,l1,c1,h1,h2⟩:=hb;by_cases hz0:z.cells.size=0
      ·have:z.cells[q%z.cells.size]! =default:=by rw[getElem!_neg];omega
       rw[this]at h1;cases h1
      ·have hlt:q%z.cells.size<z.cells.size:=Nat.mod_lt _ (by omega);obtain⟨t,u,h3,h4,h5⟩:=agc hzl (show q%z.cells.size<v1.cells.length by rw[<-ak1];simpa using hlt);have:z.cells[q%z.cells.size]! =u:=by
        have h4':z.cells[q%z.cells.size]? =some u:=by simpa using h4
        rw[getElem!_def,h4']
       rw[this]at h1;subst h1;cases t<;>simp[zeroV]at h5
     have UG:∀ms,I8 tb v1.cells=some ms->∀(j':Nat) (t:CT),v1.cells[j']? =some t->(ms.getD j' 0=0->yL t=true)/\(ms.getD j' 0≠0->∃e,t=.sl e):=fun ms hms=>ah5 hms;unfold Oper.wp;rw[hrun'];refine hK bm tm' _ _ ?_;rw[Cs (by intro p hp d;simp at hp;subst hp;simp;omega)];refine aN.nY (hs.al8 yB hto hb (fun b hbk=> ?_) ⟨?_,fun e dp he=> ?_,fun e gv ms he=> ?_⟩ fun x hx=> ?_) hd (fj (cR _) ⟨?_,Gm.symm⟩) fun x hx=> ?_
     ·rcases hbk with⟨o1,s1,l1,c1,h1,h2⟩|⟨e,gv,ms,cells,u,h1,h2,h3,h4⟩
      ·rw[Gm]at h1;simp only[fE,aS,kC]at h1;omega
      ·simp only[aS,gj]at h1;obtain⟨_,h1⟩:=h1;split at h1
       ·cases h1
       ·simp only[kN,gj]at h1;obtain⟨_,_,rfl,_⟩:=h1;rw[acg]at h2;cases h2;exact absurd h4 (UF u h3 b)
     ·intro b' o2 s2 l2 c2 he hlt;rw[Gm]at he;simp only[fE,aS,kC]at he;obtain⟨⟨rfl,rfl,rfl⟩,rfl,rfl⟩:=he;refine⟨rfl,hs.hB,_,el,vg _ _,?_⟩;rw[size_madeCells,hjs,htab];show 0+m.toNat*v1.cells.length<=_;omega
     ·simp only[aS,gj]at he;obtain⟨rfl,rfl⟩:=he;refine⟨some ⟨w.heap.size,0,none⟩,m.toNat,m.toNat,List.replicate m.toNat (v1.cells.map eF),Gm,by simp[E.den,hm,htab],by simp,bM _,kr,(fun h=>by cases h),fun r hr=> ?_,fun b' o2 s2 he=>⟨(fun _=>by cases he;rfl),fun i r hi j' d' hj'=> ?_⟩⟩
      ·rw[List.eq_of_mem_replicate hr,htab];simp
      ·cases he;obtain⟨hjn,hlt,t,u,h1,h2,h3,h4,h5⟩:=hcell i r hi j' d' hj';refine⟨u,?_,?_⟩
       ·rw[SR,htab,nJ];exact h5
       ·have Ot:=(Yn (c:=⟨default,0,none,fun _=>False,0,[]⟩) (w:=default) (tm:=fun _=>undef) (M:=fun _=>False) h3).1;have hlf:yL t=true->wL d' u:=fun hl=>by rw[h4];exact Vt (tab:=fun _=>[]) (agb _ t) hl Ot
        rw[htab];split
        ·rename_i UE;refine hlf ?_;simp only[BS,fH]at UE;exact UE t (jB h1)
        ·rename_i UE;obtain⟨ms,hms⟩:=Ml.1 ((htab▸hlm).resolve_left UE);rw[hms];refine⟨fun h0=>hlf ((UG ms hms j' t h1).1 h0),fun hne=> ?_⟩;obtain⟨e2,rfl⟩:=(UG ms hms j' t h1).2 hne;have hu:u=.slice none 0 0:=by simp only[zeroV]at h3;split at h3;all_goals first|rfl|simp_all
         subst hu;refine⟨⟨_,acg,h5⟩,(fun b o s len cap h=>by cases h),none,0,0,[],rfl,by rw[h4];rfl,rfl,bM _,fW _,(fun _=>rfl),(fun r hr=>by simp at hr),(fun b o s h=>by cases h)⟩
     ·simp only[aS,gj]at he;obtain⟨_,h1⟩:=he;split at h1
      ·cases h1
      ·simp only[kN,gj]at h1;obtain⟨_,_,rfl,_⟩:=h1;refine⟨_,acg,fun u hu=>⟨0,fun b o s len cap h h'=>absurd ⟨o,s,len,cap,h,h'⟩ (UF u hu b)⟩,fun k k' u u' b hk _ _ hb1=>absurd hb1 (UF u (by rw[<-sY]at hk;exact jB hk) b),fun u hu b hb1=>absurd hb1 (UF u hu b)⟩
     ·obtain⟨e,ms,hx⟩:=hx;simp only[aS,gj]at hx;obtain⟨_,h1⟩:=hx;split at h1
      ·cases h1
      ·simp only[kN,gj]at h1;obtain⟨_,_,rfl,_⟩:=h1;unfold ji qH;omega
     ·exact⟨some ⟨w.heap.size,0,none⟩,m.toNat,by simp[hm],by simp[hm],kr,(fun h=>by cases h),fun b o s h _=>by cases h;rfl⟩
     ·exact .inr (by obtain rfl:x=g:=hx;exact AX _)
    ·simp at h
  ·simp at h
 ·simp at h
def aGw(N:cX P tb tb=true)(hs:aN c F σ bm tm a w)(ax:bV tb.tab Γ c.env){g q:Nat}(yB:∀x,ji g x->¬F x){o:Oper}{x y:Operand}{T U:Nat}{cl:Call}(ho:o.op=.call cl)(hcl:cl.callee=.builtin .append)(har:cl.args.toList=[x,y])(hat:cl.argTypes.toList=[T,U])
  (hd:∀d,o.dst=some d->d<c.nt) {ti ui:TI} (aK:tb.get T=some ti) (DI:tb.get U=some ui) {h gv n:Nat} {i:E} {off:Nat} {l:E} (hy:aY tb σ U y=some (.iv [] h gv n i off l)) {aQ:bq}
  (H:TJ tb Γ o.dst σ g ti ui (aY tb σ T x) h gv n i off l=some aQ):oB P c F σ bm tm a w g [] q o aQ:=by
 have O:cl.args=#[x,y]:=by rw[<-iX,har]
 have S:cl.argTypes=#[T,U]:=by rw[<-iX,hat]
 unfold TJ at H;split at H
 ·rename_i Z qp hv hv';split at H
  ·rename_i ex ei n' e jn ms hx gU hlv;split at H
   ·rename_i v1 e0 hv1 oP;split at H
    ·rename_i hc;simp only[aS]at H;subst H;obtain⟨ajW,hby,aA2,DF,rfl,hn,rfl,hel,hms⟩:=hc;obtain⟨j,hj,hjs,hjb⟩:=tH N gU hv1;have NK:ei.cells=v1.cells:=by simp[TI.cells,hv1]
     have V:tb.tab Z=v1.cells:=by simp[TB.tab,gU,NK]
     rw[NK]at DF;obtain⟨z0,hz0,hz1⟩:∃z,j.zero=some z/\z.cells.size=v1.cells.length:=by
      cases v1 with
      |c t=> obtain⟨i',d',C,_,_,⟨z,hz,hzv⟩,_⟩:=fX N gU hv1;rw[hj]at C;simp at C;subst C;refine⟨z,hz,?_⟩;cases t<;>cases z<;>simp[zeroV]at hzv<;>rfl
      |agg ts=> obtain⟨i',f',cs',C,_,_,hz,hzv,_⟩:=pX N gU hv1;rw[hj]at C;simp at C;subst C;refine⟨_,hz,?_⟩;have:=agd hzv;simpa[Value.cells,V1.cells]using this
     obtain⟨_,d1,_,_,_,_,hd1,eT⟩:=fX N aK hv;simp only[iI]at eT;subst eT;obtain⟨_,d2,_,_,_,_,lW,yA⟩:=fX N DI hv';simp only[iI]at yA;subst yA;obtain⟨_,ad,W⟩:=(dN hs hx).1 (cR _);obtain⟨h4,h5⟩:=nW hs hy;obtain⟨⟨aT,L,aLB,hT,hi0,hiL⟩,⟨aLC,hc1,hc2⟩,adI,aLA,I,aLR,aMa,_⟩:=h4.1 (cR _);have UK:off<n:=by rw[<-hn];exact(dh.1 hel).1
     have hm0:ms.getD off 0≠0:=by rw[hms,V];omega
     obtain⟨b0,o0,r0,d0,_,y1,y2,y3,y4,y5,y6⟩:=acy hs hlv hT hiL UK rfl hm0 hc1 hc2;rw[hms]at y5 y6;obtain⟨Q4,f,Z4,A,m,hd0,lM,hm2,JN,l4,J,X⟩:=y6;have hll:(l.den c.env).cq.toNat=f:=by rw[m]at I;simp only[fE]at I;exact I.2.1.symm
     have fQ:(E.cell (.row (tb.tab e0) e i) off).den c.env=.sl A:=by simp[E.den,y1,y3,hd0]
     refine⟨fun _ hr K Q hK=> ?_,fun hn=>absurd (cR _) hn⟩;have hin:jL P c.env q (.cond [] (.ic .leq l (.li .i64 4294967296))):=hr _ (by simp);replace hin:=hin (cR _);have JI:(l.den c.env).cq<=4294967296:=SV (D.bool.inj hin);have xp:f<=4294967296:=by omega
     rw[V]at J X;generalize hsz:v1.cells.length=sz at *;have Um:Io w (fun _=>False) A Q4 f Z4:=⟨lM,hm2,JN,l4,fun b o s ha=>⟨(X b o s ha).1,AZ (n:=sz) J fun i2 r2 G=>CV fun j2 d2 hj2=>by obtain⟨u2,nV,iT⟩:=(X b o s ha).2 i2 r2 G j2 d2 hj2;exact⟨u2,nV,id,iT _ _⟩⟩⟩
     obtain⟨vy,Y,Vb,v⟩:=Uc (P:=P) Um J;have hlt2:(tb.tab Z).length=sz:=by rw[V,hsz]
     have fin:∀(v':Value) (w':World),(execOp a.eval o).run P w=.ok (.value v') w'->Below w.heap.size w w'->(∀b,dV v' b->w.heap.size<=b)->uT c.B w' v' sz->tT w' v' sz (fun _ _ d u=>wL d u) (.sl A)->(∃a cap,v'=.slice a f cap/\f<=cap/\cap<=maxLen/\(a=none->cap=0)/\∀b o s,a=some ⟨b,o,s⟩->0<f->s=none)->o.wp P a w K Q:=by
      intro v' w' B hb zW hsp hrows hmem;unfold Oper.wp;rw[B];refine hK bm (aW tm g v') _ _ ?_;rw[Cs (by intro p hp d;simp at hp;subst hp;simp;omega)];refine aN.nY (hs.al8 (tm':=aW tm g v') yB (fun x hx=>fZ _ _ fun e'=>hx (by subst e';exact AX _)) hb (fun b hbk=> ?_) ⟨?_,fun e1 dp1 nU=> ?_,fun e1 Nn ms1 nU=> ?_⟩ fun x hx=> ?_) hd (fj (cR _) ⟨?_,(cH _ _ _).symm⟩) fun x hx=> ?_
      ·rcases hbk with hb1|⟨e1,Nn,ms1,FB,u,w1,_⟩
       ·rw[cH]at hb1;exact zW b hb1
       ·simp at w1
      ·rw[cH,hlt2];exact hsp
      ·simp only[aS,gj]at nU;obtain⟨rfl,rfl⟩:=nU;rw[cH,fQ,hlt2];exact hrows
      ·simp at nU
      ·obtain⟨e1,ms1,hx⟩:=hx;simp at hx
      ·obtain⟨a1,ayU,w1,w2⟩:=hmem;exact⟨a1,ayU,by rw[w1,hll],by rw[hll];exact w2⟩
      ·exact .inr (by obtain rfl:x=g:=hx;exact AX _)
     rcases rU f with h0|h0
     ·subst h0;have Ol:vy=[]:=mO (by simpa using Y);subst Ol;have BJ:A=[]:=mO lM.symm;subst BJ;have B:(execOp a.eval o).run P w=.ok (.value (.slice ad 0 0)) w:=by
       rcases ad with _|ad
       ·simp[execOp,ho,resolve,hcl,invoke,builtin,Builtin.append_,O,S,W,m,run_underlying hd1,run_underlying lW,run_sizeOf hj,hjs,Builtin.lenOf,v w rfl]
       ·simp[execOp,ho,resolve,hcl,invoke,builtin,Builtin.append_,O,S,W,m,run_underlying hd1,run_underlying lW,run_sizeOf hj,hjs,Builtin.lenOf,v w rfl,storeCells]
      refine fin _ w B (dQ _ _) (fun b hb=> ?_) (fun b o s len cap H hl=> ?_) ⟨ad,0,0,[],rfl,rfl,rfl,bM _,fW _,fun _=>rfl,fun r hr=>by simp at hr,fun b o s ha=>⟨fun h=>by omega,fun i2 r2 G=>by simp at G⟩⟩ ⟨ad,0,rfl,bM _,fW _,fun _=>rfl,fun b o s _ h=>by omega⟩
      ·obtain⟨o1,s1,l1,c1,z1,z2⟩:=hb;simp only[fE]at z1;omega
      ·simp only[fE]at H;omega
     ·have hone:¬(0+f<=0):=by omega
      have hq:¬(Builtin.nextslicecap (0+f) 0*j.bytes>2^48):=by have h1:=al9 (show 0<0+f by omega) (show 0+f<=4294967296 by omega);have h2:Builtin.nextslicecap (0+f) 0*j.bytes<=(16*(4294967296+768))*1024:=Zc h1 (by omega);omega
      have abp:¬(j.bytes=0):=by omega
      have aa8:Io w (fun _=>False) [] ad 0 0:=⟨rfl,bM _,fW _,fun _=>rfl,fun b o s _=>⟨fun h=>by omega,trivial⟩⟩;obtain⟨vx,acn,_,aco⟩:=Uc (P:=P) (n:=sz) aa8 (fun r hr=>by simp at hr);have aCx:vx=[]:=mO (by simpa using acn);subst aCx;obtain⟨cells,nc,B,hn1,hn2,JP,l6⟩:∃(cells:Array Value) (nc:Nat),(execOp a.eval o).run P w=.ok (.value (.slice (some ⟨w.heap.size,0,none⟩) f nc)) (w.drew.alloc (.cells cells Z))/\f<=nc/\nc<=maxLen/\cells.size=nc*sz/\∀(i:Nat) (u:Value),vy[i]? =some u->cells[i]? =some u:=by
       refine⟨vy.toArray++Builtin.zeroCells z0.cells ((f+w.tape w.drawn (.appendCap f 0 Z)%(2^63-f))-f),f+w.tape w.drawn (.appendCap f 0 Z)%(2^63-f),?_,by omega,?_,?_,?_⟩
       ·have aA9:(w.drew).heap.size=w.heap.size:=rfl;have hle0:¬f=0:=by omega
        have hq':=Nat.not_lt.2 (Nat.not_lt.1 hq);rw[nJ]at hq';simp[execOp,ho,resolve,hcl,invoke,builtin,Builtin.append_,O,S,W,m,run_underlying hd1,run_underlying lW,run_sizeOf hj,run_typeInfo hj,hjs,Builtin.lenOf,hle0,abp,hq',Question.forced,Question.cut,zeroValue,hz0,newRow,aco w.drew rfl,v w.drew rfl]
       ·have:=Nat.mod_lt (w.tape w.drawn (.appendCap f 0 Z)) (show 0<2^63-f by omega);unfold maxLen;omega
       ·simp[Builtin.zeroCells,Y,hz1];rw[<-iK]
       ·intro i u hu;have hi:i<vy.length:=(dh.1 hu).1;rw[Q7 (by simpa using hi)];simpa using hu
      have hb:Below w.heap.size w (w.drew.alloc (.cells cells Z)):=((dQ _ _).drew).alloc (bM _) _;have JD:∀i,(w.drew.alloc (.cells cells Z)).cell? ⟨w.heap.size,i,none⟩=cells[i]? :=fun i=>SR (w:=w.drew) cells Z i;refine fin _ _ B hb (fun b hb=> ?_) (fun b o2 s2 l2 c2 he2 aL7=> ?_) ⟨_,_,_,A,rfl,rfl,lM,hn1,hn2,(fun h=>by cases h),J,fun b2 o2 s2 ha=>⟨(fun _=>by cases ha;rfl),fun i2 r2 G j2 d2 hj2=> ?_⟩⟩ ⟨_,nc,rfl,hn1,hn2,(fun h=>by cases h),fun b o s h _=>by cases h;rfl⟩
      ·obtain⟨o1,s1,l1,c1,z1,z2⟩:=hb;simp only[fE,aS,kC]at z1;omega
      ·simp only[fE,aS,kC]at he2;obtain⟨⟨rfl,rfl,rfl⟩,rfl,rfl⟩:=he2;exact⟨rfl,hs.hB,cells,Z,vg w.drew _,by rw[JP];omega⟩
      ·cases ha;rcases Q4 with _|⟨by',oy,sy⟩
       ·have:=l4 rfl;omega
       have hsy:=(X by' oy sy rfl).1 h0;subst hsy;obtain⟨u2,nV,iT⟩:=(X by' oy none rfl).2 i2 r2 G j2 d2 hj2;refine⟨u2,?_,iT⟩;rw[JD,nJ];refine l6 _ _ ?_;have aCd:=v w rfl;have hvv:∀k u,vy[k]? =some u->w.cell? ⟨by',oy+k,none⟩=some u:=az7 Um J aCd h0;have aMg:r2.length=sz:=J r2 (jB G);have aL0:=(dh.1 hj2).1;have aLX:=(dh.1 G).1;have hlt:i2*sz+j2<vy.length:=by rw[Y];have:(i2+1)*sz<=f*sz:=mw _ (by omega);rw[iK,oG]at this;omega
       have hg:=hvv _ _ (bX hlt);rw[<-wS,nV]at hg;rw[bX hlt];exact hg.symm
    ·simp at H
   ·simp at H
  ·simp at H
 ·simp at H
def aGv(b:cX P tb tb=true)(s:aN c F σ bm tm a w)(e:bV tb.tab Γ c.env){g n:Nat}(N:∀x,ji g x->¬F x){o:Oper}{x y:Operand}{T U:Nat}{cl:Call}(ho:o.op=.call cl)(l:cl.callee=.builtin .append)(r:cl.args.toList=[x,y])(t:cl.argTypes.toList=[T,U])
  (hd:∀d,o.dst=some d->d<c.nt) {ti j:TI} (i:tb.get T=some ti) (u:tb.get U=some j) {f:bq}
  (h:Jf tb Γ gs o.dst σ g ti j (aY tb σ T x) (aY tb σ U y)=some f):oB P c F σ bm tm a w g gs n o f:=by
 unfold Jf at h;split at h
 ·rename_i k;exact aGw b s e N ho l r t hd i u k h
 ·exact aGx b s e (N g (AX g)) ho l r t hd i u h
def aGJ(aE:cX P tb tb=true)(hs:aN c F σ bm tm a w)(ax:bV tb.tab Γ c.env){g q:Nat}(mH:¬F g){o:Oper}{x y:Operand}{T:Nat}(ho:o.op=.slice T x (some y) none none)(hd:∀d,o.dst=some d->d<c.nt){ti:TI}(aK:tb.get T=some ti){h:Nat}{ex:E}(hx:aY tb σ T x=some (.v [] (.own h) ex)){aQ:bq}
  (f:TP tb Γ o.dst σ g ti h ex (aY tb σ 0 y)=some aQ):oB P c F σ bm tm a w g [] q o aQ:=by
 unfold TP at f;split at f
 ·rename_i Z j Jr n C t r;split at f
  ·rename_i p;simp only[aS]at f;subst f;obtain⟨j,l,m,rfl⟩:=p;refine⟨fun _ hr K Q hK=> ?_,fun U=>absurd (cR _) U⟩;have L:jL P c.env q (.cond [] (.inc ex Jr (.len ex))):=hr _ (by simp);replace L:=L (cR _);obtain⟨kk,u⟩:=yJ l;obtain⟨l,hl,p,_⟩:=nP ax u ((dN hs t).1 (cR _));obtain⟨u,t⟩:=(nW hs hx).1.1 (cR _);have B:cB w (MM c.M0 bm tm σ) tm c.env (.own h) ex (a.eval x):=⟨u,t⟩;obtain⟨_,u,_,_,_,_,S,V⟩:=fX aE aK C;simp only[iI]at V;subst V;obtain⟨G,H,eY,J,len,cap,W,z,A,I,V,u⟩:=FO ax (by rw[j,C]) B;simp only[E.den,hl,H,cG,gQ,D.bool.injEq,du]at L;obtain⟨B,X,_⟩:=L;rw[<-z]at X;rw[C]at m;simp only[Wl]at m;split at m
   ·rename_i j C;split at m
    ·rename_i v1 I;obtain⟨j,Y,L,_⟩:=tH aE C I;have z:tb.tab Z=v1.cells:=by simp[TB.tab,C,TI.cells,I]
     let N:Value:=.slice (if cap=l.toNat then J else J.map (·.add (l.toNat*v1.cells.length))) (len-l.toNat) (cap-l.toNat)
     have hrun:(execOp a.eval o).run P w=.ok (.value N) w:=by have j:((some y).map a.eval=none/\l=0)\/∃k,(some y).map a.eval=some (.int k l):=.inr ⟨kk,by simp[p]⟩;have p:((none:Option Operand).map a.eval=none/\(len:Int)=len)\/∃k,(none:Option Operand).map a.eval=some (.int k (len:Int)):=.inl ⟨rfl,rfl⟩;have O:=fun isS=>ZD (P:=P) (w:=w) (isS:=isS) j p B X (Rf _) A;simp only[j6,Zf]at O;simp[execOp,ho,W,Instr.sliceAt,Instr.slice,run_underlying S,O,run_sizeOf Y,L,N]
     have I:=hs.live h _ r;have A:tm h=.slice J len cap:=by rw[<-t,W]
     have j:l.toNat<=cap:=by omega
     have j:∀b C L W S,N=.slice (some ⟨b,C,L⟩) W S->0<S->∃t,J=some ⟨b,t,none⟩/\C=t+l.toNat*v1.cells.length/\L=none/\W=len-l.toNat/\S=cap-l.toNat/\0<cap:=by
      intro b C L W S B X;simp only[N,fE]at B;obtain⟨p,rfl,rfl⟩:=B;rw[aw (by omega)]at p;rcases J with _|⟨b',t,s'⟩
      ·cases p
      ·have B:=(I.sp b' t s' len cap A (by omega)).1;subst B;simp only[j6,addr_add,aS,kC]at p;obtain⟨rfl,rfl,rfl⟩:=p;exact⟨t,rfl,rfl,rfl,rfl,rfl,by omega⟩
     have p:l.toNat*v1.cells.length+(len-l.toNat)*v1.cells.length=len*v1.cells.length/\l.toNat*v1.cells.length+(cap-l.toNat)*v1.cells.length=cap*v1.cells.length:=by
      constructor
      ·rw[<-iK];congr 1;omega
      ·rw[<-iK];congr 1;omega
     have FZ:∀p,MM c.M0 bm (aW tm g N) (aW (jE σ (some h)) (3*g+2) (.live ⟨(tb.tab Z).length,none⟩)) p->MM c.M0 bm tm σ p:=fun p Y=>by
      rcases AR hs mH Y with h1|⟨b2,C,L,W,S,q1,q2,q3,q4⟩
      ·exact CQ h1
      ·have X:0<S:=by
        rcases rU S with e|e
        ·subst e;omega
        ·exact e
       obtain⟨t,rfl,rfl,rfl,rfl,rfl,B⟩:=j _ _ _ _ _ q1 X;refine .inr (.inr ⟨h,_,r,DV ⟨b2,t,none,len,cap,A,q2,?_,?_⟩⟩)
       ·show t+len*(tb.tab Z).length<=_;rw[z]at q3 ⊢;omega
       ·show _<t+cap*(tb.tab Z).length;rw[z]at q4 ⊢;omega
     unfold Oper.wp;rw[hrun];refine hK bm (aW tm g N) _ _ ?_;rw[Cs (by intro p Y d;simp at Y;rcases Y with rfl|rfl<;>simp<;>omega)];show aN c _ (dq (aW (jE σ (some h)) (3*g+2) _) _) _ _ _ _;refine Ma ((hs.append mH (some h) (fun h1 X=>by simp at X;subst X;exact r) N (match J with|some ⟨b,_,_⟩=>(if 0<cap then some b else none)|none=>none) (Fr.refl _ _ _) (fun p v Y U=>⟨Y,fun r=>U (FZ p r)⟩) (fun _ _ _=>rfl) (fun b O=> ?_) ⟨?_,(fun e X f=>by cases f),(fun e X ms f=>by cases f)⟩ (fun b' C L W S f hl=> ?_)).nY hd (fj (cR _) ⟨?_,?_⟩) fun x hx=> ?_)
     ·rcases J with _|⟨b',t,s'⟩
      ·cases O
      ·simp only at O;split at O
       ·rename_i B;simp only[aS]at O;subst O;exact⟨h,t,s',len,cap,rfl,A,B⟩
       ·cases O
     ·intro b C L W S f hl;rw[cH]at f;obtain⟨t,rfl,rfl,rfl,rfl,rfl,B⟩:=j _ _ _ _ _ f hl;obtain⟨_,L,C,O,S,W⟩:=I.sp b t none len cap A B;refine⟨rfl,L,C,O,S,?_⟩;have A:t+cap*(tb.tab Z).length<=C.size:=W;show t+l.toNat*v1.cells.length+(cap-l.toNat)*(tb.tab Z).length<=_;rw[z]at A ⊢;omega
     ·obtain⟨t,rfl,_,_,_,_,B⟩:=j _ _ _ _ _ f hl;right;simp[B]
     ·have j:bQ w (MM c.M0 bm tm σ) w (MM c.M0 bm (aW tm g N) (aW (jE σ (some h)) (3*g+2) (.live ⟨(tb.tab Z).length,none⟩))):=fun p v Y U=>⟨Y,fun r=>U (FZ p r)⟩;have A:R w (MM c.M0 bm tm σ) ((E.cut ex Jr (.len ex)).den c.env) N:=by
       simp only[E.den,H,hl,gQ,cG,qn,R];refine⟨_,_,_,rfl,by simp;omega,by omega,by omega,fun U=> ?_,fun b t s f=> ?_⟩
       ·rcases J with _|J
        ·have:=V rfl;omega
        ·split at U
         ·omega
         ·simp at U
       ·by_cases p:len-l.toNat=0
        ·refine⟨fun h=>by omega,?_⟩;have:((G.drop l.toNat).take ((G.length:Int).toNat-l.toNat))=[]:=by apply mO;simp;omega
         rw[this];trivial
        ·have p:¬cap=l.toNat:=by omega
         rw[aw p]at f;rcases J with _|⟨b1,t,p⟩
         ·cases f
         ·have l:=(u b1 t p rfl).1 (by omega);subst l;simp only[j6,addr_add,aS,kC]at f;obtain⟨rfl,rfl,rfl⟩:=f;refine⟨fun _=>rfl,?_⟩;have l:∀r∈G,r.length=v1.cells.length:=fun r hr=>by rw[eY.len r hr,z]
          refine AZ (n:=v1.cells.length) (fun r hr=>l r (Rl (Rm hr))) fun i r p=> ?_;simp only[qk,yd]at p;split at p
          ·have:=(u b1 t none rfl).2.get l p;rw[iK]at this
           rwa[wS]
          ·cases p
      exact R.keep j _ _ A
     ·rw[cH]
     ·exact .inr hx
    ·simp at m
   ·simp at m
  ·simp at f
 ·simp at f
def sSl(b:cX P tb tb=true)(s:aN c F σ bm tm a w)(f:bV tb.tab Γ c.env){g n:Nat}(k:¬F g){o:Oper}{x:Operand}{lo m:Option Operand}{T:Nat}(ho:o.op=.slice T x lo m none)(hd:∀d,o.dst=some d->d<c.nt){ti:TI}(t:tb.get T=some ti){j:bq}
  (h:Jo tb Γ gs o.dst σ g ti (aY tb σ T x) (lo.map (aY tb σ 0)) (m.map (aY tb σ 0))=some j):oB P c F σ bm tm a w g gs n o j:=by
 unfold Jo at h;split at h
 ·rename_i u ex l q i p;split at h
  ·rename_i e r;simp only[aS]at h;subst h;cases lo with
   |none=>simp at i
   |some y=>
    cases m with
    |some z=>simp at p
    |none=> simp only[j6,aS]at i;subst i;exact aGJ b s f k ho hd t q r
  ·exact qh s hd (anU b s f ho t h)
 ·exact qh s hd (anU b s f ho t h)
end
section
variable {P:Program}{c:SC}{F:Nat->Prop}{σ:Nat->ST}{bm:Nat->Nat}{tm:Nat->Value}{a:Act}{w:World}{cx:Cx}{Γ:List VT}{gs:Gd}{ops:Array Oper}
def avc(s:aN c F σ bm tm a w)(i:bV cx.tb.tab Γ c.env){o:Oper}(h:zQ cx.tb.tab Γ ops σ o=some gs):Region.wanted o (yielded ops a.tmps)=true↔cP c.env gs:=by
 unfold zQ at h;unfold Region.wanted;split at h
 ·rename_i l;simp only[aS]at h;subst h;simp[l,cR]
 ·rename_i j b l;rw[l];simp only;split at h
  ·rename_i d p;split at h
   ·rename_i t k e m;cases n:gV .bool (e.inf cx.tb.tab Γ)<;>rw[n]at h<;>simp at h;subst h;have r:=s.tmps d;rw[m]at r;rw[aaX];unfold yielded;rw[p];simp only[Option.bind_some];by_cases g:cP c.env t
    ·obtain⟨x,u,f⟩:=Ds i (vW n) (r.1 g);have v:a.tmps[d]? =some (.bool x):=by
      simp only[sX]at f;cases q:a.tmps[d]? with
      |none=>rw[q]at f;simp[undef]at f
      |some z=>rw[q]at f;simp at f;rw[f]
     rw[v,u];simp[g]
    ·have f:=r.2 g;simp only[sX]at f;have v:a.tmps[d]? =none\/a.tmps[d]? =some (.tuple #[]):=by
      cases q:a.tmps[d]? with
      |none=>exact .inl rfl
      |some z=>rw[q]at f;simp[undef]at f;exact .inr (by rw[f])
     rcases v with v|v<;>rw[v]<;>simp[g]
   ·simp at h
  ·simp at h
def ac3(k:cX P cx.tb cx.tb=true)(B:c.nt=cx.nt)(s:aN c F σ bm tm a w)(j:bV cx.tb.tab Γ c.env){g:Nat}(N:∀x,ji g x->¬F x){o:Oper}{A:bq}(h:yP cx ops Γ g o σ=some A) :
  ∃gs,zQ cx.tb.tab Γ ops σ o=some gs/\oB P c F σ bm tm a w g gs Γ.length o A:=by
 have v:¬F g:=N g (AX g);unfold yP at h;split at h
 ·simp at h
 ·rename_i gs C;refine⟨gs,C,?_⟩;cases n:Je cx.nt o.dst with
  |false=>rw[n]at h;simp at h
  |true=>
   rw[n]at h;simp only[gD]at h;have m:∀d,o.dst=some d->d<c.nt:=fun d L=>by rw[L]at n;simp only[Je]at n;rw[B];exact gT n
   split at h
   ·rename_i x e;exact qh s m (anT s (.inl e) h)
   ·rename_i x e;exact qh s m (anT s (.inr e) h)
   ·rename_i T x e;split at h
    ·rename_i q b;exact qh s m (sLd k s s.gi j e b h)
    ·simp at h
   ·rename_i T y x e;split at h
    ·rename_i q b;exact sSt k s j v e b h
    ·simp at h
   ·rename_i T x f e;split at h
    ·rename_i q b;exact qh s m (aGM k s e b h)
    ·simp at h
   ·rename_i T x i e;split at h
    ·rename_i q b;exact qh s m (aGS k s j e b h)
    ·simp at h
   ·rename_i T x i e;split at h
    ·rename_i q b;exact qh s m (aG6 k s j e b h)
    ·simp at h
   ·rename_i T x e;exact aGA k s j v e m h
   ·rename_i T e;split at h
    ·rename_i q b;exact aGu k s v e m b h
    ·simp at h
   ·rename_i T parts e;split at h
    ·rename_i q b;exact qh s m (aGB k s j e b h)
    ·simp at h
   ·rename_i T l O e;split at h
    ·rename_i q b;exact aGZ k s j N e m b h
    ·simp at h
   ·rename_i T len parts e;split at h
    ·rename_i q b;cases I:(Nat.blt 0 len&&gs.isEmpty)with
     |true=>rw[I]at h;exact aGC k s j v e m b h
     |false=>rw[I]at h;exact qh s m (aGD k s j e b h)
    ·simp at h
   ·rename_i T x Q V e;split at h
    ·rename_i q b;exact sSl k s j v e m b h
    ·simp at h
   ·rename_i S T x e;split at h
    ·rename_i W q G b;exact qh s m (aGI k s j e G b h)
    ·simp at h
   ·rename_i x i e;exact qh s m (aGK s j e h)
   ·rename_i T x e;exact qh s m (aG4 s j e h)
   ·rename_i T x e;exact qh s m (aG1 s j e h)
   ·rename_i x y z e;exact qh s m (aG5 s j e h)
   ·rename_i f first J e;exact aG0 s j e m h
   ·rename_i x e;exact qh s m (aG3 s e h)
   ·rename_i op T x y X e;exact qh s m (aGz k s j e h)
   ·rename_i Y e;split at h
    ·rename_i f p;split at h
     ·rename_i q b;split at h
      ·exact aG2 s j v e p m rfl h
      ·exact aGE s j N e p m rfl h
     ·simp at h
    ·rename_i t p;split at h
     ·rename_i q b;exact aGH s j e p m rfl h
     ·simp at h
    ·rename_i p;split at h
     ·rename_i x T r u;split at h
      ·rename_i q b;exact qh s m (sLen k s j e p r u b h)
      ·simp at h
     ·simp at h
    ·rename_i p;split at h
     ·rename_i x y T U r u;split at h
      ·rename_i q Z b H;exact aGv k s j N e p r u m b H h
      ·simp at h
     ·simp at h
    ·simp at h
   ·simp at h
def Yl(j:cX P cx.tb cx.tb=true)(n:c.nt=cx.nt)(l:aN c F σ bm tm a w)(b:bV cx.tb.tab Γ c.env){g i:Nat}(hg:∀x,ji g x->¬F x){o:Oper}(t:ops[i]? =some o){f:bq}(h:yP cx ops Γ g o σ=some f)
  (u:∀r∈f.rq,jL P c.env Γ.length r) {Q:Exit->Act->World->Prop} {K:Act->World->Prop} (p:∀m tm' q w',aN c (fun x=>F x\/ji g x) (dq σ f.wr) m tm' q w'->K q w'):wpOp P ops Q i K a w:=by
 obtain⟨gs,s,k⟩:=ac3 j n l b hg h;unfold wpOp;rw[t];simp only;by_cases d:cP c.env gs
 ·rw[aC ((avc l b s).2 d)];exact .inl (k.1 d u K Q p)
 ·rw[aw (fun e=>d ((avc l b s).1 e))];exact p _ _ _ _ (k.2 d)
def AY(P:Program)(env:List D):Nat->List bq->Prop
 |_,[]=>True
 |n,e::r=>(∀q∈e.rq,jL P env n q)/\AY P env (n+(lN e.rq).length) r
def bV.Ue{tab:Nat->List CT}{Γ d:List VT}{env:List D}(h:bV tab (Γ++d) env):bV tab Γ env:=fun i t b=>h i t (by rw[mP (dh.1 b).1];exact b)
def GZ{ops:Array Oper}:∀{l:List Oper} {b:SS} {es:List bq} {s:SS},oW cx ops l b=some (es,s)->∃f,s.Γ=b.Γ++f/\s.nt=b.nt+qH*l.length/\s.lv=b.lv
 |[],b,es,s,h=>by simp[oW]at h;obtain⟨_,rfl⟩:=h;exact⟨[],by simp⟩
 |o::r,b,es,s,h=>by
  simp only[oW]at h;split at h
  ·simp at h
  ·rename_i e m;split at h
   ·simp at h
   ·rename_i g n d;simp only[aS,gj]at h;obtain⟨rfl,rfl⟩:=h;obtain⟨f,i,j,k⟩:=GZ d;exact⟨lN e.rq++f,by rw[i];simp[SS.step],by rw[j];simp only[SS.step,dR,Nat.mul_add];omega,by rw[k];rfl⟩
def Pn(s:SS)(e:bq):(s.step e).σ.get=dq s.σ.get e.wr:=agI _ _
def below(n:Nat):Nat->Prop:=fun x=>x<n
def anW(g:cX P cx.tb cx.tb=true)(n:c.nt=cx.nt){Q:Exit->Act->World->Prop}:∀(l:List Oper) (k:Nat) (d:SS) (es:List bq) (s:SS),(∀j,l[j]? =ops[k+j]?)->oW cx ops l d=some (es,s)->bV cx.tb.tab s.Γ c.env->AY P c.env d.Γ.length es ->
  (∀m tm' p w',aN c (below s.nt) s.σ.get m tm' p w'->Q .normal p w')->∀bm tm a w,aN c (below d.nt) d.σ.get bm tm a w->wpOps P ops Q (List.range' k l.length) a w
 |[],k,d,es,s,q,h,b,t,u,bm,tm,a,w,v=>by simp[oW]at h;obtain⟨_,rfl⟩:=h;exact u _ _ _ _ v
 |o::r,k,d,es,s,q,h,b,t,u,bm,tm,a,w,v=>by
  simp only[oW]at h;split at h
  ·simp at h
  ·rename_i e A;split at h
   ·simp at h
   ·rename_i y B f;simp only[aS,gj]at h;obtain⟨rfl,rfl⟩:=h;obtain⟨G,C,H,_⟩:=GZ f;have i:bV cx.tb.tab d.Γ c.env:=by rw[C]at b;simp only[SS.step,iY]at b;exact b.Ue
    simp only[dR,Mh];rw[wpOps_cons];refine Yl g n v i (g:=d.nt) (fun x z=>by have:=z.1;simp only[below];omega) (by have:=q 0;simpa using this.symm) A t.1 fun m tm' p w' S=> ?_;refine anW g n r (k+1) (d.step e) y B (fun j=>by have:=q (j+1);simpa[wS,Dc 1 j]using this) f b (by have:=t.2;simpa[SS.step]using this) u m tm' p w' ?_
    rw[Pn];exact S.mono fun x z=>by simp only[below,SS.step,ji]at *;omega
def aFW(x:cX P cx.tb cx.tb=true)(n:c.nt=cx.nt){Q:Exit->Act->World->Prop}{id:Nat}{b s:SS}{es:List bq}(h:oW cx ops ops.toList b=some (es,s))(d:bV cx.tb.tab s.Γ c.env)(r:AY P c.env b.Γ.length es)
  (f:∀m tm' e w',aN c (below s.nt) s.σ.get m tm' e w'->Q .normal e w') (g:aN c (below b.nt) b.σ.get bm tm a w):(Code.region id ops false).wp P Q a w:=by
 refine wp_region ?_;have:=anW (ops:=ops) x n ops.toList 0 b es s (fun j=>by simp) h d r f bm tm a w g;rw[uV, <-Ro]at this;exact this
end
end
end Go.Proofs.YtoomhbopolalnabGreatDoor
