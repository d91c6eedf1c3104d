/- Each operation does to a world what the executor says it does: append; and all operations together. No program in sight. -/
import Derived.Test.YtoomhbopolalnaaGreatDoorS4
set_option linter.all false
namespace Go.Proofs.YtoomhbopolalnaaGreatDoor
variable {M:Addr->Prop}{rows:List (List D)}{cap n:Nat}{o:Option Nat}
section
open Go.RowKit
variable [GC]
section
variable {w:World}{M:Addr->Prop}
def jg.cells:∀{rows:List (List D)} {b o:Nat},jg w M rows b o->∃vs:List Value,vs.length=rows.flatten.length/\Rs w M rows.flatten vs/\∀i u,vs[i]? =some u->w.cell? ⟨b,o+i,none⟩=some u
 |[],_,_,_=>⟨[],rfl,rfl,fun i u h=>by simp at h⟩
 |r::l,b,o,⟨h1,h2⟩=>by
  obtain⟨vs,e,r1,c1⟩:=h1.cells;obtain⟨s,f,r2,g⟩:=jg.cells h2;refine⟨vs++s,by simp[e,f],by simpa using r1.append r2,fun i u d=> ?_⟩;rw[List.getElem?_append]at d;split at d
  ·exact c1 i u d
  ·have:=g _ _ d
   rwa[show o+r.length+(i-vs.length)=o+i by omega]at this
def Tp{n:Nat}:∀{rows:List (List D)},(∀r∈rows,r.length=n)->rows.flatten.length=rows.length*n
 |[],_=>by simp
 |r::l,h=>by have ih:=Tp (rows:=l) (fun x b=>h x (by simp[b]));have d:=h r (by simp);simp only[Yw,jI,dU,ih,d,iG,oo];omega
def alB{tab:Nat->List CT}{s:List CT}:∀{rows:List (List D)} {vs:List Value},da tab s rows->Rs w M rows.flatten vs->∀v∈vs,v.oneCell'=true
 |[],vs,_,h,v,b=>by simp[Rs]at h;subst h;simp at b
 |r::l,vs,t,h,v,b=>by
  simp only[da]at t;simp only[Yw]at h;have h1:=h.take r.length;have d:=h.drop r.length;rw[List.take_left' rfl]at h1;rw[List.drop_left' rfl]at d;rw[<-Fg r.length vs]at b;rcases iV.1 b with b|b
  ·exact MN t.1 h1 v b
  ·exact alB t.2 d v b
def jg.append:∀{rows r2:List (List D)} {b o:Nat},jg w M rows b o->jg w M r2 b (o+rows.flatten.length)->jg w M (rows++r2) b o
 |[],_,_,_,_,h=>by simpa using h
 |r::l,r2,b,o,⟨h1,h2⟩,h=>⟨h1,jg.append h2 (by simpa[wV]using h)⟩
def aiw(n:Nat):∀(r c:Nat),Builtin.growBy n r c+768<=(c+768)*2^r
 |0,c=>by simp[Builtin.growBy]
 |r+1,c=>by
  have h:0<2^r:=Nat.two_pow_pos r;simp only[Builtin.growBy];split
  ·rw[Nat.pow_succ];have:(c+768)*1<=(c+768)*(2^r*2):=Nat.mul_le_mul_left _ (by omega)
   rwa[Nat.mul_one]at this
  ·refine dV (aiw n r _) ?_;rw[Nat.pow_succ,show(c+768)*(2^r*2)=((c+768)*2)*2^r by rw[Nat.mul_assoc,Nat.mul_comm 2]];exact mr _ (by omega)
def azH(n c:Nat):Builtin.growBy n 4 c<=16*(c+768):=by
 have h:=aiw n 4 c;have b:(2:Nat)^4=16:=by decide
 have e:(c+768)*2^4=16*(c+768):=by rw[b,Nat.mul_comm]
 rw[e]at h;exact dV (Nat.le_add_right _ _) h
def alp(h:cap<n)(e:n<=4294967296):Builtin.nextslicecap n cap<=16*(4294967296+768):=by
 unfold Builtin.nextslicecap;by_cases b:n>2*cap
 ·rw[aD b];omega
 ·rw[aw b];by_cases d:cap<256
  ·rw[aD d];omega
  ·rw[aw d];exact dV (azH n cap) (Nat.mul_le_mul_left _ (by omega))
end
section
variable {P:Program}{c:SC}{F:Nat->Prop}{σ:Nat->ST}{bm:Nat->Nat}{tm:Nat->Value}{a:Act}{w w':World}{tb:TB}{Γ:List VT}{gs:Gd}
def aL.append(i:aL c F σ bm tm a w){g n:Nat}(hg:¬F g)(O:Option Nat)(Q:∀h,O=some h->σ (3*h+2)=.live ⟨n,none⟩)(G:Value)(blk:Option Nat)
  (X:Fr c.B c.X w w') (hk:bR w (MM c.M0 bm tm σ) w' (MM c.M0 bm (aW tm g G) (aW (jA σ O) (3*g+2) (.live ⟨n,none⟩))))
  (S:∀k,k<w.heap.size->some k≠blk->w'.heap[k]? =w.heap[k]?)
  (H:∀b,blk=some b->∃h o s len cap,O=some h/\tm h=.slice (some ⟨b,o,s⟩) len cap/\0<cap)
  (I:sS c w' (aW tm g G) g ⟨n,none⟩) (Y:∀b o s len cap,G=.slice (some ⟨b,o,s⟩) len cap->0<cap->w.heap.size<=b\/blk=some b) :
  aL c (fun x=>F x\/x=g) (aW (jA σ O) (3*g+2) (.live ⟨n,none⟩)) bm (aW tm g G) a w':=by
 have A:∀x,F x->aW tm g G x=tm x:=fun x f=>gb _ _ (fun e=>hg (e▸f));have v:∀x m,σ (3*x+2)=.live m->aW tm g G x=tm x/\∀y,cE (.live m) y->aW tm g G y=tm y:=fun x m h=>⟨A x (i.f3 x m h),fun y B=>A y (i.f1 (3*x+2) y (by rw[h];exact B))⟩;have T:∀id p,σ (3*id+1)=.box p->some (bm id)≠blk:=fun id p j e=>by obtain⟨h,o,s,len,cap,d,r,u⟩:=H _ e.symm;exact i.lI id p h ⟨n,none⟩ _ j (Q h d) (.inl ⟨o,s,len,cap,r,u⟩) rfl
 have J:∀x m b,σ (3*x+2)=.live m->O≠some x->jv tm x m b->some b≠blk:=fun x m b f C j e=>by obtain⟨h,l,z,U,V,d,r,u⟩:=H _ e.symm;exact i.lU x m h ⟨n,none⟩ b b f (Q h d) (fun e=>C (e▸d)) j (.inl ⟨l,z,U,V,r,u⟩) rfl
 have L:∀b,jv (aW tm g G) g ⟨n,none⟩ b->w.heap.size<=b\/blk=some b:=fun b j=>by obtain⟨o,s,len,cap,d,r⟩:=xY j;rw[cH]at d;exact Y b o s len cap d r
 refine i.turn (fun t=>by rw[O8,ahG]) (fun x f=>⟨rfl,A x f⟩) (fun _ h=>.inl h) X hk ?_ ?_ ?_ ?_ ?_ ?_ ?_ ?_
 ·intro id p h;rw[wH,FM]at h;refine(i.box id p h).keep hk rfl (S _ (i.box id p h).lt (T id p h)) fun x f=>A x ?_;exact i.f1 (3*id+1) x (by rw[h];exact f)
 ·intro x m h;by_cases e:x=g
  ·subst e;rw[cH]at h;simp at h;subst h;exact I
  ·rw[pV _ e]at h;obtain⟨d,r⟩:=yp h;exact(i.live x m d).keep (fun b j=>S _ ((i.live x m d).lt j) (J x m b d r j)) (v x m d).1 (v x m d).2
 ·intro id Z p l h z;rw[wH,FM]at h z;exact i.pu id Z p l h z
 ·intro id p x m b h f j;rw[wH,FM]at h;by_cases e:x=g
  ·subst e;rw[cH]at f;simp at f;subst f;rcases L b j with d|d
   ·have:=(i.box id p h).lt;omega
   ·exact fun e=>T id p h (by rw[e,d])
  ·rw[pV _ e]at f;obtain⟨d,r⟩:=yp f;exact i.lI id p x m b h d ((nX (v x m d).1 (v x m d).2).1 j)
 ·intro x m y N b l f B C j z;by_cases e:x=g<;>by_cases W:y=g
  ·exact absurd (e.trans W.symm) C
  ·subst e;rw[cH]at f;simp at f;subst f;rw[pV _ W]at B;obtain⟨d,r⟩:=yp B;have z:=(nX (v y N d).1 (v y N d).2).1 z;rcases L b j with u|u
   ·have:=(i.live y N d).lt z;omega
   ·exact fun q=>J y N l d r z (by rw[<-q,u])
  ·subst W;rw[cH]at B;simp at B;subst B;rw[pV _ e]at f;obtain⟨d,r⟩:=yp f;have j:=(nX (v x m d).1 (v x m d).2).1 j;rcases L l z with u|u
   ·have:=(i.live x m d).lt j;omega
   ·exact fun q=>J x m b d r j (by rw[q,u])
  ·rw[pV _ e]at f;rw[pV _ W]at B;obtain⟨d,r⟩:=yp f;obtain⟨u,f⟩:=yp B;exact i.lU x m y N b l d u C ((nX (v x m d).1 (v x m d).2).1 j) ((nX (v y N u).1 (v y N u).2).1 z)
 ·intro l x h;by_cases e:l=3*g+2
  ·subst e;rw[cH]at h;obtain⟨_,_,h⟩:=h;cases h
  ·rw[gb _ _ e]at h;exact .inl (i.f1 l x (ahF h))
 ·intro id p h;rw[wH,FM]at h;exact .inl (i.f2 id p h)
 ·intro x m h;by_cases e:x=g
  ·exact .inr e
  ·rw[pV _ e]at h;exact .inl (i.f3 x m (yp h).1)
def aL.alo(s:aL c F σ bm tm a w){g:Nat}{r:LV}(hg:∀x,jf g x->¬F x){tm':Nat->Value}(C:∀x,¬jf g x->tm' x=tm x)(hb:Below w.heap.size w w')(n:∀b,jv tm' g r b->w.heap.size<=b)
  (G:sS c w' tm' g r) (z:∀x,cE (.live r) x->jf g x):aL c (fun x=>F x\/jf g x) (aW σ (3*g+2) (.live r)) bm tm' a w':=by
 have k:∀x,F x->tm' x=tm x:=fun x d=>C x fun h=>hg x h d;have v:∀x m,σ (3*x+2)=.live m->tm' x=tm x/\∀y,cE (.live m) y->tm' y=tm y:=fun x m h=>⟨k x (s.f3 x m h),fun y i=>k y (s.f1 (3*x+2) y (by rw[h];exact i))⟩;have O:∀p,p.block<w.heap.size->MM c.M0 bm tm' (aW σ (3*g+2) (.live r)) p->MM c.M0 bm tm σ p:=by
  rintro p Q (h|⟨id,j,f,q⟩|⟨x,m,f,q⟩)
  ·exact .inl h
  ·rw[wH]at f;exact .inr (.inl ⟨id,j,f,q⟩)
  ·by_cases e:x=g
   ·subst e;rw[cH]at f;simp at f;subst f;have:=n _ (OB q);omega
   ·rw[pV _ e]at f;exact .inr (.inr ⟨x,m,f,Vf (v x m f).1 (v x m f).2 q⟩)
 have J:bR w (MM c.M0 bm tm σ) w' (MM c.M0 bm tm' (aW σ (3*g+2) (.live r))):=bR.below hb O;refine s.turn (fun t=>O8 _ _ _) (fun x d=>⟨rfl,k x d⟩) (fun _ h=>.inl h) (zo hb s.hB) J ?_ ?_ ?_ ?_ ?_ ?_ ?_ ?_
 ·intro id j h;rw[wH]at h;exact(s.box id j h).keep J rfl (hb.block _ (s.box id j h).lt) fun x d=>k x (s.f1 (3*id+1) x (by rw[h];exact d))
 ·intro x m h;by_cases e:x=g
  ·subst e;rw[cH]at h;simp at h;subst h;exact G
  ·rw[pV _ e]at h;exact(s.live x m h).keep (fun b o=>hb.block _ ((s.live x m h).lt o)) (v x m h).1 (v x m h).2
 ·intro id H j I h L;rw[wH]at h L;exact s.pu id H j I h L
 ·intro id j x m b h d o;rw[wH]at h;by_cases e:x=g
  ·subst e;rw[cH]at d;simp at d;subst d;have:=n b o;have:=(s.box id j h).lt;omega
  ·rw[pV _ e]at d;exact s.lI id j x m b h d ((nX (v x m d).1 (v x m d).2).1 o)
 ·intro x m y u b N d i A f q;by_cases e:x=g<;>by_cases B:y=g
  ·exact absurd (e.trans B.symm) A
  ·subst e;rw[cH]at d;simp at d;subst d;rw[pV _ B]at i;have:=n b f;have:=(s.live y u i).lt ((nX (v y u i).1 (v y u i).2).1 q);omega
  ·subst B;rw[cH]at i;simp at i;subst i;rw[pV _ e]at d;have:=n N q;have:=(s.live x m d).lt ((nX (v x m d).1 (v x m d).2).1 f);omega
  ·rw[pV _ e]at d;rw[pV _ B]at i;exact s.lU x m y u b N d i A ((nX (v x m d).1 (v x m d).2).1 f) ((nX (v y u i).1 (v y u i).2).1 q)
 ·intro l x h;by_cases e:l=3*g+2
  ·subst e;rw[cH]at h;exact .inr (z x h)
  ·rw[gb _ _ e]at h;exact .inl (s.f1 l x h)
 ·intro id j h;rw[wH]at h;exact .inl (s.f2 id j h)
 ·intro x m h;by_cases e:x=g
  ·subst e;exact .inr (AJ x)
  ·rw[pV _ e]at h;exact .inl (s.f3 x m h)
def AF{p:Addr}{g:Nat}{v:Value}(s:aL c F σ bm tm a w)(hg:¬F g)(h:MM c.M0 bm (aW tm g v) (aW (jA σ o) (3*g+2) (.live ⟨n,none⟩)) p) :
  (MM c.M0 bm tm (jA σ o) p)\/Hg v n p:=by
 rcases h with h|⟨id,f,b,d⟩|⟨x,m,b,d⟩
 ·exact .inl (.inl h)
 ·rw[wH]at b;exact .inl (.inr (.inl ⟨id,f,b,d⟩))
 ·by_cases e:x=g
  ·subst e;rw[cH]at b;simp at b;subst b;have:=Kk d;rw[cH]at this;exact .inr this
  ·rw[pV _ e]at b;obtain⟨i,_⟩:=yp b;refine .inl (.inr (.inr ⟨x,m,b,Vf (gb _ _ e) (fun y j=>gb _ _ fun k=> ?_) d⟩));subst k;exact hg (s.f1 (3*x+2) _ (by rw[i];exact j))
def CN{p:Addr}(h:MM c.M0 bm tm (jA σ o) p):MM c.M0 bm tm σ p:=by
 rcases h with h|⟨id,s,b,d⟩|⟨x,m,b,d⟩
 ·exact .inl h
 ·rw[FM]at b;exact .inr (.inl ⟨id,s,b,d⟩)
 ·exact .inr (.inr ⟨x,m,(yp b).1,d⟩)
def ac1:∀(l:List Value) (C:Array Value) (o i:Nat),i<o\/o+l.length<=i->(iC C o l)[i]? =C[i]?
 |[],_,_,_,_=>rfl
 |x::r,C,o,i,h=>by simp only[dU]at h;unfold iC;rw[ac1 r _ _ _ (by omega)];simp[CZ];omega
def am3:∀(l:List Value) (C:Array Value) (o j:Nat) (u:Value),o+l.length<=C.size->l[j]? =some u->(iC C o l)[o+j]? =some u
 |[],_,_,_,_,_,h=>by simp at h
 |v::r,C,o,0,u,s,h=>by simp only[dU]at s;simp at h;subst h;unfold iC;rw[ac1 r _ _ _ (by omega)];simp[CZ];omega
 |v::r,C,o,j+1,u,s,h=>by
  simp only[dU]at s;simp at h;unfold iC;have:=am3 r (C.setIfInBounds o v) (o+1) j u (by simp;omega) h
  rwa[show o+(j+1)=o+1+j by omega]
def Iu(w:World)(M:Addr->Prop)(rows:List (List D))(d:Option Addr)(len cap:Nat):Prop :=
 len=rows.length/\len<=cap/\cap<=maxLen/\(d=none->cap=0)/\∀b o s,d=some ⟨b,o,s⟩->(0<len->s=none)/\jg w M rows b o
def Tm{f:Option Addr}{len:Nat}(h:Iu w M rows f len cap)(p:∀r∈rows,r.length=n) :
  ∃vs:List Value,vs.length=len*n/\Rs w M rows.flatten vs/\∀d:World,d.heap=w.heap->(Builtin.firstCells n len (.slice f len cap)).run P d=.ok vs.toArray d:=by
 obtain⟨g,z,A,q,m⟩:=h;rcases f with _|⟨b,o,s⟩
 ·have:rows=[]:=mM (by have:=q rfl;omega);subst this;exact⟨[],by simp at g;simp[g],rfl,fun d _=>by simp[Builtin.firstCells]⟩
 ·obtain⟨vs,e,t,v⟩:=(m b o s rfl).2.cells;have l:vs.length=len*n:=by rw[e,Tp p,g]
  refine⟨vs,l,t,fun d i=> ?_⟩;by_cases x:len=0
  ·subst x;have:vs=[]:=mM (by simpa using l);subst this;simp[Builtin.firstCells,loadCells,loadCellsFrom]
  ·have k:=(m b o s rfl).1 (by omega);subst k;have:=IY (P:=P) (w:=d) ⟨b,o,none⟩ vs (fun j u y=>by rw[addr_add,Da (w:=w) (by rw[i])];exact v j u y)
   rw[l]at this;simpa[Builtin.firstCells]using this
def azp{b o len:Nat}{vs:List Value}(h:Iu w M rows (some ⟨b,o,none⟩) len cap)(j:∀r∈rows,r.length=n)(f:(Builtin.firstCells n len (.slice (some ⟨b,o,none⟩) len cap)).run P w=.ok vs.toArray w)(q:0<len):∀(k:Nat) (u:Value),vs[k]? =some u->w.cell? ⟨b,o+k,none⟩=some u:=by
 obtain⟨v,e,_,g⟩:=(h.2.2.2.2 b o none rfl).2.cells;have l:v.length=len*n:=by rw[e,Tp j,h.1]
 have i:=IY (P:=P) (w:=w) ⟨b,o,none⟩ v (fun k u m=>by rw[addr_add];exact g k u m);rw[l]at i;have d:(Builtin.firstCells n len (.slice (some ⟨b,o,none⟩) len cap)).run P w=.ok v.toArray w:=by
  have p:¬len=0:=by omega
  simp[Builtin.firstCells,i]
 rw[f]at d;simp only[YJ,yd]at d;have:vs=v:=by simpa using d
 subst this;exact g
def aFX(aE:cY P tb tb=true)(hs:aL c F σ bm tm a w)(ax:bV tb.tab Γ c.env){g n:Nat}(mD:¬F g){o:Oper}{x y:Operand}{T U:Nat}{cl:Call}(ho:o.op=.call cl)(hcl:cl.callee=.builtin .append)(har:cl.args.toList=[x,y])(hat:cl.argTypes.toList=[T,U])
  (hd:∀d,o.dst=some d->d<c.nt) {ti ui:TI} (aK:tb.get T=some ti) (DF:tb.get U=some ui) {aR:bp}
  (h:Jn tb Γ gs o.dst σ g ti ui (aZ tb σ T x) (aZ tb σ U y)=some aR):nZ P c F σ bm tm a w g gs n o aR:=by
 have W:cl.args=#[x,y]:=by rw[<-iT,har]
 have X:cl.argTypes=#[T,U]:=by rw[<-iT,hat]
 unfold Jn at h;split at h
 ·rename_i el qh hv hv';split at h
  ·rename_i k ex ky ey ei hx hy gT;split at h
   ·rename_i hc;obtain⟨ajg,aAo,hby,aAj,DD⟩:=hc;split at h
    ·simp at h
    ·rename_i v1 hv1;obtain⟨j,hj,hjs,hjb⟩:=tL aE gT hv1;have Nz:ei.cells=v1.cells:=by simp[TI.cells,hv1]
     have htab:tb.tab el=v1.cells:=by simp[TB.tab,gT,Nz]
     rw[Nz]at h DD;obtain⟨z0,hz0,hz1⟩:∃z,j.zero=some z/\z.cells.size=v1.cells.length:=by
      cases v1 with
      |c t=> obtain⟨i',d',hi',_,_,⟨z,hz,hzv⟩,_⟩:=fW aE gT hv1;rw[hj]at hi';simp at hi';subst hi';refine⟨z,hz,?_⟩;cases t<;>cases z<;>simp[zeroV]at hzv<;>rfl
      |agg ts=> obtain⟨i',f',cs',hi',_,_,hz,hzv,_⟩:=pU aE gT hv1;rw[hj]at hi';simp at hi';subst hi';refine⟨_,hz,?_⟩;have:=(XS (w:=w) (M:=fun _=>False) (tm:=tm) (c:=c) hzv).1.length;simpa[Value.cells,V1.cells]using this
     obtain⟨_,d1,_,_,_,_,hd1,eO⟩:=fW aE aK hv;simp only[iF]at eO;subst eO;obtain⟨_,d2,_,_,_,_,lY,yz⟩:=fW aE DF hv';simp only[iF]at yz;subst yz;have NV:=(dL hs hx).1 (cP _);have aBO:=(dL hs hy).1 (cP _);obtain⟨Y,Z,fV,ad,len,cap,C,hF⟩:=FV ax (vX ajg) NV;obtain⟨O,ajV,ajW,QE,l,Zw,I,TF⟩:=FV ax (vX aAo) aBO;have aay:Iu w (MM c.M0 bm tm σ) Y ad len cap:=hF;have Tx:Iu w (MM c.M0 bm tm σ) O QE l Zw:=TF;have qW:∀r∈Y,r.length=v1.cells.length:=fun r hr=>by rw[fV.len r hr,htab]
     have hny:∀r∈O,r.length=v1.cells.length:=fun r hr=>by rw[ajW.len r hr,htab]
     obtain⟨vx,abG,aBR,abH⟩:=Tm (P:=P) aay qW;obtain⟨vy,DH,Us,H⟩:=Tm (P:=P) Tx hny;have hone:=alB ajW Us;have fR:(E.app ex ey).den c.env=.sl (Y++O):=by simp[E.den,Z,ajV]
     have TN:(Y++O).flatten=Y.flatten++O.flatten:=by simp
     obtain⟨hl1,iX,JT,NK,TR⟩:=hF;obtain⟨lK,hm2,JW,kx,hm5⟩:=TF;generalize hsz:v1.cells.length=A at *;have aby:len+l<=cap->(l=0\/∃b B cells T0,ad=some ⟨b,B,none⟩/\w.heap[b]? =some (.cells cells T0 (0,0))/\B+len*A+l*A<=cells.size) ->
       ∃w',(execOp a.eval o).run P w=.ok (.value (.slice ad (len+l) cap)) w'/\((l=0/\w'=w)\/∃b B cells T0,ad=some ⟨b,B,none⟩/\w.heap[b]? =some (.cells cells T0 (0,0))/\w'.heap[b]? =some (.cells (iC cells (B+len*A) vy) T0 (0,0))/\bU w w' b/\B+len*A+l*A<=cells.size):=by
      intro hle S;rcases S with h0|⟨b,B,cells,T0,rfl,J,hrm⟩
      ·subst h0;have NY:vy=[]:=mM (by simpa using DH);subst NY;refine⟨w,?_,.inl ⟨rfl,rfl⟩⟩;rcases ad with _|ad
       ·simp[execOp,ho,resolve,hcl,invoke,builtin,Builtin.append_,W,X,C,I,run_underlying hd1,run_underlying lY,run_sizeOf hj,hjs,Builtin.lenOf,iX,H w rfl,show len<=cap from iX]
       ·simp[execOp,ho,resolve,hcl,invoke,builtin,Builtin.append_,W,X,C,I,run_underlying hd1,run_underlying lY,run_sizeOf hj,hjs,Builtin.lenOf,iX,H w rfl,show len<=cap from iX,storeCells]
      ·obtain⟨w',h1,h2,h3⟩:=Ef (P:=P) b T0 vy w cells (B+len*A) 0 J hone (by rw[DH];omega);refine⟨w',?_,.inr ⟨b,B,cells,T0,rfl,J,by simpa using h2,h3,hrm⟩⟩;simp[execOp,ho,resolve,hcl,invoke,builtin,Builtin.append_,W,X,C,I,run_underlying hd1,run_underlying lY,run_sizeOf hj,hjs,Builtin.lenOf,hle,H w rfl,addr_add,h1]
     have Ui:cap<len+l->len+l<=4294967296->∃(cells:Array Value) (nc:Nat),(execOp a.eval o).run P w=.ok (.value (.slice (some ⟨w.heap.size,0,none⟩) (len+l) nc)) (w.drew.alloc (.cells cells el))/\len+l<=nc/\nc<=maxLen/\cells.size=nc*A/\∀(i:Nat) (u:Value),(vx++vy)[i]? =some u->cells[i]? =some u:=by
      intro hgt xp;have hq:¬(Builtin.nextslicecap (len+l) cap*j.bytes>2^48):=by have h1:=alp hgt xp;have h2:Builtin.nextslicecap (len+l) cap*j.bytes<=(16*(4294967296+768))*1024:=YF h1 (by omega);omega
      have aaN:¬(j.bytes=0):=by omega
      have hnl:¬(len+l<=cap):=by omega
      refine⟨vx.toArray++vy.toArray++Builtin.zeroCells z0.cells ((len+l+w.tape w.drawn (.appendCap (len+l) cap el)%(2^63-(len+l)))-(len+l)),len+l+w.tape w.drawn (.appendCap (len+l) cap el)%(2^63-(len+l)),?_,by omega,?_,?_,?_⟩
      ·have aAq:(w.drew).heap.size=w.heap.size:=rfl;simp[execOp,ho,resolve,hcl,invoke,builtin,Builtin.append_,W,X,C,I,run_underlying hd1,run_underlying lY,run_sizeOf hj,run_typeInfo hj,hjs,Builtin.lenOf,hnl,aaN,Nat.not_lt.2 (Nat.not_lt.1 hq),Question.forced,Question.cut,zeroValue,hz0,newRow,abH w.drew rfl,H w.drew rfl];rw[<-List.append_toArray,Array.append_assoc]
      ·have:=Nat.mod_lt (w.tape w.drawn (.appendCap (len+l) cap el)) (show 0<2^63-(len+l) by omega);unfold maxLen;omega
      ·simp[Builtin.zeroCells,abG,DH,hz1];rw[<-iG, <-iG]
      ·intro i u hu;have hi:i<(vx++vy).length:=(db.1 hu).1;rw[QH (by simpa using hi)];rw[List.append_toArray];simpa using hu
     have main:∀oh:Option Nat,(∀h,oh=some h->σ (3*h+2)=.live ⟨A,none⟩/\tm h=.slice ad len cap)->(oh=none->cap=0)->len+l<=4294967296->∀(K:Act->World->Prop) (Q:Exit->Act->World->Prop),
       (∀ep tm' a' w',aL c (fun x=>F x\/jf g x) (di (aW (jA σ oh) (3*g+2) (.live ⟨A,none⟩)) (wv o.dst (.v [] (.own g) (.app ex ey)))) ep tm' a' w'->K a' w')->o.wp P a w K Q:=by
      intro oh DA ajN xp K Q hK;have aBb:∀h,oh=some h->σ (3*h+2)=.live ⟨A,none⟩:=fun h e=>(DA h e).1;have fin:∀(v':Value) (w':World) (blk:Option Nat),(execOp a.eval o).run P w=.ok (.value v') w'->Fr c.B c.X w w' ->
        bR w (MM c.M0 bm tm σ) w' (MM c.M0 bm (aW tm g v') (aW (jA σ oh) (3*g+2) (.live ⟨A,none⟩))) ->
        (∀k,k<w.heap.size->some k≠blk->w'.heap[k]? =w.heap[k]?) ->
        (∀b,blk=some b->∃h o s len cap,oh=some h/\tm h=.slice (some ⟨b,o,s⟩) len cap/\0<cap) ->
        sS c w' (aW tm g v') g ⟨A,none⟩->(∀b o s len cap,v'=.slice (some ⟨b,o,s⟩) len cap->0<cap->w.heap.size<=b\/blk=some b) ->
        R w' (MM c.M0 bm (aW tm g v') (aW (jA σ oh) (3*g+2) (.live ⟨A,none⟩))) (.sl (Y++O)) v'->o.wp P a w K Q:=by
       intro v' w' blk G hfr hk mE J iY aBH hR;unfold Oper.wp;rw[G];refine hK _ _ _ _ (LW ((hs.append mD oh aBb v' blk hfr hk mE J iY aBH).nT hd (eX (cP _) ⟨?_,?_⟩) fun x hx=> ?_))
       ·rw[fR];exact hR
       ·rw[cH]
       ·exact .inr hx
      by_cases hle:len+l<=cap
      ·
       by_cases h0:l=0
       ·subst h0;obtain⟨w',G,hcase⟩:=aby hle (.inl rfl);have hw:w'=w:=by
         rcases hcase with⟨_,h⟩|⟨b,B,cells,T0,h1,h2,h3,h4,h5⟩
         ·exact h
         ·have NY:vy=[]:=mM (by simpa using DH);subst NY;obtain⟨w2,aBu,hc2⟩:=aby hle (.inl rfl);have e1:=G.symm.trans aBu;simp only[YJ,wW]at e1;have:(execOp a.eval o).run P w=.ok (.value (.slice ad (len+0) cap)) w:=by
           rcases ad with _|ad
           ·simp[execOp,ho,resolve,hcl,invoke,builtin,Builtin.append_,W,X,C,I,run_underlying hd1,run_underlying lY,run_sizeOf hj,hjs,Builtin.lenOf,iX,H w rfl]
           ·simp[execOp,ho,resolve,hcl,invoke,builtin,Builtin.append_,W,X,C,I,run_underlying hd1,run_underlying lY,run_sizeOf hj,hjs,Builtin.lenOf,iX,H w rfl,storeCells]
          have e2:=G.symm.trans this;simp only[YJ,wW]at e2;exact e2
        subst hw;have BF:O=[]:=mM (by omega);subst BF;simp only[rS]at G;by_cases hlc:0<cap
        ·obtain⟨L,rfl⟩:∃L,oh=some L:=by
          cases oh with
          |none=>have:=ajN rfl;omega
          |some L=>exact⟨L,rfl⟩
         obtain⟨hl',V⟩:=DA L rfl;rcases ad with _|⟨b,B,s⟩
         ·have:=NK rfl;omega
         refine fin _ _ (some b) G (Fr.refl _ _ _) (fun p v hp hn=>⟨hp,fun hm=> ?_⟩) (fun _ _ _=>rfl) (fun b' hb'=>⟨L,B,s,len,cap,rfl,by simp at hb';subst hb';exact V,hlc⟩) ?_ (fun b' o2 s2 l2 c2 f _=>.inr (by simp at f;rw[f.1.1])) ?_
         ·rcases AF hs mD hm with h|h
          ·exact hn (CN h)
          ·exact hn (.inr (.inr ⟨L,⟨A,none⟩,hl',DU (by rw[V];exact h)⟩))
         ·refine⟨fun b' o2 s2 l2 c2 f hlt=> ?_,(fun e dp f=>by cases f),(fun e gv ms f=>by cases f)⟩;rw[cH]at f;exact(hs.live L ⟨A,none⟩ hl').sp b' o2 s2 l2 c2 (by rw[V,f]) hlt
         ·rw[qJ, <-Z, <-C];refine R.keep (fun p v hp hn=>⟨hp,fun hm=> ?_⟩) _ _ NV.rd;rw[C]at hm;rcases AF hs mD hm with h|h
          ·exact hn (CN h)
          ·exact hn (.inr (.inr ⟨L,⟨A,none⟩,hl',DU (by rw[V];exact h)⟩))
        ·have aA8:∀p,¬Hg (.slice ad len cap) A p:=by
          rintro p ⟨b,B,s,l2,c2,f,_,h1,h2⟩;simp only[fA]at f;obtain⟨_,rfl,rfl⟩:=f;have e1:cap=0:=by omega
          rw[e1]at h2;omega
         have hkk:bR w' (MM c.M0 bm tm σ) w' (MM c.M0 bm (aW tm g (.slice ad len cap)) (aW (jA σ oh) (3*g+2) (.live ⟨A,none⟩))):=fun p v hp hn=>⟨hp,fun hm=>by
          rcases AF hs mD hm with h|h
          ·exact hn (CN h)
          ·exact aA8 p h⟩
         refine fin _ _ none G (Fr.refl _ _ _) hkk (fun _ _ _=>rfl) (fun b' hb'=>by cases hb') ?_ (fun b' o2 s2 l2 c2 f hlt=>by simp only[fA]at f;omega) ?_
         ·refine⟨fun b' o2 s2 l2 c2 f hlt=> ?_,(fun e dp f=>by cases f),(fun e gv ms f=>by cases f)⟩;rw[cH]at f;simp only[fA]at f;omega
         ·rw[qJ, <-Z];have:=R.keep hkk _ _ NV.rd
          rwa[C]at this
       ·
        have hlc:0<cap:=by omega
        obtain⟨L,rfl⟩:∃L,oh=some L:=by
         cases oh with
         |none=>have:=ajN rfl;omega
         |some L=>exact⟨L,rfl⟩
        obtain⟨hl',V⟩:=DA L rfl;rcases ad with _|⟨b,B,s⟩
        ·have:=NK rfl;omega
        obtain⟨lZ,F2,cells,T0,J,S⟩:=(hs.live L ⟨A,none⟩ hl').sp b B s len cap V hlc;subst lZ;replace S:B+cap*A<=cells.size:=S;have hmul:len*A+l*A<=cap*A:=by rw[<-iG];exact mr _ hle
        obtain⟨w',G,hcase⟩:=aby hle (.inr ⟨b,B,cells,T0,rfl,J,by omega⟩);rcases hcase with⟨h,_⟩|⟨b1,o1,FH,T1,h1,h2,h3,h4,h5⟩
        ·exact absurd h h0
        simp only[aS,kB,yd]at h1;obtain⟨rfl,rfl⟩:=h1;rw[J]at h2;simp only[aS,Obj.cells.injEq]at h2;obtain⟨rfl,rfl,_⟩:=h2;have hspare:∀i,len*A<=i->i<cap*A->MM c.M0 bm tm σ ⟨b,B+i,none⟩:=fun i hi1 hi2=>
         .inr (.inr ⟨L,⟨A,none⟩,hl',DU ⟨b,B,none,len,cap,V,rfl,by show B+len*A<=B+i;omega,by show B+i<B+cap*A;omega⟩⟩)
        have N:∀i,w'.cell? ⟨b,i,none⟩=(iC cells (B+len*A) vy)[i]? :=fun i=>ye w' b i _ _ _ h3;have aAm:∀i,w.cell? ⟨b,i,none⟩=cells[i]? :=fun i=>ye w b i _ _ _ J;have F6:∀p,p.block=b->¬MM c.M0 bm tm (jA σ (some L)) p:=by
         rintro p kq (h|⟨id,cs,q1,q2⟩|⟨x,m,q1,q2⟩)
         ·have:=hs.m0.1 p h;omega
         ·rw[FM]at q1;exact hs.lI id cs L ⟨A,none⟩ b q1 hl' (.inl ⟨B,none,len,cap,V,hlc⟩) (by rw[<-q2,kq])
         ·obtain⟨q6,q7⟩:=yp q1;exact hs.lU x m L ⟨A,none⟩ p.block b q6 hl' (fun e=>q7 (by rw[e])) (OB q2) (.inl ⟨B,none,len,cap,V,hlc⟩) kq
        have hkk:bR w (MM c.M0 bm tm σ) w' (MM c.M0 bm (aW tm g (.slice (some ⟨b,B,none⟩) (len+l) cap)) (aW (jA σ (some L)) (3*g+2) (.live ⟨A,none⟩))):=by
         intro p v hp hn;constructor
         ·by_cases kq:p.block=b
          ·have hsp:=World.cell?_spot hp;obtain⟨pb,po,ps⟩:=p;simp only at kq hsp;subst kq hsp;rw[N,ac1]
           ·rw[<-aAm];exact hp
           ·rcases dO po (B+len*A)with h|h
            ·exact .inl h
            ·refine .inr ?_;rcases dO po (B+len*A+vy.length)with h6|h6
             ·refine absurd (hspare (po-B) (by omega) (by omega)) ?_
              rwa[show B+(po-B)=po by omega]
             ·exact h6
          ·rw[<-hp];exact Da (h4.block _ kq)
         ·intro hm;rcases AF hs mD hm with h|⟨b2,o2,s2,l2,c2,q1,q2,q3,q4⟩
          ·exact hn (CN h)
          ·simp only[fA,aS,kB]at q1;obtain⟨⟨rfl,rfl,rfl⟩,rfl,rfl⟩:=q1;rw[iG]at q3;exact hn (.inr (.inr ⟨L,⟨A,none⟩,hl',DU ⟨b,B,none,len,cap,V,q2,(by show B+len*A<=_;omega),q4⟩⟩))
        refine fin _ _ (some b) G (Ik h4 (.inl F2)) hkk (fun k _ hk=>h4.block k (fun e=>hk (by rw[e]))) (fun b' hb'=>⟨L,B,none,len,cap,rfl,by simp at hb';subst hb';exact V,hlc⟩) ?_ (fun b' o2 s2 l2 c2 f _=>.inr (by simp at f;rw[f.1.1])) ?_
        ·refine⟨fun b' o2 s2 l2 c2 f hlt=> ?_,(fun e dp f=>by cases f),(fun e gv ms f=>by cases f)⟩;rw[cH]at f;simp only[fA,aS,kB]at f;obtain⟨⟨rfl,rfl,rfl⟩,rfl,rfl⟩:=f;exact⟨rfl,F2,_,T0,h3,by rw[Kv];exact S⟩
        ·refine⟨_,_,_,rfl,by simp;omega,hle,JT,(fun h=>by cases h),fun b2 o2 s2 f=> ?_⟩;simp only[aS,kB]at f;obtain⟨rfl,rfl,rfl⟩:=f;refine⟨fun _=>rfl,jg.append (jg.keep hkk _ _ _ (TR b B none rfl).2) ?_⟩;rw[Tp qW, <-hl1];refine QB Us hkk fun i u hu=> ?_;have hi:i<vy.length:=(db.1 hu).1;refine⟨by rw[N];exact am3 vy cells _ i u (by omega) hu,fun hm=> ?_⟩;rcases AF hs mD hm with h|⟨b2,o2,s2,l2,c2,q1,q2,q3,q4⟩
         ·exact F6 _ rfl h
         ·simp only[fA,aS,kB]at q1;obtain⟨⟨rfl,rfl,rfl⟩,rfl,rfl⟩:=q1;simp only at q3;rw[iG]at q3;omega
      ·
       obtain⟨cells,nc,G,hn1,hn2,JX,k0⟩:=Ui (by omega) xp;have hb:Below w.heap.size w (w.drew.alloc (.cells cells el)):=((dP _ _).drew).alloc (bK _) _;have N:∀i,(w.drew.alloc (.cells cells el)).cell? ⟨w.heap.size,i,none⟩=cells[i]? :=fun i=>by have:=RQ (w:=w.drew) cells el i;exact this
       have hkk:bR w (MM c.M0 bm tm σ) (w.drew.alloc (.cells cells el)) (MM c.M0 bm (aW tm g (.slice (some ⟨w.heap.size,0,none⟩) (len+l) nc)) (aW (jA σ oh) (3*g+2) (.live ⟨A,none⟩))):=by
        refine bR.below hb fun p hp hm=> ?_;rcases AF hs mD hm with h|⟨b2,o2,s2,l2,c2,q1,q2,q3,q4⟩
        ·exact CN h
        ·simp only[fA,aS,kB]at q1;omega
       refine fin _ _ none G (zo hb hs.hB) hkk (fun k hk _=>hb.block k hk) (fun b' hb'=>by cases hb') ?_ (fun b' o2 s2 l2 c2 f _=>.inl (by simp at f;omega)) ?_
       ·refine⟨fun b' o2 s2 l2 c2 f hlt=> ?_,(fun e dp f=>by cases f),(fun e gv ms f=>by cases f)⟩;rw[cH]at f;simp only[fA,aS,kB]at f;obtain⟨⟨rfl,rfl,rfl⟩,rfl,rfl⟩:=f;exact⟨rfl,hs.hB,cells,el,vB w.drew _,by show 0+nc*A<=_;rw[JX];omega⟩
       ·refine⟨_,_,_,rfl,by simp;omega,hn1,hn2,(fun h=>by cases h),fun b2 o2 s2 f=> ?_⟩;simp only[aS,kB]at f;obtain⟨rfl,rfl,rfl⟩:=f;refine⟨fun _=>rfl,QB (by rw[TN];exact aBR.append Us) hkk fun i u hu=> ?_⟩;have hi:i<(vx++vy).length:=(db.1 hu).1;rw[nC];refine⟨by rw[N];exact k0 i u hu,fun hm=> ?_⟩;rcases AF hs mD hm with h|⟨b2,o2,s2,l2,c2,q1,q2,q3,q4⟩
        ·have:=hs.X7 _ (CN h);simp at this
        ·simp only[fA,aS,kB]at q1;obtain⟨⟨rfl,rfl,rfl⟩,rfl,rfl⟩:=q1;simp only[nC,iG]at q3;simp only[jI]at hi;omega
     have ajq:(∀r∈aR.rq,jH P c.env n r)->(Rq.cond [] (.few ex ey))∈aR.rq->len+l<=4294967296:=fun hr hin=>by have:=hr _ hin (cP _);simp[E.den,Z,ajV]at this;omega
     cases k with
     |d=>simp at h
     |full=>
      simp only[aS]at h;subst h;refine⟨fun _ hr K Q hK=>main none (by simp) (fun _=> ?_) (ajq hr (by simp)) K Q fun ep tm' a' w' hS=>hK ep tm' a' w' ?_,fun hn=>absurd (cP _) hn⟩
      ·obtain⟨_,a2,f⟩:=NV;rw[C]at f;simp only[fA]at f;omega
      ·rw[Cq (by intro p hp d;simp at hp;subst hp;simp;omega)];exact hS
     |ag _=>simp at h
     |own L=>
      simp only at h;split at h
      ·rename_i m hm;split at h
       ·rename_i TX;subst TX;simp only[aS]at h;subst h;refine⟨fun _ hr K Q hK=>main (some L) (fun q hq=> ?_) (by simp) (ajq hr (by simp)) K Q fun ep tm' a' w' hS=>hK ep tm' a' w' ?_,fun hn=>absurd (cP _) hn⟩
        ·simp only[aS]at hq;subst hq;exact⟨hm,by rw[<-C];exact NV.2.symm⟩
        ·rw[Cq (by intro p hp d;simp at hp;rcases hp with rfl|rfl<;>simp<;>omega)];exact hS
       ·simp at h
      ·simp at h
   ·simp at h
  ·simp at h
 ·simp at h
def aF2(t:cY P tb tb=true)(s:aL c F σ bm tm a w)(u:bV tb.tab Γ c.env){g n:Nat}(i:¬F g){o:Oper}{T len:Nat}{parts:Array (Nat×Operand)}(ho:o.op=.buildSlice T len parts)(hd:∀d,o.dst=some d->d<c.nt){ti:TI}(v:tb.get T=some ti){j:bp}
  (h:SW tb Γ gs o.dst σ g ti len parts.toList=some j):nZ P c F σ bm tm a w g gs n o j:=by
 unfold SW at h;split at h
 ·rename_i y I;split at h
  ·rename_i l;obtain⟨m,z⟩:=l;simp only[kR]at h;obtain⟨e,f,rfl⟩:=h;refine⟨fun _ _ K Q J=> ?_,fun L=>absurd (cP _) L⟩;obtain⟨w',cells,N,A,O,S,U⟩:=amI t s u ho v I m z f (cP _);have q:∀p,MM c.M0 bm (aW tm g (.slice (some ⟨w.heap.size,0,none⟩) len len)) (aW (jA σ none) (3*g+2) (.live ⟨(tb.tab y).length,none⟩)) p->MM c.M0 bm tm σ p:=fun p r=>by
    rcases AF s i r with h|⟨b2,B,C,G,H,q1,q2,q3,q4⟩
    ·exact CN h
    ·simp only[fA]at q1;obtain⟨_,rfl,rfl⟩:=q1;omega
   unfold Oper.wp;rw[N];refine J bm (aW tm g (.slice (some ⟨w.heap.size,0,none⟩) len len)) _ _ ?_;rw[Cq (by intro p r d;simp at r;subst r;simp;omega)];refine LW ((s.append i none (by simp) _ none (zo A s.hB) (bR.below A fun p _ h=>q p h) (fun k V _=>A.block k V) (fun b W=>by cases W) ?_ (fun X B C G H f _=>.inl (by simp at f;omega))).nT hd (eX (cP _) ⟨U _ q,?_⟩) fun x Y=> ?_)
   ·refine⟨fun X B C G H f Z=> ?_,(fun e l f=>by cases f),(fun e l m f=>by cases f)⟩;rw[cH]at f;simp only[fA,aS,kB]at f;obtain⟨⟨rfl,rfl,rfl⟩,rfl,rfl⟩:=f;exact⟨rfl,s.hB,cells,y,O,by show 0+len*(tb.tab y).length<=_;omega⟩
   ·rw[cH]
   ·exact .inr Y
  ·simp at h
 ·simp at h
def aDU{z:Array Value}{m i j:Nat}(h:z.size=n)(d:i<m)(b:j<n):(madeCells z (m*n))[i*n+j]? =z[j]? :=by
 have e:i*n+j<m*n:=by have:(i+1)*n<=m*n:=mr _ d;rw[iG,oo]at this;omega
 simp only[madeCells,Array.getElem?_map,Array.getElem?_range,e, ↓reduceIte,j0];rw[h,Nat.mul_comm i n,Nat.mul_add_mod,Nat.mod_eq_of_lt b];simp[h,b]
def afv:∀{s:List CT} {vs:List Value},sR s vs=true->vs.length=s.length
 |[],[],_=>rfl
 |t::s,v::vs,h=>by simp only[sR,aY]at h;simp[afv h.2]
 |[],_::_,h=>by simp[sR]at h
 |_::_,[],h=>by simp[sR]at h
def afu:∀{s:List CT} {vs:List Value},sR s vs=true->∀{j:Nat},j<s.length->∃t u,s[j]? =some t/\vs[j]? =some u/\zeroV t u=true
 |[],_,_,j,b=>by simp at b
 |t::s,v::vs,h,j,b=>by
  simp only[sR,aY]at h;cases j with
  |zero=>exact⟨t,v,rfl,rfl,h.1⟩
  |succ j=>simpa using afu h.2 (j:=j) (by simpa using b)
 |_::_,[],h,_,_=>by simp[sR]at h
def ahq:∀{s:List CT} {m:List Nat},Jf tb s=some m->∀(j:Nat) (t:CT),s[j]? =some t->(m.getD j 0=0->yK t=true)/\(m.getD j 0≠0->∃e,t=.sl e)
 |[],m,h,j,t,d=>by simp at d
 |t::s,m,h,j,i,d=>by
  simp only[Jf]at h;split at h
  ·simp at h
  ·rename_i k g;cases j with
   |zero=>
    simp at d;subst d;split at h
    ·rename_i e;cases b:(BP (tb.tab e)&&Nat.blt 0 (tb.tab e).length)with
     |false=>rw[b]at h;simp at h
     |true=> rw[b]at h;simp only[gD,aS]at h;subst h;simp only[aY]at b;have:=gR b.2;refine⟨fun f=> ?_,fun _=>⟨e,rfl⟩⟩;simp at f;rw[f]at this;simp at this
    ·simp at h
    ·simp at h
    ·rename_i l n o;simp only[aS]at h;subst h;refine⟨fun _=> ?_,fun f=>absurd rfl f⟩;cases t<;>simp[yK]at * <;>simp_all
   |succ j=>
    have key:=ahq g j i (by simpa using d);split at h
    ·rename_i e;cases b:(BP (tb.tab e)&&Nat.blt 0 (tb.tab e).length)with
     |false=>rw[b]at h;simp at h
     |true=>rw[b]at h;simp only[gD,aS]at h;subst h;simpa using key
    ·simp at h
    ·simp at h
    ·simp only[aS]at h;subst h;simpa using key
def aGp(aE:cY P tb tb=true)(hs:aL c F σ bm tm a w)(ax:bV tb.tab Γ c.env){g n:Nat}(yA:∀x,jf g x->¬F x){o:Oper}{T T1 T2:Nat}{l cc:Operand}(ho:o.op=.makeSlice T l cc)(hd:∀d,o.dst=some d->d<c.nt){ti:TI}(aK:tb.get T=some ti){aR:bp}
  (h:Z2 tb Γ gs o.dst g ti (aZ tb σ T1 l) (aZ tb σ T2 cc)=some aR):nZ P c F σ bm tm a w g gs n o aR:=by
 unfold Z2 at h;split at h
 ·rename_i el k1 en k2 ec hv hl hc;split at h
  ·rename_i ei gT;split at h
   ·simp at h
   ·rename_i v1 hv1;split at h
    ·rename_i hcnd;simp only[aS]at h;subst h;obtain⟨rfl,hint,hby,hpos,hlm⟩:=hcnd;refine⟨fun _ hr K Q hK=> ?_,fun hn=>absurd (cP _) hn⟩;have hin:jH P c.env n (.cond [] (.an (.ic .leq (.li .i64 0) en) (.ic .leq en (.li .i64 4294967296)))):=hr _ (by simp);replace hin:=hin (cP _);have hki:en.inf tb.tab Γ=some (.one (.c (.int .i64))):=by obtain⟨k,hk⟩:=yI (show(isInt (en.inf tb.tab Γ)).isSome=true by rw[hint];rfl);rw[hk]at hint ⊢;simp[isInt]at hint;rw[hint]
     obtain⟨m,hm,hmv,_⟩:=nK ax hki ((dL hs hl).1 (cP _));obtain⟨m',hm',aA6,_⟩:=nK ax hki ((dL hs hc).1 (cP _));rw[hm]at hm';cases hm';simp only[E.den,hm,gQ,Az,bg,D.bool.injEq,aY,dr]at hin;obtain⟨i',d,hi',_,_,_,hdd,jM⟩:=fW aE aK hv;simp only[iF]at jM;subst jM;have htab:tb.tab el=v1.cells:=by simp[TB.tab,gT,TI.cells,hv1]
     obtain⟨j,z,hj,hjs,hjb,hz,hzl⟩:∃(j:TypeInfo) (z:Value),P.info? el=some j/\j.size=v1.cells.length/\j.bytes=ei.bytes/\j.zero=some z/\sR v1.cells z.cells.toList=true:=by
      cases v1 with
      |c t=> obtain⟨j,d',h1,h2,h3,⟨z,h4,h5⟩,h6,h7⟩:=fW aE gT hv1;refine⟨j,z,h1,h2,h3,h4,?_⟩;have hc1:=(A8 (w:=default) (M:=fun _=>False) (tab:=fun _=>[]) (aft _ t) (XR (c:=⟨default,0,none,fun _=>False,0,[]⟩) (w:=default) (tm:=fun _=>undef) (M:=fun _=>False) h5).1).1;rw[hc1];simp[V1.cells,sR,h5]
      |agg ts=> obtain⟨j,fields,cs,h1,h2,h3,h4,h5,_⟩:=pU aE gT hv1;exact⟨j,.agg cs,h1,h2,h3,h4,h5⟩
     have hrun:=run_make (P:=P) w T el j z hdd hj hz .i64 .i64 m m hin.1 (QM _) (by rw[hjb];have h1:(ei.bytes:Int)*m<=1024*m:=Int.mul_le_mul_of_nonneg_right (by omega) hin.1;omega) (by omega)
     have hrun':(execOp a.eval o).run P w=.ok (.value (.slice (some ⟨w.heap.size,0,none⟩) m.toNat m.toNat)) (w.alloc (.cells (madeCells z.cells (m.toNat*j.size)) el)):=by simp[execOp,ho,hmv,aA6,hrun]
     have hb:Below w.heap.size w (w.alloc (.cells (madeCells z.cells (m.toNat*j.size)) el)):=(dP _ _).alloc (bK _) _;have ko:m.toNat<=maxLen:=by unfold maxLen;omega
     have akk:z.cells.toList.length=v1.cells.length:=afv hzl
     let tm':Nat->Value:=aW (aW tm g (.slice (some ⟨w.heap.size,0,none⟩) m.toNat m.toNat)) (g+1) (.tuple (madeCells z.cells (m.toNat*j.size)))
     have Gs:tm' g=.slice (some ⟨w.heap.size,0,none⟩) m.toNat m.toNat:=by show aW _ _ _ g=_;rw[gb _ _ (by omega),cH]
     have abA:tm' (g+1)=.tuple (madeCells z.cells (m.toNat*j.size)):=cH _ _ _;have hto:∀x,¬jf g x->tm' x=tm x:=fun x hx=>by show aW _ _ _ x=_;rw[gb _ _ fun e=>hx (by subst e;unfold jf qu;omega),gb _ _ fun e=>hx (by subst e;exact AJ _)]
     have hcell:∀i r,(List.replicate m.toNat (v1.cells.map eF))[i]? =some r->∀j' d',r[j']? =some d'->j'<v1.cells.length/\i<m.toNat/\∃t u,v1.cells[j']? =some t/\z.cells[j']? =some u/\zeroV t u=true/\d'=eF t/\(madeCells z.cells (m.toNat*j.size))[i*v1.cells.length+j']? =some u:=by
      intro i r hi j' d' hj';have hlt:=(db.1 hi).1;simp only[QP]at hlt;rw[List.getElem?_replicate_of_lt hlt]at hi;simp only[aS]at hi;subst hi;have hjn:=(db.1 hj').1;simp only[dq]at hjn;obtain⟨t,u,h1,h2,h3⟩:=afu hzl hjn;refine⟨hjn,hlt,t,u,h1,by simpa using h2,h3,?_,?_⟩
      ·simp[h1]at hj';exact hj'.symm
      ·rw[hjs,aDU (by rw[<-uW,akk]) hlt hjn];simpa using h2
     have TV:∀u∈(madeCells z.cells (m.toNat*j.size)).toList,∀b,¬dS u b:=by
      intro u hu b hb;simp only[madeCells,QI,fN]at hu;obtain⟨q,hq,rfl⟩:=hu;obtain⟨o1,s1,l1,c1,h1,h2⟩:=hb;by_cases hz0:z.cells.size=0
      ·have:z.cells[q%z.cells.size]! =default:=by rw[getElem!_neg];omega
       rw[this]at h1;cases h1
      ·have hlt:q%z.cells.size<z.cells.size:=Nat.mod_lt _ (by omega);obtain⟨t,u,h3,h4,h5⟩:=afu hzl (show q%z.cells.size<v1.cells.length by rw[<-akk];simpa using hlt);have:z.cells[q%z.cells.size]! =u:=by
        have h4':z.cells[q%z.cells.size]? =some u:=by simpa using h4
        rw[getElem!_def,h4']
       rw[this]at h1;subst h1;cases t<;>simp[zeroV]at h5
     have TX:∀ms,Jf tb v1.cells=some ms->∀(j':Nat) (t:CT),v1.cells[j']? =some t->(ms.getD j' 0=0->yK t=true)/\(ms.getD j' 0≠0->∃e,t=.sl e):=fun ms hms=>ahq hms;unfold Oper.wp;rw[hrun'];refine hK bm tm' _ _ ?_;rw[Cq (by intro p hp d;simp at hp;subst hp;simp;omega)];refine aL.nT (hs.alo yA hto hb (fun b hbk=> ?_) ⟨?_,fun e dp he=> ?_,fun e gv ms he=> ?_⟩ fun x hx=> ?_) hd (eX (cP _) ⟨?_,Gs.symm⟩) fun x hx=> ?_
     ·rcases hbk with⟨o1,s1,l1,c1,h1,h2⟩|⟨e,gv,ms,cells,u,h1,h2,h3,h4⟩
      ·rw[Gs]at h1;simp only[fA,aS,kB]at h1;omega
      ·simp only[aS,gq]at h1;obtain⟨_,h1⟩:=h1;split at h1
       ·cases h1
       ·simp only[kR,gq]at h1;obtain⟨_,_,rfl,_⟩:=h1;rw[abA]at h2;cases h2;exact absurd h4 (TV u h3 b)
     ·intro b' o2 s2 l2 c2 he hlt;rw[Gs]at he;simp only[fA,aS,kB]at he;obtain⟨⟨rfl,rfl,rfl⟩,rfl,rfl⟩:=he;refine⟨rfl,hs.hB,_,el,vB _ _,?_⟩;rw[size_madeCells,hjs,htab];show 0+m.toNat*v1.cells.length<=_;omega
     ·simp only[aS,gq]at he;obtain⟨rfl,rfl⟩:=he;refine⟨some ⟨w.heap.size,0,none⟩,m.toNat,m.toNat,List.replicate m.toNat (v1.cells.map eF),Gs,by simp[E.den,hm,htab],by simp,bK _,ko,(fun h=>by cases h),fun r hr=> ?_,fun b' o2 s2 he=>⟨(fun _=>by cases he;rfl),fun i r hi j' d' hj'=> ?_⟩⟩
      ·rw[List.eq_of_mem_replicate hr,htab];simp
      ·cases he;obtain⟨hjn,hlt,t,u,h1,h2,h3,h4,h5⟩:=hcell i r hi j' d' hj';refine⟨u,?_,?_⟩
       ·rw[RQ,htab,nC];exact h5
       ·have N9:=(XR (c:=⟨default,0,none,fun _=>False,0,[]⟩) (w:=default) (tm:=fun _=>undef) (M:=fun _=>False) h3).1;have hlf:yK t=true->wO d' u:=fun hl=>by rw[h4];exact UM (tab:=fun _=>[]) (aft _ t) hl N9
        rw[htab];split
        ·rename_i TU;refine hlf ?_;simp only[BP,fM]at TU;exact TU t (jx h1)
        ·rename_i TU;obtain⟨ms,hms⟩:=Md.1 ((htab▸hlm).resolve_left TU);rw[hms];refine⟨fun h0=>hlf ((TX ms hms j' t h1).1 h0),fun hne=> ?_⟩;obtain⟨e2,rfl⟩:=(TX ms hms j' t h1).2 hne;have hu:u=.slice none 0 0:=by simp only[zeroV]at h3;split at h3;all_goals first|rfl|simp_all
         subst hu;refine⟨⟨_,abA,h5⟩,(fun b o s len cap h=>by cases h),none,0,0,[],rfl,by rw[h4];rfl,rfl,bK _,fO _,(fun _=>rfl),(fun r hr=>by simp at hr),(fun b o s h=>by cases h)⟩
     ·simp only[aS,gq]at he;obtain⟨_,h1⟩:=he;split at h1
      ·cases h1
      ·simp only[kR,gq]at h1;obtain⟨_,_,rfl,_⟩:=h1;refine⟨_,abA,fun u hu=>⟨0,fun b o s len cap h h'=>absurd ⟨o,s,len,cap,h,h'⟩ (TV u hu b)⟩,fun k k' u u' b hk _ _ hb1=>absurd hb1 (TV u (by rw[<-sX]at hk;exact jx hk) b),fun u hu b hb1=>absurd hb1 (TV u hu b)⟩
     ·obtain⟨e,ms,hx⟩:=hx;simp only[aS,gq]at hx;obtain⟨_,h1⟩:=hx;split at h1
      ·cases h1
      ·simp only[kR,gq]at h1;obtain⟨_,_,rfl,_⟩:=h1;unfold jf qu;omega
     ·exact⟨some ⟨w.heap.size,0,none⟩,m.toNat,by simp[hm],by simp[hm],ko,(fun h=>by cases h),fun b o s h _=>by cases h;rfl⟩
     ·exact .inr (by obtain rfl:x=g:=hx;exact AJ _)
    ·simp at h
  ·simp at h
 ·simp at h
def aFW(N:cY P tb tb=true)(hs:aL c F σ bm tm a w)(ax:bV tb.tab Γ c.env){g q:Nat}(yA:∀x,jf g x->¬F x){o:Oper}{x y:Operand}{T U:Nat}{cl:Call}(ho:o.op=.call cl)(hcl:cl.callee=.builtin .append)(har:cl.args.toList=[x,y])(hat:cl.argTypes.toList=[T,U])
  (hd:∀d,o.dst=some d->d<c.nt) {ti ui:TI} (aK:tb.get T=some ti) (DF:tb.get U=some ui) {h gv n:Nat} {i:E} {off:Nat} {l:E} (hy:aZ tb σ U y=some (.iv [] h gv n i off l)) {aR:bp}
  (H:SR tb Γ o.dst σ g ti ui (aZ tb σ T x) h gv n i off l=some aR):nZ P c F σ bm tm a w g [] q o aR:=by
 have O:cl.args=#[x,y]:=by rw[<-iT,har]
 have S:cl.argTypes=#[T,U]:=by rw[<-iT,hat]
 unfold SR at H;split at H
 ·rename_i Z qh hv hv';split at H
  ·rename_i ex ei n' e jk ms hx gT hlv;split at H
   ·rename_i v1 e0 hv1 oI;split at H
    ·rename_i hc;simp only[aS]at H;subst H;obtain⟨ajg,hby,aAj,DD,rfl,hn,rfl,hel,hms⟩:=hc;obtain⟨j,hj,hjs,hjb⟩:=tL N gT hv1;have Nz:ei.cells=v1.cells:=by simp[TI.cells,hv1]
     have V:tb.tab Z=v1.cells:=by simp[TB.tab,gT,Nz]
     rw[Nz]at DD;obtain⟨z0,hz0,hz1⟩:∃z,j.zero=some z/\z.cells.size=v1.cells.length:=by
      cases v1 with
      |c t=> obtain⟨i',d',C,_,_,⟨z,hz,hzv⟩,_⟩:=fW N gT hv1;rw[hj]at C;simp at C;subst C;refine⟨z,hz,?_⟩;cases t<;>cases z<;>simp[zeroV]at hzv<;>rfl
      |agg ts=> obtain⟨i',f',cs',C,_,_,hz,hzv,_⟩:=pU N gT hv1;rw[hj]at C;simp at C;subst C;refine⟨_,hz,?_⟩;have:=afv hzv;simpa[Value.cells,V1.cells]using this
     obtain⟨_,d1,_,_,_,_,hd1,eO⟩:=fW N aK hv;simp only[iF]at eO;subst eO;obtain⟨_,d2,_,_,_,_,lY,yz⟩:=fW N DF hv';simp only[iF]at yz;subst yz;obtain⟨_,ad,W⟩:=(dL hs hx).1 (cP _);obtain⟨h4,h5⟩:=nS hs hy;obtain⟨⟨aT,L,aK0,hT,hi0,hiL⟩,⟨aK1,hc1,hc2⟩,adI,aKZ,I,aLg,aLy,_⟩:=h4.1 (cP _);have Ua:off<n:=by rw[<-hn];exact(db.1 hel).1
     have hm0:ms.getD off 0≠0:=by rw[hms,V];omega
     obtain⟨b0,o0,r0,d0,_,y1,y2,y3,y4,y5,y6⟩:=abR hs hlv hT hiL Ua rfl hm0 hc1 hc2;rw[hms]at y5 y6;obtain⟨QE,f,Zw,A,m,hd0,lK,hm2,JW,kx,J,X⟩:=y6;have hll:(l.den c.env).ck.toNat=f:=by rw[m]at I;simp only[fA]at I;exact I.2.1.symm
     have fR:(E.cell (.row (tb.tab e0) e i) off).den c.env=.sl A:=by simp[E.den,y1,y3,hd0]
     refine⟨fun _ hr K Q hK=> ?_,fun hn=>absurd (cP _) hn⟩;have hin:jH P c.env q (.cond [] (.ic .leq l (.li .i64 4294967296))):=hr _ (by simp);replace hin:=hin (cP _);have JR:(l.den c.env).ck<=4294967296:=RR (D.bool.inj hin);have xp:f<=4294967296:=by omega
     rw[V]at J X;generalize hsz:v1.cells.length=sz at *;have Tx:Iu w (fun _=>False) A QE f Zw:=⟨lK,hm2,JW,kx,fun b o s ha=>⟨(X b o s ha).1,AO (n:=sz) J fun i2 r2 G=>CR fun j2 d2 hj2=>by obtain⟨u2,nQ,iX⟩:=(X b o s ha).2 i2 r2 G j2 d2 hj2;exact⟨u2,nQ,id,iX _ _⟩⟩⟩
     obtain⟨vy,Y,Us,v⟩:=Tm (P:=P) Tx J;have hlt2:(tb.tab Z).length=sz:=by rw[V,hsz]
     have fin:∀(v':Value) (w':World),(execOp a.eval o).run P w=.ok (.value v') w'->Below w.heap.size w w'->(∀b,dS v' b->w.heap.size<=b)->uU c.B w' v' sz->tX w' v' sz (fun _ _ d u=>wO d u) (.sl A)->(∃a cap,v'=.slice a f cap/\f<=cap/\cap<=maxLen/\(a=none->cap=0)/\∀b o s,a=some ⟨b,o,s⟩->0<f->s=none)->o.wp P a w K Q:=by
      intro v' w' B hb zQ hsp hrows hmem;unfold Oper.wp;rw[B];refine hK bm (aW tm g v') _ _ ?_;rw[Cq (by intro p hp d;simp at hp;subst hp;simp;omega)];refine aL.nT (hs.alo (tm':=aW tm g v') yA (fun x hx=>gb _ _ fun e'=>hx (by subst e';exact AJ _)) hb (fun b hbk=> ?_) ⟨?_,fun e1 ZK nP=> ?_,fun e1 Nd ms1 nP=> ?_⟩ fun x hx=> ?_) hd (eX (cP _) ⟨?_,(cH _ _ _).symm⟩) fun x hx=> ?_
      ·rcases hbk with hb1|⟨e1,Nd,ms1,FH,u,w1,_⟩
       ·rw[cH]at hb1;exact zQ b hb1
       ·simp at w1
      ·rw[cH,hlt2];exact hsp
      ·simp only[aS,gq]at nP;obtain⟨rfl,rfl⟩:=nP;rw[cH,fR,hlt2];exact hrows
      ·simp at nP
      ·obtain⟨e1,ms1,hx⟩:=hx;simp at hx
      ·obtain⟨a1,ax4,w1,w2⟩:=hmem;exact⟨a1,ax4,by rw[w1,hll],by rw[hll];exact w2⟩
      ·exact .inr (by obtain rfl:x=g:=hx;exact AJ _)
     rcases ue f with h0|h0
     ·subst h0;have NY:vy=[]:=mM (by simpa using Y);subst NY;have BF:A=[]:=mM lK.symm;subst BF;have B:(execOp a.eval o).run P w=.ok (.value (.slice ad 0 0)) w:=by
       rcases ad with _|ad
       ·simp[execOp,ho,resolve,hcl,invoke,builtin,Builtin.append_,O,S,W,m,run_underlying hd1,run_underlying lY,run_sizeOf hj,hjs,Builtin.lenOf,v w rfl]
       ·simp[execOp,ho,resolve,hcl,invoke,builtin,Builtin.append_,O,S,W,m,run_underlying hd1,run_underlying lY,run_sizeOf hj,hjs,Builtin.lenOf,v w rfl,storeCells]
      refine fin _ w B (dP _ _) (fun b hb=> ?_) (fun b o s len cap H hl=> ?_) ⟨ad,0,0,[],rfl,rfl,rfl,bK _,fO _,fun _=>rfl,fun r hr=>by simp at hr,fun b o s ha=>⟨fun h=>by omega,fun i2 r2 G=>by simp at G⟩⟩ ⟨ad,0,rfl,bK _,fO _,fun _=>rfl,fun b o s _ h=>by omega⟩
      ·obtain⟨o1,s1,l1,c1,z1,z2⟩:=hb;simp only[fA]at z1;omega
      ·simp only[fA]at H;omega
     ·have hone:¬(0+f<=0):=by omega
      have hq:¬(Builtin.nextslicecap (0+f) 0*j.bytes>2^48):=by have h1:=alp (show 0<0+f by omega) (show 0+f<=4294967296 by omega);have h2:Builtin.nextslicecap (0+f) 0*j.bytes<=(16*(4294967296+768))*1024:=YF h1 (by omega);omega
      have aaN:¬(j.bytes=0):=by omega
      have aay:Iu w (fun _=>False) [] ad 0 0:=⟨rfl,bK _,fO _,fun _=>rfl,fun b o s _=>⟨fun h=>by omega,trivial⟩⟩;obtain⟨vx,abG,_,abH⟩:=Tm (P:=P) (n:=sz) aay (fun r hr=>by simp at hr);have aBQ:vx=[]:=mM (by simpa using abG);subst aBQ;obtain⟨cells,nc,B,hn1,hn2,JX,k0⟩:∃(cells:Array Value) (nc:Nat),(execOp a.eval o).run P w=.ok (.value (.slice (some ⟨w.heap.size,0,none⟩) f nc)) (w.drew.alloc (.cells cells Z))/\f<=nc/\nc<=maxLen/\cells.size=nc*sz/\∀(i:Nat) (u:Value),vy[i]? =some u->cells[i]? =some u:=by
       refine⟨vy.toArray++Builtin.zeroCells z0.cells ((f+w.tape w.drawn (.appendCap f 0 Z)%(2^63-f))-f),f+w.tape w.drawn (.appendCap f 0 Z)%(2^63-f),?_,by omega,?_,?_,?_⟩
       ·have aAq:(w.drew).heap.size=w.heap.size:=rfl;have hle0:¬f=0:=by omega
        have hq':=Nat.not_lt.2 (Nat.not_lt.1 hq);rw[nC]at hq';simp[execOp,ho,resolve,hcl,invoke,builtin,Builtin.append_,O,S,W,m,run_underlying hd1,run_underlying lY,run_sizeOf hj,run_typeInfo hj,hjs,Builtin.lenOf,hle0,aaN,hq',Question.forced,Question.cut,zeroValue,hz0,newRow,abH w.drew rfl,v w.drew rfl]
       ·have:=Nat.mod_lt (w.tape w.drawn (.appendCap f 0 Z)) (show 0<2^63-f by omega);unfold maxLen;omega
       ·simp[Builtin.zeroCells,Y,hz1];rw[<-iG]
       ·intro i u hu;have hi:i<vy.length:=(db.1 hu).1;rw[QH (by simpa using hi)];simpa using hu
      have hb:Below w.heap.size w (w.drew.alloc (.cells cells Z)):=((dP _ _).drew).alloc (bK _) _;have JM:∀i,(w.drew.alloc (.cells cells Z)).cell? ⟨w.heap.size,i,none⟩=cells[i]? :=fun i=>RQ (w:=w.drew) cells Z i;refine fin _ _ B hb (fun b hb=> ?_) (fun b o2 s2 l2 c2 he2 aLv=> ?_) ⟨_,_,_,A,rfl,rfl,lK,hn1,hn2,(fun h=>by cases h),J,fun b2 o2 s2 ha=>⟨(fun _=>by cases ha;rfl),fun i2 r2 G j2 d2 hj2=> ?_⟩⟩ ⟨_,nc,rfl,hn1,hn2,(fun h=>by cases h),fun b o s h _=>by cases h;rfl⟩
      ·obtain⟨o1,s1,l1,c1,z1,z2⟩:=hb;simp only[fA,aS,kB]at z1;omega
      ·simp only[fA,aS,kB]at he2;obtain⟨⟨rfl,rfl,rfl⟩,rfl,rfl⟩:=he2;exact⟨rfl,hs.hB,cells,Z,vB w.drew _,by rw[JX];omega⟩
      ·cases ha;rcases QE with _|⟨by',oy,sy⟩
       ·have:=kx rfl;omega
       have hsy:=(X by' oy sy rfl).1 h0;subst hsy;obtain⟨u2,nQ,iX⟩:=(X by' oy none rfl).2 i2 r2 G j2 d2 hj2;refine⟨u2,?_,iX⟩;rw[JM,nC];refine k0 _ _ ?_;have aBv:=v w rfl;have hvv:∀k u,vy[k]? =some u->w.cell? ⟨by',oy+k,none⟩=some u:=azp Tx J aBv h0;have aLE:r2.length=sz:=J r2 (jx G);have aLp:=(db.1 hj2).1;have aLm:=(db.1 G).1;have hlt:i2*sz+j2<vy.length:=by rw[Y];have:(i2+1)*sz<=f*sz:=mr _ (by omega);rw[iG,oo]at this;omega
       have hg:=hvv _ _ (bX hlt);rw[<-wV,nQ]at hg;rw[bX hlt];exact hg.symm
    ·simp at H
   ·simp at H
  ·simp at H
 ·simp at H
def aFV(b:cY P tb tb=true)(s:aL c F σ bm tm a w)(e:bV tb.tab Γ c.env){g n:Nat}(N:∀x,jf g x->¬F x){o:Oper}{x y:Operand}{T U:Nat}{cl:Call}(ho:o.op=.call cl)(l:cl.callee=.builtin .append)(r:cl.args.toList=[x,y])(t:cl.argTypes.toList=[T,U])
  (hd:∀d,o.dst=some d->d<c.nt) {ti j:TI} (i:tb.get T=some ti) (u:tb.get U=some j) {f:bp}
  (h:Jm tb Γ gs o.dst σ g ti j (aZ tb σ T x) (aZ tb σ U y)=some f):nZ P c F σ bm tm a w g gs n o f:=by
 unfold Jm at h;split at h
 ·rename_i k;exact aFW b s e N ho l r t hd i u k h
 ·exact aFX b s e (N g (AJ g)) ho l r t hd i u h
def aF9(aE:cY P tb tb=true)(hs:aL c F σ bm tm a w)(ax:bV tb.tab Γ c.env){g q:Nat}(mD:¬F g){o:Oper}{x y:Operand}{T:Nat}(ho:o.op=.slice T x (some y) none none)(hd:∀d,o.dst=some d->d<c.nt){ti:TI}(aK:tb.get T=some ti){h:Nat}{ex:E}(hx:aZ tb σ T x=some (.v [] (.own h) ex)){aR:bp}
  (f:SZ tb Γ o.dst σ g ti h ex (aZ tb σ 0 y)=some aR):nZ P c F σ bm tm a w g [] q o aR:=by
 unfold SZ at f;split at f
 ·rename_i Z j Jy n C t r;split at f
  ·rename_i p;simp only[aS]at f;subst f;obtain⟨j,l,m,rfl⟩:=p;refine⟨fun _ hr K Q hK=> ?_,fun U=>absurd (cP _) U⟩;have L:jH P c.env q (.cond [] (.inc ex Jy (.len ex))):=hr _ (by simp);replace L:=L (cP _);obtain⟨kk,u⟩:=yI l;obtain⟨l,hl,p,_⟩:=nK ax u ((dL hs t).1 (cP _));obtain⟨u,t⟩:=(nS hs hx).1.1 (cP _);have B:cy w (MM c.M0 bm tm σ) tm c.env (.own h) ex (a.eval x):=⟨u,t⟩;obtain⟨_,u,_,_,_,_,S,V⟩:=fW aE aK C;simp only[iF]at V;subst V;obtain⟨G,H,fV,J,len,cap,W,z,A,I,V,u⟩:=FV ax (by rw[j,C]) B;simp only[E.den,hl,H,cK,gQ,D.bool.injEq,dr]at L;obtain⟨B,X,_⟩:=L;rw[<-z]at X;rw[C]at m;simp only[VF]at m;split at m
   ·rename_i j C;split at m
    ·rename_i v1 I;obtain⟨j,Y,L,_⟩:=tL aE C I;have z:tb.tab Z=v1.cells:=by simp[TB.tab,C,TI.cells,I]
     let N:Value:=.slice (if cap=l.toNat then J else J.map (·.add (l.toNat*v1.cells.length))) (len-l.toNat) (cap-l.toNat)
     have hrun:(execOp a.eval o).run P w=.ok (.value N) w:=by have j:((some y).map a.eval=none/\l=0)\/∃k,(some y).map a.eval=some (.int k l):=.inr ⟨kk,by simp[p]⟩;have p:((none:Option Operand).map a.eval=none/\(len:Int)=len)\/∃k,(none:Option Operand).map a.eval=some (.int k (len:Int)):=.inl ⟨rfl,rfl⟩;have O:=fun isS=>Y9 (P:=P) (w:=w) (isS:=isS) j p B X (QM _) A;simp only[j0,YI]at O;simp[execOp,ho,W,Instr.sliceAt,Instr.slice,run_underlying S,O,run_sizeOf Y,L,N]
     have I:=hs.live h _ r;have A:tm h=.slice J len cap:=by rw[<-t,W]
     have j:l.toNat<=cap:=by omega
     have j:∀b C L W S,N=.slice (some ⟨b,C,L⟩) W S->0<S->∃t,J=some ⟨b,t,none⟩/\C=t+l.toNat*v1.cells.length/\L=none/\W=len-l.toNat/\S=cap-l.toNat/\0<cap:=by
      intro b C L W S B X;simp only[N,fA]at B;obtain⟨p,rfl,rfl⟩:=B;rw[aw (by omega)]at p;rcases J with _|⟨b',t,s'⟩
      ·cases p
      ·have B:=(I.sp b' t s' len cap A (by omega)).1;subst B;simp only[j0,addr_add,aS,kB]at p;obtain⟨rfl,rfl,rfl⟩:=p;exact⟨t,rfl,rfl,rfl,rfl,rfl,by omega⟩
     have p:l.toNat*v1.cells.length+(len-l.toNat)*v1.cells.length=len*v1.cells.length/\l.toNat*v1.cells.length+(cap-l.toNat)*v1.cells.length=cap*v1.cells.length:=by
      constructor
      ·rw[<-iG];congr 1;omega
      ·rw[<-iG];congr 1;omega
     have F6:∀p,MM c.M0 bm (aW tm g N) (aW (jA σ (some h)) (3*g+2) (.live ⟨(tb.tab Z).length,none⟩)) p->MM c.M0 bm tm σ p:=fun p Y=>by
      rcases AF hs mD Y with h1|⟨b2,C,L,W,S,q1,q2,q3,q4⟩
      ·exact CN h1
      ·have X:0<S:=by
        rcases ue S with e|e
        ·subst e;omega
        ·exact e
       obtain⟨t,rfl,rfl,rfl,rfl,rfl,B⟩:=j _ _ _ _ _ q1 X;refine .inr (.inr ⟨h,_,r,DU ⟨b2,t,none,len,cap,A,q2,?_,?_⟩⟩)
       ·show t+len*(tb.tab Z).length<=_;rw[z]at q3 ⊢;omega
       ·show _<t+cap*(tb.tab Z).length;rw[z]at q4 ⊢;omega
     unfold Oper.wp;rw[hrun];refine hK bm (aW tm g N) _ _ ?_;rw[Cq (by intro p Y d;simp at Y;rcases Y with rfl|rfl<;>simp<;>omega)];show aL c _ (di (aW (jA σ (some h)) (3*g+2) _) _) _ _ _ _;refine LW ((hs.append mD (some h) (fun h1 X=>by simp at X;subst X;exact r) N (match J with|some ⟨b,_,_⟩=>(if 0<cap then some b else none)|none=>none) (Fr.refl _ _ _) (fun p v Y U=>⟨Y,fun r=>U (F6 p r)⟩) (fun _ _ _=>rfl) (fun b O=> ?_) ⟨?_,(fun e X f=>by cases f),(fun e X ms f=>by cases f)⟩ (fun b' C L W S f hl=> ?_)).nT hd (eX (cP _) ⟨?_,?_⟩) fun x hx=> ?_)
     ·rcases J with _|⟨b',t,s'⟩
      ·cases O
      ·simp only at O;split at O
       ·rename_i B;simp only[aS]at O;subst O;exact⟨h,t,s',len,cap,rfl,A,B⟩
       ·cases O
     ·intro b C L W S f hl;rw[cH]at f;obtain⟨t,rfl,rfl,rfl,rfl,rfl,B⟩:=j _ _ _ _ _ f hl;obtain⟨_,L,C,O,S,W⟩:=I.sp b t none len cap A B;refine⟨rfl,L,C,O,S,?_⟩;have A:t+cap*(tb.tab Z).length<=C.size:=W;show t+l.toNat*v1.cells.length+(cap-l.toNat)*(tb.tab Z).length<=_;rw[z]at A ⊢;omega
     ·obtain⟨t,rfl,_,_,_,_,B⟩:=j _ _ _ _ _ f hl;right;simp[B]
     ·have j:bR w (MM c.M0 bm tm σ) w (MM c.M0 bm (aW tm g N) (aW (jA σ (some h)) (3*g+2) (.live ⟨(tb.tab Z).length,none⟩))):=fun p v Y U=>⟨Y,fun r=>U (F6 p r)⟩;have A:R w (MM c.M0 bm tm σ) ((E.cut ex Jy (.len ex)).den c.env) N:=by
       simp only[E.den,H,hl,gQ,cK,rV,R];refine⟨_,_,_,rfl,by simp;omega,by omega,by omega,fun U=> ?_,fun b t s f=> ?_⟩
       ·rcases J with _|J
        ·have:=V rfl;omega
        ·split at U
         ·omega
         ·simp at U
       ·by_cases p:len-l.toNat=0
        ·refine⟨fun h=>by omega,?_⟩;have:((G.drop l.toNat).take ((G.length:Int).toNat-l.toNat))=[]:=by apply mM;simp;omega
         rw[this];trivial
        ·have p:¬cap=l.toNat:=by omega
         rw[aw p]at f;rcases J with _|⟨b1,t,p⟩
         ·cases f
         ·have l:=(u b1 t p rfl).1 (by omega);subst l;simp only[j0,addr_add,aS,kB]at f;obtain⟨rfl,rfl,rfl⟩:=f;refine⟨fun _=>rfl,?_⟩;have l:∀r∈G,r.length=v1.cells.length:=fun r hr=>by rw[fV.len r hr,z]
          refine AO (n:=v1.cells.length) (fun r hr=>l r (QS (QT hr))) fun i r p=> ?_;simp only[qe,x9]at p;split at p
          ·have:=(u b1 t none rfl).2.get l p;rw[iG]at this
           rwa[wV]
          ·cases p
      exact R.keep j _ _ A
     ·rw[cH]
     ·exact .inr hx
    ·simp at m
   ·simp at m
  ·simp at f
 ·simp at f
def sSl(b:cY P tb tb=true)(s:aL c F σ bm tm a w)(f:bV tb.tab Γ c.env){g n:Nat}(k:¬F g){o:Oper}{x:Operand}{lo m:Option Operand}{T:Nat}(ho:o.op=.slice T x lo m none)(hd:∀d,o.dst=some d->d<c.nt){ti:TI}(t:tb.get T=some ti){j:bp}
  (h:Jv tb Γ gs o.dst σ g ti (aZ tb σ T x) (lo.map (aZ tb σ 0)) (m.map (aZ tb σ 0))=some j):nZ P c F σ bm tm a w g gs n o j:=by
 unfold Jv at h;split at h
 ·rename_i u ex l q i p;split at h
  ·rename_i e r;simp only[aS]at h;subst h;cases lo with
   |none=>simp at i
   |some y=>
    cases m with
    |some z=>simp at p
    |none=> simp only[j0,aS]at i;subst i;exact aF9 b s f k ho hd t q r
  ·exact qd s hd (am0 b s f ho t h)
 ·exact qd s hd (am0 b s f ho t h)
end
section
variable {P:Program}{c:SC}{F:Nat->Prop}{σ:Nat->ST}{bm:Nat->Nat}{tm:Nat->Value}{a:Act}{w:World}{cx:Cx}{Γ:List VT}{gs:Gd}{ops:Array Oper}
def auf(s:aL c F σ bm tm a w)(i:bV cx.tb.tab Γ c.env){o:Oper}(h:zI cx.tb.tab Γ ops σ o=some gs):Region.wanted o (yielded ops a.tmps)=true↔cO c.env gs:=by
 unfold zI at h;unfold Region.wanted;split at h
 ·rename_i l;simp only[aS]at h;subst h;simp[l,cP]
 ·rename_i j b l;rw[l];simp only;split at h
  ·rename_i d p;split at h
   ·rename_i t k e m;cases n:gU .bool (e.inf cx.tb.tab Γ)<;>rw[n]at h<;>simp at h;subst h;have r:=s.tmps d;rw[m]at r;rw[aan];unfold yielded;rw[p];simp only[Option.bind_some];by_cases g:cO c.env t
    ·obtain⟨x,u,f⟩:=Dn i (vX n) (r.1 g);have v:a.tmps[d]? =some (.bool x):=by
      simp only[sW]at f;cases q:a.tmps[d]? with
      |none=>rw[q]at f;simp[undef]at f
      |some z=>rw[q]at f;simp at f;rw[f]
     rw[v,u];simp[g]
    ·have f:=r.2 g;simp only[sW]at f;have v:a.tmps[d]? =none\/a.tmps[d]? =some (.tuple #[]):=by
      cases q:a.tmps[d]? with
      |none=>exact .inl rfl
      |some z=>rw[q]at f;simp[undef]at f;exact .inr (by rw[f])
     rcases v with v|v<;>rw[v]<;>simp[g]
   ·simp at h
  ·simp at h
def acq(k:cY P cx.tb cx.tb=true)(B:c.nt=cx.nt)(s:aL c F σ bm tm a w)(j:bV cx.tb.tab Γ c.env){g:Nat}(N:∀x,jf g x->¬F x){o:Oper}{A:bp}(h:yP cx ops Γ g o σ=some A) :
  ∃gs,zI cx.tb.tab Γ ops σ o=some gs/\nZ P c F σ bm tm a w g gs Γ.length o A:=by
 have v:¬F g:=N g (AJ g);unfold yP at h;split at h
 ·simp at h
 ·rename_i gs C;refine⟨gs,C,?_⟩;cases n:Jl cx.nt o.dst with
  |false=>rw[n]at h;simp at h
  |true=>
   rw[n]at h;simp only[gD]at h;have m:∀d,o.dst=some d->d<c.nt:=fun d L=>by rw[L]at n;simp only[Jl]at n;rw[B];exact gR n
   split at h
   ·rename_i x e;exact qd s m (amZ s (.inl e) h)
   ·rename_i x e;exact qd s m (amZ s (.inr e) h)
   ·rename_i T x e;split at h
    ·rename_i q b;exact qd s m (sLd k s s.gi j e b h)
    ·simp at h
   ·rename_i T y x e;split at h
    ·rename_i q b;exact sSt k s j v e b h
    ·simp at h
   ·rename_i T x f e;split at h
    ·rename_i q b;exact qd s m (aGc k s e b h)
    ·simp at h
   ·rename_i T x i e;split at h
    ·rename_i q b;exact qd s m (aGi k s j e b h)
    ·simp at h
   ·rename_i T x i e;split at h
    ·rename_i q b;exact qd s m (aGw k s j e b h)
    ·simp at h
   ·rename_i T x e;exact aF0 k s j v e m h
   ·rename_i T e;split at h
    ·rename_i q b;exact aFU k s v e m b h
    ·simp at h
   ·rename_i T parts e;split at h
    ·rename_i q b;exact qd s m (aF1 k s j e b h)
    ·simp at h
   ·rename_i T l O e;split at h
    ·rename_i q b;exact aGp k s j N e m b h
    ·simp at h
   ·rename_i T len parts e;split at h
    ·rename_i q b;cases I:(Nat.blt 0 len&&gs.isEmpty)with
     |true=>rw[I]at h;exact aF2 k s j v e m b h
     |false=>rw[I]at h;exact qd s m (aF3 k s j e b h)
    ·simp at h
   ·rename_i T x Q V e;split at h
    ·rename_i q b;exact sSl k s j v e m b h
    ·simp at h
   ·rename_i S T x e;split at h
    ·rename_i W q G b;exact qd s m (aF8 k s j e G b h)
    ·simp at h
   ·rename_i x i e;exact qd s m (aGa s j e h)
   ·rename_i T x e;exact qd s m (aGu s j e h)
   ·rename_i T x e;exact qd s m (aGr s j e h)
   ·rename_i x y z e;exact qd s m (aGv s j e h)
   ·rename_i f first J e;exact aGq s j e m h
   ·rename_i x e;exact qd s m (aGt s e h)
   ·rename_i op T x y X e;exact qd s m (aFZ k s j e h)
   ·rename_i Y e;split at h
    ·rename_i f p;split at h
     ·rename_i q b;split at h
      ·exact aGs s j v e p m rfl h
      ·exact aF4 s j N e p m rfl h
     ·simp at h
    ·rename_i t p;split at h
     ·rename_i q b;exact aF7 s j e p m rfl h
     ·simp at h
    ·rename_i p;split at h
     ·rename_i x T r u;split at h
      ·rename_i q b;exact qd s m (sLen k s j e p r u b h)
      ·simp at h
     ·simp at h
    ·rename_i p;split at h
     ·rename_i x y T U r u;split at h
      ·rename_i q Z b H;exact aFV k s j N e p r u m b H h
      ·simp at h
     ·simp at h
    ·simp at h
   ·simp at h
def XP(j:cY P cx.tb cx.tb=true)(n:c.nt=cx.nt)(l:aL c F σ bm tm a w)(b:bV cx.tb.tab Γ c.env){g i:Nat}(hg:∀x,jf g x->¬F x){o:Oper}(t:ops[i]? =some o){f:bp}(h:yP cx ops Γ g o σ=some f)
  (u:∀r∈f.rq,jH P c.env Γ.length r) {Q:Exit->Act->World->Prop} {K:Act->World->Prop} (p:∀m tm' q w',aL c (fun x=>F x\/jf g x) (di σ f.wr) m tm' q w'->K q w'):wpOp P ops Q i K a w:=by
 obtain⟨gs,s,k⟩:=acq j n l b hg h;unfold wpOp;rw[t];simp only;by_cases d:cO c.env gs
 ·rw[aD ((auf l b s).2 d)];exact .inl (k.1 d u K Q p)
 ·rw[aw (fun e=>d ((auf l b s).1 e))];exact p _ _ _ _ (k.2 d)
def AK(P:Program)(env:List D):Nat->List bp->Prop
 |_,[]=>True
 |n,e::r=>(∀q∈e.rq,jH P env n q)/\AK P env (n+(lN e.rq).length) r
def bV.Tn{tab:Nat->List CT}{Γ d:List VT}{env:List D}(h:bV tab (Γ++d) env):bV tab Γ env:=fun i t b=>h i t (by rw[mN (db.1 b).1];exact b)
def G6{ops:Array Oper}:∀{l:List Oper} {b:SS} {es:List bp} {s:SS},oP cx ops l b=some (es,s)->∃f,s.Γ=b.Γ++f/\s.nt=b.nt+qu*l.length/\s.lv=b.lv
 |[],b,es,s,h=>by simp[oP]at h;obtain⟨_,rfl⟩:=h;exact⟨[],by simp⟩
 |o::r,b,es,s,h=>by
  simp only[oP]at h;split at h
  ·simp at h
  ·rename_i e m;split at h
   ·simp at h
   ·rename_i g n d;simp only[aS,gq]at h;obtain⟨rfl,rfl⟩:=h;obtain⟨f,i,j,k⟩:=G6 d;exact⟨lN e.rq++f,by rw[i];simp[SS.step],by rw[j];simp only[SS.step,dU,Nat.mul_add];omega,by rw[k];rfl⟩
def OL(s:SS)(e:bp):(s.step e).σ.get=di s.σ.get e.wr:=afY _ _
def below(n:Nat):Nat->Prop:=fun x=>x<n
def am2(g:cY P cx.tb cx.tb=true)(n:c.nt=cx.nt){Q:Exit->Act->World->Prop}:∀(l:List Oper) (k:Nat) (d:SS) (es:List bp) (s:SS),(∀j,l[j]? =ops[k+j]?)->oP cx ops l d=some (es,s)->bV cx.tb.tab s.Γ c.env->AK P c.env d.Γ.length es ->
  (∀m tm' p w',aL c (below s.nt) s.σ.get m tm' p w'->Q .normal p w')->∀bm tm a w,aL c (below d.nt) d.σ.get bm tm a w->wpOps P ops Q (List.range' k l.length) a w
 |[],k,d,es,s,q,h,b,t,u,bm,tm,a,w,v=>by simp[oP]at h;obtain⟨_,rfl⟩:=h;exact u _ _ _ _ v
 |o::r,k,d,es,s,q,h,b,t,u,bm,tm,a,w,v=>by
  simp only[oP]at h;split at h
  ·simp at h
  ·rename_i e A;split at h
   ·simp at h
   ·rename_i y B f;simp only[aS,gq]at h;obtain⟨rfl,rfl⟩:=h;obtain⟨G,C,H,_⟩:=G6 f;have i:bV cx.tb.tab d.Γ c.env:=by rw[C]at b;simp only[SS.step,iU]at b;exact b.Tn
    simp only[dU,L3];rw[wpOps_cons];refine XP g n v i (g:=d.nt) (fun x z=>by have:=z.1;simp only[below];omega) (by have:=q 0;simpa using this.symm) A t.1 fun m tm' p w' S=> ?_;refine am2 g n r (k+1) (d.step e) y B (fun j=>by have:=q (j+1);simpa[wV,C8 1 j]using this) f b (by have:=t.2;simpa[SS.step]using this) u m tm' p w' ?_
    rw[OL];exact S.mono fun x z=>by simp only[below,SS.step,jf]at *;omega
def aFl(x:cY P cx.tb cx.tb=true)(n:c.nt=cx.nt){Q:Exit->Act->World->Prop}{id:Nat}{b s:SS}{es:List bp}(h:oP cx ops ops.toList b=some (es,s))(d:bV cx.tb.tab s.Γ c.env)(r:AK P c.env b.Γ.length es)
  (f:∀m tm' e w',aL c (below s.nt) s.σ.get m tm' e w'->Q .normal e w') (g:aL c (below b.nt) b.σ.get bm tm a w):(Code.region id ops false).wp P Q a w:=by
 refine wp_region ?_;have:=am2 (ops:=ops) x n ops.toList 0 b es s (fun j=>by simp) h d r f bm tm a w g;rw[uW, <-QV]at this;exact this
end
end
end Go.Proofs.YtoomhbopolalnaaGreatDoor
