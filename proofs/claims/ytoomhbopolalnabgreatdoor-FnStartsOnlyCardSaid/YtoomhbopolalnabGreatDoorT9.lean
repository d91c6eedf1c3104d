/- A function's contract out of the condition that is left. No program in sight. -/
import Derived.Test.YtoomhbopolalnabGreatDoorT8
import Derived.Test.YtoomhbopolalnabGreatDoorT7
set_option linter.all false
namespace Go.Proofs.YtoomhbopolalnabGreatDoor
variable {a:Act}{M:Addr->Prop}{fn:Func}{f:FuncId}{ct:List (List CT)}{Γ:List VT}{F:Nat->Prop}{σ:Nat->ST}{tm:Nat->Value}{bx:Option (List CT)}{P:Program}{tb:TB}{w:World}
section
open Go.RowKit
variable [GC]
def Af:∀(Γ:List VT) (k j l:Nat),(nj k j Γ).get l=if l%3=0/\k<=l/3/\l/3<k+Γ.length then .v [] .d (.var (j+(l/3-k)))else .un
 |[],k,j,l=>by rw[aw (fun ⟨_,h1,h2⟩=>by simp only[oD]at h2;omega)];rfl
 |v::r,k,j,l=>by
  simp only[nj,Sg.get];cases e:Nat.beq (3*k) l with
  |true=> have:3*k=l:=gI e;subst this;rw[aC ⟨by omega,by omega,by simp only[dR];omega⟩];simp only[gD];rw[show 3*k/3-k=0 by omega];rfl
  |false=>
   have n:3*k≠l:=fun h=>by rw[h]at e;simp at e
   simp only[yh];rw[Af r (k+1) (j+1) l];by_cases h:l%3=0/\k+1<=l/3/\l/3<k+1+r.length
   ·rw[aC h,aC (by simp only[dR];omega),show j+1+(l/3-(k+1))=j+(l/3-k) by omega]
   ·rw[aw h,aw (by simp only[dR];omega)]
def aoq{env:List D}:∀(es:List E) (c:E) (l:List D),c.den env=.aU l->(Pv es c).den env=.aU (l++es.map (·.den env))
 |[],c,l,h=>by simpa[Pv]using h
 |e::r,c,l,h=>by simp only[Pv];rw[aoq r (.bp c e) (l++[e.den env]) (by simp[E.den,h])];simp
section
variable {P:Program}{tb:TB}{c0:SC}{env:List D}{s:SS}{a:Act}{w:World}
def Du{l:Nat}{cs:List (K×E)}:lU σ l=.box cs↔σ l=.box cs:=by unfold lU;cases σ l<;>simp
def FU{l:Nat}{m:LV}(h:lU σ l=.live m):∃c,σ l=.live c/\m=⟨c.n,none⟩:=by
 unfold lU at h;cases b:σ l with
 |live c=>rw[b]at h;simp at h;exact⟨c,rfl,h.symm⟩
 |_=>rw[b]at h;cases h
def aaU{c:SC}{e:Nat->Nat}{p:Addr}(h:MM c.M0 e tm (lU σ) p):MM c.M0 e tm σ p:=by
 rcases h with h|⟨id,f,b,d⟩|⟨g,m,b,d⟩
 ·exact .inl h
 ·exact .inr (.inl ⟨id,f,Du.1 b,d⟩)
 ·obtain⟨i,j,rfl⟩:=FU b;exact .inr (.inr ⟨g,i,j,DV (Kg d)⟩)
def aN.freeze{c:SC}{n:Nat->Nat}(d:aN c F σ n tm a w):aN c F (lU σ) n tm a w:=by
 have B:bQ w (MM c.M0 n tm σ) w (MM c.M0 n tm (lU σ)):=fun p v C G=>⟨C,fun h=>G (aaU h)⟩;refine⟨d.fr,d.hB,d.m0,fun t=> ?_,fun id i h=> ?_,fun g m h=> ?_,fun id o i q h H=>d.pJ id o i q (Du.1 h) (Du.1 H),fun id i g m b h r u=> ?_,fun g m I k b J r x y u z=> ?_,fun l g h=> ?_,fun id i h=>d.f2 id i (Du.1 h),fun g m h=> ?_,d.size,d.defers,d.x0⟩
 ·have:=d.tmps t;unfold lU;cases f:σ (3*t)<;>rw[f]at this<;>exact this.keep B (fun _ _=>⟨rfl,rfl⟩)
 ·exact(d.box id i (Du.1 h)).keep B rfl rfl fun _ _=>rfl
 ·obtain⟨k,j,rfl⟩:=FU h;exact⟨(d.live g k j).sp,(fun e O A=>by cases A),(fun e Q S A=>by cases A)⟩
 ·obtain⟨k,j,rfl⟩:=FU r;exact d.lK id i g k b (Du.1 h) j (.inl (x9 u))
 ·obtain⟨L,j,rfl⟩:=FU r;obtain⟨M,N,rfl⟩:=FU x;exact d.lT g L I M b J j N y (.inl (x9 u)) (.inl (x9 z))
 ·unfold lU at h;cases f:σ l with
  |live m=>rw[f]at h;obtain⟨_,_,h⟩:=h;cases h
  |_=>rw[f]at h;exact d.f1 l g (by rw[f];exact h)
 ·obtain⟨k,j,rfl⟩:=FU h;exact d.f3 g k j
def ai7{c:SC}{f:Nat->Nat}(b:aN c F σ f tm a w){g:Nat}{m:LV}(h:σ (3*g+2)=.live m){p:Addr}(hb:jy tm g m p.block)(d:¬He (tm g) m.n p):¬MM c.M0 f tm (lU σ) p:=by
 rintro (j|⟨id,k,q1,q2⟩|⟨i,u,q1,q2⟩)
 ·have v:=b.m0.1 _ j;have x:=((b.live g _ h).dz hb).2;omega
 ·exact b.lK id k g _ _ (Du.1 q1) h hb q2.symm
 ·obtain⟨l,q3,rfl⟩:=FU q1;by_cases e:i=g
  ·subst e;rw[h]at q3;simp only[ST.live.injEq]at q3;subst q3;exact d (Kg q2)
  ·obtain⟨o,n,q,r,z,t⟩:=Ks (Kg q2);exact b.lT i l g _ _ _ q3 h e (.inl ⟨o,n,q,r,z,t⟩) hb rfl
def ahl{c:SC}{V:Nat->Nat}(C:aN c F σ V tm a w){g:Nat}{b:E}(h:MD σ g=some b):R w (MM c.M0 V tm (lU σ)) (b.den c.env) (tm g):=by
 unfold MD at h;split at h
 ·rename_i n q W e;simp only[aS]at h;subst h;have X:=C.live g _ e;obtain⟨j,len,cap,Y,Z,l,m,p,r,t,f,k⟩:=X.bd q W rfl;rw[Z,l];refine⟨j,len,cap,rfl,m,p,r,t,fun q o s G=>⟨(k q o s G).1,AZ (n:=n) f fun i r H=>CV fun j d l=> ?_⟩⟩;obtain⟨u,m,I⟩:=(k q o s G).2 i r H j d l;have k:=(dh.1 H).1;have J:r.length=n:=f r (jB H);have f:j<n:=by rw[<-J];exact(dh.1 l).1
  have t:tm g=.slice (some ⟨q,o,s⟩) len cap:=by rw[Z,G]
  refine⟨u,m,ai7 C e (.inl ⟨o,s,len,cap,t,by omega⟩) fun f=> ?_,?_⟩
  ·obtain⟨b2,x,y,l,L,z,q,k,m⟩:=f;rw[t]at z;simp only[fE,aS,kC]at z;obtain⟨⟨rfl,rfl,rfl⟩,rfl,rfl⟩:=z;have:(i+1)*n<=len*n:=mw _ (by omega);rw[iK,oG]at this;have l:o+len*n<=o+i*n+j:=k;omega
  ·rcases W with _|⟨o,A⟩
   ·exact I _ _
   ·by_cases k:A.getD j 0=0
    ·exact I.1 k _ _
    ·obtain⟨⟨cells,r,L⟩,m,M,l,p,N,r1,r2,r3,r4,r5,v,B,t⟩:=I.2 k;rw[r1,r2];have m:u∈cells.toList:=by rw[<-sY]at L;exact jB L
     refine⟨M,l,p,rfl,r3,r4,r5,v,fun b2 x y k=>⟨(t b2 x y k).1,AZ (n:=A.getD j 0) B fun G H v=>CV fun j B Q=> ?_⟩⟩;obtain⟨I,S,T⟩:=(t b2 x y k).2 G H v j B Q;have j:=(dh.1 v).1;have O:dV u b2:=⟨x,y,l,p,by rw[r1,k],by omega⟩;refine⟨I,S,ai7 C e (.inr ⟨_,o,A,cells,u,rfl,r,m,O⟩) fun f=> ?_,T _ _⟩;obtain⟨B,e,_,_,j⟩:=X.dp _ o A rfl;rw[r]at e;cases e;obtain⟨e,k,l,U,z,q⟩:=Ks f;exact j u m b2 O ⟨e,k,l,U,z,q⟩
 ·cases h
def ai8{tab:Nat->List CT}{c:SC}{t:Nat->Nat}(N:bV tab Γ c.env)(Y:aN c F σ t tm a w){k:K}{e:E}{v:Value}(h:cB w (MM c.M0 t tm σ) tm c.env k e v):cB w (MM c.M0 t tm (lU σ)) tm c.env k (Nj tab Γ σ k e) v:=by
 have g:bQ w (MM c.M0 t tm σ) w (MM c.M0 t tm (lU σ)):=fun p v f j=>⟨f,fun h=>j (aaU h)⟩;have f:cB w (MM c.M0 t tm (lU σ)) tm c.env k e v:=h.keep g fun _ _=>rfl;unfold Nj;split
 ·rename_i g;cases y:MD σ g with
  |none=>exact f
  |some b=> refine⟨?_,h.2⟩;rw[h.2];exact ahl Y y
 ·rename_i m;cases x:(m.any fun kk=>(J5 σ kk).isSome)&&(match e.inf tab Γ with|some (.one (.agg Z))=>Nat.beq Z.length m.length|_=>false)with
  |false=>exact f
  |true=>
   simp only[aX]at x;obtain⟨_,O⟩:=x;split at O
   ·rename_i Z z;have A:=gI O;obtain⟨l,p,Q⟩:=lV (eG N e _ z);have B:l.length=m.length:=by rw[Q.length,A]
    obtain⟨j,C⟩:=f;rw[p]at j;obtain⟨M,G,S⟩:=j;refine⟨?_,C⟩;simp only[gD];rw[MX,G];refine⟨M,rfl,?_⟩;have:∀(o:Nat) (H:List D) (n:List Value),Rs w (MM c.M0 t tm (lU σ)) H n->(∀i d,H[i]? =some d->l[o+i]? =some d)->(∀i u,n[i]? =some u->M.toList[o+i]? =some u) ->
      Rs w (MM c.M0 t tm (lU σ)) (((List.range' o H.length).map fun j=>(J5 σ (m.getD j .d)).getD (.cell e j)).map (·.den c.env)) n:=by
     intro o H;induction H generalizing o with
     |nil=>intro n T _ _;exact T
     |cons d r ih=>
      rintro n ⟨u,q,rfl,T,x⟩ j r;simp only[dR,Mh,jA];refine⟨u,q,rfl,?_,ih (o+1) q x (fun i n U=>by have:=j (i+1) n (by simpa using U);rwa[show o+(i+1)=o+1+i by omega]at this) (fun i n U=>by have:=r (i+1) n (by simpa using U);rwa[show o+(i+1)=o+1+i by omega]at this)⟩;have I:l[o]? =some d:=by simpa using j 0 d rfl
      have V:M.toList[o]? =some u:=by simpa using r 0 u rfl
      have W:o<m.length:=by rw[<-B];exact(dh.1 I).1
      cases y:J5 σ (m.getD o .d)with
      |none=> simp only[Option.getD_none,E.den,p,mq,List.getD,I,j0];exact T
      |some b=>
       simp only[j0];have J:m[o]? =some m[o]:=bX W;have X:m.getD o .d=m[o]:=by simp[List.getD,J]
       rw[X]at y;have L:=C o _ u J (by rw[G];simpa[nQ,jO]using V);generalize m[o]=kk at y L;cases kk with
       |own g=> have j:u=tm g:=L;rw[j];exact ahl Y y
       |_=>simp[J5]at y
    have key:=this 0 l M.toList S (fun i d h=>by simpa using h) (fun i u h=>by simpa using h);rw[B, <-Ro]at key;exact key
   ·cases O
 ·exact f
def ai6{tab:Nat->List CT}{Γ:List VT}{c:SC}{F:Nat->Prop}{σ:Nat->ST}{m:Nat->Nat}{tm:Nat->Value}{a:Act}{w:World}(b:bV tab Γ c.env)(d:aN c F σ m tm a w):∀{cs:List (K×E)} {vs:List Value},dm w (MM c.M0 m tm σ) tm c.env cs vs->dm w (MM c.M0 m tm (lU σ)) tm c.env (cs.map fun x=>(x.1,Nj tab Γ σ x.1 x.2)) vs
 |[],_,h=>h
 |x::r,vs,⟨v,q,e,h1,h2⟩=>⟨v,q,e,ai8 b d h1,ai6 b d h2⟩
def aF6(n:cX P tb tb=true){o:Nat->Nat}{tm:Nat->Value}{F:Nat->Prop}(f:bV tb.tab s.Γ env)(m:aN {c0 with env:=env} F s.σ.get o tm a w){r:ResultVar}{x:K×E}(h:V0 tb s r=some x) :
  ∃v,(match r with|.tmp t=>(pure (a.tmps.getD t undef):Sem Value)|.cell x T=>do loadVar T (<-asAddr (a.tmps.getD x undef))).run P w=.ok v w/\cB w (MM c0.M0 o tm (lU s.σ.get)) tm env x.1 x.2 v:=by
 have I:bQ w (MM c0.M0 o tm s.σ.get) w (MM c0.M0 o tm (lU s.σ.get)):=fun p v G X=>⟨G,fun h=>X (aaU (c:=c0) h)⟩;cases r with
 |tmp t=>
  simp only[V0]at h;split at h
  ·rename_i k Y g;simp only[aS]at h;subst h;have:=m.tmps t;rw[g]at this;exact⟨_,rfl,ai8 f m (this.1 (cR _))⟩
  ·simp at h
 |cell x T=>
  simp only[V0]at h;split at h
  ·rename_i id b g y;have G:=m.tmps x;rw[g]at G;have U:=G.1 (cR _);split at h
   ·rename_i V Z b l;cases J:Nat.beq Z.length V.length with
    |false=>rw[J]at h;simp at h
    |true=>
     rw[J]at h;simp only[gD,aS]at h;subst h;have L:=gI J;obtain⟨M,e,c,g,A⟩:=ZE (m.box id V b);obtain⟨i,fields,z,W,N,_,_,_,O,_⟩:=pX n y l;have B:=Pm (P:=P) (w:=w) O W (b:=o id) (o:=0) (vs:=M) (by rw[e.length,N,L]) (fun j u p=>by rw[nJ];exact c j u p);refine⟨.agg M.toArray,by simp[U,asAddr,B],?_⟩;refine VW ?_ fun j k u H O=> ?_
     ·rw[TE f];have:=(ai6 f m e).rs.Kx;simpa only[Rj,Re]using this
     ·simp only[iw,kN]at H;obtain⟨z,j,rfl⟩:=H;obtain⟨p,C,Q⟩:=e.get j;rw[O]at C;cases C;exact Q.kk
   ·rename_i k Y t b l;simp only[aS]at h;subst h;obtain⟨M,e,c,g,A⟩:=ZE (m.box id _ b);obtain⟨v,q,rfl,H,_⟩:=e;obtain⟨i,d,W,_,_,_,b,S⟩:=fX n y l;exact⟨v,by simp[U,asAddr,G8 b S (c 0 v rfl)],H.keep I fun _ _=>rfl⟩
   ·simp at h
  ·simp at h
def anm(c:cX P tb tb=true){m:Nat->Nat}{tm:Nat->Value}{F:Nat->Prop}(b:bV tb.tab s.Γ env)(g:aN {c0 with env:=env} F s.σ.get m tm a w):∀{rs:List ResultVar} {es:List (K×E)},Pg tb s rs=some es ->
  ∃vs,(rs.mapM (m:=Sem) fun|.tmp t=>pure (a.tmps.getD t undef)|.cell x T=>do loadVar T (<-asAddr (a.tmps.getD x undef))).run P w=.ok vs w/\dm w (MM c0.M0 m tm (lU s.σ.get)) tm env es vs
 |[],es,h=>by simp[Pg]at h;subst h;exact⟨[],by simp,rfl⟩
 |r::rs,es,h=>by
  simp only[Pg]at h;split at h
  ·rename_i e i h1 h2;simp only[aS]at h;subst h;obtain⟨v,j,k⟩:=aF6 c b g h1;obtain⟨vs,d,f⟩:=anm c b g h2;refine⟨v::vs,?_,v,vs,rfl,k,f⟩;rw[Y8,lS];rw[j];simp only[uZ,lS,d,De]
  ·simp at h
def ak5{tab:Nat->List CT}{e:E}{v1:V1}{u:Value}(i:bV tab Γ env)(y:e.inf tab Γ=some (.one v1))(r:R w M (e.den env) u):(∀t,v1=.c t->jO u=[u])/\(∀g,v1=.agg g->∃vs:List Value,u=.agg vs.toArray/\vs.length=g.length)/\nQ u=jO u:=by
 have p:=eG i e _ y;cases v1 with
 |c t=>
  have j:(e.den env).one:=agJ (vt:=.one (.c t)) p;have z:=agk j r;have q:nQ u=jO u:=by
   cases u<;>first|rfl|skip
   rename_i vs;generalize e.den env=d at j r;cases d with
   |bool b=>have:Value.tuple vs=.bool b:=r;cases this
   |int k n=>have:Value.tuple vs=.int k n:=r.1;cases this
   |str s=>have:Value.tuple vs=.string s:=r.1;cases this
   |sl v=>obtain⟨A,len,cap,h,_⟩:=r;cases h
   |mem n=>obtain⟨A,cap,h,_⟩:=r;cases h
   |fn f x=>obtain⟨F,h,_⟩:=r;cases h
   |_=>exact j.elim
  exact⟨fun _ _=>(by rw[<-q];exact z),fun g h=>(by cases h),q⟩
 |agg g=> obtain⟨l,B,m⟩:=lV p;rw[B]at r;obtain⟨vs,rfl,o⟩:=r;exact⟨fun t h=>(by cases h),fun C h=>(by cases h;exact⟨vs.toList,by simp,by rw[o.length,m.length]⟩),rfl⟩
def ahX{tab:Nat->List CT}{Γ:List VT}{M:Addr->Prop}{tm:Nat->Value}(d:bV tab Γ env):∀{es:List (K×E)} {us:List Value} {l:List KK},I7 tab Γ es=some l->dm w M tm env es us->(∀(p:Nat) (kk:KK),l[p]? =some kk->∃u,(us.flatMap jO)[p]? =some u/\tC tm kk u)/\∀u∈us,nQ u=jO u
 |[],us,l,h,G=>by simp only[I7,aS]at h;subst h;have:us=[]:=G;subst this;exact⟨fun p kk h=>by simp at h,fun u h=>by simp at h⟩
 |(k,e)::r,us,l,h,⟨v,q,H,o,I⟩=>by
  subst H;have step:∀(i f:List KK),I7 tab Γ r=some f->l=i++f->i.length=(jO v).length->(∀(p:Nat) (kk:KK),i[p]? =some kk->∃u,(jO v)[p]? =some u/\tC tm kk u)->nQ v=jO v ->
    (∀(p:Nat) (kk:KK),l[p]? =some kk->∃u,((v::q).flatMap jO)[p]? =some u/\tC tm kk u)/\∀u∈v::q,nQ u=jO u:=by
   intro i f b J n L x;obtain⟨N,O⟩:=ahX d b I;subst J;refine⟨fun p kk c=> ?_,fun u g=> ?_⟩
   ·simp only[Y3];rcases dP p i.length with y|z
    ·rw[mP y]at c;rw[mP (by omega)];exact L p kk c
    ·rw[nH z]at c;rw[nH (by omega), <-n];exact N _ kk c
   ·rcases fI.1 g with rfl|g
    ·exact x
    ·exact O u g
  simp only[I7]at h;split at h
  ·rename_i t f A b;simp only[aS]at h;obtain⟨q1,_,q3⟩:=ak5 d A o.rd;have q1:=q1 t rfl;refine step [k.kk] f b h.symm (by rw[q1];rfl) (fun p kk c=> ?_) q3;rw[q1];have:p=0:=by have:=(dh.1 c).1;simp at this;omega
   subst this;simp at c;subst c;exact⟨v,rfl,o.kk⟩
  ·rename_i Q f A b;simp only[aS]at h;obtain⟨_,q2,q3⟩:=ak5 d A o.rd;obtain⟨B,rfl,C⟩:=q2 Q rfl;refine step _ f b h.symm (by simp[jO,C]) (fun p kk c=> ?_) q3;simp only[iw,kN]at c;obtain⟨j,S,rfl⟩:=c;obtain⟨F,m⟩:=dh.1 S;simp at F m;subst m;have g:(nQ (.agg B.toArray))[p]? =some (B[p]'(by omega)):=by simp[nQ,jO,bX (show p<B.length by omega)]
   exact⟨_,by simpa[nQ]using g,o.nth g⟩
  ·simp at h
def alS{x:Nat}:∀{l:List Nat},DR x l=true↔x∈l
 |[]=>by simp[DR]
 |y::r=>by simp[DR,alS (l:=r)]
def adB{σ:Nat->ST}{l:List KK}:∀{t:List (Nat×Nat)} {q:List Nat},V7 σ l t=some q ->
  (∀x∈t,∃kk,l[x.1]? =some kk/\(kk=.full\/∃g,kk=.own g/\g∈q/\σ (3*g+2)=.live ⟨x.2,none⟩)) /\
  (∀(i j:Nat) (x y:Nat×Nat) (g g':Nat),i<j->t[i]? =some x->t[j]? =some y->l[x.1]? =some (.own g)->l[y.1]? =some (.own g')->g≠g')
 |[],q,h=>⟨fun x hx=>by simp at hx,fun i j x y g g' _ h=>by simp at h⟩
 |(p,m)::r,q,h=>by
  simp only[V7]at h;split at h
  ·rename_i G f c;simp only[aS]at h;subst h;obtain⟨n,v⟩:=adB c;refine⟨fun x hx=> ?_,fun i j x y g g' z hx d b o=> ?_⟩
   ·rcases fI.1 hx with rfl|hx
    ·exact⟨_,f,.inl rfl⟩
    ·exact n x hx
   ·obtain⟨j,rfl⟩:∃A,j=A+1:=⟨j-1,by omega⟩;simp at d;cases i with
    |zero=>simp at hx;subst hx;rw[f]at b;cases b
    |succ i=>simp at hx;exact v i j x y g g' (by omega) hx d b o
  ·rename_i H G f c;split at h
   ·rename_i B;simp only[aS]at h;subst h;obtain⟨n,v⟩:=adB c;refine⟨fun x hx=> ?_,fun i j x y g g' z hx d b o=> ?_⟩
    ·rcases fI.1 hx with rfl|hx
     ·exact⟨_,f,.inr ⟨H,rfl,by simp,B.1⟩⟩
     ·obtain⟨kk,u,k⟩:=n x hx;exact⟨kk,u,k.imp id fun ⟨g,C,F,I⟩=>⟨g,C,by simp[F],I⟩⟩
    ·obtain⟨j,rfl⟩:∃A,j=A+1:=⟨j-1,by omega⟩;simp at d;cases i with
     |zero=>
      simp at hx;subst hx;rw[f]at b;simp at b;subst b;obtain⟨kk,u,k⟩:=n y (jB d);rw[o]at u;cases u;rcases k with k|⟨g,C,F,_⟩
      ·cases k
      ·cases C;intro e;rw[e]at B;exact absurd (alS.2 F) (by rw[B.2];simp)
     |succ i=>simp at hx;exact v i j x y g g' (by omega) hx d b o
   ·simp at h
  ·simp at h
def aGh{tab:Nat->List CT}{c:SC}{L:Nat->Nat}(X:aN c F σ L tm a w)(M:bV tab s.Γ c.env){es:List (K×E)}{us:List Value}{H:List (Nat×Nat)}(I:V6 tab s.Γ σ es H=true)(hr:dm w (MM c.M0 L tm σ) tm c.env es us){v:Value}
  (hv:(us=[v])\/v=.tuple us.toArray):LZ c.B w v H/\∀p,rR v H p->MM c.M0 L tm σ p:=by
 cases H with
 |nil=>exact⟨⟨fun x f=>by simp at f,fun i j x y h=>by simp at h⟩,fun p ⟨x,f,_⟩=>by simp at f⟩
 |cons k N=>
  simp only[V6]at I;split at I
  ·rename_i l d;obtain⟨q,g⟩:=Ml.1 I;obtain⟨m,Y⟩:=adB g;obtain⟨n,g⟩:=ahX M d hr;have O:nQ v=us.flatMap jO:=by
    rcases hv with rfl|rfl
    ·rw[g v (by simp)];simp
    ·simp[nQ]
   have d:∀x∈k::N,(∃r,xL v x=.slice r 0 0/\l[x.1]? =some .full)\/∃g,xL v x=tm g/\σ (3*g+2)=.live ⟨x.2,none⟩/\l[x.1]? =some (.own g):=fun x f=>by
    obtain⟨kk,Q,l⟩:=m x f;obtain⟨u,m,Z⟩:=n x.1 kk Q;have k:xL v x=u:=by unfold xL;rw[O];simp[List.getD,m]
    rcases l with rfl|⟨g,rfl,_,m⟩
    ·obtain⟨r,rfl⟩:=Z;exact .inl ⟨r,k,Q⟩
    ·exact .inr ⟨g,by rw[k];exact Z,m,Q⟩
   refine⟨⟨fun x f=> ?_,fun i j x y f S T=> ?_⟩,fun p ⟨x,f,J⟩=> ?_⟩
   ·intro b o s len cap k t;rcases d x f with⟨r,e,_⟩|⟨g,e,z,_⟩
    ·rw[e]at k;simp only[fE]at k;omega
    ·rw[e]at k;exact(X.live g ⟨x.2,none⟩ z).sp b o s len cap k t
   ·intro b o s len cap l p N A B k t m C;rcases d x (jB f)with⟨r,e,_⟩|⟨g,e,z,G⟩
    ·rw[e]at k;simp only[fE]at k;omega
    ·rcases d y (jB S)with⟨r,U,_⟩|⟨V,U,W,n⟩
     ·rw[U]at m;simp only[fE]at m;omega
     ·rw[e]at k;rw[U]at m;refine X.lT g ⟨x.2,none⟩ V ⟨y.2,none⟩ b l z W ?_ (.inl ⟨o,s,len,cap,k,t⟩) (.inl ⟨p,N,A,B,m,C⟩);rcases Zb T with h|h
      ·exact Y i j x y g V h f S G n
      ·exact fun e=>Y j i y x V g h S f n G e.symm
   ·rcases d x f with⟨r,e,_⟩|⟨g,e,z,_⟩
    ·rw[e]at J;obtain⟨o,s,len,cap,d,f⟩:=Ks J;simp only[fE]at d;omega
    ·rw[e]at J;exact .inr (.inr ⟨g,⟨x.2,none⟩,z,DV J⟩)
  ·simp at I
end
def ahk{R R':Ending->World->Prop}(h:∀e w,R e w->R' e w):∀{e:Exit} {a:Act} {w:World},bodyPost P fn R e a w->bodyPost P fn R' e a w
 |.normal,_,_,⟨h1,v,h2,b⟩=>⟨h1,v,h2,h _ _ b⟩
 |.ret,_,_,⟨h1,v,h2,b⟩=>⟨h1,v,h2,h _ _ b⟩
 |.panic _,_,_,⟨h1,h2⟩=>⟨h1,h _ _ h2⟩
 |.outgrown,_,_,h1=>h _ _ h1
 |.exit _,_,_,h1=>h1.elim
 |.goto _,_,_,h1=>h1.elim
def agE(c0:SC)(t:List (Nat×Nat))(r:D)(b:List D)(e:Ending)(w':World):Prop:=∃v,e=.returned v/\R w' (fun p=>c0.M0 p\/rR v t p) r v/\Fr c0.B c0.X c0.w0 w'/\LZ c0.B w' v t/\(∀g,c0.X=some g->∃u T,w'.heap[g]? =some (.cells u.toArray T (0,0))/\Rs w' (fun p=>c0.M0 p\/rR v t p) b u)
def amL{I:RB}{bx:Bool}{k:List (Nat×Nat)}{c0:SC}{r:D}{x env0:List D}(J:cX P tb tb=true)(hX:bx=c0.X.isSome){e:Exit}{m:Act}{w':World}
  (i:Post P ⟨⟨tb,fn.ntmps,I⟩,fn.results.toList,bx,k⟩ c0 (fun d bs=>d=r/\bs=x) env0 [] [] (zb ⟨⟨tb,fn.ntmps,I⟩,fn.results.toList,bx,k⟩) e m w') :
  bodyPost P fn (agE c0 k r x) e m w':=by
 have t:∀(env:List D) (s:SS) (L:List (List D->Prop)),Good c0 tb.tab env s m w'->(zb ⟨⟨tb,fn.ntmps,I⟩,fn.results.toList,bx,k⟩ s).den P tb.tab env (fun d bs=>d=r/\bs=x) L ->
   m.defers=[]/\∃v,(results fn m.tmps).run P w'=.ok v w'/\agE c0 k r x (.returned v) w':=by
  intro env s L hG h;obtain⟨hE,hl,bm,tm,S⟩:=hG;refine⟨S.defers,?_⟩;simp only[zb]at h;split at h
  ·rename_i z N;have A:=S.freeze;cases o:V6 tb.tab s.Γ (lU s.σ.get) z k with
   |false=>rw[o]at h;exact h.elim
   |true=>
   rw[o]at h;simp only[gD]at h;obtain⟨y,O,B⟩:=anm J hE S N;have b:=B.rs;have C:∃v,(results fn m.tmps).run P w'=.ok v w'/\R w' (MM c0.M0 bm tm (lU s.σ.get)) ((OM (z.map (·.2))).den env) v/\((y=[v])\/v=.tuple y.toArray):=by
    have Q:(results fn m.tmps).run P w'=.ok (if h:y.toArray.size=1 then y.toArray[0]else .tuple y.toArray) w':=by simp only[results,lS];rw[YQ,Sem.run_map];erw[O];rfl
    refine⟨_,Q,?_⟩;have n:=b.length;simp only[di]at n;generalize F:z.map (·.2)=f at b ⊢;have U:f.length=z.length:=by rw[<-F];simp
    unfold OM;split
    ·rename_i e;obtain⟨v,q,rfl,c,H⟩:=b;have:q=[]:=H;subst this;exact⟨by simpa using c,.inl (by simp)⟩
    ·rename_i es' V;have c:¬y.toArray.size=1:=by
      intro c;have:f.length=1:=by rw[U];simpa[n]using c
      match f,this with
      |[e],_=>exact V e rfl
     rw[dif_neg c,aoq f .zi [] rfl,iy];exact⟨⟨y.toArray,rfl,by simpa using b⟩,.inr rfl⟩
   obtain⟨v,hv,W,X⟩:=C;obtain⟨j,G⟩:=aGh (c:={c0 with env:=env}) A hE o B X;have M:bQ w' (MM c0.M0 bm tm (lU s.σ.get)) w' (fun p=>c0.M0 p\/rR v k p):=fun p u i hn=>⟨i,fun h=>h.elim (fun h=>hn (.inl h)) (fun h=>hn (G p h))⟩;refine⟨v,hv,v,rfl,?_⟩;generalize OM (z.map (·.2))=e at h W;cases bx with
   |false=> simp only[yh,VC.den,qQ]at h;exact⟨by rw[<-h.1];exact R.keep M _ _ W,S.fr,j,fun g hg=>by rw[hg]at hX;cases hX⟩
   |true=>
    simp only[gD]at h;split at h
    ·rename_i cs Y;simp only[VC.den]at h;obtain⟨Z,T,q1,q2,q3⟩:=A.box 0 cs (Du.2 Y);refine⟨by rw[<-h.1];exact R.keep M _ _ W,S.fr,j,fun g hx=>⟨Z,T,by rw[<-(S.x0 g hx).1];exact q1,?_⟩⟩;rw[<-h.2];exact Rs.keep M _ _ q2.rs
    ·exact h.elim
  ·exact h.elim
 cases e with
 |normal=> obtain⟨more,pre,s,c,H,h3⟩:=i;exact t _ s _ c h3
 |exit id=>obtain⟨k',c,_⟩:=i;simp[OD]at c
 |ret=> obtain⟨env,s,L,c,H⟩:=i;exact t env s L c H
 |goto l=>exact i.elim
 |panic ch=>exact i.elim
 |outgrown=>exact i.elim
def agR(args:List Value)(n t:Nat):({tmps:=args.toArray++Array.replicate n undef,defers:=[]}:Act).tmps.getD t undef=args.getD t undef:=by
 simp only[sX,List.getD];by_cases h:t<args.length
 ·rw[Q7 (by simpa using h)];simp
 ·rw[Array.getElem?_append_right (by simp;omega),nI (by omega)];simp only[Array.getElem?_replicate];split<;>rfl
def Mv{tb:TB}:∀{l:List Nat} {Γ:List VT},Fp tb l=some Γ->Γ.length=l.length
 |[],Γ,h=>by simp[Fp]at h;subst h;rfl
 |T::l,Γ,h=>by
  simp only[Fp]at h;split at h
  ·rename_i i b _ h2;simp only[aS]at h;subst h;simp[Mv h2]
  ·simp at h
def avA{rb:RB}{I:List (Nat×Nat)}{cd:Code}{ss:SS}{V:VC}(hf:P.funcs[f]? =some fn)(hb:fn.body=some cd)(hn:(fn.name== "runtime.NumGoroutine")=false)(qz:cX P tb tb=true)(hm:P.follows .mixedOrders=true)
  (c:Ou tb fn.params.toList bx=some ss) (hV:sx ⟨⟨tb,fn.ntmps,rb⟩,fn.results.toList,bx.isSome,I⟩ cd ss [] (zb ⟨⟨tb,fn.ntmps,rb⟩,fn.results.toList,bx.isSome,I⟩)=V) (hsz:Nat.ble fn.params.size fn.ntmps=true)
  {bc:Option (List D)} {ds:List D} {r:D} {C:List D} (Q:bc.isSome=bx.isSome) (hty:fO tb.tab ss.Γ (ds++bc.getD [])) (hdl:ds.length=match bx with|none=>fn.params.size|some _=>fn.params.size-1) (Bv:bx=none->C=[])
  (fQ:dI ds->dI (bc.getD [])->V.den P tb.tab (ds++bc.getD []) (fun d bs=>d=r/\bs=C) []):dJ P f bc ds r C I:=by
 subst hV;refine⟨by simp[rW,hf,hn,hb],fun w M g vs Z J L=> ?_⟩;have yF:=gT hsz;refine calls_of_wp hf hb ?_;generalize z:(match bc with|none=>vs|some _=>Value.pointer (some ⟨g,0,none⟩)::vs)=args
 let c0:SC:={w0:=w,B:=w.heap.size,X:=bc.map fun _=>g,M0:=M,nt:=fn.ntmps,env:=ds++bc.getD []}
 have S:=fun e a' N (hp:Post P ⟨⟨tb,fn.ntmps,rb⟩,fn.results.toList,bx.isSome,I⟩ c0 (fun d bs=>d=r/\bs=C) (ds++bc.getD []) [] [] (zb ⟨⟨tb,fn.ntmps,rb⟩,fn.results.toList,bx.isSome,I⟩) e a' N) =>
  ahk (R':=fun e N=>∃v,e=.returned v/\R N (fun p=>M p\/rR v I p) r v/\Fr w.heap.size (bc.map fun _=>g) w N/\LZ w.heap.size N v I/\(bc.isSome=true->∃U T,N.heap[g]? =some (.cells U.toArray T (0,0))/\Rs N (fun p=>M p\/rR v I p) C U))
   (fun e N ⟨v,O,h2,h3,h4,h5⟩=>⟨v,O,h2,h3,h4,fun hb=>h5 g (by cases bc with|none=>cases hb|some _=>rfl)⟩) (amL qz (by rw[<-Q];cases bc<;>rfl) hp)
 have y:=F4 hty;have F:dI ds/\dI (bc.getD []):=by
  refine⟨Il _ _ J,?_⟩;cases bc with
  |none=>trivial
  |some o=>obtain⟨U,T,_,h2,_⟩:=L o rfl;exact Il _ _ h2
 refine A9 (aoa (fx:=⟨⟨tb,fn.ntmps,rb⟩,fn.results.toList,bx.isSome,I⟩) (c0:=c0) qz rfl hm (fun d bs=>d=r/\bs=C) cd ss [] _ (ds++bc.getD []) [] _ w ?_ ?_ (fQ F.1 F.2)) S
 ·have G:bV tb.tab ss.Γ (ds++bc.getD []):=by have:=bV.append (tab:=tb.tab) (Γ:=[]) (env:=[]) (fun i t h=>by simp at h) rfl hty;simpa using this
  have hvl:=J.length;have iO:∀t,({tmps:=args.toArray++Array.replicate (fn.ntmps-args.toArray.size) undef,defers:=[]}:Act).tmps.getD t undef=args.getD t undef:=fun t=>agR args _ t;refine⟨G,y,?_⟩;unfold Ou at c;split at c
  ·
   rename_i ps;split at c
   ·rename_i Γ W;simp only[aS]at c;subst c;have zT:bc=none:=by cases bc with|none=>rfl|some _=>simp at Q
    subst zT;simp only at z;subst z;simp only[Option.getD_none,qP]at y G ⊢;have DF:vs.length<=fn.ntmps:=by
     have:Γ.length=fn.params.size:=by simpa using Mv W
     omega
    have k:∀id o,(nj 0 0 Γ).get (3*id+1)≠.box o:=fun id o h=>by rw[Af]at h;split at h<;>cases h
    have m:∀g n,(nj 0 0 Γ).get (3*g+2)≠.live n:=fun g n h=>by rw[Af]at h;split at h<;>cases h
    refine⟨fun x=>x,fun _=>undef,Fr.refl _ _ _,bM _,⟨Z.1,Z.2.1,Z.2.2,fun X Y=>by cases Y⟩,fun t=> ?_,fun id o h=>absurd h (k id o),fun g n h=>absurd h (m g n),fun id id' o cs' h=>absurd h (k id o),fun id o g n b h=>absurd h (k id o),fun g n X n' b b' h=>absurd h (m g n),fun l g h=> ?_,fun id o h=>absurd h (k id o),fun g n h=>absurd h (m g n),?_,rfl,fun g hg=>by simp[c0]at hg⟩
    ·rw[iO,Af];split
     ·rename_i hc;refine⟨fun _=> ?_,fun h=>absurd (cR _) h⟩;have ht:t<ds.length:=by omega
      obtain⟨v,hv,hr⟩:=J.get (bX ht);simp only[cB,E.den,List.getD,show 0+(3*t/3-0)=t by omega,bX ht,hv,j0];refine R.keep (fun p u hp hn=>⟨hp,?_⟩) _ _ hr;rintro (h|⟨id,o,O,_⟩|⟨g,n,O,_⟩)
      ·exact hn h
      ·exact k id o O
      ·exact m g n O
     ·trivial
    ·rw[Af]at h;split at h
     ·exact h.elim
     ·exact h.elim
    ·show _=fn.ntmps;simp only[YR,YS];simp;omega
   ·simp at c
  ·
   rename_i q p0 ps hps hxx;split at c
   ·rename_i Γ W;simp only[aS]at c;subst c;obtain⟨A,rfl⟩:∃x,bc=some x:=by cases bc with|none=>simp at Q|some x=>exact⟨x,rfl⟩
    simp only at z;subst z;simp only[j0]at y G hty ⊢;obtain⟨U,T,hblk,hur,q9,k0⟩:=L A rfl;have hpl:fn.params.size=ps.length+1:=by rw[<-uV,hps];rfl
    have aCN:=Mv W;have aLT:ds.length=Γ.length:=by have:ds.length=fn.params.size-1:=hdl;omega
    have hbl:A.length=q.length:=by simp only[iZ,di]at y;omega
    have B:∀l,Sg.get ((0,.ptr [] 0 0)::(1,.box (vars Γ.length q))::nj 1 0 Γ) l=if l=0 then .ptr [] 0 0 else if l=1 then .box (vars Γ.length q)else(nj 1 0 Γ).get l:=fun l=>by rw[YK,YK];simp only[aW]
    have k:∀id o,Sg.get ((0,.ptr [] 0 0)::(1,.box (vars Γ.length q))::nj 1 0 Γ) (3*id+1)=.box o->id=0/\o=vars Γ.length q:=fun id o h=>by
     rw[B,aw (by omega)]at h;by_cases e:3*id+1=1
     ·rw[aC e]at h;simp only[ST.box.injEq]at h;exact⟨by omega,h.symm⟩
     ·rw[aw e,Af]at h;split at h<;>cases h
    have m:∀g n,Sg.get ((0,.ptr [] 0 0)::(1,.box (vars Γ.length q))::nj 1 0 Γ) (3*g+2)≠.live n:=fun g n h=>by rw[B,aw (by omega),aw (by omega),Af]at h;split at h<;>cases h
    have Br:∀p,MM M (fun _=>g) (fun _=>undef) (Sg.get ((0,.ptr [] 0 0)::(1,.box (vars Γ.length q))::nj 1 0 Γ)) p->M p:=by
     rintro p (h|⟨id,o,O,h2⟩|⟨X,n,O,_⟩)
     ·exact h
     ·exact k0 p h2
     ·exact absurd O (m X n)
    have H:bQ w M w (MM M (fun _=>g) (fun _=>undef) (Sg.get ((0,.ptr [] 0 0)::(1,.box (vars Γ.length q))::nj 1 0 Γ))):=fun p u hp hn=>⟨hp,fun h=>hn (Br p h)⟩;refine⟨fun _=>g,fun _=>undef,Fr.refl _ _ _,bM _,⟨Z.1,Z.2.1,Z.2.2,fun X Y=>by cases Y;exact q9⟩,fun t=> ?_,fun id o h=> ?_,fun g n h=>absurd h (m g n),fun id id' o cs' h h' hne=> ?_,fun id o g n b _ h=>absurd h (m g n),fun g n X n' b b' h=>absurd h (m g n),fun l x h=> ?_,fun id o h=> ?_,fun g n h=>absurd h (m g n),?_,rfl,fun X hg=>⟨?_,by simp[below]⟩⟩
    ·rw[iO,B];by_cases h0:3*t=0
     ·rw[aC h0];have:t=0:=by omega
      subst this;exact⟨fun _=>rfl,fun h=>absurd (cR _) h⟩
     ·rw[aw h0,aw (by omega),Af];split
      ·rename_i hc;refine⟨fun _=> ?_,fun h=>absurd (cR _) h⟩;have ht:t-1<ds.length:=by omega
       obtain⟨v,hv,hr⟩:=J.get (bX ht);have e1:0+(3*t/3-1)=t-1:=by omega
       have e2:(Value.pointer (some ⟨g,0,none⟩)::vs).getD t undef=v:=by obtain⟨t',rfl⟩:∃t',t=t'+1:=⟨t-1,by omega⟩;simp only[List.getD,Y6];rw[show t'+1-1=t' by omega]at hv;rw[hv];rfl
       rw[e2];simp only[cB,E.den,e1,List.getD,mP ht,bX ht,j0];exact R.keep H _ _ hr
      ·trivial
    ·obtain⟨rfl,rfl⟩:=k id o h;refine⟨U,T,hblk,?_,.inr ⟨rfl,rfl⟩⟩;refine Kk (c:={c0 with env:=ds++A}) q Γ.length U ?_;have:((List.range q.length).map fun j=>(ds++A).getD (Γ.length+j) .un)=A:=by
      refine zB fun i=> ?_;simp only[iw];by_cases hi:i<q.length
      ·rw[Ix hi];simp only[j6,List.getD];rw[nH (by omega),show Γ.length+i-ds.length=i by omega];simp[bX (show i<A.length by omega)]
      ·rw[nI (by simp;omega),nI (by omega)];rfl
     show Rs w _ ((List.range q.length).map fun j=>(ds++A).getD (Γ.length+j) .un) U;rw[this];exact Rs.keep H _ _ hur
    ·obtain⟨rfl,_⟩:=k id o h;obtain⟨rfl,_⟩:=k id' cs' h';exact absurd rfl hne
    ·rw[B]at h;split at h
     ·simp only[cE]at h;subst h;simp[below]
     ·split at h
      ·exact absurd h (PI _ _ _)
      ·rw[Af]at h;split at h<;>exact h.elim
    ·obtain⟨rfl,_⟩:=k id o h;simp[below]
    ·show _=fn.ntmps;simp only[YR,YS];simp;omega
    ·have:(some A).map (fun _=>g)=some X:=hg;simpa using this
   ·simp at c
  ·simp at c
 ·unfold Ou at c;split at c
  ·split at c
   ·simp only[aS]at c;subst c;rfl
   ·simp at c
  ·split at c
   ·simp only[aS]at c;subst c;rfl
   ·simp at c
  ·simp at c
def zG:Nat->Nat->List (List CT)->Sg
 |_,_,[]=>[]
 |k,j,_::r=>(3*k,.ro [] (.var j) 0)::zG (k+1) (j+1) r
def initC(tb:TB)(p:List Nat)(c:List (List CT)):Option SS :=
 match Fp tb p with
 |some b=>some {Γ:=b++c.map (fun t=>.one (.agg t)),nt:=0,lv:=0,σ:=nj 0 0 b++zG b.length b.length c}
 |none=>none
open Classical in
def agH:∀(a b:Sg) (l:Nat),Sg.get (a++b) l=if(∃s,(l,s)∈a)then Sg.get a l else Sg.get b l
 |[],b,l=>by simp[Sg.get]
 |(x,s)::a,b,l=>by
  simp only[ia,Sg.get];cases e:Nat.beq x l with
  |true=> have:x=l:=gI e;subst this;rw[aC ⟨s,by simp⟩];simp
  |false=>
   have n:l≠x:=fun h=>by subst h;simp at e
   simp only[yh];rw[agH a b l];have:(∃c,(l,c)∈(x,s)::a)↔ ∃c,(l,c)∈a:=by
    constructor
    ·rintro⟨c,h⟩;rcases fI.1 h with h|h
     ·simp only[gj]at h;exact absurd h.1 n
     ·exact⟨c,h⟩
    ·rintro⟨c,h⟩;exact⟨c,by simp[h]⟩
   by_cases h:∃c,(l,c)∈a
   ·rw[aC h,aC (this.2 h)]
   ·rw[aw h,aw fun d=>h (this.1 d)]
def VO:∀{Γ:List VT} {k j l:Nat},(∃s,(l,s)∈nj k j Γ)↔ ∃i,i<Γ.length/\l=3*(k+i)
 |[],k,j,l=>by simp[nj]
 |t::Γ,k,j,l=>by
  simp only[nj,fI,gj,dR];constructor
  ·rintro⟨s,h|h⟩
   ·exact⟨0,by omega,by omega⟩
   ·obtain⟨i,h1,h2⟩:=VO.1 ⟨s,h⟩;exact⟨i+1,by omega,by omega⟩
  ·rintro⟨i,h1,h2⟩;cases i with
   |zero=>exact⟨_,.inl ⟨by omega,rfl⟩⟩
   |succ i=> obtain⟨s,b⟩:=(VO (Γ:=Γ) (k:=k+1) (j:=j+1) (l:=l)).2 ⟨i,by omega,by omega⟩;exact⟨s,.inr b⟩
def ahT:∀(cs:List (List CT)) (k j l:Nat),Sg.get (zG k j cs) l=if l%3=0/\k<=l/3/\l/3<k+cs.length then .ro [] (.var (j+(l/3-k))) 0 else .un
 |[],k,j,l=>by simp only[zG,Sg.get,oD];rw[aw (by omega)]
 |t::cs,k,j,l=>by
  simp only[zG,Sg.get,dR];cases e:Nat.beq (3*k) l with
  |true=> have:3*k=l:=gI e;subst this;rw[aC (by omega)];simp only[gD];rw[show 3*k/3-k=0 by omega];rfl
  |false=>
   have n:l≠3*k:=fun h=>by subst h;simp at e
   simp only[yh];rw[ahT cs (k+1) (j+1) l];by_cases h:l%3=0/\k+1<=l/3/\l/3<k+1+cs.length
   ·rw[aC h,aC (by omega),show j+1+(l/3-(k+1))=j+(l/3-k) by omega]
   ·rw[aw h,aw (by omega)]
def aCR{c:List (List CT)}(l:Nat):Sg.get (nj 0 0 Γ++zG Γ.length Γ.length c) l =
  if l%3=0/\l/3<Γ.length then .v [] .d (.var (l/3))else if l%3=0/\l/3<Γ.length+c.length then .ro [] (.var (l/3)) 0 else .un:=by
 rw[agH];by_cases h:l%3=0/\l/3<Γ.length
 ·rw[aC h,aC (VO.2 ⟨l/3,h.2,by omega⟩),Af,aC (by omega)];rw[show 0+(l/3-0)=l/3 by omega]
 ·rw[aw h,aw (fun d=>by obtain⟨i,e,b⟩:=VO.1 d;exact h ⟨by omega,by omega⟩),ahT];by_cases b:l%3=0/\l/3<Γ.length+c.length
  ·rw[aC b,aC (by omega),show Γ.length+(l/3-Γ.length)=l/3 by omega]
  ·rw[aw b,aw (by omega)]
def nE.agg{c:List (List D)}{ps:List Value}(h:nE w M c ps):dI (c.map .agg):=by
 induction c generalizing ps with
 |nil=>trivial
 |cons r l ih=> obtain⟨b,q,_,d,e⟩:=h;exact⟨YI _ _ _ d,ih e⟩
def avx{I:RB}{X:Code}{J:SS}{V:VC}(hf:P.funcs[f]? =some fn)(hb:fn.body=some X)(L:(fn.name== "runtime.NumGoroutine")=false)(N:cX P tb tb=true)(hm:P.follows .mixedOrders=true)
  (j:initC tb fn.params.toList ct=some J) (hV:sx ⟨⟨tb,fn.ntmps,I⟩,fn.results.toList,false,[]⟩ X J [] (zb ⟨⟨tb,fn.ntmps,I⟩,fn.results.toList,false,[]⟩)=V) (Y:Nat.ble (fn.params.size+ct.length) fn.ntmps=true)
  {c:List (List D)} {ds:List D} {r:D} (hcl:c.length=ct.length) (hdl:ds.length=fn.params.size) (hty:fO tb.tab J.Γ (ds++c.map .agg))
  (O:dI ds->dI (c.map .agg)->V.den P tb.tab (ds++c.map .agg) (fun d bs=>d=r/\bs=[]) []):LQ P f ds c r:=by
 subst hV;refine⟨by simp[rW,hf,L,hb],fun w M Q Z hM B C=> ?_⟩;have yF:=gT Y;refine calls_of_wp hf hb ?_;generalize F:Q++Z=args
 let c0:SC:={w0:=w,B:=w.heap.size,X:=none,M0:=M,nt:=fn.ntmps,env:=ds++c.map .agg}
 have G:=fun e a' S (T:Post P ⟨⟨tb,fn.ntmps,I⟩,fn.results.toList,false,[]⟩ c0 (fun d bs=>d=r/\bs=[]) (ds++c.map .agg) [] [] (zb ⟨⟨tb,fn.ntmps,I⟩,fn.results.toList,false,[]⟩) e a' S) =>
  ahk (R':=fun e S=>∃v,e=.returned v/\R S M r v/\Below w.heap.size w S) (fun e S ⟨v,A,W,h3,_⟩=>⟨v,A,R.keep (fun p u T L=>⟨T,fun h=>L (.inl h)⟩) _ _ W,h3.Eg⟩) (amL N rfl T)
 have z:=F4 hty;refine A9 (aoa (fx:=⟨⟨tb,fn.ntmps,I⟩,fn.results.toList,false,[]⟩) (c0:=c0) N rfl hm (fun d bs=>d=r/\bs=[]) X J [] _ (ds++c.map .agg) [] _ w ?_ ?_ (O (Il _ _ B) C.agg)) G
 ·have U:bV tb.tab J.Γ (ds++c.map .agg):=by have:=bV.append (tab:=tb.tab) (Γ:=[]) (env:=[]) (fun i t h=>by simp at h) rfl hty;simpa using this
  have hvl:=B.length;have hpl:=C.length;have iO:∀t,({tmps:=args.toArray++Array.replicate (fn.ntmps-args.toArray.size) undef,defers:=[]}:Act).tmps.getD t undef=args.getD t undef:=fun t=>agR args _ t;refine⟨U,z,?_⟩;unfold initC at j;split at j
  ·rename_i Γ ax;simp only[aS]at j;subst j;subst F;have aCN:Γ.length=fn.params.size:=by simpa using Mv ax
   have m:∀l,Sg.get (nj 0 0 Γ++zG Γ.length Γ.length ct) l=_:=fun l=>aCR l;have k:∀id q,Sg.get (nj 0 0 Γ++zG Γ.length Γ.length ct) (3*id+1)≠.box q:=fun id q h=>by rw[m,aw (by omega),aw (by omega)]at h;cases h
   have o:∀g n,Sg.get (nj 0 0 Γ++zG Γ.length Γ.length ct) (3*g+2)≠.live n:=fun g n h=>by rw[m,aw (by omega),aw (by omega)]at h;cases h
   have y:bQ w M w (MM M (fun x=>x) (fun _=>undef) (Sg.get (nj 0 0 Γ++zG Γ.length Γ.length ct))):=fun p u T L=>by
    refine⟨T,?_⟩;rintro (h|⟨id,q,A,_⟩|⟨g,n,A,_⟩)
    ·exact L h
    ·exact k id q A
    ·exact o g n A
   refine⟨fun x=>x,fun _=>undef,Fr.refl _ _ _,bM _,⟨hM.1,hM.2.1,hM.2.2,fun g' hg'=>by cases hg'⟩,fun t=> ?_,fun id q h=>absurd h (k id q),fun g n h=>absurd h (o g n),fun id id' q cs' h=>absurd h (k id q),fun id q g n b h=>absurd h (k id q),fun g n g' n' b b' h=>absurd h (o g n),fun l g h=> ?_,fun id q h=>absurd h (k id q),fun g n h=>absurd h (o g n),?_,rfl,fun g h=>by cases h⟩
   ·rw[iO,m];by_cases A:3*t%3=0/\3*t/3<Γ.length
    ·rw[aC A];refine⟨fun _=> ?_,fun h=>absurd (cR _) h⟩;have H:t<ds.length:=by omega
     obtain⟨v,hv,hr⟩:=B.get (bX H);have e2:(Q++Z).getD t undef=v:=by simp only[List.getD,mP (show t<Q.length by omega),hv,j0]
     rw[e2];simp only[cB,E.den,List.getD,show 3*t/3=t by omega];show R w _ (((ds++c.map D.agg)[t]?).getD .un) v;rw[mP H,bX H];exact R.keep y _ _ hr
    ·rw[aw A];by_cases W:3*t%3=0/\3*t/3<Γ.length+ct.length
     ·rw[aC W];refine⟨fun _=> ?_,fun h=>absurd (cR _) h⟩;have H:t-ds.length<c.length:=by omega
      obtain⟨b,hv,hr⟩:=C.get (bX H);have e2:(Q++Z).getD t undef=.pointer (some ⟨b,0,none⟩):=by simp only[List.getD];rw[nH (by omega),show t-Q.length=t-ds.length by omega,hv];rfl
      rw[e2];refine⟨b,0,rfl,?_⟩;simp only[E.den,List.getD,show 3*t/3=t by omega,Iw];show Rw w _ ((((ds++c.map D.agg)[t]?).getD .un).kZ) b 0;rw[nH (by omega),iw,bX H];exact Rw.keep y _ _ _ hr
     ·rw[aw W];trivial
   ·rw[m]at h;split at h
    ·exact h.elim
    ·split at h
     ·exact h.elim
     ·exact h.elim
   ·show _=fn.ntmps;simp only[YR,YS];simp;omega
  ·simp at j
 ·unfold initC at j;split at j
  ·simp only[aS]at j;subst j;rfl
  ·simp at j
def WC(P:Program)(tb:TB)(r:RB)(f:FuncId)(ct:List (List CT)):VC :=
 match P.funcs[f]? with
 |none=>.fail 90
 |some fn=>match fn.body,initC tb fn.params.toList ct with
  |some c,some b=>bif !(fn.name== "runtime.NumGoroutine")&&Nat.ble (fn.params.size+ct.length) fn.ntmps then
   sx ⟨⟨tb,fn.ntmps,r⟩,fn.results.toList,false,[]⟩ c b [] (zb ⟨⟨tb,fn.ntmps,r⟩,fn.results.toList,false,[]⟩)else .fail 92
  |_,_=>.fail 91
def Wu(P:Program)(tb:TB)(f:FuncId)(ct:List (List CT)):List VT :=
 match P.funcs[f]? with
 |none=>[]
 |some fn=>match initC tb fn.params.toList ct with
  |some b=>b.Γ
  |none=>[]
def Vy:Option (List CT)->Nat
 |none=>0
 |some _=>1
def rJ(P:Program)(tb:TB)(r:RB)(f:FuncId)(bx:Option (List CT)):VC :=
 match P.funcs[f]? with
 |none=>.fail 90
 |some fn=>match fn.body,Ou tb fn.params.toList bx with
  |some c,some b=>bif !(fn.name== "runtime.NumGoroutine")&&Nat.ble fn.params.size fn.ntmps&&Nat.beq b.Γ.length (fn.params.size-Vy bx+(bx.getD []).length)then
   sx ⟨⟨tb,fn.ntmps,r⟩,fn.results.toList,bx.isSome,r.get f⟩ c b [] (zb ⟨⟨tb,fn.ntmps,r⟩,fn.results.toList,bx.isSome,r.get f⟩)else .fail 92
  |_,_=>.fail 91
def rH(P:Program)(tb:TB)(f:FuncId)(bx:Option (List CT)):List VT :=
 match P.funcs[f]? with
 |none=>[]
 |some fn=>match Ou tb fn.params.toList bx with
  |some b=>b.Γ
  |none=>[]
def VC.ok:VC->Bool
 |.fail _=>false
 |_=>true
def QV{m:RB}{V:VC}(e:rJ P tb m f bx=V)(o:V.ok=true)(b:rH P tb f bx=Γ)(t:cX P tb tb=true)(v:P.follows .mixedOrders=true)
  {bc:Option (List D)} {ds:List D} {r:D} {x:List D} (g:bc.map List.length=bx.map List.length) (hty:fO tb.tab Γ (ds++bc.getD [])) (j:bx=none->x=[])
  (n:dI ds->dI (bc.getD [])->V.den P tb.tab (ds++bc.getD []) (fun d bs=>d=r/\bs=x) []):dJ P f bc ds r x (m.get f):=by
 have i:bc.isSome=bx.isSome:=by cases bc<;>cases bx<;>first|rfl|(exact absurd g (by intro h;cases h))
 unfold rJ at e;unfold rH at b;split at e
 ·subst e;exact absurd o (by intro h;cases h)
 ·rename_i fn p;rw[p]at b;simp only at b;split at e
  ·rename_i c y z k;rw[k]at b;simp only at b;subst b;generalize q:(!(fn.name== "runtime.NumGoroutine")&&Nat.ble fn.params.size fn.ntmps&&Nat.beq y.Γ.length (fn.params.size-Vy bx+(bx.getD []).length))=C at e;cases C with
   |false=>simp only[yh]at e;subst e;exact absurd o (by intro h;cases h)
   |true=>
    simp only[gD]at e;simp only[aX,qi]at q;obtain⟨⟨A,B⟩,l⟩:=q;replace l:=gI l;refine avA p z A t v k e B i hty ?_ j n;have u:=F4 hty;cases bx with
    |none=>
     cases bc with
     |none=>simp[Vy]at u l;simp only;omega
     |some _=>simp at i
    |some F=>
     cases bc with
     |none=>simp at i
     |some G=>simp[Vy]at u l g;simp only;omega
  ·subst e;exact absurd o (by intro h;cases h)
def avv{k:RB}{V:VC}(g:WC P tb k f ct=V)(o:V.ok=true)(b:Wu P tb f ct=Γ)(t:cX P tb tb=true)(m:P.follows .mixedOrders=true)
  {p:List (List D)} {ds:List D} {r:D} (l:p.length=ct.length) (hty:fO tb.tab Γ (ds++p.map .agg))
  (n:dI ds->dI (p.map .agg)->V.den P tb.tab (ds++p.map .agg) (fun d bs=>d=r/\bs=[]) []):LQ P f ds p r:=by
 unfold WC at g;unfold Wu at b;split at g
 ·subst g;exact absurd o (by intro h;cases h)
 ·rename_i fn j;rw[j]at b;simp only at b;split at g
  ·rename_i c v q e;rw[e]at b;simp only at b;subst b;generalize i:(!(fn.name== "runtime.NumGoroutine")&&Nat.ble (fn.params.size+ct.length) fn.ntmps)=C at g;cases C with
   |false=>simp only[yh]at g;subst g;exact absurd o (by intro h;cases h)
   |true=>
    simp only[gD]at g;simp only[aX,qi]at i;refine avx j q i.1 t m e g i.2 l ?_ hty n;have u:=F4 hty;unfold initC at e;split at e
    ·rename_i Γ b;simp only[aS]at e;subst e;have:Γ.length=fn.params.size:=by simpa using Mv b
     simp at u;omega
    ·simp at e
  ·subst g;exact absurd o (by intro h;cases h)
def Yu{i:RB}{V:VC}(j:rJ P tb i f bx=V)(o:V.ok=true)(c:rH P tb f bx=Γ)(t:cX P tb tb=true)(m:P.follows .mixedOrders=true)
  {bc:Option (List D)} {ds:List D} {r:D} {b:List D} (g:bc.map List.length=bx.map List.length) (hty:fO tb.tab Γ (ds++bc.getD [])) (h:bx=none->b=[])
  (e:dI ds->dI (bc.getD [])->V.den P tb.tab (ds++bc.getD []) (fun d bs=>d=r/\bs=b) []):aH P f bc ds r b :=
 .eB (QV j o c t m g hty h e)
end
section
open Go
def pT:RB:=[(5,[(11,1)]),(8,[(0,1)]),(9,[(0,1)]),(15,[(6,1)]),(16,[(0,5),(1,6),(2,1),(3,1),(4,7)]),(19,[(0,1),(1,1),(2,1)]),(23,[(0,5),(1,6),(2,1),(3,1),(4,7)]),(26,[(0,1)]),(27,[(0,1)]),(28,[(0,1)]),(31,[(0,1)]),(33,[(0,5),(1,6),(2,1),(3,1),(4,7)]),(45,[(0,1)]),(46,[(0,1)]),(49,[(0,5)]),(50,[(0,1)]),(51,[(3,2),(5,2)]),(52,[(6,1)]),(57,[(0,5)]),(58,[(3,2),(5,2)]),(59,[(6,1)]),(61,[(0,1)]),(62,[(0,3)]),(63,[(0,1)]),(68,[(0,1)]),(69,[(3,2),(5,2)]),(70,[(0,5)]),(80,[(0,1)]),(81,[(1,1),(4,4)]),(82,[(3,2)]),(84,[(0,1)]),(87,[(0,1)]),(96,[(1,1),(4,4)]),(97,[(3,2)]),(101,[(0,1)]),(110,[(3,2),(5,2)]),(111,[(3,2),(5,2)]),(112,[(1,1),(4,4)]),(118,[(0,2)]),(121,[(0,1)]),(143,[(3,2),(5,2)]),(144,[(3,2)]),(152,[(0,2)]),(159,[(0,2)]),(164,[(3,2),(5,2)]),(165,[(3,2),(5,2)]),(168,[(0,1)]),(171,[(0,1)]),(177,[(3,2)]),(187,[(0,2)]),(193,[(0,1)]),(199,[(0,1)])]
abbrev tyP:V1:=.agg [.str,.bool,.bool,.sl 125,.int .i64,.sl 52]
abbrev Ky:V1:=.agg [.int .i64,.int .i64,.str,.int .i64,.int .i64]
abbrev Cp:V1:=.agg [.str,.str,.int .i64,.str]
abbrev tyO:V1:=.agg [.str,.bool,.bool,.sl 125,.int .i64]
abbrev bT:List CT:=[.sl 5,.int .i64,.int .i64]
abbrev aG:VT:=.one (.c (.int .i64))
abbrev bh:VT:=.one (.c .bool)
abbrev cr:VT:=.one (.c .str)
end
end Go.Proofs.YtoomhbopolalnabGreatDoor
