/- Each operation does to a world what the executor says it does: boxes, stores, calls. No program in sight. -/
import Derived.Test.YtoomhbopolalnabGreatDoorT3
set_option linter.all false
namespace Go.Proofs.YtoomhbopolalnabGreatDoor
open Go.RowKit
variable [GC]
variable {M:Addr->Prop}{f:FuncId}{r:List (Nat×Nat)}{g n off:Nat}{dst o:Option Nat}{v:Value}{w':World}
section
variable {P:Program}{c:SC}{F:Nat->Prop}{σ:Nat->ST}{bm:Nat->Nat}{tm:Nat->Value}{a:Act}{w:World}{tb:TB}{Γ:List VT}{gs:Gd}
def ji(g:Nat):Nat->Prop:=fun x=>g<=x/\x<g+qH
def AX(g:Nat):ji g g:=⟨bM _,by unfold qH;omega⟩
def Ma(h:aN c (fun x=>F x\/x=g) σ bm tm a w):aN c (fun x=>F x\/ji g x) σ bm tm a w :=
 h.mono fun x b=>b.imp id (fun e=>by subst e;exact AX x)
def oB(P:Program)(c:SC)(F:Nat->Prop)(σ:Nat->ST)(bm:Nat->Nat)(tm:Nat->Value)(a:Act)(w:World)(g:Nat)(gs:Gd)(n:Nat)(o:Oper)(e:bq):Prop :=
 (cP c.env gs->(∀r∈e.rq,jL P c.env n r)->∀(K:Act->World->Prop) (Q:Exit->Act->World->Prop),
  (∀b t d f,aN c (fun x=>F x\/ji g x) (dq σ e.wr) b t d f->K d f)->o.wp P a w K Q) /\
 (¬cP c.env gs->aN c (fun x=>F x\/ji g x) (dq σ e.wr) bm tm (a.put o.dst undef) w)
def qh(i:aN c F σ bm tm a w){g n:Nat}{o:Oper}{e:bq}(hd:∀d,o.dst=some d->d<c.nt)(h:jX P c F gs σ bm tm a w n o e):oB P c F σ bm tm a w g gs n o e:=by
 obtain⟨t,r,s,m,u⟩:=h;refine⟨fun b j K Q k=> ?_,fun b=> ?_⟩
 ·obtain⟨v,y,l,p,q⟩:=u b j;unfold Oper.wp;rw[l];refine k bm tm _ _ ?_;rw[r];exact((i.grow p).nY hd q m).mono fun x f=>.inl f
 ·rw[r];exact(i.nY hd (O8 s b) m).mono fun x f=>.inl f
def ao2{l b:Nat}(h:l≠b)(s d:ST):aW (aW σ l s) b d=aW (aW σ b d) l s:=by funext x;simp only[aW];by_cases e:x=l<;>by_cases f:x=b<;>simp_all
def Pz{st s:ST}:dq σ (wv dst st++[(3*g+1,s)])=dq (aW σ (3*g+1) s) (wv dst st):=by
 cases dst with
 |none=>rfl
 |some d=>exact ao2 (by omega) _ _
def adr{k:K}{e:E}(h:cB w M tm c.env k e v):dm w M tm c.env [(k,e)] [v]:=⟨v,[],rfl,h,rfl⟩
def Td(s:aN c F σ bm tm a w){g:Nat}(hg:¬F g){dst:Option Nat}(hd:∀d,dst=some d->d<c.nt){cs:List (K×E)}{vs:List Value}{T:TypeId}(v:dm w (MM c.M0 bm tm σ) tm c.env cs vs)(m:∀x,(∃y∈cs,y.1.has x)->F x) :
  aN c (fun x=>F x\/ji g x) (dq σ (wv dst (.ptr [] g 0)++[(3*g+1,.box cs)])) (aW bm g w.heap.size) tm (a.put dst (.pointer (some ⟨w.heap.size,0,none⟩))) (w.alloc (.cells vs.toArray T)):=by
 rw[Pz];refine Ma ((s.aEN hg v m).nY hd ⟨fun _=>by rw[cH],fun h=>absurd (cR _) h⟩ fun x b=> ?_);simp only[cE]at b;exact .inr b
def aGA(I:cX P tb tb=true)(j:aN c F σ bm tm a w)(b:bV tb.tab Γ c.env){g n:Nat}(hg:¬F g){o:Oper}{x:Operand}{T:Nat}(ho:o.op=.box T x)(hd:∀d,o.dst=some d->d<c.nt){f:bq}
  (h:aar tb.tab Γ gs o.dst g (aY tb σ T x)=some f):oB P c F σ bm tm a w g gs n o f:=by
 unfold aar at h;split at h
 ·rename_i k e B;have v:=(dN j B).1 (cR _);have m:=(dN j B).2;refine⟨fun _ _ K Q C=> ?_,fun J=>absurd (cR _) J⟩;split at h
  ·rename_i t p;simp only[aS]at h;subst h;have L:=(Bd (eG b e _ p) v.rd).1;have r:(execOp a.eval o).run P w=.ok (.value (.pointer (some ⟨w.heap.size,0,none⟩))) (w.alloc (.cells [a.eval x].toArray T)):=by simp[execOp,ho,Instr.box,newVar,newRow,L]
   unfold Oper.wp;rw[r];exact C _ _ _ _ (Td j hg hd (adr v) fun y ⟨z,G,q⟩=>by simp at G;subst G;exact m y q)
  ·rename_i N p;simp only[aS]at h;subst h;obtain⟨l,H,u⟩:=lV (eG b e _ p);have i:=v.rd;rw[H]at i;obtain⟨M,s,A⟩:=i;have r:(execOp a.eval o).run P w=.ok (.value (.pointer (some ⟨w.heap.size,0,none⟩))) (w.alloc (.cells M.toList.toArray T)):=by simp[execOp,ho,Instr.box,newVar,newRow,s,Value.cells]
   unfold Oper.wp;rw[r];refine C _ _ _ _ (Td j hg hd (by rw[<-u.length];exact adq H A (by rw[s]at v;simpa using v)) fun y q=>m y (Zz q))
  ·simp at h
 ·simp at h
def aGu(k:cX P tb tb=true)(u:aN c F σ bm tm a w){g n:Nat}(hg:¬F g){o:Oper}{T:Nat}(ho:o.op=.alloc T)(hd:∀d,o.dst=some d->d<c.nt){ti:TI}(l:tb.get T=some ti){m:bq}
  (h:aao gs o.dst g ti=some m):oB P c F σ bm tm a w g gs n o m:=by
 unfold aao at h;split at h
 ·rename_i v A;simp only[aS]at h;subst h;refine⟨fun _ _ K Q B=> ?_,fun C=>absurd (cR _) C⟩;have p:∀x,(∃y∈v.cells.map CK,y.1.has x)->F x:=fun y ⟨z,j,G⟩=>by simp only[fJ]at j;obtain⟨t,_,rfl⟩:=j;cases t<;>simp[CK,Go.Proofs.YtoomhbopolalnabGreatDoor.K.has]at G
  cases v with
  |c t=>
   obtain⟨i,d,q,_,_,⟨z,j,b⟩,_⟩:=fX k l A;have e:=(Yn (w:=w) (M:=MM c.M0 bm tm σ) (tm:=tm) (c:=c) b).2;have s:z.cells=#[z]:=by cases t<;>cases z<;>simp[zeroV]at b<;>rfl
   have r:(execOp a.eval o).run P w=.ok (.value (.pointer (some ⟨w.heap.size,0,none⟩))) (w.alloc (.cells [z].toArray T)):=by simp[execOp,ho,Instr.alloc,zeroValue,run_typeInfo q,j,newVar,newRow,s]
   unfold Oper.wp;rw[r];exact B _ _ _ _ (Td u hg hd (cs:=[CK t]) (adr e) p)
  |agg I=>
   obtain⟨i,f,H,q,_,_,j,b,_⟩:=pX k l A;have e:=(Yo (w:=w) (M:=MM c.M0 bm tm σ) (tm:=tm) (c:=c) b).2;have r:(execOp a.eval o).run P w=.ok (.value (.pointer (some ⟨w.heap.size,0,none⟩))) (w.alloc (.cells H.toList.toArray T)):=by simp[execOp,ho,Instr.alloc,zeroValue,run_typeInfo q,j,newVar,newRow,Value.cells]
   unfold Oper.wp;rw[r];exact B _ _ _ _ (Td u hg hd e p)
 ·simp at h
def aG9(J:cX P tb tb=true)(H:aN c F σ bm tm a w)(L:bV tb.tab Γ c.env){g n:Nat}{o:Oper}{y x:Operand}{T T1 T2:Nat}(ho:o.op=.store T y x){ti:TI}(M:tb.get T=some ti){B:bq}
  (h:Dm tb.tab Γ gs o.dst σ ti (aY tb σ T1 y) (aY tb σ T2 x)=some B):oB P c F σ bm tm a w g gs n o B:=by
 unfold Dm at h;split at h
 ·rename_i dst j id off k e N b l;obtain⟨p,j,m⟩:=ym b;have hp:=KA m (nW H j).1 (cR _);have r:=(dN H l).1 (cR _);have p:=(dN H l).2;refine⟨fun _ _ K Q hK=> ?_,fun b=>absurd (cR _) b⟩;split at h
  ·rename_i m j;obtain⟨G,T0,O,u,X⟩:=H.box id m j;have S:∀(b:List (Go.Proofs.YtoomhbopolalnabGreatDoor.K×E)) (s:List Value) (i:TypeInfo),P.info? T=some i->(a.eval x).cells.toList=s->s.length=i.size->(∀v∈s,v.oneCell'=true)->off+s.length<=m.length->dm w (MM c.M0 bm tm σ) tm c.env b s->(∀q,(∃z∈b,z.1.has q)->F q) ->
     B=⟨[(3*id+1,.box (nA m off b))],[]⟩->o.wp P a w K Q:=by
    intro b s i U V A W m Y C Z;subst Z;have b:=u.length;obtain⟨I,h1,h4,Z⟩:=Eb (P:=P) (bm id) T0 s w G.toArray off 0 O W (by simp;omega);have m:(a.eval x).cells.size=i.size:=by rw[<-uV,V,A]
    have b:(execOp a.eval o).run P w=.ok .skip I:=by simp[execOp,ho,hp,Instr.storeAt,Instr.sureAddr,storeVar,run_sizeOf U,m,V,h1]
    unfold Oper.wp;rw[b];simp only[Oper.upon,N,Act.put];refine hK bm tm a I (aN.mono (F:=F) ?_ fun x l=>.inl l);refine H.We j (Ih Z (X.imp (fun h=>h) (fun h=>h.2))) (fun k _ b=>Z.block k b) (fun A l b=> ?_) fun q ⟨z,A,I⟩=> ?_
    ·refine⟨(iF G.toArray off s).toList,T0,by simpa using h4,?_,X⟩;rw[Ha];exact dm.keep (tm':=tm) b (fun _ _=>rfl) (dm.nA Y off u)
    ·rcases acO _ _ _ A with A|A
     ·exact H.f1 (3*id+1) q (by rw[j];exact⟨z,A,I⟩)
     ·exact C q ⟨z,A,I⟩
   split at h
   ·rename_i t l b j;split at h
    ·rename_i l;simp only[aS]at h;obtain⟨i,d,U,m,_⟩:=fX J M b;obtain⟨l,s⟩:=Bd (eG L e _ j) r.rd;exact S [(k,e)] [a.eval x] i U (by rw[l]) (by simp[m]) (by simpa using s) (by simp only[dR,oD];omega) (adr r) (fun q ⟨z,A,I⟩=>by simp at A;subst A;exact p q I) (by rw[<-h];rfl)
    ·simp at h
   ·rename_i N l b j;split at h
    ·rename_i s;simp only[aS]at h;obtain⟨i,f,z,U,m,_⟩:=pX J M b;obtain⟨l,A,b⟩:=lV (eG L e _ j);have j:=r.rd;rw[A]at j;obtain⟨u,l,C⟩:=j;have j:=C.length;have G:=b.length;refine S (apart k N.length e) u.toList i U (by rw[l];rfl) (by rw[j,G,m];exact s.1.symm) (MU b C) (by rw[j,G, <-s.1];exact s.2) ?_ (fun q I=>p q (Zz I)) h.symm;rw[s.1, <-G];exact adq A C (by rw[l]at r;simpa using r)
    ·simp at h
   ·simp at h
  ·simp at h
 ·simp at h
def jE(σ:Nat->ST):Option Nat->Nat->ST
 |none=>σ
 |some h=>aW σ (3*h+2) .un
def ail(t:Nat):jE σ o (3*t)=σ (3*t):=by cases o<;>simp only[jE];exact PE _ _ _
def FH(id:Nat):jE σ o (3*id+1)=σ (3*id+1):=by cases o<;>simp only[jE];exact wD _ _ _
def yt{n:LV}(h:jE σ o (3*g+2)=.live n):σ (3*g+2)=.live n/\o≠some g:=by
 cases o with
 |none=>exact⟨h,by simp⟩
 |some k=>
  simp only[jE]at h;by_cases e:g=k
  ·subst e;rw[cH]at h;cases h
  ·rw[pY _ e]at h;exact⟨h,fun x=>e (by simpa using x.symm)⟩
def aik{l x:Nat}(h:cE (jE σ o l) x):cE (σ l) x:=by
 cases o with
 |none=>exact h
 |some k=>
  simp only[jE]at h;by_cases e:l=3*k+2
  ·subst e;rw[cH]at h;exact h.elim
  ·rwa[fZ _ _ e]at h
def VN{tm':Nat->Value}{n:LV}{p:Addr}(t:tm' g=tm g)(d:∀x,cE (.live n) x->tm' x=tm x)(h:xD tm' g n p):xD tm g n p:=by
 unfold xD at *;rw[t]at h;rcases h with h|⟨e,v,m,cells,u,b,f,i⟩
 ·exact .inl h
 ·exact .inr ⟨e,v,m,cells,u,b,by rw[<-d v ⟨e,m,b⟩];exact f,i⟩
def aN.adK(hs:aN c F σ bm tm a w){F':Nat->Prop}{g:Nat}{n0 n':LV}(oh:Option Nat)(hg:σ (3*g+2)=.live n0)(hb0:n0.body≠none)
  (DB:∀h,oh=some h->h≠g/\∃nh,σ (3*h+2)=.live nh/\nh.body≠none) {tm':Nat->Value} (iO:∀x,F x->tm' x=tm x) (hF:∀x,F x->F' x)
  (hblk:∀b,jy tm' g n' b->jy tm g n0 b\/∃h nh,oh=some h/\σ (3*h+2)=.live nh/\jy tm h nh b)
  (hfr:Fr c.B c.X w w') (mI:∀k,k<w.heap.size->¬jy tm g n0 k->w'.heap[k]? =w.heap[k]?)
  (hok:sV c w' tm' g n') (BG:∀x,cE (.live n') x->F' x) :
  aN c F' (aW (jE σ oh) (3*g+2) (.live n')) bm tm' a w':=by
 have hlo:∀x m,x≠g->aW (jE σ oh) (3*g+2) (.live n') (3*x+2)=.live m->σ (3*x+2)=.live m/\oh≠some x:=fun x m e h=>by rw[pY _ e]at h;exact yt h
 have hbx:∀id cs,aW (jE σ oh) (3*g+2) (.live n') (3*id+1)=.box cs->σ (3*id+1)=.box cs:=fun id cs h=>by rw[wD,FH]at h;exact h
 have gf:∀x m,σ (3*x+2)=.live m->tm' x=tm x/\∀y,cE (.live m) y->tm' y=tm y:=fun x m h=>⟨iO x (hs.f3 x m h),fun y hy=>iO y (hs.f1 (3*x+2) y (by rw[h];exact hy))⟩;have hM:∀p,MM c.M0 bm tm' (aW (jE σ oh) (3*g+2) (.live n')) p->MM c.M0 bm tm σ p:=by
  rintro p (h|⟨id,cs,h1,h2⟩|⟨x,m,h1,h2⟩)
  ·exact .inl h
  ·exact .inr (.inl ⟨id,cs,hbx id cs h1,h2⟩)
  ·by_cases e:x=g
   ·subst e;rw[cH]at h1;simp at h1;subst h1;rcases hblk _ (OT h2)with h|⟨h',nh,q1,q2,q3⟩
    ·exact .inr (.inr ⟨x,_,hg,ac8 hb0 h⟩)
    ·obtain⟨_,nh',q4,q5⟩:=DB h' q1;rw[q2]at q4;cases q4;exact .inr (.inr ⟨h',nh,q2,ac8 q5 q3⟩)
   ·obtain⟨q1,_⟩:=hlo x m e h1;exact .inr (.inr ⟨x,m,q1,VN (gf x m q1).1 (gf x m q1).2 h2⟩)
 have hk:bQ w (MM c.M0 bm tm σ) w' (MM c.M0 bm tm' (aW (jE σ oh) (3*g+2) (.live n'))):=fun p v hp hn=>by refine⟨?_,fun h=>hn (hM p h)⟩;rw[<-hp];exact Df (mI _ (gm hp) fun hb=>hn (.inr (.inr ⟨g,_,hg,ac8 hb0 hb⟩)))
 have hb1:∀id cs b,σ (3*id+1)=.box cs->jy tm' g n' b->bm id≠b:=fun id cs b h hb=>by
  rcases hblk b hb with h1|⟨h',nh,_,q2,q3⟩
  ·exact hs.lK id cs g n0 b h hg h1
  ·exact hs.lK id cs h' nh b h q2 q3
 have hb2:∀x m b b',x≠g->oh≠some x->σ (3*x+2)=.live m->jy tm x m b->jy tm' g n' b'->b≠b':=fun x m b b' e hx h hb hb'=>by
  rcases hblk b' hb' with h1|⟨h',nh,q1,q2,q3⟩
  ·exact hs.lT x m g n0 b b' h hg e hb h1
  ·exact hs.lT x m h' nh b b' h q2 (fun e'=>hx (by rw[e'];exact q1)) hb q3
 refine hs.turn (fun t=>by rw[PE,ail]) (fun x hx=>⟨rfl,iO x hx⟩) hF hfr hk ?_ ?_ ?_ ?_ ?_ ?_ ?_ ?_
 ·intro id cs h;have h:=hbx id cs h;exact(hs.box id cs h).keep hk rfl (mI _ (hs.box id cs h).lt fun hb=>hs.lK id cs g n0 _ h hg hb rfl) fun x hx=>iO x (hs.f1 (3*id+1) x (by rw[h];exact hx))
 ·intro x m h;by_cases e:x=g
  ·subst e;rw[cH]at h;simp at h;subst h;exact hok
  ·obtain⟨q1,_⟩:=hlo x m e h;exact(hs.live x m q1).keep (fun b hb=>mI _ ((hs.live x m q1).lt hb) fun hb'=>hs.lT x m g n0 b b q1 hg e hb hb' rfl) (gf x m q1).1 (gf x m q1).2
 ·intro id id' cs cs' h h';exact hs.pJ id id' cs cs' (hbx _ _ h) (hbx _ _ h')
 ·intro id cs x m b h hx hb;by_cases e:x=g
  ·subst e;rw[cH]at hx;simp at hx;subst hx;exact hb1 id cs b (hbx _ _ h) hb
  ·obtain⟨q1,_⟩:=hlo x m e hx;exact hs.lK id cs x m b (hbx _ _ h) q1 ((ox (gf x m q1).1 (gf x m q1).2).1 hb)
 ·intro x m y m' b b' hx hy hne hb hb';by_cases e:x=g<;>by_cases e':y=g
  ·exact absurd (e.trans e'.symm) hne
  ·subst e;rw[cH]at hx;simp at hx;subst hx;obtain⟨q1,q2⟩:=hlo y m' e' hy;exact(hb2 y m' b' b e' q2 q1 ((ox (gf y m' q1).1 (gf y m' q1).2).1 hb') hb).symm
  ·subst e';rw[cH]at hy;simp at hy;subst hy;obtain⟨q1,q2⟩:=hlo x m e hx;exact hb2 x m b b' e q2 q1 ((ox (gf x m q1).1 (gf x m q1).2).1 hb) hb'
  ·obtain⟨q1,_⟩:=hlo x m e hx;obtain⟨p1,_⟩:=hlo y m' e' hy;exact hs.lT x m y m' b b' q1 p1 hne ((ox (gf x m q1).1 (gf x m q1).2).1 hb) ((ox (gf y m' p1).1 (gf y m' p1).2).1 hb')
 ·intro l x h;by_cases e:l=3*g+2
  ·subst e;rw[cH]at h;exact BG x h
  ·rw[fZ _ _ e]at h;exact hF _ (hs.f1 l x (aik h))
 ·intro id cs h;exact hF _ (hs.f2 id cs (hbx _ _ h))
 ·intro x m h;by_cases e:x=g
  ·subst e;exact hF _ (hs.f3 x n0 hg)
  ·exact hF _ (hs.f3 x m (hlo x m e h).1)
def aHc{α:Type}{l r:List α}(d:off+r.length<=l.length):∀j x,(xM l off r)[j]? =some x->(off<=j/\j<off+r.length/\r[j-off]? =some x)\/((j<off\/off+r.length<=j)/\l[j]? =some x):=by
 intro j x h;rw[Wi]at h;split at h
 ·rename_i b;exact .inl ⟨b.1,b.2.1,h⟩
 ·rename_i b;refine .inr ⟨?_,h⟩;have:=(dh.1 h).1;omega
def adH(C:Array Value)(o:Nat)(vals:List Value)(x:Nat):(iF C o vals)[x]? =if o<=x/\x<o+vals.length/\x<C.size then vals[x-o]? else C[x]? :=by
 have:∀(l:List Value) (s:List Value) (q:Nat),nA s q l=xM s q l:=by
  intro l;induction l with
  |nil=>intro s q;rfl
  |cons y l ih=>intro s q;simp[nA,xM,ih]
 rw[<-sY,Ha,this,Wi];simp
def tT.aW{Q I:Nat->Nat->D->Value->Prop}{V:D}{k:Nat}{l:List D}(hb:tT w v n Q V){b o len cap:Nat}(W:v=.slice (some ⟨b,o,none⟩) len cap)(hk:k<len){C:Array Value}{T:TypeId}
  {vals:List Value} (hw:w.heap[b]? =some (.cells C T (0,0))) (hl:vals.length=l.length) (s:off+vals.length<=n) (hsz:o+cap*n<=C.size)
  (t:∀(j:Nat) (d:D),l[j]? =some d->∃u,vals[j]? =some u/\I k (off+j) d u) (m:∀(i j:Nat) (d:D) (u:Value),j<n->i≠k\/j<off\/off+l.length<=j->Q i j d u->I i j d u)
  (J:w'.heap[b]? =some (.cells (iF C (o+k*n+off) vals) T (0,0))):tT w' v n I (.sl (pg V.lP k off l)):=by
 obtain⟨g,X,Y,r,L,f,p,A,B,H,M,Z⟩:=hb;rw[W]at L;simp only[fE]at L;obtain⟨rfl,rfl,rfl⟩:=L;subst f;have y:k<r.length:=by omega
 have G:r[k]? =some r[k]:=bX y;have N:r[k].length=n:=M _ (qj y);have y:=(Z b o none rfl).2 k _ G;refine⟨_,len,cap,pg r k off l,W,rfl,by simp[pg];exact p,A,B,H,?_,fun f L O g=>⟨fun _=>by cases g;rfl,?_⟩⟩
 ·intro z f;unfold pg at f;rcases sZ f with h|h
  ·exact M z h
  ·subst h;rw[Vv];simpa[List.getD,G]using N
 ·cases g;intro x z f j d H;have g:x<r.length:=by have:=(dh.1 f).1;simpa[pg]using this
  have A:∀q,w.cell? ⟨b,q,none⟩=C[q]? :=fun q=>yg w b q _ T _ hw;have O:∀q,w'.cell? ⟨b,q,none⟩=(iF C (o+k*n+off) vals)[q]? :=fun q=>yg w' b q _ T _ J;have S:z.length=n:=by
   have:z∈pg r k off l:=jB f;unfold pg at this;rcases sZ this with h|h
   ·exact M z h
   ·subst h;rw[Vv];simpa[List.getD,G]using N
  have B:j<n:=by rw[<-S];exact(dh.1 H).1
  rw[O,adH];unfold pg at f;rw[Da]at f;by_cases e:k=x
  ·subst e;rw[aC rfl,aC g]at f;simp only[aS]at f;subst f;simp only[List.getD,G,j0]at H;rcases aHc (by rw[<-hl,N];exact s) j d H with⟨q1,q2,q3⟩|⟨q1,q2⟩
   ·obtain⟨u,p,g⟩:=t _ d q3;refine⟨u,?_,by rwa[show off+(j-off)=j by omega]at g⟩;have r:k*n+n<=cap*n:=by
     have:(k+1)*n<=cap*n:=mw _ (by omega)
     rwa[iK,oG]at this
    rw[aC (by omega), <-p];congr 1;omega
   ·obtain⟨u,p,g⟩:=y j d q2;refine⟨u,?_,m _ _ _ _ B (.inr q1) g⟩;rw[A]at p;rw[aw (by omega)];exact p
  ·rw[aw e]at f;obtain⟨u,p,g⟩:=(Z b o none rfl).2 x z f j d H;refine⟨u,?_,m _ _ _ _ B (.inl (fun h=>e h.symm)) g⟩;rw[A]at p;have U:¬(o+k*n+off<=o+x*n+j/\o+x*n+j<o+k*n+off+vals.length/\o+x*n+j<C.size):=by
    rintro⟨f,g,_⟩;rcases Zb e with h|h
    ·have:(k+1)*n<=x*n:=mw _ h;rw[iK,oG]at this;omega
    ·have:(x+1)*n<=k*n:=mw _ h;rw[iK,oG]at this;omega
   rw[aw U];exact p
def uT.store{B b:Nat}{C:Array Value}{T:TypeId}{o:Nat}{vals:List Value}(h:uT B w v n)(h1:bU w w' b)(g:w.heap[b]? =some (.cells C T (0,0)))(d:w'.heap[b]? =some (.cells (iF C o vals) T (0,0))):uT B w' v n:=fun f i s len cap j l=>by
 obtain⟨q1,q2,cells,k,q3,q4⟩:=h f i s len cap j l;refine⟨q1,q2,?_⟩;by_cases e:f=b
 ·subst e;rw[g]at q3;simp only[aS,Obj.cells.injEq]at q3;obtain⟨rfl,rfl,_⟩:=q3;exact⟨_,T,d,by rw[Kr];exact q4⟩
 ·exact⟨cells,k,by rw[h1.block _ e];exact q3,q4⟩
def Vt{tab:Nat->List CT}{t:CT}{d:D}(f:cJ tab t d)(l:yL t=true)(h:R w M d v):wL d v:=by
 cases t with
 |bool=>obtain⟨b,rfl⟩:=yx f;exact fun _ _=>h
 |int k=>obtain⟨n,rfl⟩:=zS f;exact fun _ _=>h
 |str=>obtain⟨s,rfl⟩:=Dw f;exact fun _ _=>h
 |sl e=>simp[yL]at l
 |mem=>simp[yL]at l
 |fn=>simp[yL]at l
def alC{tab:Nat->List CT}{M:Addr->Prop}:∀{s:List CT} {l:List D} {vs:List Value},bD tab s l->BS s=true->Rs w M l vs->∀(j:Nat) (d:D),l[j]? =some d->∃u,vs[j]? =some u/\wL d u
 |[],[],_,_,_,_,j,d,hd=>by simp at hd
 |t::s,d::ds,vs,b,f,⟨u,q,e,h1,h2⟩,j,g,hd=>by
  subst e;simp only[bD]at b;simp only[BS,List.all_cons,aX]at f;cases j with
  |zero=>simp at hd;subst hd;exact⟨u,rfl,Vt b.1 f.1 h1⟩
  |succ j=>simp at hd;simpa using alC b.2 f.2 h2 j g hd
 |[],_::_,_,h,_,_,_,_,_=>by simp[bD]at h
 |_::_,[],_,h,_,_,_,_,_=>by simp[bD]at h
def alW{i j k:Nat}(b:j<n)(ho:off<n)(h:i*n+j=k*n+off):i=k/\j=off:=by
 rcases E8 i k with e|e|e
 ·have:(i+1)*n<=k*n:=mw _ e;rw[iK,oG]at this;omega
 ·subst e;omega
 ·have:(k+1)*n<=i*n:=mw _ e;rw[iK,oG]at this;omega
def aGY(aE:cX P tb tb=true)(hs:aN c F σ bm tm a w)(ax:bV tb.tab Γ c.env){g0 n:Nat}(hg0:¬F g0){o:Oper}{y x:Operand}{T T1 T2:Nat}(ho:o.op=.store T y x)(mX:o.dst=none){ti:TI}(aK:tb.get T=some ti){g m:Nat}{i:E}{off:Nat}(hy:aY tb σ T1 y=some (.mp [] g m i off)){aQ:bq}
  (h:TW tb Γ σ g0 ti g m i off (aY tb σ T2 x)=some aQ):oB P c F σ bm tm a w g0 [] n o aQ:=by
 unfold TW at h;split at h
 ·rename_i n' e dp k ex M hx;split at h
  ·rename_i el oP;split at h
   ·rename_i hc;obtain⟨rfl,hn⟩:=hc;obtain⟨h4,_⟩:=nW hs hy;obtain⟨b,o',len,cap,q1,q2,q3,q4⟩:=h4.1 (cR _);have eZ:=(dN hs hx).1 (cR _);have A:=hs.live g _ M;obtain⟨_,_,eU,r0,e0,hd0,hr0,aMf,_,_,hlc,_⟩:=Kn (A.bd e dp rfl) q1 q3;have hcap:0<cap:=by omega
    have O:dV (tm g) b:=⟨o',none,len,cap,q1,hcap⟩;obtain⟨_,FW,C,T0,I,hsz⟩:=A.sp b o' none len cap q1 hcap;simp only at hsz;have fQ:∀r:E,(E.aW e i r off).den c.env=.sl (pg (e.den c.env).lP (i.den c.env).cq.toNat off (r.den c.env).kZ):=fun _=>rfl;have hb2:(i.den c.env).cq.toNat*m+m<=cap*m:=by
     have:((i.den c.env).cq.toNat+1)*m<=cap*m:=mw _ (by omega)
     rwa[iK,oG]at this
    have hst:∀(s:List Value) (V:TypeInfo),P.info? T=some V->(a.eval x).cells.toList=s->s.length=V.size->(∀v∈s,v.oneCell'=true)->off+s.length<=m ->
      ∃w',(execOp a.eval o).run P w=.ok .skip w'/\w'.heap[b]? =some (.cells (iF C (o'+(i.den c.env).cq.toNat*m+off) s) T0 (0,0))/\bU w w' b:=by
     intro s V hi hcl BC hone hle;obtain⟨w',h1,h4,W⟩:=Eb (P:=P) b T0 s w C (o'+(i.den c.env).cq.toNat*m+off) 0 I hone (by omega);have yF:(a.eval x).cells.size=V.size:=by rw[<-uV,hcl,BC]
     rw[rT]at h4;exact⟨w',by simp[execOp,ho,q4,Instr.storeAt,Instr.sureAddr,storeVar,run_sizeOf hi,yF,hcl,h1],h4,W⟩
    refine⟨fun _ _ K Q hK=> ?_,fun hn=>absurd (cR _) hn⟩;have hgo:∀(r:E) (s:List Value) (V:TypeInfo),P.info? T=some V->(a.eval x).cells.toList=s->s.length=V.size->(∀v∈s,v.oneCell'=true)->off+s.length<=m->s.length=(r.den c.env).kZ.length->Bl dp off s.length=true ->
      (∀(j:Nat) (d:D),(r.den c.env).kZ[j]? =some d->∃u,s[j]? =some u/\wL d u)->aQ=⟨[(3*g+2,.live ⟨m,some (.aW e i r off,dp)⟩)],[]⟩->o.wp P a w K Q:=by
     intro r s V hi hcl BC hone hle hrl UA aBC NN;subst NN;obtain⟨w',hrun,h4,W⟩:=hst s V hi hcl BC hone hle;unfold Oper.wp;rw[hrun];simp only[Oper.upon,mX,Act.put];refine hK bm tm a w' (aN.mono (F:=F) ?_ fun x hx=>.inl hx);have G:∀gv Z cells u B,dp=some (gv,Z)->tm gv=.tuple cells->u∈cells.toList->dV u B->w'.heap[B]? =w.heap[B]? :=fun gv Z cells u B hd hcl J bO=>by subst hd;obtain⟨cells',z1,_,_,z4⟩:=A.dp e gv Z rfl;rw[hcl]at z1;cases z1;exact W.block _ fun eb=>z4 u J B bO (eb▸O)
     refine hs.adK none M (by simp) (by simp) (fun _ _=>rfl) (fun _ h=>h) (fun B p=>.inl ?_) (Ih W (.inl FW)) (fun k hk hnb=>W.block _ fun e'=>hnb (e'▸ .inl O)) ⟨?_,fun e' vC he'=> ?_,fun e' gv Z he'=> ?_⟩ fun z hz=> ?_
     ·rcases p with p|⟨e',gv,Z,cells,u,z1,z2⟩
      ·exact .inl p
      ·simp only[aS,gj]at z1;exact .inr ⟨e,gv,Z,cells,u,by rw[z1.2],z2⟩
     ·exact A.sp.store W I h4
     ·simp only[aS,gj]at he';obtain⟨rfl,rfl⟩:=he';rw[fQ];refine(A.bd e dp rfl).aW q1 q3 I hrl hle hsz (fun j d hj=> ?_) (fun i2 j2 d u hj2 _ X=> ?_) h4
      ·obtain⟨u,J,hlf⟩:=aBC j d hj;refine⟨u,J,?_⟩;rcases dp with _|⟨gv,Z⟩
       ·exact hlf
       ·have hjl:=(dh.1 J).1;simp only[Bl,fH,oF]at UA;exact⟨fun _=>hlf,fun hne=>absurd (gI (UA j hjl)) hne⟩
      ·exact X.keep (fun _ _ _=>rfl) G
     ·simp only[aS,gj]at he';obtain⟨cells,z1,z2,z3,z4⟩:=A.dp e gv Z (by rw[he'.2]);refine⟨cells,z1,fun u J=> ?_,z3,z4⟩;obtain⟨m',hm'⟩:=z2 u J;exact⟨m',hm'.store W I h4⟩
     ·obtain⟨e',Z,hz⟩:=hz;simp only[aS,gj]at hz;exact hs.f1 (3*g+2) z (by rw[M];exact⟨e,Z,by rw[hz.2]⟩)
    split at h
    ·
     rename_i t0 hv he;rcases dp with _|⟨gv,Z⟩
     ·cases k<;>simp at h
     cases k with
     |own N=>
      simp only at h;split at h
      ·rename_i mm e' JM;split at h
       ·rename_i qp aLY;split at h
        ·rename_i hc;simp only[aS]at h;subst h;obtain⟨hel,hms,hm0,hne⟩:=hc;obtain⟨V,d,hi,S,_⟩:=fX aE aK hv;obtain⟨hc1,hc2⟩:=Bd (eG ax ex _ he) eZ.rd;have aks:off<m:=by rw[<-hn];exact(dh.1 hel).1
         obtain⟨w',hrun,h4,W⟩:=hst [a.eval x] V hi (by rw[hc1]) (by simp[S]) (by simpa using hc2) (by simp only[dR,oD];omega);have vU:a.eval x=tm N:=eZ.2;have L:=hs.live N _ JM;obtain⟨cells,z1,z2,z3,z4⟩:=A.dp e gv Z rfl;have ajr:∀z,F z->aW tm g0 (.tuple (cells.setIfInBounds ((i.den c.env).cq.toNat*m+off) (tm N))) z=tm z:=fun z hz=>fZ _ _ fun e=>hg0 (e▸hz);have UZ:aW tm g0 (.tuple (cells.setIfInBounds ((i.den c.env).cq.toNat*m+off) (tm N))) g=tm g:=ajr g (hs.f3 g _ M);have Y:∀u∈(cells.setIfInBounds ((i.den c.env).cq.toNat*m+off) (tm N)).toList,u∈cells.toList\/u=tm N:=fun u J=>by rw[agV]at J;exact sZ J
         have kx:∀B,dV (tm N) B->B≠b:=fun B p e'=>hs.lT N _ g _ B b JM M hne (.inl p) (.inl O) e';have ajB:∀u∈cells.toList,∀B,dV u B->¬dV (tm N) B:=fun u J B p H=>hs.lT N _ g _ B B JM M hne (.inl H) (.inr ⟨e,gv,Z,cells,u,rfl,z1,J,p⟩) rfl;have G:∀u∈cells.toList,∀B,dV u B->w'.heap[B]? =w.heap[B]? :=fun u J B p=>W.block _ fun eb=>z4 u J B p (eb▸O);unfold Oper.wp;rw[hrun];simp only[Oper.upon,mX,Act.put];refine hK bm (aW tm g0 (.tuple (cells.setIfInBounds ((i.den c.env).cq.toNat*m+off) (tm N)))) a w' ?_;show aN c _ (aW (jE σ (some N)) (3*g+2) _) bm _ a w';refine hs.adK (some N) M (by simp) (fun h1 U=> ?_) ajr (fun _ h=>.inl h) (fun B p=> ?_) (Ih W (.inl FW)) (fun k hk hnb=>W.block _ fun e'=>hnb (e'▸ .inl O)) ⟨?_,fun e1 dp1 U=> ?_,fun e1 Nn ms1 U=> ?_⟩ fun z hz=> ?_
         ·simp only[aS]at U;subst U;exact⟨hne,_,JM,by simp⟩
         ·rcases p with p|⟨e1,Nn,ms1,FB,u,y1,y2,y3,y4⟩
          ·rw[UZ]at p;exact .inl (.inl p)
          ·simp only[aS,gj]at y1;obtain⟨_,rfl,rfl⟩:=y1;rw[cH]at y2;cases y2;rcases Y u y3 with h|rfl
           ·exact .inl (.inr ⟨e,gv,Z,cells,u,rfl,z1,h,y4⟩)
           ·exact .inr ⟨N,_,rfl,JM,.inl y4⟩
         ·rw[UZ];exact A.sp.store W I h4
         ·simp only[aS,gj]at U;obtain⟨rfl,rfl⟩:=U;rw[fQ,UZ];refine(A.bd e _ rfl).aW q1 q3 I (by simp[E.den]) (by simp only[dR,oD];omega) hsz (fun j d hj=> ?_) (fun i2 j2 d u hj2 hij X=> ?_) h4
          ·cases j with
           |succ j=>simp[E.den]at hj
           |zero=>
            simp[E.den]at hj;subst hj;refine⟨_,rfl,fun h0=>absurd (hms▸h0) (by simpa using hm0),fun _=>⟨⟨_,cH _ _ _,?_⟩,?_,?_⟩⟩
            ·have hcs:(i.den c.env).cq.toNat*m+off<cells.size:=by obtain⟨_,_,anw,r1,_,w1,w2,w3,_,_,_,w5⟩:=Kn (A.bd e _ rfl) q1 q3;obtain⟨u1,_,hu1⟩:=w5 off _ (bX (show off<r1.length by rw[w3];exact aks));obtain⟨⟨FB,c1,c2⟩,_⟩:=hu1.2 (by rw[hms];exact hm0);rw[z1]at c1;cases c1;exact(rS.1 c2).1
             rw[rT,vU];simp[hcs]
            ·rw[rT,hms,vU];exact L.sp.keep fun B p=>W.block _ (kx B p)
            ·rw[rT,hms,vU];exact(L.bd e' none rfl).keep (fun B p=>W.block _ (kx B p)) fun _ _ _ _ h=>h
          ·refine⟨X.1,fun hmz=> ?_⟩;obtain⟨⟨FB,c1,c2⟩,c3,c4⟩:=X.2 hmz;rw[z1]at c1;cases c1;have J:u∈cells.toList:=by rw[<-sY]at c2;exact jB c2
           refine⟨⟨_,cH _ _ _,?_⟩,c3.keep (G u J),c4.keep (G u J) fun _ _ _ _ h=>h⟩;have UH:(i.den c.env).cq.toNat*m+off≠i2*m+j2:=fun e2=>by
            obtain⟨e3,e4⟩:=alW hj2 aks e2.symm;rcases hij with h|h|h
            ·exact h e3
            ·omega
            ·simp only[E.den,mq,dR,oD]at h;omega
           rw[YP UH];exact c2
         ·simp only[aS,gj]at U;obtain⟨_,rfl,rfl⟩:=U;refine⟨_,cH _ _ _,fun u J=> ?_,fun k k' u u' B hk hk' hkk p H=> ?_,fun u J B p=> ?_⟩
          ·rcases Y u J with h|rfl
           ·obtain⟨m',hm'⟩:=z2 u h;exact⟨m',hm'.keep (G u h)⟩
           ·exact⟨_,L.sp.keep fun B p=>W.block _ (kx B p)⟩
          ·have hget:∀q v,(cells.setIfInBounds ((i.den c.env).cq.toNat*m+off) (tm N))[q]? =some v->(q=(i.den c.env).cq.toNat*m+off/\v=tm N)\/(q≠(i.den c.env).cq.toNat*m+off/\cells[q]? =some v):=fun q v X=>by
            rw[C5]at X;split at X
            ·rename_i e3;split at X
             ·simp only[aS]at X;exact .inl ⟨e3.symm,X.symm⟩
             ·cases X
            ·rename_i e3;exact .inr ⟨fun e4=>e3 e4.symm,X⟩
           have hmem:∀q v,cells[q]? =some v->v∈cells.toList:=fun q v X=>by rw[<-sY]at X;exact jB X
           rcases hget k u hk with⟨e3,rfl⟩|⟨e3,hk⟩<;>rcases hget k' u' hk' with⟨e4,rfl⟩|⟨e4,hk'⟩
           ·omega
           ·exact ajB u' (hmem _ _ hk') B H p
           ·exact ajB u (hmem _ _ hk) B p H
           ·exact z3 k k' u u' B hk hk' hkk p H
          ·rw[UZ];rcases Y u J with h|rfl
           ·exact z4 u h B p
           ·exact fun H=>hs.lT N _ g _ B B JM M hne (.inl p) (.inl H) rfl
         ·obtain⟨e1,ms1,hz⟩:=hz;simp only[aS,gj]at hz;exact .inr (by rw[<-hz.2.1];exact AX g0)
        ·simp at h
       ·simp at h
      ·simp at h
     |_=>simp at h
    ·rename_i t0 t _ hv he;split at h
     ·rename_i hc;simp only[aS]at h;obtain⟨V,d,hi,S,_⟩:=fX aE aK hv;have hty:=eG ax ex _ he;obtain⟨hc1,hc2⟩:=Bd hty eZ.rd;have hlt:=(dh.1 hc.1).1;refine hgo (.aq ex) [a.eval x] V hi (by rw[hc1]) (by simp[S]) (by simpa using hc2) (by simp only[dR,oD];omega) rfl hc.2.2 ?_ h.symm;intro j d' hd;cases j with
      |zero=>simp[E.den]at hd;subst hd;exact⟨_,rfl,Vt hty hc.2.1 eZ.rd⟩
      |succ j=>simp[E.den]at hd
     ·simp at h
    ·rename_i ts us hv he;split at h
     ·rename_i hc;simp only[aS]at h;obtain⟨V,f,z,hi,S,_⟩:=pX aE aK hv;obtain⟨l,hl,hlt⟩:=lV (eG ax ex _ he);have je:=eZ.rd;rw[hl]at je;obtain⟨Ct,jq,hrs⟩:=je;have hl1:=hrs.length;have iT:=hlt.length;refine hgo ex Ct.toList V hi (by rw[jq];rfl) (by rw[hl1,iT,S];exact hc.2.1.symm) (MU hlt hrs) (by rw[hl1,iT];exact hc.2.2.1) (by rw[hl];exact hl1) (by rw[hl1,iT];exact hc.2.2.2.2) ?_ h.symm;intro j d hd;rw[hl]at hd;exact alC hlt hc.2.2.2.1 hrs j d hd
     ·simp at h
    ·simp at h
   ·simp at h
  ·simp at h
 ·simp at h
def aGR(aE:cX P tb tb=true)(hs:aN c F σ bm tm a w)(ax:bV tb.tab Γ c.env){g0 q:Nat}{o:Oper}{y x:Operand}{T T1 T2:Nat}(ho:o.op=.store T y x)(mX:o.dst=none){ti:TI}(aK:tb.get T=some ti){g gv n:Nat}{i:E}{off:Nat}{j:E}{m o2:Nat}(hy:aY tb σ T1 y=some (.ip [] g gv n i off j m o2)){aQ:bq}
  (h:TR tb Γ σ ti g gv n i off j m o2 (aY tb σ T2 x)=some aQ):oB P c F σ bm tm a w g0 [] q o aQ:=by
 unfold TR at h;split at h
 ·rename_i f e V ms k ex M U;split at h
  ·rename_i el f;split at h
   ·rename_i l f;split at h
    ·rename_i l;obtain⟨rfl,r,rfl,hm,hm0,p⟩:=l;split at h
     ·rename_i s t J I;split at h
      ·rename_i l;simp only[aS]at h;subst h;obtain⟨S,hlf⟩:=l;refine⟨fun _ _ K Q hK=> ?_,fun r=>absurd (cR _) r⟩;obtain⟨l,_⟩:=nW hs hy;obtain⟨⟨s,L,B,q1,q2,q3⟩,cells,b,W,len,cap,X,z2,A,z4,C,z6⟩:=l.1 (cR _);have eZ:=(dN hs U).1 (cR _);have G:off<n:=by rw[<-r];exact(dh.1 f).1
       obtain⟨b0,s,r,d,rfl,y1,f,y3,y4,y5,y6⟩:=acy hs M q1 q3 G hm hm0 X z2;have l:=hs.live g _ M;obtain⟨f,r,x2,x3,x4⟩:=l.dp e V ms rfl;rw[X]at r;cases r;have N:∀q v,cells[q]? =some v->v∈cells.toList:=fun q v Y=>by rw[<-sY]at Y;exact jB Y
       have O:0<cap:=by omega
       have Z:dV (.slice (some ⟨b,W,none⟩) len cap) b:=⟨W,none,len,cap,rfl,O⟩;obtain⟨_,FW,C,T0,f,hsz⟩:=y5 b W none len cap rfl O;have H:0<B:=by obtain⟨_,_,_,_,_,_,_,_,_,_,r,_⟩:=Kn (l.bd e _ rfl) q1 q3;omega
       have A:b≠b0:=fun e'=>x4 _ (N _ _ z2) b Z ⟨s,none,L,B,by rw[e'];exact q1,H⟩;have O:=eG ax ex _ I;obtain⟨I,hc2⟩:=Bd O eZ.rd;have r:o2<m:=by rw[<-p];exact(dh.1 S).1
       have p:(j.den c.env).cq.toNat*m+m<=cap*m:=by
        have:((j.den c.env).cq.toNat+1)*m<=cap*m:=mw _ (by omega)
        rwa[iK,oG]at this
       obtain⟨i',p,hi,S,_⟩:=fX aE aK J;obtain⟨J,h1,h6,r⟩:=Eb (P:=P) b T0 [a.eval x] w C (W+(j.den c.env).cq.toNat*m+o2) 0 f (by simpa using hc2) (by simp only[dR,oD];omega);have p:(a.eval x).cells.size=i'.size:=by rw[I,S];rfl
       have C:(execOp a.eval o).run P w=.ok .skip J:=by simp[execOp,ho,z6,Instr.storeAt,Instr.sureAddr,storeVar,run_sizeOf hi,p,I,h1];rw[S]
       rw[rT]at h6;unfold Oper.wp;rw[C];simp only[Oper.upon,mX,Act.put];refine hK bm tm a J (aN.mono (F:=F) ?_ fun x U=>.inl U);obtain⟨_,S,C,I,p,U⟩:=l.sp b0 s none L B q1 H;simp only at U;have H:J.heap[b0]? =w.heap[b0]? :=r.block _ (ye A);have A:C[s+(i.den c.env).cq.toNat*n+off]? =some (.slice (some ⟨b,W,none⟩) len cap):=by rw[yg w b0 _ C I _ p]at y4;exact y4
       have S:iF C (s+(i.den c.env).cq.toNat*n+off) [.slice (some ⟨b,W,none⟩) len cap]=C:=by
        apply Array.ext_getElem?;intro z;rw[adH];split
        ·rename_i C;simp only[dR,oD]at C;obtain rfl:z=s+(i.den c.env).cq.toNat*n+off:=by omega
         rw[A,Nat.sub_self];rfl
        ·rfl
       have s:∀q v,cells[q]? =some v->q≠(i.den c.env).cq.toNat*n+off->∀A,dV v A->J.heap[A]? =w.heap[A]? :=fun q v Y B A I=>r.block _ fun J=>x3 q _ v _ A Y z2 B I (J▸Z);refine hs.adK none M (by simp) (by simp) (fun _ _=>rfl) (fun _ h=>h) (fun A I=>.inl ?_) (Ih r (.inl FW)) (fun k B A=>r.block _ fun e'=>A (e'▸ .inr ⟨e,V,ms,cells,_,rfl,X,N _ _ z2,Z⟩)) ⟨?_,fun e1 B J=> ?_,fun e1 B N J=> ?_⟩ fun z C=> ?_
       ·rcases I with I|⟨e1,B,N,A,u,V,Z⟩
        ·exact .inl I
        ·simp only[aS,gj]at V;obtain⟨_,rfl,rfl⟩:=V;exact .inr ⟨e,_,_,A,u,rfl,Z⟩
       ·exact l.sp.store r f h6
       ·simp only[aS,gj]at J;obtain⟨rfl,rfl⟩:=J;have B:(E.cell (.row (tb.tab el) e i) off).den c.env=d:=by simp[E.den,y1,y3]
        have I:(E.aW e i (.aq (.aW (.cell (.row (tb.tab el) e i) off) j (.aq ex) o2)) off).den c.env=.sl (pg (e.den c.env).lP (i.den c.env).cq.toNat off [.sl (pg d.lP (j.den c.env).cq.toNat o2 [ex.den c.env])]):=by show D.sl (pg _ _ _ [D.sl (pg ((E.cell (.row (tb.tab el) e i) off).den c.env).lP _ _ [ex.den c.env])])=_;rw[B]
        rw[I];refine(l.bd e _ rfl).aW (vals:=[.slice (some ⟨b,W,none⟩) len cap]) q1 q3 p rfl (by simp only[dR,oD];omega) U (fun V B l=> ?_) (fun U W Z u B I Y=> ?_) (by rw[S,H];exact p)
        ·cases V with
         |succ V=>simp at l
         |zero=>
          simp at l;subst l;refine⟨_,rfl,fun l=>absurd (hm▸l) (by simpa using hm0),fun _=>⟨⟨cells,X,by rw[rT];exact z2⟩,?_,?_⟩⟩
          ·rw[rT,hm];exact y5.store r f h6
          ·rw[rT,hm];refine y6.aW rfl z4 f rfl (by simp only[dR,oD];omega) hsz (fun p H l=> ?_) (fun _ _ _ _ _ _ h=>h) h6;cases p with
           |succ p=>simp at l
           |zero=>simp at l;subst l;exact⟨_,rfl,Vt O hlf eZ.rd⟩
        ·refine⟨Y.1,fun l=> ?_⟩;obtain⟨⟨A,H,p⟩,O,S⟩:=Y.2 l;rw[X]at H;cases H;have V:U*n+W≠(i.den c.env).cq.toNat*n+off:=fun l=>by
          obtain⟨A,H⟩:=alW B G l;rcases I with h|h|h
          ·exact h A
          ·omega
          ·simp only[dR,oD]at h;omega
         exact⟨⟨cells,X,p⟩,O.keep (s _ _ p V),S.keep (s _ _ p V) fun _ _ _ _ h=>h⟩
       ·simp only[aS,gj]at J;obtain⟨_,rfl,rfl⟩:=J;refine⟨cells,X,fun u p=> ?_,x3,x4⟩;obtain⟨s,l⟩:=x2 u p;exact⟨s,l.store r f h6⟩
       ·obtain⟨e1,N,C⟩:=C;simp only[aS,gj]at C;exact hs.f1 (3*g+2) z (by rw[M];exact⟨e,ms,by rw[C.2.1]⟩)
      ·simp at h
     ·simp at h
    ·simp at h
   ·simp at h
  ·simp at h
 ·simp at h
def sSt(b:cX P tb tb=true)(s:aN c F σ bm tm a w)(e:bV tb.tab Γ c.env){g n:Nat}(hg:¬F g){o:Oper}{y x:Operand}{T l p:Nat}(ho:o.op=.store T y x){ti:TI}(t:tb.get T=some ti){f:bq}
  (h:Jp tb Γ gs o.dst σ g ti (aY tb σ l y) (aY tb σ p x)=some f):oB P c F σ bm tm a w g gs n o f:=by
 unfold Jp at h;split at h
 ·rename_i q m i off d k;exact aGY b s e hg ho d t k h
 ·rename_i q v m i off j r u d k;exact aGR b s e ho d t k h
 ·exact aG9 b s e ho t h
def Fq(b:aN c F σ bm tm a w)(hg:cP c.env gs):∀(xs:List Operand) (Ts:List Nat) (es:List E),nO tb Γ gs σ xs Ts=some es->Rs w (MM c.M0 bm tm σ) (es.map (·.den c.env)) (xs.map a.eval)
 |[],[],es,h=>by simp[nO]at h;subst h;rfl
 |x::xs,T::Ts,es,h=>by
  simp only[nO]at h;split at h
  ·rename_i k e s h1 h2;simp only[aS]at h;subst h;exact⟨_,_,rfl,((dN b h1).1 hg).rd,Fq b hg xs Ts s h2⟩
  ·simp at h
 |[],_::_,es,h=>by simp[nO]at h
 |_::_,[],es,h=>by simp[nO]at h
def G7(h:rW P f=true){o:Oper}{cl:Call}(ho:o.op=.call cl)(l:cl.callee=.value (.func f)):(execOp a.eval o).run P w=.ok (.enter f (cl.args.map a.eval)) w:=by
 unfold rW at h;split at h
 ·rename_i fn n;simp only[aX,qi]at h;obtain⟨g,i⟩:=h;obtain⟨b,j⟩:=Ml.1 i;have d:(fn.name= "runtime.NumGoroutine")=False:=by apply eq_false;intro e;rw[e]at g;exact absurd g (by decide)
  simp[execOp,ho,resolve,l,Deferred.ofValue,Act.eval,invoke,callFunc,n,j,d]
 ·simp at h
def anQ(s:aN c F σ bm tm a w)(hg:cP c.env gs){g n:Nat}{o:Oper}{cl:Call}{f:FuncId}(ho:o.op=.call cl)(l:cl.callee=.value (.func f))(hd:∀d,o.dst=some d->d<c.nt){es:List E}{Ts:List Nat}{vt:VT}
  (b:nO tb Γ gs σ cl.args.toList Ts=some es) (k:jL P c.env n (.call gs f none es vt [])) (K:Act->World->Prop) (Q:Exit->Act->World->Prop)
  (p:∀m tm' j w',aN c (fun x=>F x\/ji g x) (dq σ (wv o.dst (.v gs .d (.var n)))) m tm' j w'->K j w'):o.wp P a w K Q:=by
 obtain⟨q,u⟩:=k hg;have r:=Fq s hg _ _ _ b;unfold Oper.wp;rw[G7 q ho l];simp only[Oper.upon];have:=u w (MM c.M0 bm tm σ) 0 (cl.args.toList.map a.eval) s.cM r (fun z h=>by simp at h);simp only[Zf]at this;have e:(cl.args.toList.map a.eval).toArray=cl.args.map a.eval:=by rw[<-iX];simp
 rw[e]at this;refine this.mono ?_;rintro A w' ⟨v,rfl,t,y,_⟩;refine p bm tm _ _ (((s.grow y.Eg).nY hd (fj (k:=.d) (e:=.var n) hg t) fun x i=>by simp[cE,Go.Proofs.YtoomhbopolalnabGreatDoor.K.has]at i).mono fun x i=>.inl i)
def Kk{M:Addr->Prop}:∀(nb:List CT) (m:Nat) (us:List Value),Rs w M ((List.range nb.length).map fun j=>c.env.getD (m+j) .un) us->dm w M tm c.env (vars m nb) us
 |[],m,us,h=>by simpa[Rs,vars,dm]using h
 |t::nb,m,us,h=>by simp only[dR,List.range_succ_eq_map,jA,Rj]at h;obtain⟨v,q,rfl,h1,h2⟩:=h;refine⟨v,q,rfl,by simpa[cB,E.den]using h1,Kk nb (m+1) q ?_⟩;simpa[Re,wS,Dc 1]using h2
def PI:∀(nb:List CT) (m:Nat) (q:Nat),¬ ∃z∈vars m nb,z.1.has q
 |[],_,_,⟨z,h,_⟩=>by simp[vars]at h
 |t::nb,m,q,⟨z,h,b⟩=>by
  simp only[vars,fI]at h;rcases h with rfl|h
  ·cases b
  ·exact PI nb (m+1) q ⟨z,h,b⟩
def aG2(s:aN c F σ bm tm a w)(t:bV tb.tab Γ c.env){g n:Nat}(i:¬F g){o:Oper}{cl:Call}{f:FuncId}{nb:List CT}(ho:o.op=.call cl)(l:cl.callee=.value (.func f))(hd:∀d,o.dst=some d->d<c.nt)(j:n=Γ.length){b:bq}
  (h:eNew tb Γ gs o.dst σ g nb f cl.args.toList cl.argTypes.toList=some b):oB P c F σ bm tm a w g gs n o b:=by
 subst j;unfold eNew at h;split at h
 ·rename_i v k;simp only[aS]at h;subst h;refine⟨fun N y K Q z=> ?_,fun j=>absurd (cR _) j⟩;have m:jL P c.env Γ.length (.new f v nb):=y _ (by simp);obtain⟨A,u⟩:=m;have r:=Fq s (cR _) _ _ _ k;unfold Oper.wp;rw[G7 A ho l];simp only[Oper.upon];have:=u w (MM c.M0 bm tm σ) (cl.args.toList.map a.eval) s.cM r;have e:(cl.args.toList.map a.eval).toArray=cl.args.map a.eval:=by rw[<-iX];simp
  rw[e]at this;refine this.mono ?_;rintro O B ⟨C,G,T,rfl,H,I,J,L⟩;refine z (aW bm g C) tm _ B ?_;rw[Pz];refine Ma ((s.aEO i L H I (Kk nb _ G J) fun q M=>absurd M (PI _ _ _)).nY hd ⟨fun _=>by rw[cH],fun h=>absurd (cR _) h⟩ fun x p=> ?_);simp only[cE]at p;exact .inr p
 ·simp at h
def Cs{st:ST}:∀{u:List (Nat×ST)} {σ:Nat->ST},(∀p∈u,∀d,p.1≠3*d)->dq σ (wv dst st++u)=dq (dq σ u) (wv dst st):=by
 intro u σ h;cases dst with
 |none=>rfl
 |some d=>
  show dq (aW σ (3*d) st) u=aW (dq σ u) (3*d) st;induction u generalizing σ with
  |nil=>rfl
  |cons p r ih=> obtain⟨l,s⟩:=p;show dq (aW (aW σ (3*d) st) l s) r=_;rw[ao2 (ye (h (l,s) (by simp) d))];exact ih fun q b=>h q (by simp[b])
def adA:∀{b:List (Nat×Nat)} {g:Nat} {σ:Nat->ST} (t:Nat),dq σ (ny g b) (3*t)=σ (3*t)
 |[],_,_,_=>rfl
 |(q,m)::r,g,σ,t=>by show dq (aW σ (3*g+2) (.live ⟨m,none⟩)) (ny (g+1) r) (3*t)=_;rw[adA t,PE]
def G6:∀{b:List (Nat×Nat)} {g:Nat} {σ:Nat->ST} (t:Nat),dq σ (ny g b) (3*t+1)=σ (3*t+1)
 |[],_,_,_=>rfl
 |(q,m)::r,g,σ,t=>by show dq (aW σ (3*g+2) (.live ⟨m,none⟩)) (ny (g+1) r) (3*t+1)=_;rw[G6 t,wD]
def adz:∀{t:List (Nat×Nat)} {g:Nat} {σ:Nat->ST} (x:Nat),dq σ (ny g t) (3*x+2)=if g<=x/\x<g+t.length then .live ⟨(t.getD (x-g) (0,0)).2,none⟩else σ (3*x+2)
 |[],g,σ,x=>by rw[aw (by simp only[oD];omega)];rfl
 |(q,m)::r,g,σ,x=>by
  show dq (aW σ (3*g+2) (.live ⟨m,none⟩)) (ny (g+1) r) (3*x+2)=_;rw[adz x];by_cases h:x=g
  ·subst h;rw[aw (by omega),cH,aC (by simp only[dR];omega)];simp
  ·rw[pY _ h];by_cases h1:g+1<=x/\x<g+1+r.length
   ·rw[aC h1,aC (by simp only[dR];omega),show x-g=(x-(g+1))+1 by omega];rfl
   ·rw[aw h1,aw (by simp only[dR];omega)]
def rG(tm:Nat->Value)(g:Nat)(v:Value)(r:List (Nat×Nat)):Nat->Value:=fun x=>if g<=x/\x<g+r.length then xL v (r.getD (x-g) (0,0))else tm x
def tg(σ:Nat->ST)(cs:List (K×E)):Option Nat->Nat->ST
 |none=>σ
 |some id=>aW σ (3*id+1) (.box cs)
def aN.ano(q:aN c F σ bm tm a w){g:Nat}(hg:∀x,ji g x->¬F x){r:List (Nat×Nat)}(hl:r.length<=qH){v:Value}(Y:LZ w.heap.size w' v r)(f:Option Nat){cs':List (K×E)}
  (hid:∀id,f=some id->∃cs,σ (3*id+1)=.box cs) (hfr:Fr c.B c.X w w') (Z:∀k,k<w.heap.size->(∀id,f=some id->k≠bm id)->w'.heap[k]? =w.heap[k]?)
  (ib:∀id M' tm',f=some id->(∀p,M' p->MM c.M0 bm tm σ p\/rR v r p)->tR c w' M' bm tm' id cs') (hno:∀x,¬ ∃z∈cs',z.1.has x) :
  aN c (fun x=>F x\/ji g x) (dq (tg σ cs' f) (ny g r)) bm (rG tm g v r) a w'/\(∀p,MM c.M0 bm (rG tm g v r) (dq (tg σ cs' f) (ny g r)) p->MM c.M0 bm tm σ p\/rR v r p):=by
 have V:∀t,tg σ cs' f (3*t)=σ (3*t):=fun t=>by cases f with|none=>rfl|some id=>exact PD _ _ _
 have W:∀t,tg σ cs' f (3*t+2)=σ (3*t+2):=fun t=>by cases f with|none=>rfl|some id=>exact mi _ _ _
 have X:∀id cs,tg σ cs' f (3*id+1)=.box cs->(f=some id/\cs=cs')\/(f≠some id/\σ (3*id+1)=.box cs):=fun id cs h=>by
  cases f with
  |none=>exact .inr ⟨by simp,h⟩
  |some i=>
   simp only[tg]at h;by_cases e:id=i
   ·subst e;rw[cH]at h;simp at h;exact .inl ⟨rfl,h.symm⟩
   ·rw[iW _ e]at h;exact .inr ⟨fun e'=>e (by simp at e';exact e'.symm),h⟩
 have O:∀id cs,tg σ cs' f (3*id+1)=.box cs->∃I,σ (3*id+1)=.box I:=fun id cs h=>by
  rcases X id cs h with⟨G,_⟩|⟨_,G⟩
  ·exact hid id G
  ·exact⟨cs,G⟩
 have j:∀x,g<=x/\x<g+r.length->∃y,r[x-g]? =some y/\r.getD (x-g) (0,0)=y/\y∈r:=fun x S=>by
  have:x-g<r.length:=by omega
  exact⟨r[x-g],bX this,by simp[List.getD,bX this],qj this⟩
 have N:∀x n,dq (tg σ cs' f) (ny g r) (3*x+2)=.live n->(∃y,r[x-g]? =some y/\y∈r/\(g<=x/\x<g+r.length)/\(⟨y.2,none⟩:LV)=n/\rG tm g v r x=xL v y)\/(¬(g<=x/\x<g+r.length)/\σ (3*x+2)=.live n/\rG tm g v r x=tm x):=fun x n h=>by
  rw[adz]at h;by_cases J:g<=x/\x<g+r.length
  ·obtain⟨y,G,H,L⟩:=j x J;rw[aC J,H]at h;simp at h;exact .inl ⟨y,G,L,J,h,by unfold rG;rw[aC J,H]⟩
  ·rw[aw J,W]at h;exact .inr ⟨J,h,aw J⟩
 have C:∀x,F x->rG tm g v r x=tm x:=fun x S=>aw fun J=>hg x ⟨J.1,by omega⟩ S;have j:∀p,MM c.M0 bm (rG tm g v r) (dq (tg σ cs' f) (ny g r)) p->MM c.M0 bm tm σ p\/rR v r p:=by
  rintro p (h|⟨id,cs,G,H⟩|⟨x,n,G,H⟩)
  ·exact .inl (.inl h)
  ·rw[G6]at G;obtain⟨I,L⟩:=O id cs G;exact .inl (.inr (.inl ⟨id,I,L,H⟩))
  ·rcases N x n G with⟨y,q1,q2,q3,q4,q5⟩|⟨q1,q2,q3⟩
   ·rw[<-q4]at H;exact .inr ⟨y,q2,by have:=Kg H;rwa[q5]at this⟩
   ·exact .inl (.inr (.inr ⟨x,n,q2,VN q3 (fun y Q=>C y (q.f1 (3*x+2) y (by rw[q2];exact Q))) H⟩))
 have M:∀y∈r,∀b o s len cap,xL v y=.slice (some ⟨b,o,s⟩) len cap->0<cap->w.heap.size<=b:=fun y Q b o s len cap B A=>(Y.1 y Q b o s len cap B A).2.1;have T:bQ w (MM c.M0 bm tm σ) w' (MM c.M0 bm (rG tm g v r) (dq (tg σ cs' f) (ny g r))):=fun p u l U=>by
  have A:=gm l;refine⟨?_,fun h=> ?_⟩
  ·rw[<-l];refine Df (Z _ A fun id l e=> ?_);obtain⟨cs,J⟩:=hid id l;exact U (.inr (.inl ⟨id,cs,J,e⟩))
  ·rcases j p h with h|⟨y,Q,h⟩
   ·exact U h
   ·obtain⟨o,s,len,cap,G,H⟩:=Ks h;have:=M y Q _ _ _ _ _ G H;omega
 refine⟨?_,j⟩;refine q.turn (fun t=>by rw[adA,V]) (fun x S=>⟨rfl,C x S⟩) (fun _ h=>.inl h) hfr T ?_ ?_ ?_ ?_ ?_ ?_ ?_ ?_
 ·intro id cs h;rw[G6]at h;rcases X id cs h with⟨G,rfl⟩|⟨G,H⟩
  ·exact ib id _ _ G j
  ·refine(q.box id cs H).keep T rfl (Z _ (q.box id cs H).lt fun i l e=> ?_) fun x S=>C x (q.f1 (3*id+1) x (by rw[H];exact S));obtain⟨I,J⟩:=hid i l;exact q.pJ id i cs I H J (fun e'=>G (by rw[e'];exact l)) e
 ·intro x n h;rcases N x n h with⟨y,q1,q2,q3,q4,q5⟩|⟨q1,q2,q3⟩
  ·subst q4;refine⟨fun b o s len cap B A=> ?_,(fun e j B=>by cases B),(fun e j T B=>by cases B)⟩;rw[q5]at B;obtain⟨j,T,U⟩:=Y.1 y q2 b o s len cap B A;exact⟨j,dK q.hB T,U⟩
  ·refine(q.live x n q2).keep (fun b T=>Z _ ((q.live x n q2).lt T) fun i l e=> ?_) q3 fun y Q=>C y (q.f1 (3*x+2) y (by rw[q2];exact Q));obtain⟨I,J⟩:=hid i l;exact q.lK i I x n b J q2 T e.symm
 ·intro i j l U h h' I;rw[G6]at h h';obtain⟨d,J⟩:=O i l h;obtain⟨d',X⟩:=O j U h';exact q.pJ i j d d' J X I
 ·intro i l x n b h S T;rw[G6]at h;obtain⟨d,J⟩:=O i l h;rcases N x n S with⟨y,q1,q2,q3,q4,q5⟩|⟨q1,q2,q3⟩
  ·subst q4;obtain⟨o,s,len,cap,B,A⟩:=x9 T;rw[q5]at B;have:=M y q2 b o s len cap B A;have:=(q.box i d J).lt;omega
  ·exact q.lK i d x n b J q2 ((ox q3 fun y Q=>C y (q.f1 (3*x+2) y (by rw[q2];exact Q))).1 T)
 ·intro x n y m b b' S Q I T U;rcases N x n S with⟨x1,q1,q2,q3,q4,q5⟩|⟨q1,q2,q3⟩<;>rcases N y m Q with⟨y1,p1,l,X,p4,p5⟩|⟨p1,l,X⟩
  ·subst q4 p4;obtain⟨o,s,len,cap,B,A⟩:=x9 T;obtain⟨o',s',S,cap',j,Q⟩:=x9 U;rw[q5]at B;rw[p5]at j;exact Y.2 _ _ x1 y1 q1 p1 (by omega) _ _ _ _ _ _ _ _ _ _ B A j Q
  ·subst q4;obtain⟨o,s,len,cap,B,A⟩:=x9 T;rw[q5]at B;have G:=M x1 q2 b o s len cap B A;have H:=(q.live y m l).lt ((ox X fun z j=>C z (q.f1 (3*y+2) z (by rw[l];exact j))).1 U);omega
  ·subst p4;obtain⟨o,s,len,cap,B,A⟩:=x9 U;rw[p5]at B;have G:=M y1 l b' o s len cap B A;have H:=(q.live x n q2).lt ((ox q3 fun z j=>C z (q.f1 (3*x+2) z (by rw[q2];exact j))).1 T);omega
  ·exact q.lT x n y m b b' q2 l I ((ox q3 fun z j=>C z (q.f1 (3*x+2) z (by rw[q2];exact j))).1 T) ((ox X fun z j=>C z (q.f1 (3*y+2) z (by rw[l];exact j))).1 U)
 ·intro l x h;refine .inl ?_;have L:l=3*(l/3)\/l=3*(l/3)+1\/l=3*(l/3)+2:=by omega
  rcases L with e|e|e
  ·rw[e,adA,V]at h;exact q.f1 _ x h
  ·rw[e,G6]at h;generalize L:tg σ cs' f (3*(l/3)+1)=j at h;cases f with
   |none=>rw[<-L]at h;exact q.f1 _ x h
   |some id=>
    by_cases e':l/3=id
    ·simp only[tg]at L;rw[e',cH]at L;subst L;exact absurd h (hno x)
    ·simp only[tg]at L;rw[iW _ e']at L;rw[<-L]at h;exact q.f1 _ x h
  ·rw[e,adz]at h;split at h
   ·obtain⟨_,_,h⟩:=h;cases h
   ·rw[W]at h;exact q.f1 _ x h
 ·intro id cs h;rw[G6]at h;obtain⟨d,J⟩:=O id cs h;exact .inl (q.f2 id d J)
 ·intro x n h;rcases N x n h with⟨y,q1,q2,q3,q4,q5⟩|⟨q1,q2,q3⟩
  ·exact .inr ⟨q3.1,by omega⟩
  ·exact .inl (q.f3 x n q2)
def adw:∀{t:List (Nat×Nat)} {g p x:Nat},uJ g t p=.own x->∃i y,t[i]? =some y/\y.1=p/\x=g+i
 |[],g,p,x,h=>by simp[uJ]at h
 |(q,m)::r,g,p,x,h=>by
  simp only[uJ]at h;cases e:Nat.beq q p with
  |true=> rw[e]at h;simp only[gD,KK.own.injEq]at h;exact⟨0,(q,m),rfl,gI e,by omega⟩
  |false=> rw[e]at h;simp only[yh]at h;obtain⟨i,y,h1,h2,b⟩:=adw h;exact⟨i+1,y,by simpa using h1,h2,by omega⟩
def anz{t:List (Nat×Nat)}{p:Nat}{u:Value}(f:(nQ v)[p]? =some u):tC (rG tm g v t) (uJ g t p) u:=by
 cases h:uJ g t p with
 |d=>trivial
 |full=>
  exfalso;have:∀(t:List (Nat×Nat)) (g:Nat),uJ g t p≠.full:=by
   intro t;induction t with
   |nil=>intro g h;simp[uJ]at h
   |cons a r ih=>
    intro g h;obtain⟨q,m⟩:=a;simp only[uJ]at h;cases e:Nat.beq q p with
    |true=>rw[e]at h;simp at h
    |false=>rw[e]at h;exact ih _ h
  exact this t g h
 |own x=> obtain⟨i,y,b,j,rfl⟩:=adw h;have k:i<t.length:=(dh.1 b).1;show u=rG tm g v t (g+i);unfold rG;rw[aC (by omega),show g+i-g=i by omega];simp only[List.getD,b,j0,xL,j,f]
def anB{vt:VT}{e:E}{w:World}(hty:YN vt (e.den c.env))(b:R w M (e.den c.env) v):cB w M (rG tm g v r) c.env (G5 g r vt) e v:=by
 have l:∀(n j:Nat) (kk:KK) (u:Value),((List.range n).map (uJ g r))[j]? =some kk->(nQ v)[j]? =some u->tC (rG tm g v r) kk u:=fun n j kk u d f=>by
  simp only[iw,kN]at d;obtain⟨i,h,rfl⟩:=d;have:i=j:=by rw[dh]at h;obtain⟨_,q2⟩:=h;simpa using q2.symm
  subst this;exact anz f
 rcases vt with (t|s)|k
 ·exact anh b (anz (by rw[agk hty b];rfl))
 ·exact⟨b,l _⟩
 ·exact⟨b,l _⟩
def anA{x:Nat}{vt:VT}(h:(G5 g r vt).has x):g<=x/\x<g+r.length:=by
 have key:∀p,uJ g r p=.own x->g<=x/\x<g+r.length:=fun p b=>by obtain⟨i,y,d,_,rfl⟩:=adw b;have:i<r.length:=(dh.1 d).1;omega
 have l:∀n,KK.own x∈(List.range n).map (uJ g r)->g<=x/\x<g+r.length:=fun n e=>by obtain⟨p,_,b⟩:=fJ.1 e;exact key p b
 rcases vt with (t|s)|v
 ·exact key 0 (agp h)
 ·exact l _ h
 ·exact l _ h
def adx:∀{t:List (Nat×Nat)} {g:Nat},∀p∈ny g t,∀d,p.1≠3*d
 |[],_,p,h,_=>by simp[ny]at h
 |(q,m)::r,g,p,h,d=>by
  simp only[ny,fI]at h;rcases h with rfl|h
  ·show 3*g+2≠3*d;omega
  ·exact adx p h d
def aGG(i:aN c F σ bm tm a w){g n:Nat}(j:∀x,ji g x->¬F x){o:Oper}{cl:Call}{f:FuncId}(ho:o.op=.call cl)(l:cl.callee=.value (.func f))(hd:∀d,o.dst=some d->d<c.nt){es:List E}{Ts:List Nat}{vt:VT}{r:List (Nat×Nat)}(C:r.length<=qH)
  (m:nO tb Γ [] σ cl.args.toList Ts=some es) (G:jL P c.env n (.cF f none es vt [] r)) (K:Act->World->Prop) (Q:Exit->Act->World->Prop)
  (H:∀q tm' A w',aN c (fun x=>F x\/ji g x) (dq σ (wv o.dst (.v [] (G5 g r vt) (.var n))++ny g r)) q tm' A w'->K A w'):o.wp P a w K Q:=by
 obtain⟨t,I,b⟩:=G;have s:=Fq i (cR _) _ _ _ m;unfold Oper.wp;rw[G7 I ho l];simp only[Oper.upon];have:=b w (MM c.M0 bm tm σ) 0 (cl.args.toList.map a.eval) i.cM s (fun V h=>by simp at h);simp only[Zf]at this;have e:(cl.args.toList.map a.eval).toArray=cl.args.map a.eval:=by rw[<-iX];simp
 rw[e]at this;refine this.mono ?_;rintro W w' ⟨v,rfl,J,B,L,_⟩;obtain⟨S,M⟩:=i.ano j C L none (cs':=[]) (fun id h=>by simp at h) (zt B.Eg i.hB) (fun k y _=>B.block k y (by simp)) (fun id X tm' h=>by simp at h) (fun x ⟨z,N,_⟩=>by simp at N);refine H bm (rG tm g v r) _ w' ?_;rw[Cs adx];have y:bQ w' (fun p=>MM c.M0 bm tm σ p\/rR v r p) w' (MM c.M0 bm (rG tm g v r) (dq σ (ny g r))):=fun p u O T=>⟨O,fun h=>T (M p h)⟩;refine S.nY hd (fj (cR _) (anB (vt:=vt) (e:=.var n) t (R.keep y _ _ J))) fun x U=>.inr ?_;have:=anA (show(G5 g r vt).has x from U);exact⟨this.1,by omega⟩
def ai9{env:List D}(d:bV tb.tab Γ env):∀(gs:Gd),gs.all (fun x=>gV .bool (x.1.inf tb.tab Γ))=true->(((Bo gs).den env).kG=true↔cP env gs)
 |[],_=>by simp[Bo,E.den,cP]
 |(c,b)::r,h=>by
  simp only[List.all_cons,aX]at h;have ih:=ai9 d r h.2;have g:c.inf tb.tab Γ=some (.one (.c .bool)):=by simpa[gV]using h.1
  obtain⟨x,f⟩:∃x,c.den env=.bool x:=yx (eG d c _ g);have e:cP env ((c,b)::r)↔c.den env=.bool b/\cP env r:=by simp[cP]
  rw[e, <-ih,f];cases b<;>simp[Bo,E.den,f]
def anf{M:Addr->Prop}{g:E}(hg:(g.den c.env).kG=true):∀{xs s:List (K×E)} {vs:List Value},xs.length=s.length->dm w M tm c.env xs vs->dm w M tm c.env (z8 g xs s) vs
 |[],[],_,_,h=>h
 |x::r,y::q,vs,l,⟨v,z,e,h1,h2⟩=>⟨v,z,e,by simp only[cB,E.den,hg,gD];exact h1.rd,anf hg (by simpa using l) h2⟩
 |[],_::_,_,l,_=>by simp at l
 |_::_,[],_,l,_=>by simp at l
def ang{M:Addr->Prop}{g:E}(hg:(g.den c.env).kG=false):∀{xs s:List (K×E)} {vs:List Value},xs.length=s.length->dm w M tm c.env s vs->dm w M tm c.env (z8 g xs s) vs
 |[],[],_,_,h=>h
 |x::r,y::q,vs,l,⟨v,z,e,h1,h2⟩=>⟨v,z,e,by simp only[cB,E.den,hg,yh];exact h1.rd,ang hg (by simpa using l) h2⟩
 |[],_::_,_,l,_=>by simp at l
 |_::_,[],_,l,_=>by simp at l
def acP(g:E):∀(xs s:List (K×E)) (q:Nat),¬ ∃z∈z8 g xs s,z.1.has q
 |[],_,_,⟨z,h,_⟩=>by simp[z8]at h
 |_::_,[],_,⟨z,h,_⟩=>by simp[z8]at h
 |x::r,y::p,q,⟨z,h,b⟩=>by
  simp only[z8,fI]at h;rcases h with rfl|h
  ·cases b
  ·exact acP g r p q ⟨z,h,b⟩
def ak4:∀{cs:List (K×E)} {nb:List CT},JX tb.tab Γ cs=some nb->nb.length=cs.length
 |[],nb,h=>by simp[JX]at h;subst h;rfl
 |(k,e)::r,nb,h=>by
  unfold JX at h;split at h
  ·rename_i t s h1 h2;simp only[aS]at h;subst h;simp[ak4 h2]
  ·simp at h
def ao4:∀(nb:List CT) (m:Nat),(vars m nb).length=nb.length
 |[],_=>rfl
 |_::r,m=>by simp[vars,ao4 r (m+1)]
def avM{id:Nat}{cs cs':List (K×E)}(b:σ (3*id+1)=.box cs){M0:Addr->Prop}:MM M0 bm tm (aW σ (3*id+1) (.box cs'))=MM M0 bm tm σ:=by
 funext p;simp only[MM,mi];apply propext;constructor
 ·rintro (h|⟨i,q,q1,q2⟩|h)
  ·exact .inl h
  ·by_cases e:i=id
   ·subst e;exact .inr (.inl ⟨i,cs,b,q2⟩)
   ·rw[iW _ e]at q1;exact .inr (.inl ⟨i,q,q1,q2⟩)
  ·exact .inr (.inr h)
 ·rintro (h|⟨i,q,q1,q2⟩|h)
  ·exact .inl h
  ·by_cases e:i=id
   ·subst e;exact .inr (.inl ⟨i,_,cH _ _ _,q2⟩)
   ·exact .inr (.inl ⟨i,q,by rw[iW _ e];exact q1,q2⟩)
  ·exact .inr (.inr h)
def aGF(s:aN c F σ bm tm a w)(U:bV tb.tab Γ c.env){g:Nat}{o:Oper}{cl:Call}{f:FuncId}{ti:TI}{rt:List (Nat×Nat)}(ho:o.op=.call cl)(V:cl.callee=.value (.func f))(hd:∀d,o.dst=some d->d<c.nt)
  {x:Operand} {xs:List Operand} {T:Nat} {Ts:List Nat} (W:cl.args.toList=x::xs) {g':Gd} {id:Nat} (n:J0 (aY tb σ T x)=some (g',id)) {C:bq}
  (h:Jj tb Γ gs o.dst σ rt ti f xs Ts g' id=some C):oB P c F σ bm tm a w g gs Γ.length o C:=by
 unfold Jj at h;split at h
 ·rename_i z y b X;split at h
  ·rename_i G Y;split at h
   ·rename_i i;obtain⟨j,Z,H⟩:=i;simp only[aS]at h;subst h;have l:(vars (Γ.length+1) G).length=z.length:=by rw[ao4,ak4 Y]
    have I:=ai9 U gs H;have J:cP c.env gs->a.eval x=.pointer (some ⟨bm id,0,none⟩):=fun t=>by
     unfold J0 at n;split at n
     ·rename_i m j i;simp only[aS,gj]at n;obtain⟨rfl,rfl⟩:=n;exact(nW s i).1.1 (zP Z t)
     ·simp at n
    obtain⟨Y,Z,j,r,B⟩:=s.box id z b;have H:∀L,Fr w.heap.size (some (bm id)) w L->Fr c.B c.X w L:=fun L m=>⟨m.os,m.tape,m.output,m.size,fun k A i=>m.block k (dS A s.hB) (by
     rintro⟨rfl⟩;rcases B with B|B
     ·omega
     ·exact i B.2.symm)⟩
    refine⟨fun t M K Q hK=> ?_,fun hn=> ?_⟩
    ·have e:(Value.pointer (some ⟨bm id,0,none⟩)::xs.map a.eval).toArray=cl.args.map a.eval:=by rw[<-iX];simp[W,J t]
     have u:=Fq s t _ _ _ X;have p:jL P c.env Γ.length (.call gs f (some (z.map (·.2))) y ti.vt G):=M _ (by simp);obtain⟨y,N⟩:=p t;unfold Oper.wp;rw[G7 y ho V];simp only[Oper.upon];have:=N w (MM c.M0 bm tm σ) (bm id) (xs.map a.eval) s.cM u (fun y p=>by simp only[j6,aS]at p;subst p;exact⟨Y,Z,j,r.rs,B.elim (fun h=>dK s.m0.2.2.1 h) (fun h=>s.m0.2.2.2 _ h.2),fun p n=>.inr (.inl ⟨id,z,b,n⟩)⟩)
     simp only[j6]at this;rw[e]at this;refine this.mono ?_;rintro p L ⟨v,rfl,N,m,y⟩;obtain⟨J,X,p,u⟩:=y rfl;have y:=s.We (cs':=z8 (Bo gs) (vars (Γ.length+1) G) z) b (H L m) (fun k A O=>m.block k A (by simpa using O)) (fun H M A=>by subst M;exact⟨J,X,p,anf (I.2 t) l (Kk G _ J u),B⟩) fun q S=>absurd S (acP _ _ _ _)
     refine hK bm tm _ _ ?_;rw[Pz];refine aN.mono (F:=F) (y.nY hd ⟨fun _=> ?_,fun h=>absurd t h⟩ fun x i=>by simp[cE,Go.Proofs.YtoomhbopolalnabGreatDoor.K.has]at i) fun x i=>.inl i;rw[avM b];simpa[cB,E.den]using N
    ·have m:((Bo gs).den c.env).kG=false:=by
      cases S:((Bo gs).den c.env).kG with
      |false=>rfl
      |true=>exact absurd (I.1 S) hn
     have y:=s.We (cs':=z8 (Bo gs) (vars (Γ.length+1) G) z) b ⟨rfl,rfl,rfl,bM _,fun _ _ _=>rfl⟩ (fun k A O=>rfl) (fun H M A=>by subst M;exact⟨Y,Z,j,ang m l r,B⟩) fun q S=>absurd S (acP _ _ _ _)
     rw[Pz];exact aN.mono (F:=F) (y.nY hd (O8 rfl hn) fun x i=>by simp[cE,Go.Proofs.YtoomhbopolalnabGreatDoor.K.has]at i) fun x i=>.inl i
   ·simp at h
  ·simp at h
 ·simp at h
def aGE(s:aN c F σ bm tm a w)(ax:bV tb.tab Γ c.env){g n:Nat}(mH:∀x,ji g x->¬F x){o:Oper}{cl:Call}{f:FuncId}{ti:TI}{H:List (Nat×Nat)}(ho:o.op=.call cl)(m:cl.callee=.value (.func f))(hd:∀d,o.dst=some d->d<c.nt)(r:n=Γ.length){aQ:bq}
  (h:Ji tb Γ gs o.dst σ g H ti f cl.args.toList cl.argTypes.toList=some aQ):oB P c F σ bm tm a w g gs n o aQ:=by
 subst r;unfold Ji at h;split at h
 ·rename_i x xs T b I hTs;split at h
  ·rename_i b id j;split at h
   ·rename_i N es b J;split at h
    ·rename_i C l;have p:a.eval x=.pointer (some ⟨bm id,0,none⟩):=by
      unfold J0 at j;split at j
      ·rename_i y t l;simp only[aS,gj]at j;obtain⟨rfl,rfl⟩:=j;exact(nW s l).1.1 (cR _)
      ·simp at j
     obtain⟨vs,T0,O,S,B⟩:=s.box id N b;have hid:bm id<w.heap.size:=(s.box id N b).lt;have T:∀G,Fr w.heap.size (some (bm id)) w G->Fr c.B c.X w G:=fun G t=>⟨t.os,t.tape,t.output,t.size,fun k U l=>t.block k (dS U s.hB) (by
      rintro⟨rfl⟩;rcases B with B|B
      ·omega
      ·exact l B.2.symm)⟩
     have y:=Fq s (cR _) _ _ _ J;have e:(Value.pointer (some ⟨bm id,0,none⟩)::xs.map a.eval).toArray=cl.args.map a.eval:=by rw[<-iX];simp[I,p]
     split at h
     ·simp only[aS]at h;subst h;refine⟨fun z L K Q M=> ?_,fun r=>absurd (cR _) r⟩;have V:jL P c.env Γ.length (.call [] f (some (N.map (·.2))) es ti.vt C):=L _ (by simp);obtain⟨hf,A⟩:=V z;unfold Oper.wp;rw[G7 hf ho m];simp only[Oper.upon];have:=A w (MM c.M0 bm tm σ) (bm id) (xs.map a.eval) s.cM y (fun cs' h'=>by simp only[j6,aS]at h';subst h';exact⟨vs,T0,O,S.rs,B.elim (fun h=>dK s.m0.2.2.1 h) (fun h=>s.m0.2.2.2 _ h.2),fun p j=>.inr (.inl ⟨id,N,b,j⟩)⟩)
      simp only[j6]at this;rw[e]at this;refine this.mono ?_;rintro e' G ⟨v,rfl,h1,t,h3⟩;obtain⟨us,T1,W,X⟩:=h3 rfl;have hsb:=s.We (cs':=vars (Γ.length+1) C) b (T G t) (fun k U Y=>t.block k U (by simpa using Y)) (fun M' Z U=>by subst Z;exact⟨us,T1,W,Kk C _ us X,B⟩) fun q hq=>absurd hq (PI _ _ _)
      refine M bm tm _ _ ?_;rw[Pz];refine aN.mono (F:=F) (hsb.nY hd (fj (cR _) ?_) fun x l=>by simp[cE,Go.Proofs.YtoomhbopolalnabGreatDoor.K.has]at l) fun x l=>.inl l;have hM:MM c.M0 bm tm (aW σ (3*id+1) (.box (vars (Γ.length+1) C)))=MM c.M0 bm tm σ:=by
       funext p;simp only[MM,mi];apply propext;constructor
       ·rintro (h|⟨i,q,q1,q2⟩|h)
        ·exact .inl h
        ·by_cases e:i=id
         ·subst e;exact .inr (.inl ⟨i,N,b,q2⟩)
         ·rw[iW _ e]at q1;exact .inr (.inl ⟨i,q,q1,q2⟩)
        ·exact .inr (.inr h)
       ·rintro (h|⟨i,q,q1,q2⟩|h)
        ·exact .inl h
        ·by_cases e:i=id
         ·subst e;exact .inr (.inl ⟨i,_,cH _ _ _,q2⟩)
         ·exact .inr (.inl ⟨i,q,by rw[iW _ e];exact q1,q2⟩)
        ·exact .inr (.inr h)
      rw[hM];simpa[cB,E.den]using h1
     ·split at h
      ·rename_i hl;simp only[aS]at h;subst h;refine⟨fun z L K Q M=> ?_,fun r=>absurd (cR _) r⟩;have V:jL P c.env Γ.length (.cF f (some (N.map (·.2))) es ti.vt C H):=L _ (by simp);obtain⟨hsh,hf,A⟩:=V;unfold Oper.wp;rw[G7 hf ho m];simp only[Oper.upon];have:=A w (MM c.M0 bm tm σ) (bm id) (xs.map a.eval) s.cM y (fun cs' h'=>by simp only[j6,aS]at h';subst h';exact⟨vs,T0,O,S.rs,B.elim (fun h=>dK s.m0.2.2.1 h) (fun h=>s.m0.2.2.2 _ h.2),fun p j=>.inr (.inl ⟨id,N,b,j⟩)⟩)
       simp only[j6]at this;rw[e]at this;refine this.mono ?_;rintro e' G ⟨v,rfl,h1,t,A,h3⟩;obtain⟨us,T1,W,X⟩:=h3 rfl;obtain⟨O,y⟩:=s.ano mH hl A (some id) (cs':=vars (Γ.length+1) C) (fun i h=>by simp at h;subst h;exact⟨N,b⟩) (T G t) (fun k U Y=>t.block k U (by simpa using Y id rfl))
        (fun i M' b h Z=>by simp at h;subst h;exact⟨us,T1,W,Kk C _ us (Rs.keep (fun p u j r=>⟨j,fun h=>r (Z p h)⟩) _ _ X),B⟩) (fun x=>PI _ _ x)
       refine M bm (rG tm g v H) _ G ?_;have b:∀p∈((3*id+1,ST.box (vars (Γ.length+1) C))::ny g H),∀d,p.1≠3*d:=fun p j d=>by
        rcases fI.1 j with rfl|j
        ·show 3*id+1≠3*d;omega
        ·exact adx p j d
       rw[Cs b];show aN _ _ (dq (dq (tg σ (vars (Γ.length+1) C) (some id)) (ny g H)) _) _ _ _ _;have U:bQ G (fun p=>MM c.M0 bm tm σ p\/rR v H p) G (MM c.M0 bm (rG tm g v H) (dq (tg σ (vars (Γ.length+1) C) (some id)) (ny g H))):=fun p u j r=>⟨j,fun h=>r (y p h)⟩;refine O.nY hd (fj (cR _) (anB (vt:=ti.vt) (e:=.var Γ.length) hsh (R.keep U _ _ h1))) fun x l=>.inr ?_;have:=anA (show(G5 g H ti.vt).has x from l);exact⟨this.1,by omega⟩
      ·simp at h
    ·simp at h
   ·exact aGF s ax ho m hd I j h
  ·split at h
   ·rename_i es J;split at h
    ·rename_i b;simp only[aS]at h;subst h;obtain⟨rfl,_,hl⟩:=b;exact⟨fun z L K Q M=>aGG s mH ho m hd hl J (L _ (by simp)) K Q M,fun r=>absurd (cR _) r⟩
    ·simp only[aS]at h;subst h;refine⟨fun z L K Q M=>anQ (vt:=ti.vt) s z ho m hd J (L _ (by simp)) K Q M,fun z=> ?_⟩;exact aN.mono (F:=F) (s.nY hd (O8 rfl z) fun x l=>by simp[cE,Go.Proofs.YtoomhbopolalnabGreatDoor.K.has]at l) fun x l=>.inl l
   ·simp at h
 ·rename_i I hTs;simp only[aS]at h;subst h;refine⟨fun z L K Q M=>anQ (vt:=ti.vt) (es:=[]) (Ts:=[]) s z ho m hd (by rw[I];exact(rfl:nO tb Γ gs σ [] []=some [])) (L _ (by simp)) K Q M,fun z=> ?_⟩;exact aN.mono (F:=F) (s.nY hd (O8 rfl z) fun x l=>by simp[cE,Go.Proofs.YtoomhbopolalnabGreatDoor.K.has]at l) fun x l=>.inl l
 ·simp at h
def aGl(h:rW P f=true){o:Oper}{cl:Call}{t:Nat}{ps:Array Value}(ho:o.op=.call cl)(l:cl.callee=.value (.tmp t))(v:a.eval (.tmp t)=.func (.func f) #[] ps):(execOp a.eval o).run P w=.ok (.enter f (cl.args.map a.eval++ps)) w:=by
 unfold rW at h;split at h
 ·rename_i fn n;simp only[aX,qi]at h;obtain⟨g,i⟩:=h;obtain⟨b,j⟩:=Ml.1 i;have d:(fn.name= "runtime.NumGoroutine")=False:=by apply eq_false;intro e;rw[e]at g;exact absurd g (by decide)
  simp[execOp,ho,resolve,l,v,Deferred.ofValue,invoke,callFunc,n,j,d]
 ·simp at h
def aGH(s:aN c F σ bm tm a w)(G:bV tb.tab Γ c.env){g n:Nat}{o:Oper}{cl:Call}{t:Nat}{ti:TI}(ho:o.op=.call cl)(l:cl.callee=.value (.tmp t))(hd:∀d,o.dst=some d->d<c.nt)(H:n=Γ.length){j:bq}
  (h:TN tb Γ gs o.dst σ ti (aY tb σ 0 (.tmp t)) cl.args.toList cl.argTypes.toList=some j):oB P c F σ bm tm a w g gs n o j:=by
 subst H;unfold TN at h;split at h
 ·rename_i k e I b m;split at h
  ·simp only[aS]at h;subst h;refine⟨fun i J K Q L=> ?_,fun i=> ?_⟩
   ·have q:jL P c.env Γ.length (.lJ gs e I ti.vt):=J _ (by simp);obtain⟨f,B,p,M,u⟩:=q i;have C:=((dN s b).1 i).rd;rw[p]at C;obtain⟨y,z,A⟩:=C;have r:=Fq s i _ _ _ m;unfold Oper.wp;rw[aGl M ho l z];simp only[Oper.upon];have:=u w (MM c.M0 bm tm σ) (cl.args.toList.map a.eval) y.toList s.cM r A;have N:(cl.args.toList.map a.eval++y.toList).toArray=cl.args.map a.eval++y:=by rw[<-iX];simp
    rw[N]at this;refine this.mono ?_;rintro T U ⟨v,rfl,O,S⟩;exact L bm tm _ _ (((s.grow S).nY hd (fj (k:=.d) (e:=.var Γ.length) i O) fun x b=>by simp[cE,Go.Proofs.YtoomhbopolalnabGreatDoor.K.has]at b).mono fun x b=>.inl b)
   ·exact aN.mono (F:=F) (s.nY hd (O8 rfl i) fun x b=>by simp[cE,Go.Proofs.YtoomhbopolalnabGreatDoor.K.has]at b) fun x b=>.inl b
  ·simp at h
 ·simp at h
def ags{id:Nat}{p:Addr}(h:MM c.M0 bm tm (aW σ (3*id+1) .un) p):MM c.M0 bm tm σ p:=by
 rcases h with h|⟨i,q,b,d⟩|⟨x,m,b,d⟩
 ·exact .inl h
 ·by_cases e:i=id
  ·subst e;rw[cH]at b;cases b
  ·rw[iW _ e]at b;exact .inr (.inl ⟨i,q,b,d⟩)
 ·rw[mi]at b;exact .inr (.inr ⟨x,m,b,d⟩)
def aN.azH(s:aN c F σ bm tm a w){id:Nat}{cs:List (K×E)}(hid:σ (3*id+1)=.box cs)(I:id≠0) :
  aN c F (aW σ (3*id+1) .un) bm tm a w/\Rw w (MM c.M0 bm tm (aW σ (3*id+1) .un)) ((cs.map (·.2)).map (·.den c.env)) (bm id) 0:=by
 have z:bQ w (MM c.M0 bm tm σ) w (MM c.M0 bm tm (aW σ (3*id+1) .un)):=fun p v J L=>⟨J,fun h=>L (ags h)⟩;have f:∀i q,aW σ (3*id+1) .un (3*i+1)=.box q->i≠id/\σ (3*i+1)=.box q:=fun i q h=>by
  by_cases e:i=id
  ·subst e;rw[cH]at h;cases h
  ·rw[iW _ e]at h;exact⟨e,h⟩
 refine⟨s.turn (fun t=>PD _ _ _) (fun _ _=>⟨rfl,rfl⟩) (fun _ h=>h) (Fr.refl _ _ _) z (fun i q h=> ?_) (fun g n h=> ?_) (fun i M q N h u k=> ?_) (fun i q g n b h H A=> ?_) (fun g n U V b W h u k A B=> ?_) (fun l g h=> ?_) (fun i q h=> ?_) (fun g n h=> ?_),?_⟩
 ·exact(s.box i q (f i q h).2).keep z rfl rfl fun _ _=>rfl
 ·rw[mi]at h;exact s.live g n h
 ·exact s.pJ _ _ _ _ (f i q h).2 (f M N u).2 k
 ·rw[mi]at H;exact s.lK _ _ _ _ _ (f i q h).2 H A
 ·rw[mi]at h u;exact s.lT _ _ _ _ _ _ h u k A B
 ·by_cases e:l=3*id+1
  ·subst e;rw[cH]at h;exact h.elim
  ·rw[fZ _ _ e]at h;exact s.f1 l g h
 ·exact s.f2 _ _ (f i q h).2
 ·rw[mi]at h;exact s.f3 g n h
 ·obtain⟨Y,T,o,r,X⟩:=s.box id cs hid;have Z:c.B<=bm id:=X.elim (fun h=>h) fun h=>absurd h.1 I;have C:=Rs.keep z _ _ r.rs;refine CV fun i d O=> ?_;obtain⟨v,Q,S⟩:=C.get O;refine⟨v,?_,?_,S⟩
  ·rw[nJ,yg w _ i _ T _ o];simpa using Q
  ·rintro (h|⟨j,q,y,G⟩|⟨x,m,y,G⟩)
   ·have:=s.m0.1 _ h;simp only at this;omega
   ·obtain⟨q1,q2⟩:=f j q y;exact s.pJ _ _ _ _ hid q2 (ye q1) G
   ·rw[mi]at y;exact s.lK id cs x m _ hid y (OT G) rfl
def Jd:∀{d:List Nat} {σ:Nat->ST} {l:Nat},(∀id∈d,l≠3*id+1)->dq σ (rZ d) l=σ l
 |[],_,_,_=>rfl
 |id::r,σ,l,h=>by show dq (aW σ (3*id+1) .un) (rZ r) l=_;rw[Jd fun i b=>h i (by simp[b]),fZ _ _ (h id (by simp))]
def aal:∀{d:List Nat} {σ:Nat->ST} {l:Nat},(∃id∈d,l=3*id+1)->dq σ (rZ d) l=.un
 |[],_,_,h=>by simp at h
 |id::r,σ,l,h=>by
  show dq (aW σ (3*id+1) .un) (rZ r) l=_;by_cases f:∃id∈r,l=3*id+1
  ·exact aal f
  ·rw[Jd fun i b e=>f ⟨i,b,e⟩];obtain⟨i,b,e⟩:=h;rcases fI.1 b with rfl|b
   ·subst e;exact cH _ _ _
   ·exact absurd ⟨i,b,e⟩ f
def aij{id:Nat}{d:List Nat}:dq σ (rZ (id::d))=aW (dq σ (rZ d)) (3*id+1) .un:=by
 funext l;by_cases h:∃i∈id::d,l=3*i+1
 ·rw[aal h];simp only[aW];split
  ·rfl
  ·rename_i e;obtain⟨i,b,rfl⟩:=h;rcases fI.1 b with rfl|b
   ·exact absurd rfl e
   ·rw[aal ⟨i,b,rfl⟩]
 ·rw[Jd fun i b e=>h ⟨i,b,e⟩,fZ _ _ (fun e=>h ⟨id,by simp,e⟩),Jd fun i b e=>h ⟨i,by simp[b],e⟩]
def ahU(b:bV tb.tab Γ c.env){f:FuncId}:∀(xs:List Operand) (d:List Nat) (e:E) (s:List Nat) (g:E) (vs:List Value),Bh tb.tab Γ σ xs d e=some (g,s)->aN c F (dq σ (rZ d)) bm tm a w ->
  R w (MM c.M0 bm tm (dq σ (rZ d))) (e.den c.env) (.func (.func f) #[] vs.toArray)->aN c F (dq σ (rZ s)) bm tm a w/\R w (MM c.M0 bm tm (dq σ (rZ s))) (g.den c.env) (.func (.func f) #[] (vs++xs.map a.eval).toArray)
 |[],d,e,s,g,vs,h,l,m=>by simp only[Bh,aS,gj]at h;obtain⟨rfl,rfl⟩:=h;simpa using ⟨l,m⟩
 |x::xs,d,e,s,g,vs,h,l,m=>by
  cases x with
  |tmp t=>
   simp only[Bh]at h;split at h
   ·rename_i id o;split at h
    ·rename_i C G;split at h
     ·rename_i H;obtain⟨q,n⟩:=H;have j:id∉d:=fun I=>by
       have:d.contains id=true:=by simpa using I
       rw[this]at n;simp at n
      have hid:dq σ (rZ d) (3*id+1)=.box C:=by rw[Jd fun i J e=>j (by rw[show id=i by omega];exact J)];exact G
      obtain⟨z,A⟩:=l.azH hid q;rw[<-aij]at z A;have L:bQ w (MM c.M0 bm tm (dq σ (rZ d))) w (MM c.M0 bm tm (dq σ (rZ (id::d)))):=fun p v o M=>⟨o,fun h=>M (by rw[aij]at h;exact ags h)⟩;have u:a.eval (.tmp t)=.pointer (some ⟨bm id,0,none⟩):=by have:=l.tmps t;rw[Jd fun i _=>by omega,o]at this;exact this.1 (cR _)
      have r:=R.keep L _ _ m;refine(ahU (f:=f) b xs (id::d) _ s g (vs++[a.eval (.tmp t)]) h z ?_).imp (fun h=>h) fun N=> ?_
      ·simp only[E.den,TE b];revert r;generalize e.den c.env=x;intro r;cases x with
       |fn O B=> obtain⟨Q,k,y⟩:=r;simp only[Value.func.injEq,Fn.func.injEq]at k;obtain⟨rfl,_,rfl⟩:=k;refine⟨_,rfl,?_⟩;rw[u];exact nE.snoc A (by simpa using y)
       |bool _=>cases r
       |int _ _=>obtain⟨r,_⟩:=r;cases r
       |str _=>obtain⟨r,_⟩:=r;cases r
       |agg _=>obtain⟨_,r,_⟩:=r;cases r
       |aU _=>obtain⟨_,r,_⟩:=r;cases r
       |sl _=>obtain⟨_,_,_,r,_⟩:=r;cases r
       |mem _=>obtain⟨_,_,r,_⟩:=r;cases r
       |un=>exact r.elim
      ·simpa using N
     ·simp at h
    ·simp at h
   ·simp at h
  |_=>simp[Bh]at h
def azG{i:List Nat}:∀p∈rZ i,∀d,p.1≠3*d:=fun p h d=>by obtain⟨id,_,rfl⟩:=fJ.1 h;show 3*id+1≠3*d;omega
def aG0(q:aN c F σ bm tm a w)(k:bV tb.tab Γ c.env){g n:Nat}{o:Oper}{f:FuncId}{first p:Array Operand}(ho:o.op=.makeFunc (.func f) first p)(hd:∀d,o.dst=some d->d<c.nt){b:bq}
  (h:Jn tb.tab Γ gs o.dst σ f first.toList p.toList=some b):oB P c F σ bm tm a w g gs n o b:=by
 unfold Jn at h;split at h
 ·rename_i i;split at h
  ·rename_i e s j;split at h
   ·simp only[aS]at h;subst h;refine⟨fun B _ K Q t=> ?_,fun u=>absurd (cR _) u⟩;have l:R w (MM c.M0 bm tm (dq σ (rZ []))) ((E.fn0 f).den c.env) (.func (.func f) #[] ([]:List Value).toArray):=⟨#[],rfl,rfl⟩;obtain⟨v,y⟩:=ahU k p.toList [] (.fn0 f) s e [] j q l;have r:(execOp a.eval o).run P w=.ok (.value (.func (.func f) #[] (p.toList.map a.eval).toArray)) w:=by
     have z:first=#[]:=by rw[<-iX];simpa using i
     have A:(p.toList.map a.eval).toArray=p.map a.eval:=by rw[<-iX];simp
     rw[A];simp[execOp,ho,z,Instr.makeFunc]
    unfold Oper.wp;rw[r];refine t bm tm _ _ ?_;rw[Cs azG];refine aN.mono (F:=F) (v.nY hd (fj (k:=.d) (cR _) (by simpa[cB]using y)) fun x m=>by simp[cE,Go.Proofs.YtoomhbopolalnabGreatDoor.K.has]at m) fun x m=>.inl m
   ·simp at h
  ·simp at h
 ·simp at h
end
end Go.Proofs.YtoomhbopolalnabGreatDoor
