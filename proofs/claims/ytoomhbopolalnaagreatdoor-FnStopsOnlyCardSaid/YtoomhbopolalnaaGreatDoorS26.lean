/- What the reference draws where it draws a registry: it is one. -/
import Derived.Test.YtoomhbopolalnaaGreatDoorS25
set_option linter.all false
set_option maxRecDepth 100000
namespace Go.Proofs.YtoomhbopolalnaaGreatDoor
variable {M:Addr->Prop}{r:D}{cs:List D}{l:List Entry}{cap n:Nat}{a:Option Addr}{v:Value}{w w':World}
section
open Go.RowKit Go
variable [GC]
def UC(o:List (List D))(r:D):Prop:=∃s:ByteArray,r=.str s/\[.str s]∈o
def UC.ty{o:List (List D)}(h:UC o r):bH aJ.tab (.one (.c .str)) r:=by obtain⟨x,rfl,_⟩:=h;trivial
def ahu(o:List (List D))(j:ByteArray)(v:0<o.length)(f:[.str j]∈o)(l:o.all ac8=true):Dr 44 [.sl o] (UC o):=by
 have b:∀r∈o,∃s,r=[.str s]:=fun r a=>ane (fM.1 l r a);have t:bH aJ.tab (.one (.c (.sl 9))) (.sl o):=by show da _ (aJ.tab _) _;rw[OP];exact sV fun r a=>by obtain⟨s,rfl⟩:=b r a;exact⟨trivial,trivial⟩
 refine lC Eo VS (fun y h=>by exact⟨t,ji h⟩) (.str j) ⟨_,rfl,f⟩ fun c i n p z a k=> ?_;(simp only[cA]);unfold Eo;have A:(o.length:Int)<=9223372036854775807:=by simp[dC,Fits,maxLen]at p;omega
 (refine cr (mA o.length) (fun _ h=>jC.ty h) ?_ (hb:=by(simp only[gS,cK];try exact rfl)) (ha:=by(simp only[gS,cK];try exact rfl));rintro _ c i n ⟨x,rfl,q⟩ a k)
 refine aQ (fun _=> ?_) ?_
 ·simp[E.den,cK];omega
 have u:=q.2 (by omega);have e:o[x.toNat]? =some o[x.toNat]:=bX (by omega);have m:=uZ (show x.toNat<o.length by omega);obtain⟨s,d⟩:=b _ m;rw[d]at m;refine⟨⟨s,?_,m⟩,_,_,_,rfl,a,k⟩;simp[E.den,e,d]
def UA(r:D):Prop:=∃l:List ByteArray,r=ak l/\l.length<=5/\jq l=true
def UA.ty(h:UA r):bH aJ.tab (.one (.c (.sl 9))) r:=by obtain⟨l,rfl,_⟩:=h;exact kA l
def D2:ByteArray:=⟨#[114,111,98,111,116]⟩
def ayx:wN 42 [] UA [(0,1)]:=by
 refine EU V0 an7 (fun n h=>by exact ji h) (ak [D2]) ⟨_,rfl,by simp,by kernel_rfl⟩ fun r i d o p a b=> ?_;(simp only[cA]);unfold V0;refine qO wQ wQ.lay (fun s=>s.k<=4/\da aJ.tab [.int .u8] s.rows/\0<=s.i) (fun s=>4-s.k) ⟨0,r,i,d⟩ (fun s q h=>by simp[wQ.lay]at h;omega) rfl ⟨by simp,a,b⟩ ?_;rintro⟨k,r,i,d⟩ ⟨j,a,b⟩ -;simp only at j a b;simp only[wQ.lay,gY,iw];apply aj<;>intro h
 ·simp[E.den,bg]at h
  (refine Ba (ahy) (fun _ h=>DI.ty h) ?_;rintro _ r i d ⟨l,rfl,c⟩ a b)
  refine aH (Dg l) ?_;apply aj<;>intro e
  ·simp only[eS]at e;have m:jq l=true:=by simp at e;exact e.1
   exact⟨⟨l,rfl,c,m⟩,_,_,_,rfl,a,b⟩
  refine⟨⟨k+1,r,i,d⟩,?_,⟨by simp only;omega,a,b⟩,by simp only;omega⟩;simp[E.den,wQ.lay];rw[bF]
 ·(apply vG;(focus (simp only[gS];try exact rfl));(focus (simp only[gS];try exact rfl));(focus (exact⟨_,_,_,rfl,by assumption,by assumption⟩));(focus (first|exact ahu _ D2 (by decide) (List.mem_cons_self ..) rfl|exact Dr.fZ (ahu _ D2 (by decide) (List.mem_cons_self ..) rfl)));(focus (exact fun _ h=>UC.ty h));rintro _ r i d ⟨s,rfl,f⟩ a b;(simp only[cA]))
  refine⟨⟨[s],rfl,by simp,?_⟩,_,_,_,rfl,a,b⟩;simp at f;rcases f with rfl|rfl|rfl<;>kernel_rfl
def isOk(n:ByteArray)(r:D):Prop:=∃e:Entry,r=enc e/\(e.recipe.length<=5/\e.needs.length<=3)/\(kY n=true->mR e=true/\e.name=n)
def isOk.ty{m:ByteArray}(h:isOk m r):bH aJ.tab (.one (.agg [.str,.sl 9,.int .i64,.int .i64,.sl 104])) r:=by obtain⟨n,rfl,_⟩:=h;exact Ah n
def ok0(n:ByteArray):isOk n (enc (⟨n,[D2],⟨1,0⟩,[]⟩:Entry)):=⟨_,rfl,by simp,fun h=>⟨by unfold mR;simp only[show jq [D2]=true by kernel_rfl,h];rfl,rfl⟩⟩
def ayv(j:ByteArray):wN 105 [.str j] (isOk j) [(1,1),(4,4)]:=by
 refine EU aqo aJz (fun S h=>by exact⟨trivial,ji h⟩) (enc (⟨j,[D2],⟨1,0⟩,[]⟩:Entry)) (ok0 j) fun r i f T U a b=> ?_;(simp only[cA]);unfold aqo
 (refine Ba (ayx) (fun _ h=>UA.ty h) ?_;rintro _ r i f ⟨p,rfl,t,e⟩ a b)
 (refine cr (mA _) (fun _ h=>jC.ty h) ?_;rintro _ r i f ⟨y,rfl,G⟩ a b)
 have H:=G.2 (by omega);have I:=G.1
 (refine cr (aht [0,1,1,2,3] (by decide)) (fun _ h=>Og.ty h) ?_;rintro _ r i f ⟨n,rfl,J⟩ a b)
 have B:0<=n/\n<=3:=by simp at J;omega
 refine qO CK CK.lay (fun s=>da aJ.tab [.int .u8] s.rows/\0<=s.i/\0<=s.n/\(s.e.needs.length:Int)+s.n<=3/\s.e.recipe.length<=5/\s.e.name=j/\jq s.e.recipe=true/\s.e.jT.ok=true/\∀x∈s.e.needs,BU x=true/\x.j8≠j) (fun s=>s.n.toNat) ⟨n,r,i,f,⟨j,p,⟨1,y⟩,[]⟩⟩ (fun s V h=>by simp[CK.lay]at h;rw[h.1]) rfl ⟨a,b,B.1,by simp;omega,t,rfl,e,by simp[lQ.ok];omega,by simp⟩ ?_;rintro⟨m,r,i,f,⟨c,p,l,C⟩⟩ ⟨a,b,O,F,t,q,e,v,d⟩ -;simp only at a b O F t q e v d;subst q;simp only[CK.lay,gY,iw];apply aj<;>intro h
 ·simp[E.den,bg]at h
  (refine cr (ayw) (fun _ h=>Uz.ty h) ?_;rintro _ r i f ⟨x,rfl⟩ a b)
  refine aH (Zp x) ?_;have u:dQ .sub .i64 m 1=m-1:=lS;apply aj<;>intro A
  ·simp only[eS,zB]at A;have A:BU x=true/\x.j8≠c:=by simpa using A
   refine aQ (fun _=> ?_) ?_
   ·simp[E.den];omega
   refine⟨⟨m-1,r,i,f,⟨c,p,l,C++[x]⟩⟩,?_,⟨a,b,by simp only;omega,by simp;omega,t,rfl,e,v,fun z o=> ?_⟩,by simp only;omega⟩
   ·simp[E.den,CK.lay,u,ak]
   ·rcases iV.1 o with o|o
    ·exact d z o
    ·simp at o;subst o;exact A
  ·refine⟨⟨m-1,r,i,f,⟨c,p,l,C⟩⟩,?_,⟨a,b,by simp only;omega,by simp only;omega,t,rfl,e,v,d⟩,by simp only;omega⟩;simp[E.den,CK.lay,u]
 ·refine⟨⟨⟨c,p,l,C⟩,rfl,⟨t,by simp only;omega⟩,fun P=>⟨?_,rfl⟩⟩,_,_,_,rfl,a,b⟩;unfold mR;simp only[aY,dr,kC];refine⟨⟨⟨⟨e,P⟩,v⟩,by omega⟩,fun k Q=> ?_⟩;have:=d _ (gF Q);unfold rf;simp[this.1,this.2]
def Oh(r:D):Prop:=∃l:List Entry,r=ak l/\cG l=true/\∀e∈l,e.recipe.length<=5/\e.needs.length<=3
def Oh.ty(h:Oh r):bH aJ.tab (.one (.c (.sl 42))) r:=by obtain⟨n,rfl,_⟩:=h;exact mL n
def am5:∀i,i<6->kY (nth xL i)=true/\(0<i->du (nth xL (i-1)) (nth xL i)=true):=by
 intro i a
 match i,a with
 |0,_=>exact⟨by kernel_rfl,fun h=>absurd h (by omega)⟩
 |1,_=>exact⟨by kernel_rfl,fun _=>by kernel_rfl⟩
 |2,_=>exact⟨by kernel_rfl,fun _=>by kernel_rfl⟩
 |3,_=>exact⟨by kernel_rfl,fun _=>by kernel_rfl⟩
 |4,_=>exact⟨by kernel_rfl,fun _=>by kernel_rfl⟩
 |5,_=>exact⟨by kernel_rfl,fun _=>by kernel_rfl⟩
def aGH{k:Nat}(h:k<n):nth (xL.take n) k=nth xL k:=by unfold nth;simp only[kQ,qe,aD h]
def aEn{α:Type}[Inhabited α](l:List α)(x:α)(i:Nat):nth (l++[x]) i=if i=l.length then x else nth l i:=by
 unfold nth;simp only[kQ];rcases Fh i l.length with h|h|h
 ·rw[mN h,aw (by omega)]
 ·subst h;simp
 ·rw[aw (by omega),nB (by simp;omega),nB (by omega)]
def aGG(b:l.length<=6)(h:∀i,i<l.length->mR (nth l i)=true/\(nth l i).name=nth xL i):cG l=true:=by
 unfold cG;rw[aY,dr,kC];refine⟨b,fun i a=> ?_⟩;unfold mB;rw[(h i a).1,(h i a).2,qI];rcases ue i with rfl|p
 ·rfl
 ·rw[(h (i-1) (by omega)).2,(am5 i (by omega)).2 p];simp
def ayy:wN 64 [] Oh [(0,5)]:=by
 refine EU aqs aJD (fun H h=>by exact ji h) (ak ([]:List Entry)) ⟨_,rfl,rfl,by simp⟩ fun r i p I J d b=> ?_;(simp only[cA]);unfold aqs
 (refine cr (mA _) (fun _ h=>jC.ty h) ?_;rintro _ r i p ⟨n,rfl,x⟩ d b)
 have y:=x.2 (by omega);obtain⟨n,rfl⟩:∃m:Nat,n=m:=⟨n.toNat,by omega⟩;have z:n<=6:=by omega
 have c:rV (.sl [[.str ⟨#[97]⟩],[.str ⟨#[98]⟩],[.str ⟨#[99]⟩],[.str ⟨#[100]⟩],[.str ⟨#[101]⟩],[.str ⟨#[102]⟩]]) 0 (n:Int)=ak (xL.take n):=by simp[rV,xL,ak,fP,Ff]
 refine aQ (fun _=> ?_) ?_
 ·simp[E.den,cK];omega
 refine qO EV EV.lay (fun s=>da aJ.tab [.int .u8] s.rows/\0<=s.i/\s.k<=n/\s.l.length=s.k/\(∀e∈s.l,e.recipe.length<=5/\e.needs.length<=3)/\∀i,i<s.l.length->mR (nth s.l i)=true/\(nth s.l i).name=nth xL i) (fun s=>n-s.k) ⟨[],0,r,i,p⟩ (fun s O h=>by simp[EV.lay]at h;omega) rfl ⟨d,b,by simp,rfl,by simp,fun i b=>absurd b (by simp)⟩ ?_;rintro⟨l,k,r,i,p⟩ ⟨d,b,A,q,f,o⟩ -;simp only at d b A q f o;simp only[EV.lay,gY,iw];have a:(xL.take n).length=n:=by simp[xL];omega
 apply aj<;>intro h
 ·simp only[eS,iw,jJ,rR,c,a]at h;have u:k<n:=by simp at h;exact h
  refine aQ (fun _=> ?_) ?_
  ·simp only[eS,iw,jJ,rR,c,a];simp;omega
  (refine Ba (ayv (nth (xL.take n) k)) (fun _ h=>isOk.ty h) ?_ (hb:=by(simp only[gS,iw,c,a,jr,fP];try exact rfl)) (ha:=by(simp only[gS,iw,c,a,jr,fP];try exact rfl));rintro _ r i p ⟨e,rfl,B,t⟩ d b)
  rw[aGH u]at t;have t:=t (am5 k (by omega)).1;refine aQ (fun _=> ?_) ?_
  ·simp[E.den];omega
  refine⟨⟨l++[e],k+1,r,i,p⟩,?_,⟨d,b,by simp only;omega,by simp;omega,?_,?_⟩,by simp only;omega⟩
  ·simp[E.den,EV.lay,ak];rw[bF]
  ·intro C v;rcases iV.1 v with h|h
   ·exact f C h
   ·simp at h;subst h;exact B
  ·intro j F;simp only[jI,dU,pg]at F;rw[aEn];split
   ·rename_i G;rw[G,q];exact t
   ·exact o j (by omega)
 ·exact⟨⟨l,rfl,aGG (by omega) o,f⟩,_,_,_,rfl,d,b⟩
def Ot(w:World)(a:Option Addr)(n:Nat):Nat:=match a with
 |none=>0
 |some p=>((List.range n).map fun k=>match w.cell? ⟨p.block,p.off+k*5+4,none⟩with|some (.slice _ m _)=>m|_=>0).sum
def aDo(e:Entry):(aB.cells e).length=5:=rfl
def acQ(l:List Entry):∀r∈l.map aB.cells,r.length=5:=fun r a=>by obtain⟨e,_,rfl⟩:=fN.1 a;rfl
def aln{b o len k:Nat}{s:Option Nat}(h:R w M (ak l) (.slice (some ⟨b,o,s⟩) len cap))(a:k<l.length) :
  ∃u,w.cell? ⟨b,o+k*5+4,none⟩=some u/\¬M ⟨b,o+k*5+4,none⟩/\R w M (ak (nth l k).needs) u :=
 JE (acQ l) h (i:=k) (j:=4) (get_map l a) rfl
def ala{len:Nat}(h:R w M (ak l) (.slice a len cap)):Ot w a len=tot l:=by
 have i:=h;obtain⟨v,n,p,e,d,x,y,j,z⟩:=h;cases e;rw[dq]at d;subst d;rcases a with _|⟨b,o,s⟩
 ·have:l=[]:=mM (by have:=j rfl;omega);subst this;rfl
 ·unfold Ot tot;dsimp only;congr 1;apply List.ext_getElem
  ·simp
  ·intro k c m;have f:k<l.length:=by simpa using c
   obtain⟨u,q,_,r⟩:=aln i f;obtain⟨A,B,t,rfl,q1,_⟩:=r;simp only[List.getElem_map,List.getElem_range,q];rw[q1,dq];congr 2;simp[nth,kQ,f]
def Ok{rows:List (List D)}(k:∀r∈rows,r.length=n)(l:∀r∈rows,∀d∈r,GF d=true)(h:R w M (.sl rows) v)
  (C:∀p u,w.cell? p=some u->(∀a m c,u≠.slice a m c)->w'.cell? p=some u):R w' M (.sl rows) v:=by
 have F:=h;obtain⟨a,len,cap,rfl,q,t,x,y,G⟩:=h;rcases a with _|⟨b,o,s⟩
 ·have:rows=[]:=mM (by have:=y rfl;omega);subst this;exact⟨none,len,cap,rfl,q,t,x,y,fun b o s e=>by cases e⟩
 ·refine JF k q t x (G b o s rfl).1 fun i j r d z A=> ?_;obtain⟨u,H,I,f⟩:=JE k F z A;have B:=l r (jx z) d (jx A);refine⟨u,C _ _ H fun a m c e=> ?_,I,aDl B f⟩;subst e;cases d<;>simp[GF]at B
  ·cases (show Value.slice a m c=.bool _ from f)
  ·cases f.1
  ·cases f.1
def aDm{r:List D}(h:bE aJ.tab [.int .u8] r){d:D}(hd:d∈r):GF d=true:=by
 match r,h with
 |[x],h=> simp at hd;subst hd;obtain⟨n,rfl⟩:=zK h.1;rfl
def aCM{d:Addr}{m c:Nat}(f:w.cell? d=some (.slice a m c)):∀p u,w.cell? p=some u->(∀a m c,u≠.slice a m c)->(w.setCell d v).cell? p=some u:=by
 intro p u b i;have s:=SF f;rcases SE (w:=w) (v:=v) (p:=p) (a:=d) (fun e=>by subst e;rw[f]at b;cases b;exact i _ _ _ rfl) s (.inr trivial)with j|⟨j,k⟩
 ·rw[j];exact b
 ·have l:=SF b;have:p=d:=by cases p;cases d;simp_all
  subst this;rw[f]at b;cases b;exact absurd rfl (i _ _ _)
def akS(l:List ByteArray):∀r∈l.map aB.cells,∀d∈r,GF d=true:=fun r b d a=>by obtain⟨x,_,rfl⟩:=fN.1 b;simp[fP]at a;subst a;rfl
def akQ(l:List mq):∀r∈l.map aB.cells,∀d∈r,GF d=true:=fun r b d a=>by obtain⟨x,_,rfl⟩:=fN.1 b;simp[zB]at a;rcases a with rfl|rfl|rfl|rfl<;>rfl
def ab4(l:List ByteArray):∀r∈l.map aB.cells,r.length=1:=fun r a=>by obtain⟨x,_,rfl⟩:=fN.1 a;rfl
def UO(l:List mq):∀r∈l.map aB.cells,r.length=4:=fun r a=>by obtain⟨x,_,rfl⟩:=fN.1 a;rfl
def aHn{b o len k:Nat}{s:Option Nat}{a2:Option Addr}{m c2:Nat}(h:R w M (ak l) (.slice (some ⟨b,o,s⟩) len cap))(hk:k<l.length)
  (I:w.cell? ⟨b,o+k*5+4,none⟩=some (.slice a2 m c2)) (hm:0<m):R (w.setCell ⟨b,o+k*5+4,none⟩ (.slice a2 (m-1) c2)) M (ak (tK l k)) (.slice (some ⟨b,o,s⟩) len cap):=by
 have q:=h;obtain⟨a,S,T,e,t,v,x,f,y⟩:=h;cases e;have f:∀p u,w.cell? p=some u->(∀a m c,u≠.slice a m c)->(w.setCell ⟨b,o+k*5+4,none⟩ (.slice a2 (m-1) c2)).cell? p=some u:=by
  intro p u B U;rcases SE (w:=w) (v:=.slice a2 (m-1) c2) (p:=p) (a:=⟨b,o+k*5+4,none⟩) (fun e=>by subst e;rw[I]at B;cases B;exact U _ _ _ rfl) rfl (.inr trivial)with C|⟨C,J⟩
  ·rw[C];exact B
  ·have j:=SF B;have:p=⟨b,o+k*5+4,none⟩:=by cases p;simp_all
   subst this;rw[I]at B;cases B;exact absurd rfl (U _ _ _)
 show R _ M (.sl ((tK l k).map aB.cells)) _;refine JF (acQ _) (by rw[dq,VN];simpa using t) v x (y b o s rfl).1 fun i j r d O n=> ?_;have F:i<l.length:=by have:=(db.1 O).1;rw[dq,VN]at this;exact this
 rw[get_map _ (by rw[VN];exact F)]at O;cases O;have t:=fun V p (P:(aB.cells (nth l i))[V]? =some p)=>JE (acQ l) q (i:=i) (j:=V) (get_map l F) P;rw[acg hk]at n;by_cases y:i=k
 ·subst y;rw[aD rfl]at n
  match j,n with
  |0,n=>obtain⟨u,x,q,v⟩:=t 0 _ rfl;cases n;exact⟨u,f _ _ x (fun a m c e=>by subst e;cases v.1),q,v⟩
  |1,n=>
   obtain⟨u,x,q,v⟩:=t 1 _ rfl;cases n;have z:=Ok (ab4 _) (akS _) v f;refine⟨u,?_,q,z⟩;rcases SE (w:=w) (v:=.slice a2 (m-1) c2) (p:=⟨b,o+i*5+1,none⟩) (a:=⟨b,o+i*5+4,none⟩) (fun e=>by simp at e) rfl (.inr trivial)with C|⟨_,J⟩
   ·rw[C];exact x
   ·simp at J
  |2,n=>obtain⟨u,x,q,v⟩:=t 2 _ rfl;cases n;exact⟨u,f _ _ x (fun a m c e=>by subst e;cases v.1),q,v⟩
  |3,n=>obtain⟨u,x,q,v⟩:=t 3 _ rfl;cases n;exact⟨u,f _ _ x (fun a m c e=>by subst e;cases v.1),q,v⟩
  |4,n=>
   obtain⟨u,x,q,v⟩:=t 4 _ rfl;cases n;rw[I]at x;cases x;refine⟨_,ax6 I,q,?_⟩;have z:=Ok (UO _) (akQ _) v f;obtain⟨A,B,p,r,q1,q2,q3,q4,q5⟩:=z;cases r;rw[dq]at q1;refine⟨a2,m-1,c2,rfl,?_,by omega,q3,q4,fun X Y Z p=>⟨fun h=>(q5 X Y Z p).1 (by omega),?_⟩⟩
   ·show m-1=((nth l i).needs.dropLast.map aB.cells).length;rw[dq,IE];omega
   ·have r:=(q5 X Y Z p).2;refine AO (n:=4) (UO _) fun p z G=>r.get (UO _) ?_;have Q:=(db.1 G).1;rw[dq]at Q;have r:p<(nth l i).needs.length-1:=by have:(El (nth l i)).needs.length=(nth l i).needs.length-1:=IE;omega
    rw[<-G,iq,iq];show _=Option.map _ ((nth l i).needs.dropLast[p]?);rw[List.getElem?_dropLast,aD r]
 ·rw[aw y]at n;obtain⟨u,x,q,v⟩:=t j d n;have H:∀j,j<5->o+i*5+j≠o+k*5+4:=fun j A e=>y (by omega);have A:j<5:=by have:=(db.1 n).1;simpa[aDo]using this
  refine⟨u,?_,q,?_⟩
  ·rcases SE (w:=w) (v:=.slice a2 (m-1) c2) (p:=⟨b,o+i*5+j,none⟩) (a:=⟨b,o+k*5+4,none⟩) (fun e=>H j A (congrArg Addr.off e)) rfl (.inr trivial)with C|⟨_,J⟩
   ·rw[C];exact x
   ·exact absurd J (H j A)
  ·match j,n with
   |0,n=>cases n;exact v
   |1,n=>cases n;exact Ok (ab4 _) (akS _) v f
   |2,n=>cases n;exact v
   |3,n=>cases n;exact v
   |4,n=>cases n;exact Ok (UO _) (akQ _) v f
structure zt(w:World)(M:Addr->Prop)(g:Nat)(cs:List D)(R0:List Entry)(a:Option Addr)(len cap:Nat)(wr:World)(l:List Entry):Prop where
 fr:Fr w.heap.size (some g) w wr
 bx:∃us T,wr.heap[g]? =some (.cells us.toArray T (0,0))/\Rs wr M cs us
 rd:R wr M (ak l) (.slice a len cap)
 rz:cG l=true
 nr:wF (tot l) l=R0
 live:∀b o s,a=some ⟨b,o,s⟩->0<cap->s=none/\w.heap.size<=b/\∃cells T,wr.heap[b]? =some (.cells cells T (0,0))/\o+cap*5<=cells.size
def zt.below{g:Nat}{i:List Entry}{len:Nat}{wr:World}(h:zt w M g cs i a len cap wr l)(hb:Below wr.heap.size wr w'):zt w M g cs i a len cap w' l:=by
 have k:bR wr M w' M:=bR.below hb fun _ _ h=>h;refine⟨h.fr.trans (zo hb h.fr.size),?_,R.keep k _ _ h.rd,h.rz,h.nr,fun b o s e m=> ?_⟩
 ·obtain⟨u,T,c,d⟩:=h.bx;have n:g<wr.heap.size:=(rQ.1 c).1;exact⟨u,T,by rw[hb.block g n];exact c,Rs.keep k _ _ d⟩
 ·obtain⟨c,d,cells,T,j,p⟩:=h.live b o s e m;have f:b<wr.heap.size:=(rQ.1 j).1;exact⟨c,d,cells,T,by rw[hb.block b f];exact j,p⟩
def zt.cF{g:Nat}{b:List Entry}{len:Nat}{wr:World}(h:zt w M g cs b a len cap wr l)(G:dZ w M)(hg:NG<=g):dZ wr M :=
 ⟨fun p c=>ek (G.1 p c) h.fr.size,G.2.1.keep fun k d=>h.fr.block k (ek d G.2.2) (fun e=>by cases e;omega),dV G.2.2 h.fr.size⟩
set_option maxHeartbeats 1000000 in
def ayB:Dr 31 [] Oh:=by
 intro cs hc;obtain⟨r0,f,⟨A,rfl,J,xp⟩,O,hF⟩:=ayy cs hc;have m:=anv (l:=A) (n:=tot A) J xp;refine⟨ak (wF (tot A) A),f,⟨_,rfl,m.1,m.2⟩,O,by kernel_rfl,fun w M g vs hG hvs hbx=> ?_⟩;obtain rfl:vs=[]:=hvs;obtain⟨us,T,hb,jO,r9,hMg⟩:=hbx cs rfl;have hgl:g<w.heap.size:=(rQ.1 hb).1;have hM:=hG.1;have hC:=hF.2 w M g [] hG rfl hbx;show Calls Tryz.prog 31 #[.pointer (some ⟨g,0,none⟩)] w _;generalize nO:wF (tot A) A=R0;have HC:=wT hC;go_enter Tryz.func31,Tryz.ntmps31;go_wp2_with fail;refine HC.out.mono ?_;rintro e w1 ⟨v1,rfl,hr1,hf1,P,Q⟩;obtain⟨us1,T1,hb1,S⟩:=Q rfl;have aAX:∀p,M p->M p\/rP v1 [(0,5)] p:=fun p hp=>.inl hp;have n:R w1 M (ak A) v1:=R.less hr1 aAX;have u:Rs w1 M f us1:=Rs.keep (fun p v hp hn=>⟨hp,fun hm=>hn (.inl hm)⟩) _ _ S;have hlv:=P.1 (0,5) (by simp);obtain⟨a,len,cap,hv1, -⟩:=(show R w1 M (.sl (A.map aB.cells)) v1 from n);subst hv1;have U1:zt w M g f R0 a len cap w1 A:=⟨hf1,⟨us1,T1,hb1,u⟩,n,J,nO,fun b o s e hc=>hlv b o s len cap (by rw[e];rfl) hc⟩;have HI0:=wT U1;clear U1 hr1 n S u hlv P Q hb1 hf1;go_wp2;go_loopw [4] (fun kk wr=>∃l,zt w M g f R0 a len cap wr l) (fun kk wr=>Ot wr a len)
 case atStart=>exact⟨A,HI0.out⟩
 case round=>
  obtain⟨l,hI⟩:=hrel;have HI:=wT hI;have H:=wT (show l.length=len by obtain⟨a',U,V,e,h1,_⟩:=hI.rd;cases e;rw[h1,dq])
  have hS:∀q:World,zt w M g f R0 a len cap q l->Calls Tryz.prog 62 #[.slice a len cap] q fun e w'=>∃v,e=.returned v/\R w' M (ak (pP l)) v/\Below q.heap.size q w' :=
   fun q h=>aG.calls (.fZ (Sz l)) (vs:=[.slice a len cap]) (h.cF hG r9) ⟨_,[],rfl,h.rd,rfl⟩
  have HS:=wT hS;clear hS hI;go_wp2_with fail;refine(HS.out _ HI.out).mono ?_;rintro e w2 ⟨v2,rfl,hr2,hf2⟩;have HI2:=wT (HI.out.below hf2);obtain⟨a2,X,cap2,rfl,t,h22,h23,h24,D1⟩:=(show R w2 M (.sl ((pP l).map aB.cells)) v2 from hr2);rw[dq]at t;cases B:pP l with
  |nil=>
   rw[B]at t;obtain rfl:X=0:=t;have HE:=wT B;clear hr2 D1 h22 h23 h24 B hf2;go_wp2;go_ret;have F:=HI2.out;have e1:l=R0:=by rw[<-F.nr,aHl HE.out]
   subst e1;obtain⟨us2,T2,q1,q2⟩:=F.bx;exact⟨_,rfl,F.rd,F.fr,fun _=>⟨us2,T2,q1,q2⟩⟩
  |cons s r=>
   obtain⟨k,j,hki,hkn⟩:=anf HI.out.rz B;rw[B]at t;have aLs:(0:Int)<(X:Int):=by simp at t;omega
   clear hr2 D1;go_wp2_with fail;refine(HS.out _ HI2.out).mono ?_;rintro e w3 ⟨v3,rfl,G,hf3⟩;have HI3:=wT (HI2.out.below hf3);obtain⟨a3,aDn,aKY,hv3,JT,_,_,h34,D4⟩:=(show R w3 M (.sl ((pP l).map aB.cells)) v3 from G);subst hv3;rw[dq,B]at JT;have aLt:(0:Int)<(aDn:Int):=by simp at JT;omega
   obtain⟨b3,o3,s3,rfl⟩:∃b3 o3 s3,a3=some ⟨b3,o3,s3⟩:=by
    rcases a3 with _|⟨b3,o3,s3⟩
    ·have:=h34 rfl;simp at JT;omega
    ·exact⟨b3,o3,s3,rfl⟩
   have hs3:=(D4 b3 o3 s3 rfl).1 (by omega);subst hs3;rw[B]at G;obtain⟨u3,c31,_,Zd⟩:=JE (ab4 _) G (i:=0) (j:=0) (r:=[.str s]) rfl rfl;have hu3:u3=.string s:=Zd.1;subst hu3;have hsz:=Zd.2;simp only[Nat.zero_mul,rS]at c31;clear G D4 Zd;have Tl:∀q:World,zt w M g f R0 a len cap q l->Calls Tryz.prog 37 #[.slice a len cap,.string s] q fun e w'=>∃v,e=.returned v/\R w' M (.int .i64 (cN l s)) v/\Below q.heap.size q w' :=
    fun q h=>aG.calls (qM l s) (vs:=[.slice a len cap,.string s]) (h.cF hG r9) ⟨_,_,rfl,h.rd,_,[],rfl,⟨rfl,hsz⟩,rfl⟩
   have HF4:=wT Tl;clear Tl;go_wp2_with fail;refine(HF4.out _ HI3.out).mono ?_;rintro e C ⟨v4,rfl,hr4,hf4⟩;have hv4:v4=.int .i64 (k:Int):=by rw[<-hki];exact hr4.1
   subst hv4;have I:=HI3.out.below hf4;obtain⟨b,o,sp,rfl⟩:∃b o sp,a=some ⟨b,o,sp⟩:=by
    rcases a with _|⟨b,o,sp⟩
    ·obtain⟨a',U,V,e,h1,h2,h3,h4,_⟩:=I.rd;cases e;have:=h4 rfl;have:=H.out;omega
    ·exact⟨b,o,sp,rfl⟩
   obtain⟨u5,c51,c52,c53⟩:=aln I.rd j;obtain⟨a5,aL8,c,rfl,TR,aAT,_⟩:=c53;rw[dq]at TR;subst TR;have hcap:0<cap:=by obtain⟨a',U,V,e,h1,h2,h3,h4,_⟩:=I.rd;cases e;have:=H.out;omega
   obtain⟨hsp,hwb,cells,TT,hbl,z⟩:=I.live b o sp rfl hcap;subst hsp;have aAx:C.frozen? ⟨b,o+k*5+4,none⟩=false:=by unfold World.frozen?;rw[hbl];simp
   have hi0:(0:Int)<=(k:Int):=by omega
   have hi1:(k:Int)<(len:Int):=by have:=H.out;omega
   have NN:(0:Int)<((nth l k).needs.length:Int):=by omega
   have hn5:((nth l k).needs.length:Int)<=3:=by have:=OE I.rz j;omega
   obtain⟨x,lK⟩:∃x,(nth l k).needs.length-1=x:=⟨_,rfl⟩;have hw1:IntKind.i64.wrap (((nth l k).needs.length:Int)-1)=(x:Int):=by rw[wrap_i64 (by omega) (by omega)];omega
   have aLd:(0:Int)<=(x:Int):=by omega
   have Dy:(x:Int)<=(c:Int):=by omega
   have aLe:¬((x:Int)<0):=by omega
   have aLf:¬((c:Int)<(x:Int)):=by omega
   have i:=I.below ((dP _ C).drew);have Y:C.drew.cell? ⟨b,o+k*5+4,none⟩=some (.slice a5 (nth l k).needs.length c):=c51;have aLk:C.drew.frozen? ⟨b,o+k*5+4,none⟩=false:=aAx;have Z:C.drew.heap[b]? =some (.cells cells TT (0,0)):=hbl;have y:=aHn i.rd j Y (by omega);rw[lK]at y;have j4:zt w M g f R0 (some ⟨b,o,none⟩) len cap (C.drew.setCell ⟨b,o+k*5+4,none⟩ (.slice a5 x c)) (tK l k):=by
    have mE:bU C.drew (C.drew.setCell ⟨b,o+k*5+4,none⟩ (.slice a5 x c)) b:=(bU.refl C.drew b).set _ _;refine⟨i.fr.trans (Ik mE (.inl hwb)),?_,y,anx i.rz j,(aHm i.rz B hki j hkn).symm.trans i.nr,fun b' o' s' e _=> ?_⟩
    ·obtain⟨us4,T4,q1,q2⟩:=i.bx;obtain⟨rows,ci,ch,rfl,fV,_⟩:=O;obtain⟨v0,r0,rfl,q3,q4⟩:=q2;refine⟨_,T4,by rw[mE.block g (by omega)];exact q1,v0,r0,rfl,?_,q4⟩;exact Ok (n:=1) (fun r hr=>(fV.mem r hr).length) (fun r hr d hd=>aDm (fV.mem r hr) hd) q3 (aCM Y)
    ·cases e;refine⟨rfl,hwb,cells.setIfInBounds (o+k*5+4) (.slice a5 x c),TT,?_,by simpa using z⟩;unfold World.setCell;simp[Iy,Z]
   have hmu:Ot (C.drew.setCell ⟨b,o+k*5+4,none⟩ (.slice a5 x c)) (some ⟨b,o,none⟩) len<Ot wr (some ⟨b,o,none⟩) len:=by rw[ala j4.rd,ala HI.out.rd];have:=anu j hkn;omega
   have HIn:=wT j4;have HMu:=wT hmu;have HS5:=wT B;clear I i j4 y hmu hbl Z z B aAT lK;go_wp2
   (refine aFm 15 (by kernel_rfl) (by kernel_rfl) ?_;simp only[QW,QX,List.drop_succ_cons,Fc];(repeat still_step));refine wpStill_nil ?_
   go_wp2;exact⟨⟨tK l k,HIn.out⟩,HMu.out⟩
def UB(n:Nat)(r:D):Prop:=∃s:ByteArray,r=.str s/\s.size<=n
def UB.ty(h:UB n r):bH aJ.tab (.one (.c .str)) r:=by obtain⟨x,rfl,_⟩:=h;trivial
def ac9(n:Nat):List D->Bool
 |[.str s]=>decide (s.size<=n)
 |_=>false
def aGT{r:List D}(h:ac9 n r=true):∃s,r=[.str s]/\s.size<=n:=by
 match r,h with
 |[.str s],h=>exact⟨s,rfl,by simpa[ac9]using h⟩
def ahv(n:Nat)(o:List (List D))(u:0<o.length)(k:o.all (ac9 n)=true):Dr 44 [.sl o] (UB n):=by
 have b:∀r∈o,∃s:ByteArray,r=[.str s]/\s.size<=n:=fun r a=>aGT (fM.1 k r a);have t:bH aJ.tab (.one (.c (.sl 9))) (.sl o):=by show da _ (aJ.tab _) _;rw[OP];exact sV fun r a=>by obtain⟨s,rfl,_⟩:=b r a;exact⟨trivial,trivial⟩
 refine lC Eo VS (fun v h=>by exact⟨t,ji h⟩) (.str cL) ⟨_,rfl,fO _⟩ fun c i l m y a j=> ?_;(simp only[cA]);unfold Eo;have z:(o.length:Int)<=9223372036854775807:=by simp[dC,Fits,maxLen]at m;omega
 (refine cr (mA o.length) (fun _ h=>jC.ty h) ?_ (hb:=by(simp only[gS,cK];try exact rfl)) (ha:=by(simp only[gS,cK];try exact rfl));rintro _ c i l ⟨x,rfl,p⟩ a j)
 refine aQ (fun _=> ?_) ?_
 ·simp[E.den,cK];omega
 have q:=p.2 (by omega);have e:o[x.toNat]? =some o[x.toNat]:=bX (by omega);obtain⟨s,d,f⟩:=b _ (uZ (show x.toNat<o.length by omega));refine⟨⟨s,?_,f⟩,_,_,_,rfl,a,j⟩;simp[E.den,e,d]
def BJ(r:D):Prop:=∃x:Call,r=enc x/\x.text.size<=100/\x.method.size<=100
def BJ.ty(h:BJ r):bH aJ.tab (.one (.agg [.str,.str,.int .i64,.str])) r:=by obtain⟨x,rfl,_⟩:=h;exact Co x
def Jh:Dr 38 [] BJ:=by
 have n:cL.size<=100:=by decide
 refine lC ap4 aJe (fun l h=>by exact ji h) (enc (⟨cL,cL,0,cL⟩:Call)) ⟨_,rfl,(by decide),(by decide)⟩ fun r i d m o a b=> ?_;(simp only[cA]);unfold ap4
 (apply vG;(focus (simp only[gS];try exact rfl));(focus (simp only[gS];try exact rfl));(focus (exact⟨_,_,_,rfl,by assumption,by assumption⟩));(focus (first|exact ahv 100 _ (by decide) (by decide)|exact Dr.fZ (ahv 100 _ (by decide) (by decide))));(focus (exact fun _ h=>UB.ty h));rintro _ r i d ⟨s,rfl,c⟩ a b;(simp only[cA]))
 apply aj<;>intro h
 ·(refine cr (ZD) (fun _ h=>xx.ty h) ?_;rintro _ r i d ⟨k,rfl,f⟩ a b)
  exact⟨⟨⟨s,k,0,cL⟩,rfl,n,c⟩,_,_,_,rfl,a,b⟩
 apply aj<;>intro h
 ·(refine cr (ZD) (fun _ h=>xx.ty h) ?_;rintro _ r i d ⟨k,rfl,f⟩ a b)
  (refine cr (mA _) (fun _ h=>jC.ty h) ?_;rintro _ r i d ⟨y,rfl,j⟩ a b)
  exact⟨⟨⟨s,k,y,cL⟩,rfl,n,c⟩,_,_,_,rfl,a,b⟩
 apply aj<;>intro h
 ·(refine cr (mA _) (fun _ h=>jC.ty h) ?_;rintro _ r i d ⟨y,rfl,j⟩ a b)
  exact⟨⟨⟨s,cL,y,cL⟩,rfl,n,c⟩,_,_,_,rfl,a,b⟩
 apply aj<;>intro h
 ·(refine cr (ays) (fun _ h=>xx.ty h) ?_;rintro _ r i d ⟨t,rfl,e⟩ a b)
  exact⟨⟨⟨s,cL,0,t⟩,rfl,by unfold JC at e;simpa using e,c⟩,_,_,_,rfl,a,b⟩
 ·exact⟨⟨⟨s,cL,0,cL⟩,rfl,n,c⟩,_,_,_,rfl,a,b⟩
def Oc(r:D):Prop:=∃e:Event,r=enc e/\e.call.text.size<=100/\e.call.method.size<=100/\e.recipe.length<=6
def Oc.ty(h:Oc r):bH aJ.tab (.one (.agg [.int .i64,.str,.str,.str,.int .i64,.str,.sl 9])) r:=by obtain⟨x,rfl,_⟩:=h;exact Cp x
def J7(r:D):Prop:=∃g:Host,r=enc g/\HW g
def J7.ty(h:J7 r):bH aJ.tab (.one (.agg [.sl 42,.sl 51,.sl 9,.sl 9,.sl 33])) r:=by obtain⟨x,rfl,_⟩:=h;exact pT x
def ayA(l:List Entry):Dr 34 [ak l] isS:=by
 refine lC aqw aJH (fun n h=>by exact⟨mL l,ji h⟩) (.str cL) ⟨_,rfl⟩ fun r i d f j a c=> ?_;(simp only[cA]);unfold aqw;have j:l.length<=9223372036854775807:=kF f.1
 (refine cr (qN _) (fun _ h=>oL.ty h) ?_;rintro _ r i d ⟨b,rfl⟩ a c)
 have z:bg .eql (l.length:Int) 0=decide (l.length=0):=by cases l<;>simp[bg]<;>omega
 rcases ue l.length with e|e
 ·have z:bg .eql (l.length:Int) 0=true:=by rw[z];exact Mn e
  apply aj<;>intro h
  ·(refine cr (ZE) (fun _ h=>isS.ty h) ?_ (hb:=by(simp only[gS,z,Bool.not_true,Bool.false_and,yf];try exact rfl)) (ha:=by(simp only[gS,z,Bool.not_true,Bool.false_and,yf];try exact rfl));rintro _ r i d ⟨s,rfl⟩ a c)
   exact⟨⟨_,rfl⟩,_,_,_,rfl,a,c⟩
  ·simp only[eS,z]at h;simp at h
 ·have z:bg .eql (l.length:Int) 0=false:=by rw[z];exact Y0 (by omega)
  apply aj<;>intro h
  ·(refine cr (ZE) (fun _ h=>isS.ty h) ?_ (hb:=by(simp only[gS,z,Iz,qI,gD];try exact rfl)) (ha:=by(simp only[gS,z,Iz,qI,gD];try exact rfl));rintro _ r i d ⟨s,rfl⟩ a c)
   exact⟨⟨_,rfl⟩,_,_,_,rfl,a,c⟩
  ·(refine cr (mA l.length) (fun _ h=>jC.ty h) ?_ (hb:=by(simp only[gS,z,Iz,qI,gD];try exact rfl)) (ha:=by(simp only[gS,z,Iz,qI,gD];try exact rfl));rintro _ r i d ⟨x,rfl,k⟩ a c)
   have m:=k.2 (by omega);refine aQ (fun _=> ?_) ?_
   ·simp only[eS];simp;omega
   refine⟨⟨(nth l x.toNat).name,?_⟩,_,_,_,rfl,a,c⟩;simp only[eS,oQ,iW]
structure nY where
 k:Nat
 rows:List (List D)
 i:Int
 h:Int
 x:Call
def nY.lay(n:ByteArray)(s:nY):List D:=[.int .i64 s.k,.sl s.rows,.int .i64 s.i,.int .i64 s.h,.int .i64 3,.str n,.str s.x.method,.str s.x.key,.int .i64 s.x.val,.str s.x.text,ak ([]:List ByteArray)]
def ahh(l:List ByteArray){k:Nat}(a:k<l.length):((l.map aB.cells)[k]?.getD [eF CT.str]).getD 0 D.un=.str (nth l k):=by rw[get_map l a];rfl
def ayn(l:List ByteArray):rV (ak l) 0 1=ak (l.take 1):=by simp[rV,ak,Ff]
set_option maxHeartbeats 8000000 in
def ahA(g:Host)(H:HW g):wN 14 [enc g] Oc [(6,1)]:=by
 have I:nV.text.size<=100:=by decide
 have J:nV.method.size<=100:=by decide
 have T:(bL mStart).text.size<=100:=by decide
 have sm:(bL mStart).method.size<=100:=by decide
 have z:([]:List ByteArray).length<=6:=fO _;refine EU aqx aJI (fun a h=>by exact⟨pT g,ji h⟩) (enc (⟨0,cL,nV,[]⟩:Event)) ⟨_,rfl,I,J,z⟩ fun r i l a e c d=> ?_;(simp only[cA]);unfold aqx;have a:=H.u;have a:=H.s;have a:=H.l24;have a:=H.e6
 (refine cr (aht [1,1,1,2,3,3,3,3,3,4,5] (by decide)) (fun _ h=>Og.ty h) ?_;rintro _ r i l ⟨k,rfl,a⟩ c d)
 have U:k=1\/k=2\/k=3\/k=4\/k=5:=by simp at a;omega
 clear a
 (refine cr (ayA g.entries) (fun _ h=>isS.ty h) ?_;rintro _ r i l ⟨m,rfl⟩ c d)
 (refine cr (qN _) (fun _ h=>oL.ty h) ?_;rintro _ r i l ⟨b,rfl⟩ c d)
 obtain⟨V,u⟩:∃V,bg .gtr (g.up.length:Int) 0=V:=⟨_,rfl⟩;obtain⟨bs,a⟩:∃bs,bg .gtr (g.shut.length:Int) 0=bs:=⟨_,rfl⟩;rcases U with rfl|rfl|rfl|rfl|rfl
 ·apply aj<;>intro h
  ·exfalso;revert h;simp only[eS,bo,u,a];simp
  apply aj<;>intro h
  ·exfalso;revert h;simp only[eS,bo,u,a];simp
  refine aH (qM g.entries m) ?_;apply aj<;>intro h
  ·exfalso;revert h;simp only[eS,bo,u,a];simp
  apply aj<;>intro h
  ·exfalso;revert h;simp only[eS,bo,u,a];simp
  apply aj<;>intro h
  ·exfalso;revert h;simp only[eS,bo,u,a];simp
  simp only[eS,VC.den,bo,u,a,bS,reduceIte,reduceCtorEq];exact⟨⟨⟨1,m,nV,[]⟩,rfl,I,J,z⟩,_,_,_,rfl,by assumption,by assumption⟩
 ·apply aj<;>intro h
  ·exfalso;revert h;simp only[eS,bo,u,a];simp
  apply aj<;>intro h
  ·exfalso;revert h;simp only[eS,bo,u,a];simp
  refine aH (qM g.entries m) ?_;apply aj<;>intro h
  ·exfalso;revert h;simp only[eS,bo,u,a];simp
  apply aj<;>intro h
  ·exfalso;revert h;simp only[eS,bo,u,a];simp
  apply aj<;>intro h
  ·exfalso;revert h;simp only[eS,bo,u,a];simp
  simp only[eS,VC.den,bo,u,a,bS,reduceIte,reduceCtorEq];exact⟨⟨⟨2,m,nV,[]⟩,rfl,I,J,z⟩,_,_,_,rfl,by assumption,by assumption⟩
 ·cases V
  ·apply aj<;>intro h
   ·exfalso;revert h;simp only[eS,bo,u,a];simp
   apply aj<;>intro h
   ·exfalso;revert h;simp only[eS,bo,u,a];simp
   refine aH (qM g.entries m) ?_;rcases LY (cN g.entries m) 0 with p|p
   ·have f:bg .lss (cN g.entries m) 0=true:=by simp[bg,p]
    apply aj<;>intro h
    ·simp only[eS,VC.den,bo,u,a,bS,reduceIte,reduceCtorEq];exact⟨⟨⟨3,m,bL mStart,[]⟩,rfl,T,sm,z⟩,_,_,_,rfl,by assumption,by assumption⟩
    ·exfalso;revert h;simp only[eS,bo,u,a,f];simp
   obtain⟨e,o,A,_⟩:=vK p;rw[o];have f:bg .lss (e:Int) 0=false:=by simp[bg]
   apply aj<;>intro h
   ·exfalso;revert h;simp only[eS,bo,u,a,f];simp
   apply aj<;>intro h
   ·(refine cr (Jh) (fun _ h=>BJ.ty h) ?_ (hb:=by(simp only[gS,bo,u,a,bS,reduceIte,reduceCtorEq];try exact rfl)) (ha:=by(simp only[gS,bo,u,a,bS,reduceIte,reduceCtorEq];try exact rfl));rintro _ r i l ⟨x,rfl,q,v⟩ c d)
    refine qO nY (nY.lay m) (fun s=>da aJ.tab [.int .u8] s.rows/\0<=s.i/\s.k<=3/\s.x.text.size<=100/\s.x.method.size<=100) (fun s=>3-s.k) ⟨0,r,i,l,x⟩ (fun s G h=>by simp[nY.lay]at h;omega) (by first|exact rfl|(simp only[eS,nY.lay,fB,bo,u,a,rR];rfl)) ⟨c,d,by simp,q,v⟩ ?_;rintro⟨n,r,j,l,x⟩ ⟨c,d,O,q,v⟩ -;simp only at c d O q v;simp only[nY.lay,gY,iw];refine aQ (fun _=> ?_) ?_
    ·simp only[eS,bo,u,a];simp;have:=H.pe;omega
    refine wZ (r:=.int .i64 (fc (nth g.parts e))) (xs:=[enc (nth g.parts e)]) ?_ (fun _=>A6 (nth g.parts e)) rfl ?_
    ·simp only[eS,bo,u,a,Vv,gX]
    refine wZ (r:=.int .i64 (bY x.method)) (xs:=[.str x.method]) ?_ (fun _=>FE x.method) rfl ?_
    ·simp only[eS]
    refine wZ (r:=.bool (cm (fc (nth g.parts e)) (bY x.method))) (xs:=[.int .i64 (fc (nth g.parts e)),.int .i64 (bY x.method)]) ?_ (fun _=>wX _ _) trivial ?_
    ·simp only[eS]
    simp only[cA];apply aj<;>intro h
    ·simp only[eS]at h;have P:n<3:=by simp at h;omega
     (refine cr (Jh) (fun _ h=>BJ.ty h) ?_;rintro _ r i l ⟨y,rfl,B,C⟩ c d)
     refine⟨⟨n+1,r,i,l,y⟩,?_,⟨c,d,by simp only;omega,B,C⟩,by simp only;omega⟩;simp only[eS,nY.lay,fB];rw[bF];simp
    ·simp only[eS,VC.den,bo,u,a,bS,reduceIte,reduceCtorEq];exact⟨⟨⟨3,m,x,[]⟩,rfl,q,v,z⟩,_,_,_,rfl,by assumption,by assumption⟩
   ·exfalso;revert h;simp only[eS,bo,u,a];simp
  ·have F:0<g.up.length:=by simp[bg]at u;exact u
   apply aj<;>intro h
   ·(refine cr (mA g.up.length) (fun _ h=>jC.ty h) ?_ (hb:=by(simp only[gS,bo,u,a,bS,reduceIte,reduceCtorEq];try exact rfl)) (ha:=by(simp only[gS,bo,u,a,bS,reduceIte,reduceCtorEq];try exact rfl));rintro _ r i l ⟨y,rfl,B⟩ c d)
    have X:=B.2 (by omega);have Y:=B.1;refine aQ (fun _=> ?_) ?_
    ·simp only[eS,bo,u,a];simp;omega
    apply aj<;>intro h
    ·exfalso;revert h;simp only[eS,bo,u,a];simp
    have F:=ahh g.up (show y.toNat<g.up.length by omega);refine aH (qM g.entries (nth g.up y.toNat)) ?_;rcases LY (cN g.entries (nth g.up y.toNat)) 0 with p|p
    ·have f:bg .lss (cN g.entries (nth g.up y.toNat)) 0=true:=by simp[bg,p]
     apply aj<;>intro h
     ·simp only[eS,VC.den,bo,u,a,F,bS,reduceIte,reduceCtorEq];exact⟨⟨⟨3,nth g.up y.toNat,bL mStart,[]⟩,rfl,T,sm,z⟩,_,_,_,rfl,by assumption,by assumption⟩
     ·exfalso;revert h;simp only[eS,bo,u,a,f];simp
    obtain⟨e,o,A,_⟩:=vK p;rw[o];have f:bg .lss (e:Int) 0=false:=by simp[bg]
    apply aj<;>intro h
    ·exfalso;revert h;simp only[eS,bo,u,a,f];simp
    apply aj<;>intro h
    ·(refine cr (Jh) (fun _ h=>BJ.ty h) ?_ (hb:=by(simp only[gS,bo,u,a,bS,reduceIte,reduceCtorEq];try exact rfl)) (ha:=by(simp only[gS,bo,u,a,bS,reduceIte,reduceCtorEq];try exact rfl));rintro _ r i l ⟨x,rfl,q,v⟩ c d)
     refine qO nY (nY.lay (nth g.up y.toNat)) (fun s=>da aJ.tab [.int .u8] s.rows/\0<=s.i/\s.k<=3/\s.x.text.size<=100/\s.x.method.size<=100) (fun s=>3-s.k) ⟨0,r,i,l,x⟩ (fun s G h=>by simp[nY.lay]at h;omega) (by first|exact rfl|(simp only[eS,nY.lay,fB,bo,u,a,F];rfl)) ⟨c,d,by simp,q,v⟩ ?_;rintro⟨n,r,j,l,x⟩ ⟨c,d,O,q,v⟩ -;simp only at c d O q v;simp only[nY.lay,gY,iw];refine aQ (fun _=> ?_) ?_
     ·simp only[eS,bo,u,a];simp;have:=H.pe;omega
     refine wZ (r:=.int .i64 (fc (nth g.parts e))) (xs:=[enc (nth g.parts e)]) ?_ (fun _=>A6 (nth g.parts e)) rfl ?_
     ·simp only[eS,bo,u,a,Vv,gX]
     refine wZ (r:=.int .i64 (bY x.method)) (xs:=[.str x.method]) ?_ (fun _=>FE x.method) rfl ?_
     ·simp only[eS]
     refine wZ (r:=.bool (cm (fc (nth g.parts e)) (bY x.method))) (xs:=[.int .i64 (fc (nth g.parts e)),.int .i64 (bY x.method)]) ?_ (fun _=>wX _ _) trivial ?_
     ·simp only[eS]
     simp only[cA];apply aj<;>intro h
     ·simp only[eS]at h;have P:n<3:=by simp at h;omega
      (refine cr (Jh) (fun _ h=>BJ.ty h) ?_;rintro _ r i l ⟨y,rfl,B,C⟩ c d)
      refine⟨⟨n+1,r,i,l,y⟩,?_,⟨c,d,by simp only;omega,B,C⟩,by simp only;omega⟩;simp only[eS,nY.lay,fB];rw[bF];simp
     ·simp only[eS,VC.den,bo,u,a,F,bS,reduceIte,reduceCtorEq];exact⟨⟨⟨3,nth g.up y.toNat,x,[]⟩,rfl,q,v,z⟩,_,_,_,rfl,by assumption,by assumption⟩
    ·exfalso;revert h;simp only[eS,bo,u,a];simp
   ·apply aj<;>intro h
    ·exfalso;revert h;simp only[eS,bo,u,a];simp
    refine aH (qM g.entries m) ?_;rcases LY (cN g.entries m) 0 with p|p
    ·have f:bg .lss (cN g.entries m) 0=true:=by simp[bg,p]
     apply aj<;>intro h
     ·simp only[eS,VC.den,bo,u,a,bS,reduceIte,reduceCtorEq];exact⟨⟨⟨3,m,bL mStart,[]⟩,rfl,T,sm,z⟩,_,_,_,rfl,by assumption,by assumption⟩
     ·exfalso;revert h;simp only[eS,bo,u,a,f];simp
    obtain⟨e,o,A,_⟩:=vK p;rw[o];have f:bg .lss (e:Int) 0=false:=by simp[bg]
    apply aj<;>intro h
    ·exfalso;revert h;simp only[eS,bo,u,a,f];simp
    apply aj<;>intro h
    ·(refine cr (Jh) (fun _ h=>BJ.ty h) ?_ (hb:=by(simp only[gS,bo,u,a,bS,reduceIte,reduceCtorEq];try exact rfl)) (ha:=by(simp only[gS,bo,u,a,bS,reduceIte,reduceCtorEq];try exact rfl));rintro _ r i l ⟨x,rfl,q,v⟩ c d)
     refine qO nY (nY.lay m) (fun s=>da aJ.tab [.int .u8] s.rows/\0<=s.i/\s.k<=3/\s.x.text.size<=100/\s.x.method.size<=100) (fun s=>3-s.k) ⟨0,r,i,l,x⟩ (fun s G h=>by simp[nY.lay]at h;omega) (by first|exact rfl|(simp only[eS,nY.lay,fB,bo,u,a,rR];rfl)) ⟨c,d,by simp,q,v⟩ ?_;rintro⟨n,r,j,l,x⟩ ⟨c,d,O,q,v⟩ -;simp only at c d O q v;simp only[nY.lay,gY,iw];refine aQ (fun _=> ?_) ?_
     ·simp only[eS,bo,u,a];simp;have:=H.pe;omega
     refine wZ (r:=.int .i64 (fc (nth g.parts e))) (xs:=[enc (nth g.parts e)]) ?_ (fun _=>A6 (nth g.parts e)) rfl ?_
     ·simp only[eS,bo,u,a,Vv,gX]
     refine wZ (r:=.int .i64 (bY x.method)) (xs:=[.str x.method]) ?_ (fun _=>FE x.method) rfl ?_
     ·simp only[eS]
     refine wZ (r:=.bool (cm (fc (nth g.parts e)) (bY x.method))) (xs:=[.int .i64 (fc (nth g.parts e)),.int .i64 (bY x.method)]) ?_ (fun _=>wX _ _) trivial ?_
     ·simp only[eS]
     simp only[cA];apply aj<;>intro h
     ·simp only[eS]at h;have P:n<3:=by simp at h;omega
      (refine cr (Jh) (fun _ h=>BJ.ty h) ?_;rintro _ r i l ⟨y,rfl,B,C⟩ c d)
      refine⟨⟨n+1,r,i,l,y⟩,?_,⟨c,d,by simp only;omega,B,C⟩,by simp only;omega⟩;simp only[eS,nY.lay,fB];rw[bF];simp
     ·simp only[eS,VC.den,bo,u,a,bS,reduceIte,reduceCtorEq];exact⟨⟨⟨3,m,x,[]⟩,rfl,q,v,z⟩,_,_,_,rfl,by assumption,by assumption⟩
    ·exfalso;revert h;simp only[eS,bo,u,a];simp
 ·apply aj<;>intro h
  ·exfalso;revert h;simp only[eS,bo,u,a];simp
  cases bs
  ·apply aj<;>intro h
   ·exfalso;revert h;simp only[eS,bo,u,a];simp
   refine aH (qM g.entries m) ?_;apply aj<;>intro h
   ·exfalso;revert h;simp only[eS,bo,u,a];simp
   apply aj<;>intro h
   ·exfalso;revert h;simp only[eS,bo,u,a];simp
   apply aj<;>intro h
   ·exfalso;revert h;simp only[eS,bo,u,a];simp
   simp only[eS,VC.den,bo,u,a,bS,reduceIte,reduceCtorEq];exact⟨⟨⟨4,m,nV,[]⟩,rfl,I,J,z⟩,_,_,_,rfl,by assumption,by assumption⟩
  ·have j:0<g.shut.length:=by simp[bg]at a;exact a
   apply aj<;>intro h
   ·(refine cr (mA g.shut.length) (fun _ h=>jC.ty h) ?_ (hb:=by(simp only[gS,bo,u,a,bS,reduceIte,reduceCtorEq];try exact rfl)) (ha:=by(simp only[gS,bo,u,a,bS,reduceIte,reduceCtorEq];try exact rfl));rintro _ r i l ⟨y,rfl,B⟩ c d)
    have X:=B.2 (by omega);have Y:=B.1;refine aQ (fun _=> ?_) ?_
    ·simp only[eS,bo,u,a];simp;omega
    have F:=ahh g.shut (show y.toNat<g.shut.length by omega);refine aH (qM g.entries (nth g.shut y.toNat)) ?_;apply aj<;>intro h
    ·exfalso;revert h;simp only[eS,bo,u,a];simp
    apply aj<;>intro h
    ·exfalso;revert h;simp only[eS,bo,u,a];simp
    apply aj<;>intro h
    ·exfalso;revert h;simp only[eS,bo,u,a];simp
    simp only[eS,VC.den,bo,u,a,F,bS,reduceIte,reduceCtorEq];exact⟨⟨⟨4,nth g.shut y.toNat,nV,[]⟩,rfl,I,J,z⟩,_,_,_,rfl,by assumption,by assumption⟩
   ·exfalso;revert h;simp only[eS,bo,u,a];simp
 ·apply aj<;>intro h
  ·exfalso;revert h;simp only[eS,bo,u,a];simp
  apply aj<;>intro h
  ·exfalso;revert h;simp only[eS,bo,u,a];simp
  refine aH (qM g.entries m) ?_;rcases LY (cN g.entries m) 0 with p|p
  ·have f:bg .geq (cN g.entries m) 0=false:=by simp[bg];omega
   apply aj<;>intro h
   ·exfalso;revert h;simp only[eS,bo,u,a];simp
   apply aj<;>intro h
   ·exfalso;revert h;simp only[eS,bo,u,a];simp
   apply aj<;>intro h
   ·(refine Ba (ahz) (fun _ h=>DI.ty h) ?_ (hb:=by(simp only[gS,bo,u,a,bS,reduceIte,reduceCtorEq];try exact rfl)) (ha:=by(simp only[gS,bo,u,a,bS,reduceIte,reduceCtorEq];try exact rfl));rintro _ r i l ⟨Q,rfl,Z⟩ c d)
    have G:Q.length<=6:=by omega
    (refine cr (qN _) (fun _ h=>oL.ty h) ?_;rintro _ r i l ⟨b2,rfl⟩ c d)
    apply aj<;>intro h
    ·exfalso;revert h;simp only[eS,bo,u,a,f];simp
    simp only[eS,VC.den,bo,u,a,f,bS,reduceIte,reduceCtorEq];exact⟨⟨⟨5,m,nV,Q⟩,rfl,I,J,G⟩,_,_,_,rfl,by assumption,by assumption⟩
   ·exfalso;revert h;simp only[eS,bo,u,a];simp
  obtain⟨e,o,A,_⟩:=vK p;rw[o];have f:bg .geq (e:Int) 0=true:=by simp[bg]
  apply aj<;>intro h
  ·exfalso;revert h;simp only[eS,bo,u,a];simp
  apply aj<;>intro h
  ·exfalso;revert h;simp only[eS,bo,u,a];simp
  apply aj<;>intro h
  ·(refine Ba (ahz) (fun _ h=>DI.ty h) ?_ (hb:=by(simp only[gS,bo,u,a,bS,reduceIte,reduceCtorEq];try exact rfl)) (ha:=by(simp only[gS,bo,u,a,bS,reduceIte,reduceCtorEq];try exact rfl));rintro _ r i l ⟨Q,rfl,Z⟩ c d)
   have G:Q.length<=6:=by omega
   (refine cr (qN _) (fun _ h=>oL.ty h) ?_;rintro _ r i l ⟨b2,rfl⟩ c d)
   apply aj<;>intro h
   ·have j:=amh (H.er _ (gF A)).1;have j:=(acK (H.er _ (gF A)).1).1;refine aQ (fun _=> ?_) ?_
    ·simp only[eS,bo,u,a];simp;omega
    refine aQ (fun _=> ?_) ?_
    ·simp only[eS,bo,u,a,oQ,iW,gX];simp;omega
    have j:((nth g.entries e).recipe.take 1).length=1:=by rw[mO];omega
    refine fD (MG ((nth g.entries e).recipe.take 1) (by omega)) ?_ (ha:=by(simp only[gS,bo,u,a,oQ,iW,gX,ayn];try exact rfl))
    (apply vG;(focus (simp only[gS,bo,u,a,f,bS,reduceIte,reduceCtorEq];try exact rfl));(focus (simp only[gS,bo,u,a,f,bS,reduceIte,reduceCtorEq];try exact rfl));(focus (exact⟨_,_,_,rfl,by assumption,by assumption⟩));(focus (first|exact uu _ (by decide) rfl|exact Dr.fZ (uu _ (by decide) rfl)));(focus (exact fun _ h=>isS.ty h));rintro _ r i l ⟨t,rfl⟩ c d;(simp only[cA]))
    refine aQ (fun _=> ?_) ?_
    ·simp only[eS];simp;omega
    refine aH (Dg ((nth g.entries e).recipe.take 1++[t])) ?_ (ha:=by(simp only[gS,ak,AR,jJ,rR,fP];try exact rfl));have S:D.sl (((nth g.entries e).recipe.take 1).map aB.cells++[[.str t]])=ak ((nth g.entries e).recipe.take 1++[t]):=by simp[ak,fP]
    apply aj<;>intro c
    ·simp only[eS,VC.den,bo,u,a,f,bS,reduceIte,reduceCtorEq];exact⟨⟨⟨5,m,nV,[D2]⟩,rfl,I,J,(show [D2].length<=6 by decide)⟩,_,_,_,rfl,by assumption,by assumption⟩
    ·simp only[eS,VC.den,bo,u,a,f,S,bS,reduceIte,reduceCtorEq];exact⟨⟨⟨5,m,nV,(nth g.entries e).recipe.take 1++[t]⟩,rfl,I,J,(by simp[j])⟩,_,_,_,rfl,by assumption,by assumption⟩
   ·simp only[eS,VC.den,bo,u,a,f,bS,reduceIte,reduceCtorEq];exact⟨⟨⟨5,m,nV,Q⟩,rfl,I,J,G⟩,_,_,_,rfl,by assumption,by assumption⟩
  ·exfalso;revert h;simp only[eS,bo,u,a];simp
structure CS where
 n:Int
 rows:List (List D)
 i:Int
 h:Int
 g:Host
def CS.lay(s:CS):List D:=[.int .i64 s.n,.sl s.rows,.int .i64 s.i,.int .i64 s.h,ak s.g.entries,ak s.g.parts,ak s.g.up,ak s.g.shut,ak s.g.log]
def ayC(g:Host)(G:HW g)(m:Int)(u:0<=m/\m<=100):Dr 32 [enc g,.int .i64 m] J7:=by
 refine lC aqC aJN (fun v h=>by exact⟨pT g,rfl,ji h⟩) (enc g) ⟨_,rfl,G⟩ fun r i d x z a b=> ?_;(simp only[cA]);unfold aqC
 (refine cr (mA _) (fun _ h=>jC.ty h) ?_;rintro _ r i d ⟨y,rfl,l⟩ a b)
 have f:dQ .add .i64 m 1=m+1:=bF;have c:=l.2 (by rw[f];omega);rw[f]at c;refine qO CS CS.lay (fun s=>da aJ.tab [.int .u8] s.rows/\0<=s.i/\s.n<=101/\HW s.g) (fun s=>s.n.toNat) ⟨y,r,i,d,g⟩ (fun s A h=>by simp[CS.lay]at h;rw[h.1]) rfl ⟨a,b,by simp only;omega,G⟩ ?_;rintro⟨n,r,j,d,g⟩ ⟨a,b,o,G⟩ -;simp only at a b o G;simp only[CS.lay,gY,iw];apply aj<;>intro h
 ·simp[E.den,bg]at h
  (refine Ba (ahA g G) (fun _ h=>Oc.ty h) ?_;rintro _ r i d ⟨e,rfl,p,q,t⟩ a b)
  refine FK (r:=.aU [enc (xD g e).1,.bool (xD g e).2]) (xs:=[enc g,enc e]) ?_ (axT g e G.fit (by omega) (by omega)) ⟨pT _,trivial,trivial⟩ ?_
  ·rfl
  simp only[cA];have k:dQ .sub .i64 n 1=n-1:=lS;apply aj<;>intro B
  ·refine⟨⟨n-1,r,i,d,(xD g e).1⟩,?_,⟨a,b,by simp only;omega,aER G e⟩,by simp only;omega⟩;simp only[eS,CS.lay,bo];rw[k]
  ·refine⟨⟨n-1,r,i,d,g⟩,?_,⟨a,b,by simp only;omega,G⟩,by simp only;omega⟩;simp only[eS,CS.lay,bo];rw[k]
 ·exact⟨⟨g,rfl,G⟩,_,_,_,rfl,a,b⟩
def ayz:Dr 13 [] J7:=by
 have k:HW (DB [] []):=ace (l:=[]) rfl;refine lC aqt aJE (fun m h=>by exact ji h) (enc (DB [] [])) ⟨_,rfl,k⟩ fun r i s n a b c=> ?_;(simp only[cA]);unfold aqt
 (refine cr (ayB) (fun _ h=>Oh.ty h) ?_;rintro _ r i s ⟨l,rfl,a,d⟩ b c)
 have o:=(qt a).1;have f:∀e∈l,e.fit:=fun e j=>⟨dV (d e j).1 (by decide),dV (d e j).2 (by decide)⟩;refine fD (axw l (by omega) f) (hty:=⟨pT _,trivial,trivial⟩) ?_
 (refine cr (ayC (DB (Kh l) (Ki l)) (ace a) 9 (by decide)) (fun _ h=>J7.ty h) ?_;rintro _ r i s ⟨g,rfl,G⟩ b c)
 exact⟨⟨g,rfl,G⟩,_,_,_,rfl,b,c⟩
def agR(e:Event)(a:e.recipe.length<=1048576):dN Tryz.prog 49 none [enc e] (enc e) [] [(6,1)]:=by refine gu aoQ aH3 ⟨Cp e,trivial⟩ fun f=> ?_;unfold aoQ;refine fD (agS e.recipe a) ?_;exact ay rfl
set_option maxHeartbeats 1000000 in
def aKj{N:Nat->Prop}{l:List ByteArray}(hG:dZ w (BM M N))(h:R w (BM M N) (ak l) v)(hl:l.length<1048576) :
  Calls Tryz.prog 47 #[v] w fun e w'=>∃c,e=.returned c/\OR M (fun x=>N x\/c.ownBlock=some x) w' 9 1 (l.map aB.cells) c/\(∀x,c.ownBlock=some x->w.heap.size<=x)/\Below w.heap.size w w':=by
 obtain⟨a,cap,Q,_,F⟩:=mQ (mI (n:=1) (fun _=>rfl) l) h;rw[dq]at Q;subst Q;obtain⟨Y,q,Z,z,G⟩:=vD (P:=Tryz.prog) (e:=9) (z:=.string ⟨#[]⟩) (size:=1) (bytes:=16) (by kernel_rfl);refine oz (E:=[(0,.slice a l.length cap)]) Tryz.func47 rfl Tryz.ntmps47 (by simp) (by simp) ?_;refine aO ?_;refine ah bO ?_;refine bq ?_;refine bA (E':=[(0,.slice a l.length cap)]) ?_;refine aO ?_;refine ah aI ?_;have S:w.ownsRow 0 9 1 (.slice none 0 0) 0 []:=World.ownsRow_nil _ _ _ _;have t:∀k (T:k<l.length),(nth l k).size<=maxLen/\∃b o,a=some ⟨b,o,none⟩/\w.cell? ⟨b,o+k,none⟩=some (.string (nth l k)):=fun k T=>by obtain⟨b,o,j,rfl,f,⟨n,_,rfl,⟨rfl,z⟩,p⟩,m⟩:=F k _ (get_map l T);exact⟨z,b,o,rfl,by have:=m 0 _ rfl;simpa using this⟩
 have y:∀(c:Value) (w':World),w'.ownsRow 0 9 1 c l.length (l.map Value.string)->OR M (fun x=>N x\/c.ownBlock=some x) w' 9 1 (l.map aB.cells) c:=fun c w' j=>by
  refine⟨mI (fun _=>rfl) l,l.map Value.string,by rw[dq];exact j,fun x f=>.inr f,fun i j r d B n=> ?_⟩;rw[iq]at B;obtain⟨s,H,rfl⟩:=kR.1 B;have n:[D.str s][j]? =some d:=n;have I:=(db.1 H).1;have p:nth l i=s:=by rw[nth,List.getD,H];rfl
  match j,n with
  |0,n=> cases n;exact⟨.string s,by rw[iq,show i*1+0=i by omega,H];rfl,rfl,rfl,by rw[<-p];exact(t i I).1⟩
  |j+1,n=>simp at n
 rcases a with _|a
 ·have J:l=[]:=by
   rcases l with _|⟨s,l⟩
   ·rfl
   ·obtain⟨_,b,o,e,_⟩:=t 0 (by simp);cases e
  subst J;have O:cap=0:=by obtain⟨r,U,V,m,_,_,_,n,_⟩:=(show R w (BM M N) (.sl (([]:List ByteArray).map aB.cells)) _ from h);cases m;exact n rfl
  subst O;refine ah (rn rfl rfl rfl (Y5 fz q (bK _))) ?_;refine ah bO ?_;exact WL.nil (aM (CW.ret (LM rfl rfl ⟨_,rfl,y _ _ S,fun x f=>(by cases f),⟨rfl,rfl,rfl,bK _,fun _ _=>rfl⟩⟩)))
 ·obtain⟨c,w',q1,q2,q3,_,q5⟩:=run_append_own_at (P:=Tryz.prog) w 0 26 26 9 Y (.string ⟨#[]⟩) 1 16 fz q Z z G rfl (by decide) _ 0 _ S a l.length cap (l.map Value.string) (by simp)
   (fun j u C=>by
    rw[iq]at C;obtain⟨X,A,rfl⟩:=kR.1 C;have P:=(db.1 A).1;obtain⟨_,b,o,e,c⟩:=t j P;cases e;have p:nth l j=X:=by rw[nth,List.getD,A];rfl
    rw[tY,c,p])
   (fun u C=>by obtain⟨X,_,rfl⟩:=fN.1 C;rfl) (by unfold maxLen;omega) (by omega) (fO _)
  refine ah (rn rfl rfl rfl q1) ?_;refine ah bO ?_;refine WL.nil (aM (CW.ret (LM rfl rfl ⟨_,rfl,y _ _ (by simpa using q2),fun x f=> ?_,⟨q3.os,q3.tape,q3.output,q3.size,fun i B=>q3.block i B (fun e=>by cases e)⟩⟩)));rcases q5 with e|e
  ·rw[e]at f;cases f
  ·rw[e]at f;have c:=jy f;omega
def cpI:Qv amx:=⟨by kernel_rfl,aKj,aw9,agR,Zi⟩
def aKi{h:Host}(G:dZ w M)(b:R w M (enc h) v)(d:h.entries.length<=1048576)(f:∀e∈h.entries,e.fit)(u:h.up.length<1048576)(s:h.shut.length<1048576)(l:h.parts.length<1048576)(c:∀p∈h.parts,p.core.cells.length<=4294967296/\p.ai.length<=4294967296)(a:h.log.length<1048576)(r:∀e∈h.log,e.recipe.length<=1048576) :
  Calls Tryz.prog 15 #[v] w fun e w'=>∃N ve vp vu vs vl,e=.returned (.agg (aC ve vp vu vs vl))/\HX M N w' h ve vp vs vl/\OR M N w' 9 1 (h.up.map aB.cells) vu/\(∀x,vu.ownBlock=some x->¬KV vp vl x)/\(∀x,N x->w.heap.size<=x)/\Below w.heap.size w w':=at6 cpI Tryz.func15 aFp rfl rfl G b d f u s l c a r
def LQ:Prop:=∀(p:Part) (m:ByteArray),DR p->m=mStart\/m=dR->aG Tryz.prog 85 none [enc p,enc (bL m)] (.aU [enc (fX p (bL m)).1,enc (fX p (bL m)).2]) []
def LK{P:Program}{E:List (Nat×Value)}{fn:Func}{R:Ending->World->Prop}(h:fn.results=#[])(b:R (.returned (.tuple #[])) w):NX n (bodyPost P fn R .normal) E w :=
 fun a c=>⟨c.df,_,by simp[results,h,C9],b⟩
noncomputable def Vb:Array Oper:=G5 Tryz.f51 1
def awC:∀k:Nat,k<64->bg .eql (dQ .and .i64 (k:Int) 1) 1=cm (k:Int) 1:=by decide +kernel
section
variable {L:Nat}{bx:List (Nat×TypeId×Array Value)}{M:Addr->Prop}{N:Nat->Prop}{w W:World}{b6:Nat}{g h:Host}{ve vp vu vs vl:Value}
set_option maxHeartbeats 4000000 in
def aKs(O:LQ)(H:HX M N W g ve vp vs vl)(q6:aA W b6 29 (aC ve vp vu vs vl))(h6:¬KV vp vl b6){i:Nat}{m:ByteArray}(hm:m=mStart\/m=dR)(n:i<g.parts.length)(hp:DR (nth g.parts i)) :
  Calls Tryz.prog 51 #[PH b6,.int .i64 (i:Int),.string m] W fun e w'=>e=.returned (.tuple #[])/\HX M N w' {g with parts:=g.parts.set i (mZ (nth g.parts i) m)} ve vp vs vl/\dD (KV vp vl) W w':=by
 have t:(g.parts.map aB.cells)[i]? =some (aB.cells (nth g.parts i)):=get_map g.parts n;have v:(g.parts.map (aB.cells (α:=Part))).length=g.parts.length:=dq _;have P:m.size<=maxLen:=by rcases hm with rfl|rfl<;>decide
 obtain⟨b,cap,r,c,q1,I,q3,J⟩:=H.p.row t;rw[v]at c;subst c;obtain⟨p,x⟩:∃p,nth g.parts i=p:=⟨_,rfl⟩;rw[x]at J hp ⊢;refine oz (E:=[(0,PH b6),(1,.int .i64 (i:Int)),(2,.string m)]) Tryz.func51 rfl Tryz.ntmps51 (by simp) (by simp) ?_;refine aO ?_;refine ah aI ?_;refine ah (sC rfl rfl) ?_;refine ah (br rZ) ?_;refine ah (bB qf (v:=.slice (some ⟨b,0,none⟩) g.parts.length cap) ((q6.cell 1).trans rfl)) ?_;refine ah aI ?_;refine ah (yS rfl rfl rfl n FR) ?_;refine ah (Ab (cs:=r) rfl rfl dF rfl (by rw[q1];exact l8) I) ?_;refine dE (aG.calls (MC p) H.cF (vs:=[.agg r.toArray]) ⟨_,[],rfl,⟨_,rfl,J⟩,rfl⟩) ?_;rintro _ c ⟨_,rfl,Q,f⟩;obtain⟨rfl, -⟩:=Q;refine⟨_,rfl,?_⟩;have S:=H.below f;have k:=q6.below f q6.lt;have q:∀(j:Nat) (u:Value),r[j]? =some u->c.cell? ((⟨b,i*6,none⟩:Addr).add j)=some u:=fun j u y=>by rw[f.cell (gf (I j u y))];exact I j u y
 have z:=Rs.keep (bR.below f fun _ _ h=>h) _ _ J;have T:dD (KV (.slice (some ⟨b,0,none⟩) g.parts.length cap) vl) W c:=vM (dD.refl _ _) f;clear H q6 I J f;refine ah (iA (r:=dQ .and .i64 (fc p:Int) 1) (hb:=rfl)) ?_;refine ah (iB (b:=cm (fc p) 1) (hb:=(awC _ (ah9 p)))) ?_;refine bq ?_;rcases c:cm (fc p) 1 with _|_
 ·refine CW.no (CW.skip (LK rfl ⟨rfl,?_,T⟩));have U:mZ p m=p:=by unfold mZ;rw[aw (by rw[c];decide)]
  have d:g.parts.set i p=g.parts:=by rw[<-x,nth,List.getD,bX n];exact List.set_getElem_self n
  rw[U,d];exact S
 refine eG ?_;have U:mZ p m=(fX p (bL m)).1:=by unfold mZ;rw[aD c]
 rw[U];refine bA (E':=[(0,PH b6),(1,.int .i64 (i:Int)),(2,.string m)]) ?_;refine CW.any (fun X=>aA X b6 29 (aC ve (.slice (some ⟨b,0,none⟩) g.parts.length cap) vu vs vl)) 19 mo fun c V d=>⟨k.below d k.lt,?_⟩;have Y:=S.below d;have q6:=k.below d k.lt;have A:∀(j:Nat) (u:Value),r[j]? =some u->c.cell? ((⟨b,i*6,none⟩:Addr).add j)=some u:=fun j u y=>by rw[d.cell (gf (q j u y))];exact q j u y
 have B:=Rs.keep (bR.below d fun _ _ h=>h) _ _ z;have o:=vM T d;clear S k q z d T V;refine aX 0 rfl (fun X c=>aI) q6 ?_;refine aX 1 rfl (fun X c=>sC rfl rfl) q6 ?_;refine aX 2 rfl (fun X c=>br rZ) q6 ?_;refine aX 3 rfl (fun X c=>bB qf (v:=.slice (some ⟨b,0,none⟩) g.parts.length cap) ((c.cell 1).trans rfl)) q6 ?_;refine aX 4 rfl (fun X c=>aI) q6 ?_;refine aX 5 rfl (fun X c=>aI) q6 ?_;refine aX 6 rfl (fun X c=>sC rfl rfl) q6 ?_;refine aX 7 rfl (fun X c=>br rZ) q6 ?_;refine aX 8 rfl (fun X c=>bB qf (v:=.slice (some ⟨b,0,none⟩) g.parts.length cap) ((c.cell 1).trans rfl)) q6 ?_;refine aX 9 rfl (fun X c=>aI) q6 ?_;refine aX 10 rfl (fun X c=>yS rfl rfl rfl n FR) q6 ?_;refine aX 12 rfl (fun X c=>aI) q6 ?_;refine aX 13 rfl (fun X c=>kI (vs:=[(0,.string m)]) (agG m)) q6 ?_;refine gI 11 rfl (Ab (cs:=r) rfl rfl dF rfl (by rw[q1];exact l8) A) (fun _=>q6) ?_;refine p9 14 rfl (aG.calls (O p m hp hm) Y.cF (vs:=[.agg r.toArray,.agg #[.string m,.string ⟨#[]⟩,.int .i64 0,.string ⟨#[]⟩]]) ⟨_,_,rfl,⟨_,rfl,B⟩,_,[],rfl,ahc P,rfl⟩) ?_;rintro _ x ⟨d,rfl,q,l⟩;obtain⟨r,rfl,Z,d,f⟩:=DV q;have t:=Y.below l;have k:=q6.below l q6.lt;have y:=vM o l;have j:b6≠b:=fun e=>h6 (.inl (by rw[e];rfl));clear Y q6 A B o l q;refine⟨_,rfl,fun _=>k,?_⟩;refine gI 15 rfl aI (fun _=>k) ?_;refine aX 16 rfl (fun X c=>eA) k ?_;refine aX 18 rfl (fun X c=>yS rfl rfl rfl n FR) k ?_;obtain⟨c,e,s⟩:=f;have s:Rs x (BM M N) (aB.cells (fX p (bL m)).1) r.toList:=by cases e;exact s
 obtain⟨f,C,c,o⟩:=Vl (n:=35) (P:=Tryz.prog) (E:=[(34,.pointer (some ⟨b,i*6,none⟩)),(32,.agg r)]) (o:=opAt Vb 19) (T:=51) (x:=.tmp 34) (y:=.tmp 32) (by kernel_rfl) rfl rfl t.p (by rw[v];exact n) rfl Z d s l8;have F:=t.part c o;have G:dD (KV (.slice (some ⟨b,0,none⟩) g.parts.length cap) vl) W f:=Tr y o (.inl (.inl rfl));refine CI (show Region.ready .any _ _=[17,19] by kernel_rfl) ?_ ?_
 ·refine nW (o:=opAt Vb 17) (d:=33) (eA (x:=.tmp 16) (i:=1) (v:=.agg (eY (fX p (bL m)).2)) (ho:=(by kernel_rfl))) k ?_;refine Ax 19 (o:=opAt Vb 19) (by kernel_rfl) (by kernel_rfl) (by kernel_rfl) (by kernel_rfl) (fun a c=>C a (c.sub ⟨rfl,rfl,trivial⟩)) (fun h=>absurd rfl h) ?_;exact ij (by kernel_rfl) (LK rfl ⟨rfl,F,G⟩)
 ·refine aup (o:=opAt Vb 19) (by kernel_rfl) (by kernel_rfl) (by kernel_rfl) (fun a c=>C a (c.sub ⟨rfl,rfl,trivial⟩)) (fun h=>absurd rfl h) ?_;refine gI 17 rfl eA (fun _=>(o.block b6 j).trans k) ?_;exact ij (by kernel_rfl) (LK rfl ⟨rfl,F,G⟩)
set_option maxHeartbeats 4000000 in
def aKu(G:dZ w M)(S:SB L bx M N w W b6 g ve vp vu vs vl){k:Int}{s:ByteArray}(F:IntKind.i64.min<=k/\k<=IntKind.i64.max)(H:s.size<=maxLen)(o:g.log.length<1048576) :
  Calls Tryz.prog 19 #[PH b6,.agg #[.int .i64 k,.string s,.string ⟨#[]⟩,.string ⟨#[]⟩,.int .i64 0,.string ⟨#[]⟩,.slice none 0 0]] W fun e w'=>e=.returned (.tuple #[])/\∃N' v,SB L bx M N' w w' b6 (qo g (jj k s)) ve vp vu vs v:=by
 refine oz (E:=[(0,PH b6),(1,.agg #[.int .i64 k,.string s,.string ⟨#[]⟩,.string ⟨#[]⟩,.int .i64 0,.string ⟨#[]⟩,.slice none 0 0])]) Tryz.func19 rfl Tryz.ntmps19 (by simp) (by simp) ?_;refine aO ?_;refine CV B0.nil fun A B=> ?_;refine bq ?_;have b:Below W.heap.size W A:=B.b;have q3:aA A W.heap.size 33 #[.int .i64 k,.string s,.string ⟨#[]⟩,.string ⟨#[]⟩,.int .i64 0,.string ⟨#[]⟩,.slice none 0 0]:=B.q0;clear B;refine bA (E':=[(0,PH b6),(3,PH W.heap.size)]) ?_;have n:=S.below b;have q:¬N W.heap.size:=fun I=>by have:=S.H.nb _ I;omega
 refine CW.any (fun X=>aA X b6 29 (aC ve vp vu vs vl)/\aA X W.heap.size 33 #[.int .i64 k,.string s,.string ⟨#[]⟩,.string ⟨#[]⟩,.int .i64 0,.string ⟨#[]⟩,.slice none 0 0]) 11 mo fun Q r d=>⟨⟨n.q6.below d n.q6.lt,q3.below d q3.lt⟩,?_⟩;have a:=n.below d;have q4:=q3.below d q3.lt;clear S n q3 b d r;refine aX 0 rfl (fun X c=>aI) ⟨a.q6,q4⟩ ?_;refine aX 1 rfl (fun X c=>aI) ⟨a.q6,q4⟩ ?_;refine aX 2 rfl (fun X c=>sC rfl rfl) ⟨a.q6,q4⟩ ?_;refine aX 3 rfl (fun X c=>br tk) ⟨a.q6,q4⟩ ?_;refine aX 4 rfl (fun X c=>bB vz (v:=vl) ((c.1.cell 4).trans rfl)) ⟨a.q6,q4⟩ ?_;refine aX 5 rfl (fun X c=>bG YS c.2 UE) ⟨a.q6,q4⟩ ?_;refine p9 6 rfl (aG.calls (aG.fZ (agR (jj k s) (fO _))) a.H.cF (vs:=[.agg #[.int .i64 k,.string s,.string ⟨#[]⟩,.string ⟨#[]⟩,.int .i64 0,.string ⟨#[]⟩,.slice none 0 0]]) ⟨_,[],rfl,⟨_,rfl,Tj F H⟩,rfl⟩) ?_;rintro _ C ⟨T,rfl,j,f⟩;obtain⟨l,rfl,J,_⟩:=aaa j;have m:=a.below f;have q5:=q4.below f q4.lt;clear a q4 f;refine⟨_,rfl,fun _=>⟨m.q6,q5⟩,?_⟩;obtain⟨O,t,i⟩:=j;have i:Rs C (BM M N) (aB.cells (jj k s)) ([.int .i64 (jj k s).kind,.string (jj k s).name,.string (jj k s).call.method,.string (jj k s).call.key,.int .i64 (jj k s).call.val,.string (jj k s).call.text,l]):=by cases t;exact i
 obtain⟨v,U,V,p,u,x,y,_,P⟩:=m.lg G (e:=jj k s) i o;have z:=y q5 fun e=>q (m.H.l.lt _ e.symm).1;have b:=gh C #[.int .i64 (jj k s).kind,.string (jj k s).name,.string (jj k s).call.method,.string (jj k s).call.key,.int .i64 (jj k s).call.val,.string (jj k s).call.text,l] 33;refine gI 7 rfl Km (fun _=>⟨m.q6.below b m.q6.lt,q5.below b q5.lt⟩) ?_;refine gI 8 rfl (rn rfl rfl rfl p) (fun _=>⟨x,z⟩) ?_;refine gI 9 rfl (sC rfl rfl) (fun _=>⟨x,z⟩) ?_;refine gI 10 rfl (br tk) (fun _=>⟨x,z⟩) ?_;refine Ax 11 rfl (by kernel_rfl) rfl rfl (pM rfl rfl rfl (by kernel_rfl) u ((x.cell 4).trans rfl) (x.frozen 4)) (fun h=>absurd rfl h) ?_;exact ij (by kernel_rfl) (LK rfl ⟨rfl,_,v,P⟩)
end
end
end Go.Proofs.YtoomhbopolalnaaGreatDoor
