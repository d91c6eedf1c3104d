/- What the reference draws where it draws a registry: it is one. -/
import Derived.Test.YtekplmpbkgchfaaGreatDoorE16
import Derived.Test.YtekplmpbkgchfaaGreatDoorE14
import Derived.Test.YtekplmpbkgchfaaGreatDoorE15
import Derived.Test.YtekplmpbkgchfaaGreatDoorE11
import Derived.Test.YtekplmpbkgchfaaGreatDoorE13
import Derived.Test.YtekplmpbkgchfaaGreatDoorE24
set_option linter.all false
set_option maxRecDepth 100000
namespace Go.Proofs.YtekplmpbkgchfaaGreatDoor
section
open Go.RowKit Go
variable [GC]
def Ti(eD:List (List D))(r:D):Prop:= ∃s:ByteArray,r= .str s/\[.str s]∈eD
def Ti.ty{eD:List (List D)}{r:D}(h:Ti eD r):bA aI.tab (.one (.c .str)) r:=by obtain ⟨x,rfl,_⟩:=h;trivial
def afV(eD:List (List D))(s0:ByteArray)(h0:0<eD.length)(hs0:[.str s0]∈eD)(hs:eD.all abK=true):Dr 42 [.sl eD] (Ti eD):=by
 have hs': ∀r∈eD,∃s,r=[.str s]:=fun r hr=>alN (fO.1 hs r hr);have hty:bA aI.tab (.one (.c (.sl 9))) (.sl eD):=by show cN _ (aI.tab _) _;rw [NL];exact ud fun r hr=>by obtain ⟨s,rfl⟩:=hs' r hr;exact ⟨trivial,trivial⟩
 refine jE Dx UO (fun cs h=>by exact ⟨hty,ij h⟩) (.str s0) ⟨_,rfl,hs0⟩ fun rows i sd f1 hl hr hi=> ?_;(simp only [cA]);unfold Dx;have hn:(eD.length:Int)<=9223372036854775807:=by simp [dW,Fits,maxLen] at f1;omega
 (refine bJ (kq eD.length) (fun _ h=>iN.ty h) ?_ (hb:=by (simp only [gS,dL];try exact rfl)) (ha:=by (simp only [gS,dL];try exact rfl));rintro _ rows i sd ⟨x,rfl,hx⟩ hr hi)
 refine aX (fun _=> ?_) ?_
 ·simp [E.den,dL];omega
 have hx2:=hx.2 (by omega);have e:eD[x.toNat]? =some eD[x.toNat]:=cO (by omega);have hm:=vM (show x.toNat<eD.length by omega);obtain ⟨s,hs1⟩:=hs' _ hm;rw [hs1] at hm;refine ⟨⟨s,?_,hm⟩,_,_,_,rfl,hr,hi⟩;simp [E.den,e,hs1]
def Th(r:D):Prop:= ∃l:List ByteArray,r=ax l/\l.length<=5/\gO l=true
def Th.ty{r:D}(h:Th r):bA aI.tab (.one (.c (.sl 9))) r:=by obtain ⟨l,rfl,_⟩:=h;exact lG l
def Dk:ByteArray:=⟨#[114,111,98,111,116]⟩
def awU:tW 87 [] Th [(0,1)]:=by
 refine BS U0 amx (fun cs h=>by exact ij h) (ax [Dk]) ⟨_,rfl,by simp,by kernel_rfl⟩ fun rows i sd f1 hl hr hi=> ?_;(simp only [cA]);unfold U0;refine p7 vI vI.lay (fun s=>s.k<=4/\cN aI.tab [.int .u8] s.rows/\0<=s.i) (fun s=>4-s.k) ⟨0,rows,i,sd⟩ (fun s s' h=>by simp [vI.lay] at h;omega) rfl ⟨by simp,hr,hi⟩ ?_;rintro ⟨k,rows,i,sd⟩ ⟨hk,hr,hi⟩ -;simp only at hk hr hi;simp only [vI.lay,iH,iw];apply aq<;>intro h
 ·simp [E.den,ba] at h
  (refine vY (Yr) (fun _ h=>AZ.ty h) ?_;rintro _ rows i sd ⟨l,rfl,hl'⟩ hr hi)
  refine aF (Cq l) ?_;apply aq<;>intro h2
  ·simp only [eS] at h2;have h3:gO l=true:=by simp at h2;exact h2.1
   exact ⟨⟨l,rfl,hl',h3⟩,_,_,_,rfl,hr,hi⟩
  refine ⟨⟨k+1,rows,i,sd⟩,?_,⟨by simp only;omega,hr,hi⟩,by simp only;omega⟩;simp [E.den,vI.lay];rw [bW]
 ·(apply nY;(focus (simp only [gS];try exact rfl));(focus (simp only [gS];try exact rfl));(focus (exact ⟨_,_,_,rfl,by assumption,by assumption⟩));(focus (first|exact afV _ Dk (by decide) (List.mem_cons_self ..) rfl|exact Dr.fD (afV _ Dk (by decide) (List.mem_cons_self ..) rfl)));(focus (exact fun _ h=>Ti.ty h));rintro _ rows i sd ⟨s,rfl,hs⟩ hr hi;(simp only [cA]))
  refine ⟨⟨[s],rfl,by simp,?_⟩,_,_,_,rfl,hr,hi⟩;simp at hs;rcases hs with rfl|rfl|rfl<;>kernel_rfl
def isOk(nm:ByteArray)(r:D):Prop:= ∃e:Entry,r=enc e/\(e.recipe.length<=5/\e.needs.length<=3)/\(jj nm=true->pj e=true/\e.name=nm)
def isOk.ty{nm:ByteArray}{r:D}(h:isOk nm r):bA aI.tab (.one (.agg [.str,.sl 9,.int .i64,.int .i64,.sl 133])) r:=by obtain ⟨n,rfl,_⟩:=h;exact JE n
def ok0(nm:ByteArray):isOk nm (enc (⟨nm,[Dk],⟨1,0⟩,[]⟩:Entry)):=⟨_,rfl,by simp,fun h=>⟨by unfold pj;simp only [show gO [Dk]=true by kernel_rfl,h];rfl,rfl⟩⟩
def awS(nm:ByteArray):tW 187 [.str nm] (isOk nm) [(1,1),(4,4)]:=by
 refine BS aoA aHp (fun cs h=>by exact ⟨trivial,ij h⟩) (enc (⟨nm,[Dk],⟨1,0⟩,[]⟩:Entry)) (ok0 nm) fun rows i sd f1 hl hr hi=> ?_;(simp only [cA]);unfold aoA
 (refine vY (awU) (fun _ h=>Th.ty h) ?_;rintro _ rows i sd ⟨tx,rfl,CQ,hrec⟩ hr hi)
 (refine bJ (kq _) (fun _ h=>iN.ty h) ?_;rintro _ rows i sd ⟨y,rfl,hy⟩ hr hi)
 have wF:=hy.2 (by omega);have hy1:=hy.1
 (refine bJ (afU [0,1,1,2,3] (by decide)) (fun _ h=>M9.ty h) ?_;rintro _ rows i sd ⟨n,rfl,hn⟩ hr hi)
 have hn0:0<=n/\n<=3:=by simp at hn;omega
 refine p7 BU BU.lay (fun s=>cN aI.tab [.int .u8] s.rows/\0<=s.i/\0<=s.n/\(s.e.needs.length:Int)+s.n<=3/\s.e.recipe.length<=5/\s.e.name=nm/\gO s.e.recipe=true/\s.e.kF.ok=true/\ ∀x∈s.e.needs,FX x=true/\x.jS≠nm) (fun s=>s.n.toNat) ⟨n,rows,i,sd,⟨nm,tx,⟨1,y⟩,[]⟩⟩ (fun s s' h=>by simp [BU.lay] at h;rw [h.1]) rfl ⟨hr,hi,hn0.1,by simp;omega,CQ,rfl,hrec,by simp [qB.ok];omega,by simp⟩ ?_;rintro ⟨m,rows,i,sd,⟨TD,tx,kF,nd⟩⟩ ⟨hr,hi,hm,ma,CQ,hnm,hrec,SV,hnd⟩ -;simp only at hr hi hm ma CQ hnm hrec SV hnd;subst hnm;simp only [BU.lay,iH,iw];apply aq<;>intro h
 ·simp [E.den,ba] at h
  (refine bJ (awT) (fun _ h=>Tg.ty h) ?_;rintro _ rows i sd ⟨x,rfl⟩ hr hi)
  refine aF (Yc x) ?_;have hms:dJ .sub .i64 m 1=m-1:=oV;apply aq<;>intro h2
  ·simp only [eS,E3] at h2;have h2:FX x=true/\x.jS≠TD:=by simpa using h2
   refine aX (fun _=> ?_) ?_
   ·simp [E.den];omega
   refine ⟨⟨m-1,rows,i,sd,⟨TD,tx,kF,nd++[x]⟩⟩,?_,⟨hr,hi,by simp only;omega,by simp;omega,CQ,rfl,hrec,SV,fun z hz=> ?_⟩,by simp only;omega⟩
   ·simp [E.den,BU.lay,hms,ax]
   ·rcases jx.1 hz with hz|hz
    ·exact hnd z hz
    ·simp at hz;subst hz;exact h2
  ·refine ⟨⟨m-1,rows,i,sd,⟨TD,tx,kF,nd⟩⟩,?_,⟨hr,hi,by simp only;omega,by simp only;omega,CQ,rfl,hrec,SV,hnd⟩,by simp only;omega⟩;simp [E.den,BU.lay,hms]
 ·refine ⟨⟨⟨TD,tx,kF,nd⟩,rfl,⟨CQ,by simp only;omega⟩,fun hb=>⟨?_,rfl⟩⟩,_,_,_,rfl,hr,hi⟩;unfold pj;simp only [aP,cC,mD];refine ⟨⟨⟨⟨hrec,hb⟩,SV⟩,by omega⟩,fun k hk=> ?_⟩;have:=hnd _ (iC hk);unfold zi;simp [this.1,this.2]
def Nb(r:D):Prop:= ∃l:List Entry,r=ax l/\cW l=true/\ ∀e∈l,e.recipe.length<=5/\e.needs.length<=3
def Nb.ty{r:D}(h:Nb r):bA aI.tab (.one (.c (.sl 49))) r:=by obtain ⟨n,rfl,_⟩:=h;exact rp n
def alG: ∀i,i<6->jj (nth wT i)=true/\(0<i->cU (nth wT (i-1)) (nth wT i)=true):=by
 intro i hi
 match i,hi with
 | 0,_=>exact ⟨by kernel_rfl,fun h=>absurd h (by omega)⟩
 | 1,_=>exact ⟨by kernel_rfl,fun _=>by kernel_rfl⟩
 | 2,_=>exact ⟨by kernel_rfl,fun _=>by kernel_rfl⟩
 | 3,_=>exact ⟨by kernel_rfl,fun _=>by kernel_rfl⟩
 | 4,_=>exact ⟨by kernel_rfl,fun _=>by kernel_rfl⟩
 | 5,_=>exact ⟨by kernel_rfl,fun _=>by kernel_rfl⟩
def aEL{n k:Nat}(h:k<n):nth (wT.take n) k=nth wT k:=by unfold nth;simp only [kK,pV,aA h]
def aCy{α:Type}[Inhabited α](l:List α)(x:α)(i:Nat):nth (l++[x]) i=if i=l.length then x else nth l i:=by
 unfold nth;simp only [kK];rcases Hf i l.length with h|h|h
 ·rw [mW h,ak (by omega)]
 ·subst h;simp
 ·rw [ak (by omega),nU (by simp;omega),nU (by omega)]
def aEK{l:List Entry}(h6:l.length<=6)(h: ∀i,i<l.length->pj (nth l i)=true/\(nth l i).name=nth wT i):cW l=true:=by
 unfold cW;rw [aP,cC,mD];refine ⟨h6,fun i hi=> ?_⟩;unfold qL;rw [(h i hi).1,(h i hi).2,sS];rcases vP i with rfl|hp
 ·rfl
 ·rw [(h (i-1) (by omega)).2,(alG i (by omega)).2 hp];simp
def awV:tW 139 [] Nb [(0,5)]:=by
 refine BS aoE aHt (fun cs h=>by exact ij h) (ax ([]:List Entry)) ⟨_,rfl,rfl,by simp⟩ fun rows i sd f1 hl hr hi=> ?_;(simp only [cA]);unfold aoE
 (refine bJ (kq _) (fun _ h=>iN.ty h) ?_;rintro _ rows i sd ⟨n,rfl,hn⟩ hr hi)
 have hn2:=hn.2 (by omega);obtain ⟨n,rfl⟩: ∃m:Nat,n=m:=⟨n.toNat,by omega⟩;have hn6:n<=6:=by omega
 have hcut:qI (.sl [[.str ⟨#[97]⟩],[.str ⟨#[98]⟩],[.str ⟨#[99]⟩],[.str ⟨#[100]⟩],[.str ⟨#[101]⟩],[.str ⟨#[102]⟩]]) 0 (n:Int)=ax (wT.take n):=by simp [qI,wT,ax,eB,Ey]
 refine aX (fun _=> ?_) ?_
 ·simp [E.den,dL];omega
 refine p7 Ea Ea.lay (fun s=>cN aI.tab [.int .u8] s.rows/\0<=s.i/\s.k<=n/\s.l.length=s.k/\(∀e∈s.l,e.recipe.length<=5/\e.needs.length<=3)/\ ∀i,i<s.l.length->pj (nth s.l i)=true/\(nth s.l i).name=nth wT i) (fun s=>n-s.k) ⟨[],0,rows,i,sd⟩ (fun s s' h=>by simp [Ea.lay] at h;omega) rfl ⟨hr,hi,by simp,rfl,by simp,fun i hi=>absurd hi (by simp)⟩ ?_;rintro ⟨l,k,rows,i,sd⟩ ⟨hr,hi,hk,AF,xG,hok⟩ -;simp only at hr hi hk AF xG hok;simp only [Ea.lay,iH,iw];have hlen:(wT.take n).length=n:=by simp [wT];omega
 apply aq<;>intro h
 ·simp only [eS,iw,kU,vN,hcut,hlen] at h;have hkn:k<n:=by simp at h;exact h
  refine aX (fun _=> ?_) ?_
  ·simp only [eS,iw,kU,vN,hcut,hlen];simp;omega
  (refine vY (awS (nth (wT.take n) k)) (fun _ h=>isOk.ty h) ?_ (hb:=by (simp only [gS,iw,hcut,hlen,gW,eB];try exact rfl)) (ha:=by (simp only [gS,iw,hcut,hlen,gW,eB];try exact rfl));rintro _ rows i sd ⟨e,rfl,h1,h2⟩ hr hi)
  rw [aEL hkn] at h2;have h2:=h2 (alG k (by omega)).1;refine aX (fun _=> ?_) ?_
  ·simp [E.den];omega
  refine ⟨⟨l++[e],k+1,rows,i,sd⟩,?_,⟨hr,hi,by simp only;omega,by simp;omega,?_,?_⟩,by simp only;omega⟩
  ·simp [E.den,Ea.lay,ax];rw [bW]
  ·intro e' he';rcases jx.1 he' with h|h
   ·exact xG e' h
   ·simp at h;subst h;exact h1
  ·intro j hj;simp only [jw,fw,zW] at hj;rw [aCy];split
   ·rename_i e1;rw [e1,AF];exact h2
   ·exact hok j (by omega)
 ·exact ⟨⟨l,rfl,aEK (by omega) hok,xG⟩,_,_,_,rfl,hr,hi⟩
def Nl(w:World)(a:Option Addr)(n:Nat):Nat:=match a with
 | none=>0
 | some p=>((List.range n).map fun k=>match w.cell? ⟨p.block,p.off+k*5+4,none⟩ with|some (.slice _ m _)=>m|_=>0).sum
def aBz(e:Entry):(aE.cells e).length=5:=rfl
def abq(l:List Entry): ∀r∈l.map aE.cells,r.length=5:=fun r hr=>by obtain ⟨e,_,rfl⟩:=gD.1 hr;rfl
def ajQ{w:World}{M:Addr->Prop}{l:List Entry}{b o len cap k:Nat}{s:Option Nat}(h:R w M (ax l) (.slice (some ⟨b,o,s⟩) len cap))(hk:k<l.length) :
  ∃u,w.cell? ⟨b,o+k*5+4,none⟩=some u/\ ¬M ⟨b,o+k*5+4,none⟩/\R w M (ax (nth l k).needs) u :=
 IE (abq l) h (i:=k) (j:=4) (get_map l hk) rfl
def ajG{w:World}{M:Addr->Prop}{l:List Entry}{a:Option Addr}{len cap:Nat}(h:R w M (ax l) (.slice a len cap)):Nl w a len=tot l:=by
 have h0:=h;obtain ⟨a',len',cap',e,h1,h2,h3,h4,h5⟩:=h;cases e;rw [cV] at h1;subst h1;rcases a with _|⟨b,o,s⟩
 ·have:l=[]:=oR (by have:=h4 rfl;omega);subst this;rfl
 ·unfold Nl tot;dsimp only;congr 1;apply List.ext_getElem
  ·simp
  ·intro k hk1 hk2;have hk:k<l.length:=by simpa using hk1
   obtain ⟨u,c1,_,c3⟩:=ajQ h0 hk;obtain ⟨a2,n2,cp2,rfl,q1,_⟩:=c3;simp only [List.getElem_map,List.getElem_range,c1];rw [q1,cV];congr 2;simp [nth,kK,hk]
def Ng{w w':World}{M:Addr->Prop}{rows:List (List D)}{n:Nat}{v:Value}(hn: ∀r∈rows,r.length=n)(hlf: ∀r∈rows,∀d∈r,FT d=true)(h:R w M (.sl rows) v)
  (hk: ∀p u,w.cell? p=some u->(∀a m c,u≠ .slice a m c)->w'.cell? p=some u):R w' M (.sl rows) v:=by
 have h0:=h;obtain ⟨a,len,cap,rfl,h1,h2,h3,h4,h5⟩:=h;rcases a with _|⟨b,o,s⟩
 ·have:rows=[]:=oR (by have:=h4 rfl;omega);subst this;exact ⟨none,len,cap,rfl,h1,h2,h3,h4,fun b o s e=>by cases e⟩
 ·refine Ma hn h1 h2 h3 (h5 b o s rfl).1 fun i j r d hi hj=> ?_;obtain ⟨u,c1,c2,c3⟩:=IE hn h0 hi hj;have hl:=hlf r (kV hi) d (kV hj);refine ⟨u,hk _ _ c1 fun a m c e=> ?_,c2,aBw hl c3⟩;subst e;cases d<;>simp [FT] at hl
  ·cases (show Value.slice a m c= .bool _ from c3)
  ·cases c3.1
  ·cases c3.1
def aBx{r:List D}(h:br aI.tab [.int .u8] r){d:D}(hd:d∈r):FT d=true:=by
 match r,h with
 | [x],h => simp at hd;subst hd;obtain ⟨n,rfl⟩:=Av h.1;rfl
def aAT{w:World}{p0:Addr}{a:Option Addr}{m c:Nat}{v:Value}(hc:w.cell? p0=some (.slice a m c)): ∀p u,w.cell? p=some u->(∀a m c,u≠ .slice a m c)->(w.setCell p0 v).cell? p=some u:=by
 intro p u hp hu;have hs:=Rc hc;rcases Rb (w:=w) (v:=v) (p:=p) (a:=p0) (fun e=>by subst e;rw [hc] at hp;cases hp;exact hu _ _ _ rfl) hs (.inr trivial) with h6|⟨h6,h7⟩
 ·rw [h6];exact hp
 ·have h8:=Rc hp;have:p=p0:=by cases p;cases p0;simp_all
  subst this;rw [hc] at hp;cases hp;exact absurd rfl (hu _ _ _)
def ajo(l:List ByteArray): ∀r∈l.map aE.cells,∀d∈r,FT d=true:=fun r hr d hd=>by obtain ⟨x,_,rfl⟩:=gD.1 hr;simp [eB] at hd;subst hd;rfl
def ajn(l:List nS): ∀r∈l.map aE.cells,∀d∈r,FT d=true:=fun r hr d hd=>by obtain ⟨x,_,rfl⟩:=gD.1 hr;simp [E3] at hd;rcases hd with rfl|rfl|rfl|rfl<;>rfl
def aaG(l:List ByteArray): ∀r∈l.map aE.cells,r.length=1:=fun r hr=>by obtain ⟨x,_,rfl⟩:=gD.1 hr;rfl
def Tt(l:List nS): ∀r∈l.map aE.cells,r.length=4:=fun r hr=>by obtain ⟨x,_,rfl⟩:=gD.1 hr;rfl
def aFt{w:World}{M:Addr->Prop}{l:List Entry}{b o len cap k:Nat}{s:Option Nat}{a2:Option Addr}{m c2:Nat}(h:R w M (ax l) (.slice (some ⟨b,o,s⟩) len cap))(hk:k<l.length)
  (hc:w.cell? ⟨b,o+k*5+4,none⟩=some (.slice a2 m c2)) (hm:0<m):R (w.setCell ⟨b,o+k*5+4,none⟩ (.slice a2 (m-1) c2)) M (ax (su l k)) (.slice (some ⟨b,o,s⟩) len cap):=by
 have h0:=h;obtain ⟨a,len',cap',e,h1,h2,h3,h4,h5⟩:=h;cases e;have hkeep: ∀p u,w.cell? p=some u->(∀a m c,u≠ .slice a m c)->(w.setCell ⟨b,o+k*5+4,none⟩ (.slice a2 (m-1) c2)).cell? p=some u:=by
  intro p u hp hu;rcases Rb (w:=w) (v:= .slice a2 (m-1) c2) (p:=p) (a:=⟨b,o+k*5+4,none⟩) (fun e=>by subst e;rw [hc] at hp;cases hp;exact hu _ _ _ rfl) rfl (.inr trivial) with h6|⟨h6,h7⟩
  ·rw [h6];exact hp
  ·have h8:=Rc hp;have:p=⟨b,o+k*5+4,none⟩:=by cases p;simp_all
   subst this;rw [hc] at hp;cases hp;exact absurd rfl (hu _ _ _)
 show R _ M (.sl ((su l k).map aE.cells)) _;refine Ma (abq _) (by rw [cV,UI];simpa using h1) h2 h3 (h5 b o s rfl).1 fun i j r d hi hj=> ?_;have hil:i<l.length:=by have:=(dQ.1 hi).1;rw [cV,UI] at this;exact this
 rw [get_map _ (by rw [UI];exact hil)] at hi;cases hi;have hold:=fun j' d' (hj':(aE.cells (nth l i))[j']? =some d')=>IE (abq l) h0 (i:=i) (j:=j') (get_map l hil) hj';rw [aaU hk] at hj;by_cases hik:i=k
 ·subst hik;rw [aA rfl] at hj
  match j,hj with
  | 0,hj=>obtain ⟨u,c1,xx,c3⟩:=hold 0 _ rfl;cases hj;exact ⟨u,hkeep _ _ c1 (fun a m c e=>by subst e;cases c3.1),xx,c3⟩
  | 1,hj =>
   obtain ⟨u,c1,xx,c3⟩:=hold 1 _ rfl;cases hj;have K7:=Ng (aaG _) (ajo _) c3 hkeep;refine ⟨u,?_,xx,K7⟩;rcases Rb (w:=w) (v:= .slice a2 (m-1) c2) (p:=⟨b,o+i*5+1,none⟩) (a:=⟨b,o+i*5+4,none⟩) (fun e=>by simp at e) rfl (.inr trivial) with h6|⟨_,h7⟩
   ·rw [h6];exact c1
   ·simp at h7
  | 2,hj=>obtain ⟨u,c1,xx,c3⟩:=hold 2 _ rfl;cases hj;exact ⟨u,hkeep _ _ c1 (fun a m c e=>by subst e;cases c3.1),xx,c3⟩
  | 3,hj=>obtain ⟨u,c1,xx,c3⟩:=hold 3 _ rfl;cases hj;exact ⟨u,hkeep _ _ c1 (fun a m c e=>by subst e;cases c3.1),xx,c3⟩
  | 4,hj =>
   obtain ⟨u,c1,xx,c3⟩:=hold 4 _ rfl;cases hj;rw [hc] at c1;cases c1;refine ⟨_,awt hc,xx,?_⟩;have K7:=Ng (Tt _) (ajn _) c3 hkeep;obtain ⟨a3,n3,cp3,e3,q1,q2,q3,q4,q5⟩:=K7;cases e3;rw [cV] at q1;refine ⟨a2,m-1,c2,rfl,?_,by omega,q3,q4,fun b' o' s' he=>⟨fun h=>(q5 b' o' s' he).1 (by omega),?_⟩⟩
   ·show m-1=((nth l i).needs.dropLast.map aE.cells).length;rw [cV,He];omega
   ·have q6:=(q5 b' o' s' he).2;refine B6 (n:=4) (Tt _) fun i' r' hr'=>q6.get (Tt _) ?_;have hi':=(dQ.1 hr').1;rw [cV] at hi';have hd:i'<(nth l i).needs.length-1:=by have:(Dw (nth l i)).needs.length=(nth l i).needs.length-1:=He;omega
    rw [<-hr',iI,iI];show _=Option.map _ ((nth l i).needs.dropLast[i']?);rw [List.getElem?_dropLast,aA hd]
 ·rw [ak hik] at hj;obtain ⟨u,c1,xx,c3⟩:=hold j d hj;have hne: ∀j,j<5->o+i*5+j≠o+k*5+4:=fun j ZW e=>hik (by omega);have ZW:j<5:=by have:=(dQ.1 hj).1;simpa [aBz] using this
  refine ⟨u,?_,xx,?_⟩
  ·rcases Rb (w:=w) (v:= .slice a2 (m-1) c2) (p:=⟨b,o+i*5+j,none⟩) (a:=⟨b,o+k*5+4,none⟩) (fun e=>hne j ZW (congrArg Addr.off e)) rfl (.inr trivial) with h6|⟨_,h7⟩
   ·rw [h6];exact c1
   ·exact absurd h7 (hne j ZW)
  ·match j,hj with
   | 0,hj=>cases hj;exact c3
   | 1,hj=>cases hj;exact Ng (aaG _) (ajo _) c3 hkeep
   | 2,hj=>cases hj;exact c3
   | 3,hj=>cases hj;exact c3
   | 4,hj=>cases hj;exact Ng (Tt _) (ajn _) c3 hkeep
structure yz(w:World)(M:Addr->Prop)(g:Nat)(cs:List D)(R0:List Entry)(a:Option Addr)(len cap:Nat)(wr:World)(l:List Entry):Prop where
 fr:Fr w.heap.size (some g) w wr
 bx: ∃us T,wr.heap[g]? =some (.cells us.toArray T (0,0))/\Rs wr M cs us
 rd:R wr M (ax l) (.slice a len cap)
 tK:cW l=true
 trm:vf (tot l) l=R0
 live: ∀b o s,a=some ⟨b,o,s⟩->0<cap->s=none/\w.heap.size<=b/\ ∃cells T,wr.heap[b]? =some (.cells cells T (0,0))/\o+cap*5<=cells.size
def yz.below{w:World}{M:Addr->Prop}{g:Nat}{cs:List D}{R0:List Entry}{a:Option Addr}{len cap:Nat}{wr w':World}{l:List Entry}(h:yz w M g cs R0 a len cap wr l)(hb:Below wr.heap.size wr w'):yz w M g cs R0 a len cap w' l:=by
 have hkp:bY wr M w' M:=bY.below hb fun _ _ h=>h;refine ⟨h.fr.trans (yq hb h.fr.size),?_,R.keep hkp _ _ h.rd,h.tK,h.trm,fun b o s e hc=> ?_⟩
 ·obtain ⟨us,T,h1,h2⟩:=h.bx;have hg:g<wr.heap.size:=(rD.1 h1).1;exact ⟨us,T,by rw [hb.block g hg];exact h1,Rs.keep hkp _ _ h2⟩
 ·obtain ⟨h1,h2,cells,T,h3,h4⟩:=h.live b o s e hc;have hbl:b<wr.heap.size:=(rD.1 h3).1;exact ⟨h1,h2,cells,T,by rw [hb.block b hbl];exact h3,h4⟩
def yz.cE{w:World}{M:Addr->Prop}{g:Nat}{cs:List D}{R0:List Entry}{a:Option Addr}{len cap:Nat}{wr:World}{l:List Entry}(h:yz w M g cs R0 a len cap wr l)(hG:fN w M)(hg:NG<=g):fN wr M :=
 ⟨fun p hp=>dm (hG.1 p hp) h.fr.size,hG.2.1.keep fun k hk=>h.fr.block k (dm hk hG.2.2) (fun e=>by cases e;omega),dq hG.2.2 h.fr.size⟩
set_option maxHeartbeats 1000000 in
def awY:Dr 90 [] Nb:=by
 intro cs hc;obtain ⟨r0,cs',⟨l0,rfl,ais,xG⟩,ahR,hF⟩:=awV cs hc;have hgood:=al0 (l:=l0) (n:=tot l0) ais xG;refine ⟨ax (vf (tot l0) l0),cs',⟨_,rfl,hgood.1,hgood.2⟩,ahR,by kernel_rfl,fun w M g vs hG hvs hbx=> ?_⟩;obtain rfl:vs=[]:=hvs;obtain ⟨us,T,hb,lD,uD,hMg⟩:=hbx cs rfl;have hgl:g<w.heap.size:=(rD.1 hb).1;have hM:=hG.1;have hC:=hF.2 w M g [] hG rfl hbx;show Calls Tryz.prog 90 #[.pointer (some ⟨g,0,none⟩)] w _;generalize oo:vf (tot l0) l0=R0;have HC:=mV hC;go_enter Tryz.func90,Tryz.ntmps90;go_wp2_with fail;refine HC.out.mono ?_;rintro e w1 ⟨v1,rfl,hr1,hf1,MR,ahM⟩;obtain ⟨us1,T1,hb1,aiC⟩:=ahM rfl;have ay9: ∀p,M p->M p\/pT v1 [(0,5)] p:=fun p hp=> .inl hp;have MQ:R w1 M (ax l0) v1:=R.less hr1 ay9;have aiD:Rs w1 M cs' us1:=Rs.keep (fun p v hp hn=>⟨hp,fun hm=>hn (.inl hm)⟩) _ _ aiC;have hlv:=MR.1 (0,5) (by simp);obtain ⟨a,len,cap,hv1, -⟩:=(show R w1 M (.sl (l0.map aE.cells)) v1 from MQ);subst hv1;have hI0:yz w M g cs' R0 a len cap w1 l0:=⟨hf1,⟨us1,T1,hb1,aiD⟩,MQ,ais,oo,fun b o s e hc=>hlv b o s len cap (by rw [e];rfl) hc⟩;have HI0:=mV hI0;clear hI0 hr1 MQ aiC aiD hlv MR ahM hb1 hf1;go_wp2;go_loopw [4] (fun kk wr=> ∃l,yz w M g cs' R0 a len cap wr l) (fun kk wr=>Nl wr a len)
 case atStart=>exact ⟨l0,HI0.out⟩
 case round =>
  obtain ⟨l,hI⟩:=hrel;have HI:=mV hI;have WR:=mV (show l.length=len by obtain ⟨a',len',cap',e,h1,_⟩:=hI.rd;cases e;rw [h1,cV])
  have hS: ∀w0:World,yz w M g cs' R0 a len cap w0 l->Calls Tryz.prog 138 #[.slice a len cap] w0 fun e w'=> ∃v,e= .returned v/\R w' M (ax (oG l)) v/\Below w0.heap.size w0 w' :=
   fun w0 h=>aH.calls (.fD (Q7 l)) (vs:=[.slice a len cap]) (h.cE hG uD) ⟨_,[],rfl,h.rd,rfl⟩
  have HS:=mV hS;clear hS hI;go_wp2_with fail;refine (HS.out _ HI.out).mono ?_;rintro e w2 ⟨v2,rfl,hr2,hf2⟩;have HI2:=mV (HI.out.below hf2);obtain ⟨a2,ajr,cap2,rfl,lC,h22,h23,h24,h25⟩:=(show R w2 M (.sl ((oG l).map aE.cells)) v2 from hr2);rw [cV] at lC;cases hs:oG l with
  | nil =>
   rw [hs] at lC;obtain rfl:ajr=0:=lC;have HE:=mV hs;clear hr2 h25 h22 h23 h24 hs hf2;go_wp2;go_ret;have RP:=HI2.out;have e1:l=R0:=by rw [<-RP.trm,aFr HE.out]
   subst e1;obtain ⟨us2,T2,q1,q2⟩:=RP.bx;exact ⟨_,rfl,RP.rd,RP.fr,fun _=>⟨us2,T2,q1,q2⟩⟩
  | cons s r =>
   obtain ⟨k,hkl,hki,hkn⟩:=alO HI.out.tK hs;rw [hs] at lC;have aI9:(0:Int)<(ajr:Int):=by simp at lC;omega
   clear hr2 h25;go_wp2_with fail;refine (HS.out _ HI2.out).mono ?_;rintro e w3 ⟨v3,rfl,SI,hf3⟩;have HI3:=mV (HI2.out.below hf3);obtain ⟨a3,aBy,aIJ,AR,IX,_,_,h34,h35⟩:=(show R w3 M (.sl ((oG l).map aE.cells)) v3 from SI);subst AR;rw [cV,hs] at IX;have aJa:(0:Int)<(aBy:Int):=by simp at IX;omega
   obtain ⟨b3,o3,s3,rfl⟩: ∃b3 o3 s3,a3=some ⟨b3,o3,s3⟩:=by
    rcases a3 with _|⟨b3,o3,s3⟩
    ·have:=h34 rfl;simp at IX;omega
    ·exact ⟨b3,o3,s3,rfl⟩
   have hs3:=(h35 b3 o3 s3 rfl).1 (by omega);subst hs3;rw [hs] at SI;obtain ⟨u3,c31,_,X4⟩:=IE (aaG _) SI (i:=0) (j:=0) (r:=[.str s]) rfl rfl;have hu3:u3= .string s:=X4.1;subst hu3;have hsz:=X4.2;simp only [Nat.zero_mul,EA] at c31;clear SI h35 X4;have hF4: ∀w0:World,yz w M g cs' R0 a len cap w0 l->Calls Tryz.prog 83 #[.slice a len cap,.string s] w0 fun e w'=> ∃v,e= .returned v/\R w' M (.int .i64 (dN l s)) v/\Below w0.heap.size w0 w' :=
    fun w0 h=>aH.calls (pZ l s) (vs:=[.slice a len cap,.string s]) (h.cE hG uD) ⟨_,_,rfl,h.rd,_,[],rfl,⟨rfl,hsz⟩,rfl⟩
   have HF4:=mV hF4;clear hF4;go_wp2_with fail;refine (HF4.out _ HI3.out).mono ?_;rintro e w4 ⟨v4,rfl,hr4,hf4⟩;have hv4:v4= .int .i64 (k:Int):=by rw [<-hki];exact hr4.1
   subst hv4;have Fk:=HI3.out.below hf4;obtain ⟨b,o,sp,rfl⟩: ∃b o sp,a=some ⟨b,o,sp⟩:=by
    rcases a with _|⟨b,o,sp⟩
    ·obtain ⟨a',len',cap',e,h1,h2,h3,h4,_⟩:=Fk.rd;cases e;have:=h4 rfl;have:=WR.out;omega
    ·exact ⟨b,o,sp,rfl⟩
   obtain ⟨u5,c51,c52,c53⟩:=ajQ Fk.rd hkl;obtain ⟨a5,aJL,E0,rfl,Sw,ay6,_⟩:=c53;rw [cV] at Sw;subst Sw;have hcap:0<cap:=by obtain ⟨a',len',cap',e,h1,h2,h3,h4,_⟩:=Fk.rd;cases e;have:=WR.out;omega
   obtain ⟨hsp,hwb,cells,TT,hbl,hsize⟩:=Fk.live b o sp rfl hcap;subst hsp;have ayL:w4.frozen? ⟨b,o+k*5+4,none⟩=false:=by unfold World.frozen?;rw [hbl];simp
   have hi0:(0:Int)<=(k:Int):=by omega
   have hi1:(k:Int)<(len:Int):=by have:=WR.out;omega
   have Z7:(0:Int)<((nth l k).needs.length:Int):=by omega
   have hn5:((nth l k).needs.length:Int)<=3:=by have:=NC Fk.tK hkl;omega
   obtain ⟨m1,mM⟩: ∃m1,(nth l k).needs.length-1=m1:=⟨_,rfl⟩;have hw1:IntKind.i64.wrap (((nth l k).needs.length:Int)-1)=(m1:Int):=by rw [wrap_i64 (by omega) (by omega)];omega
   have aIW:(0:Int)<=(m1:Int):=by omega
   have RY:(m1:Int)<=(E0:Int):=by omega
   have aIX: ¬((m1:Int)<0):=by omega
   have aIY: ¬((E0:Int)<(m1:Int)):=by omega
   have Fl:=Fk.below ((dP _ w4).drew);have afg:w4.drew.cell? ⟨b,o+k*5+4,none⟩=some (.slice a5 (nth l k).needs.length E0):=c51;have aI3:w4.drew.frozen? ⟨b,o+k*5+4,none⟩=false:=ayL;have ahH:w4.drew.heap[b]? =some (.cells cells TT (0,0)):=hbl;have hset:=aFt Fl.rd hkl afg (by omega);rw [mM] at hset;have Zr:yz w M g cs' R0 (some ⟨b,o,none⟩) len cap (w4.drew.setCell ⟨b,o+k*5+4,none⟩ (.slice a5 m1 E0)) (su l k):=by
    have oy:bN w4.drew (w4.drew.setCell ⟨b,o+k*5+4,none⟩ (.slice a5 m1 E0)) b:=(bN.refl w4.drew b).set _ _;refine ⟨Fl.fr.trans (WN oy (.inl hwb)),?_,hset,al2 Fl.tK hkl,(aFs Fl.tK hs hki hkl hkn).symm.trans Fl.trm,fun b' o' s' e _=> ?_⟩
    ·obtain ⟨us4,T4,q1,q2⟩:=Fl.bx;obtain ⟨rows,ci,ch,rfl,fK,_⟩:=ahR;obtain ⟨v0,r0,rfl,q3,q4⟩:=q2;refine ⟨_,T4,by rw [oy.block g (by omega)];exact q1,v0,r0,rfl,?_,q4⟩;exact Ng (n:=1) (fun r hr=>(fK.mem r hr).length) (fun r hr d hd=>aBx (fK.mem r hr) hd) q3 (aAT afg)
    ·cases e;refine ⟨rfl,hwb,cells.setIfInBounds (o+k*5+4) (.slice a5 m1 E0),TT,?_,by simpa using hsize⟩;unfold World.setCell;simp [G9,ahH]
   have hmu:Nl (w4.drew.setCell ⟨b,o+k*5+4,none⟩ (.slice a5 m1 E0)) (some ⟨b,o,none⟩) len<Nl wr (some ⟨b,o,none⟩) len:=by rw [ajG Zr.rd,ajG HI.out.rd];have:=alZ hkl hkn;omega
   have HIn:=mV Zr;have HMu:=mV hmu;have HS5:=mV hs;clear Fk Fl Zr hset hmu hbl ahH hsize hs ay6 mM;go_wp2
   (refine aDx 15 (by kernel_rfl) (by kernel_rfl) ?_;simp only [PY,PZ,List.drop_succ_cons,PM];(repeat still_step));refine wpStill_nil ?_
   go_wp2;exact ⟨⟨su l k,HIn.out⟩,HMu.out⟩
def UD:ByteArray:=⟨#[80,117,116,32]⟩
def Uu:ByteArray:=⟨#[71,101,116,32]⟩
def Ux:ByteArray:=⟨#[72,101,97,114,32]⟩
def UA:ByteArray:=⟨#[76,111,97,100,32]⟩
def Dq:(⟨#[80,117,116,32]⟩:ByteArray)=UD:=rfl
def Uv:(⟨#[71,101,116,32]⟩:ByteArray)=Uu:=rfl
def Uy:(⟨#[72,101,97,114,32]⟩:ByteArray)=Ux:=rfl
def UB:(⟨#[76,111,97,100,32]⟩:ByteArray)=UA:=rfl
def aaN:(⟨#[80,117,116]⟩:ByteArray)=eQ:=rfl
def aaK:(⟨#[71,101,116]⟩:ByteArray)=fH:=rfl
def aaL:(⟨#[72,101,97,114]⟩:ByteArray)=eP:=rfl
def aaM:(⟨#[76,111,97,100]⟩:ByteArray)=gN:=rfl
def Ds:UD.size=4:=rfl
def Uw:Uu.size=4:=rfl
def Uz:Ux.size=5:=rfl
def UC:UA.size=5:=rfl
def zF(c:Call):ByteArray:=bs (fR c.val.toNat)
def eH(c:Call):ByteArray :=
 if bZ c then (if c.method=eQ then UD++c.key++jX++zF c else if c.method=fH then Uu++c.key else if c.method=eP then Ux++zF c else if c.method=gN then UA++c.text else c.method) else aV
def EZ{c:Call}(h:bZ c=true):0<=c.val/\c.val<=999:=by unfold bZ at h;simp only [aP,gK,cC] at h;rcases h.2 with h1|h1<;>omega
def Ra{c:Call}(h:bZ c=true):c.key.size<=8:=by
 unfold bZ at h;simp only [aP,gK,cC] at h;rcases h.1.2 with h1|h1
 ·exact Tz h1.2
 ·rw [h1.2];decide
def UY{c:Call}(h:bZ c=true):(zF c).size<=3:=by have:=EZ h;unfold zF;rw [rG];exact Il (by omega)
def afC{c:Call}(h1:c.method.size<=1048576)(h2:c.text.size<=1048576):(eH c).size<=2097152:=by
 unfold eH;split
 ·rename_i h;have h3:=Ra h;have h4:=UY h;repeat' split
  all_goals (try simp only [gx,Ds,Uw,Uz,UC,kO])<;>omega
 ·decide
def A7:fH≠gN/\eQ≠gN/\eP≠gN:=by decide
def Ib[zQ](c:Call)(ht:c.text.size<=1048576):aH Tryz.prog 29 none [enc c] (.str (eH c)) []:=by
 refine cB amK aFF ⟨zz c,trivial⟩ fun hfit=> ?_;have hn:=uK;have hn':=A7;unfold amK;refine aF (EV c) ?_;refine aq (fun h=>az ?_) (fun h=> ?_)
 ·simp only [eS] at h ⊢;rw [eH,ak (by grind)];rfl
 simp only [eS] at h;have h:bZ c=true:=by grind
 have h3:=Ra h;have h4:=UY h;have hv:=EZ h;have hv':((c.val.toNat:Nat):Int)=c.val:=by omega
 have hlt:c.val.toNat<1000:=by omega
 apply aq<;>intro g1<;>simp only [eS,bL,aaN] at g1
 ·have g1:c.method=eQ:=by grind
  refine aX (fun _=> ?_) ?_
  ·simp only [eS,bL,Dq,jY];refine jR ?_;simp only [gx,Ds,kO];unfold maxLen;omega
  refine aX (fun _=> ?_) ?_
  ·simp only [eS,bL,Dq,jY];refine jR ?_;simp only [gx,Ds,kO];unfold maxLen;omega
  refine aF (X6 (n:=c.val.toNat) hlt) ?_ (ha:=by (simp only [gS,bL,hv'];try exact rfl));refine aX (fun _=> ?_) (az ?_)
  ·simp only [eS,bL,Dq,jY];refine jR ?_;simp only [gx,Ds,kO];unfold zF at h4;unfold maxLen;omega
  ·simp only [eS,bL,Dq,jY];rw [eH,aA h,aA g1];rfl
 have g1:c.method≠eQ:=by grind
 apply aq<;>intro g2<;>simp only [eS,bL,aaK] at g2
 ·have g2:c.method=fH:=by grind
  refine aX (fun _=> ?_) (az ?_)
  ·simp only [eS,bL,Uv];refine jR ?_;simp only [gx,Uw];unfold maxLen;omega
  ·simp only [eS,bL,Uv];rw [eH,aA h,ak g1,aA g2]
 have g2:c.method≠fH:=by grind
 apply aq<;>intro g3<;>simp only [eS,bL,aaL] at g3
 ·have g3:c.method=eP:=by grind
  refine aF (X6 (n:=c.val.toNat) hlt) ?_ (ha:=by (simp only [gS,bL,hv'];try exact rfl));refine aX (fun _=> ?_) (az ?_)
  ·simp only [eS,bL,Uy];refine jR ?_;simp only [gx,Uz];unfold zF at h4;unfold maxLen;omega
  ·simp only [eS,bL,Uy];rw [eH,aA h,ak g1,ak g2,aA g3];rfl
 have g3:c.method≠eP:=by grind
 apply aq<;>intro g4<;>simp only [eS,bL,aaM] at g4
 ·have g4:c.method=gN:=by grind
  refine aX (fun _=> ?_) (az ?_)
  ·simp only [eS,bL,UB];refine jR ?_;simp only [gx,UC];unfold maxLen;omega
  ·simp only [eS,bL,UB];rw [eH,aA h,ak g1,ak g2,ak g3,aA g4]
 have g4:c.method≠gN:=by grind
 refine az ?_;simp only [eS,bL];rw [eH,aA h,ak g1,ak g2,ak g3,ak g4]
def avy(c:Call)(ht:c.text.size<=1048576):aH Tryz.prog 78 none [enc c] (.str (eH c)) []:=by
 refine cB anj aGe ⟨zz c,trivial⟩ fun hfit=> ?_;have hn:=uK;have hn':=A7;unfold anj;refine aF (LA c) ?_;refine aq (fun h=>az ?_) (fun h=> ?_)
 ·simp only [eS] at h ⊢;rw [eH,ak (by grind)];rfl
 simp only [eS] at h;have h:bZ c=true:=by grind
 have h3:=Ra h;have h4:=UY h;have hv:=EZ h;have hv':((c.val.toNat:Nat):Int)=c.val:=by omega
 have hlt:c.val.toNat<1000:=by omega
 apply aq<;>intro g2<;>simp only [eS,bL,aaK] at g2
 ·have g2:c.method=fH:=by grind
  have g1:c.method≠eQ:=by rw [g2];exact hn.1
  refine aX (fun _=> ?_) (az ?_)
  ·simp only [eS,bL,Uv];refine jR ?_;simp only [gx,Uw];unfold maxLen;omega
  ·simp only [eS,bL,Uv];rw [eH,aA h,ak g1,aA g2]
 have g2:c.method≠fH:=by grind
 apply aq<;>intro g1<;>simp only [eS,bL,aaN] at g1
 ·have g1:c.method=eQ:=by grind
  refine aX (fun _=> ?_) ?_
  ·simp only [eS,bL,Dq,jY];refine jR ?_;simp only [gx,Ds,kO];unfold maxLen;omega
  refine aX (fun _=> ?_) ?_
  ·simp only [eS,bL,Dq,jY];refine jR ?_;simp only [gx,Ds,kO];unfold maxLen;omega
  refine aF (Q5 (n:=c.val.toNat) hlt) ?_ (ha:=by (simp only [gS,bL,hv'];try exact rfl));refine aX (fun _=> ?_) (az ?_)
  ·simp only [eS,bL,Dq,jY];refine jR ?_;simp only [gx,Ds,kO];unfold zF at h4;unfold maxLen;omega
  ·simp only [eS,bL,Dq,jY];rw [eH,aA h,aA g1];rfl
 have g1:c.method≠eQ:=by grind
 apply aq<;>intro g3<;>simp only [eS,bL,aaL] at g3
 ·have g3:c.method=eP:=by grind
  refine aF (Q5 (n:=c.val.toNat) hlt) ?_ (ha:=by (simp only [gS,bL,hv'];try exact rfl));refine aX (fun _=> ?_) (az ?_)
  ·simp only [eS,bL,Uy];refine jR ?_;simp only [gx,Uz];unfold zF at h4;unfold maxLen;omega
  ·simp only [eS,bL,Uy];rw [eH,aA h,ak g1,ak g2,aA g3];rfl
 have g3:c.method≠eP:=by grind
 apply aq<;>intro g4<;>simp only [eS,bL,aaM] at g4
 ·have g4:c.method=gN:=by grind
  refine aX (fun _=> ?_) (az ?_)
  ·simp only [eS,bL,UB];refine jR ?_;simp only [gx,UC];unfold maxLen;omega
  ·simp only [eS,bL,UB];rw [eH,aA h,ak g1,ak g2,ak g3,aA g4]
 have g4:c.method≠gN:=by grind
 refine az ?_;simp only [eS,bL];rw [eH,aA h,ak g1,ak g2,ak g3,ak g4]
def words:List ByteArray:=[⟨#[]⟩,⟨#[115,116,97,114,116]⟩,⟨#[115,116,111,112]⟩,⟨#[99,97,108,108]⟩,⟨#[104,101,97,108]⟩,⟨#[115,119,97,112]⟩]
class Ki:Prop where
 h: ∀w:World,mT w->lV w 0 fun cs=>cs=(words.map Value.string).toArray
def aeb(k:Nat):(nth words k).size<=5:=by
 by_cases h:k<6
 ·obtain rfl|rfl|rfl|rfl|rfl|rfl:k=0\/k=1\/k=2\/k=3\/k=4\/k=5:=by omega
  all_goals decide
 ·unfold nth;rw [kK,nU (by simp [words];omega)];decide
def gM(e:Event):ByteArray :=
 if gj e then (if e.kind=3 then nth words e.kind.toNat++jX++e.name++jX++eH e.call else if e.kind=5 then nth words e.kind.toNat++jX++e.name++jX++kA e.recipe jX else nth words e.kind.toNat++jX++e.name) else aV
def LR{e:Event}(h:gj e=true):1<=e.kind/\e.kind<=5/\e.name.size<=8:=by unfold gj at h;simp only [aP,cC] at h;exact ⟨h.1.1.1.1,h.1.1.1.2,Tz h.1.1.2⟩
def YW{e:Event}(h:gj e=true)(h5:e.kind=5):gO e.recipe=true:=by
 unfold gj at h;simp only [aP,gK,cC] at h;rcases h.2 with h1|h1
 ·exact h1.2
 ·simp [h5] at h1
def asy:E:= .put (.put (.put (.put (.put (.put (.iB 9) (.aj (.ls ⟨#[]⟩))) (.aj (.ls ⟨#[115,116,97,114,116]⟩))) (.aj (.ls ⟨#[115,116,111,112]⟩))) (.aj (.ls ⟨#[99,97,108,108]⟩))) (.aj (.ls ⟨#[104,101,97,108]⟩))) (.aj (.ls ⟨#[115,119,97,112]⟩))
def aIh:(E.put (.put (.put (.put (.put (.put (.iB 9) (.aj (.ls ⟨#[]⟩))) (.aj (.ls ⟨#[115,116,97,114,116]⟩))) (.aj (.ls ⟨#[115,116,111,112]⟩))) (.aj (.ls ⟨#[99,97,108,108]⟩))) (.aj (.ls ⟨#[104,101,97,108]⟩))) (.aj (.ls ⟨#[115,119,97,112]⟩)))=asy:=rfl
def zO(env:List D):asy.den env=ax words:=rfl
def aIi:words.length=6:=rfl
def K8[zQ][Ki](e:Event)(hm:e.call.method.size<=1048576)(ht:e.call.text.size<=1048576):aH Tryz.prog 9 none [enc e] (.str (gM e)) []:=by
 refine cB amL aFG ⟨zA e,trivial⟩ fun hfit=> ?_;unfold amL;refine aF (Ic e) ?_;refine aq (fun h=>az ?_) (fun h=> ?_)
 ·simp only [eS] at h ⊢;rw [gM,ak (by grind)];rfl
 simp only [eS] at h;have h:gj e=true:=by grind
 obtain ⟨k1,k2,k3⟩:=LR h;have k4:=aeb e.kind.toNat;have k5:=afC hm ht;refine af1 (.agg (words.map .str)) (ag7 (by decide) Ki.h) ⟨trivial,trivial,trivial,trivial,trivial,trivial,trivial⟩ (fun _=> ?_) ?_
 ·simp only [E.den,pU,agq,fP,iF];omega
 simp only [cA];refine aX (fun _=> ?_) ?_
 ·simp only [eS,fP,zq,jY];refine jR ?_;simp only [gx,kO];unfold maxLen;omega
 refine aX (fun _=> ?_) ?_
 ·simp only [eS,fP,zq,jY];refine jR ?_;simp only [gx,kO];unfold maxLen;omega
 apply aq<;>intro g1<;>simp only [eS,fP] at g1
 ·have g1:e.kind=3:=by grind
  refine aF (Ib e.call ht) ?_;refine aX (fun _=> ?_) ?_
  ·simp only [eS,fP,zq,jY];refine jR ?_;simp only [gx,kO];unfold maxLen;omega
  refine aX (fun _=> ?_) (az ?_)
  ·simp only [eS,fP,zq,jY];refine jR ?_;simp only [gx,kO];unfold maxLen;omega
  ·simp only [eS,fP,zq,jY];rw [gM,aA h,aA g1];simp [ByteArray.append_assoc]
 have g1:e.kind≠3:=by grind
 refine aq (fun g2=> ?_) (fun g2=>az ?_)
 ·simp only [eS,fP] at g2;have g2:e.kind=5:=by grind
  obtain ⟨hN,hR⟩:=akP (YW h g2);refine aF (avi e.recipe jX (by omega) (by omega)) ?_;refine aX (fun _=> ?_) ?_
  ·simp only [eS,fP,zq,jY];refine jR ?_;simp only [gx,kO];unfold maxLen;omega
  refine aX (fun _=> ?_) (az ?_)
  ·simp only [eS,fP,zq,jY];refine jR ?_;simp only [gx,kO];unfold maxLen;omega
  ·simp only [eS,fP,zq,jY];rw [gM,aA h,ak g1,aA g2];simp [ByteArray.append_assoc]
 simp only [eS,fP] at g2;have g2:e.kind≠5:=by grind
 simp only [eS,fP,zq,jY];rw [gM,aA h,ak g1,ak g2]
def avz(e:Event)(hm:e.call.method.size<=1048576)(ht:e.call.text.size<=1048576):aH Tryz.prog 38 none [enc e] (.str (gM e)) []:=by
 refine cB anl aGg ⟨zA e,trivial⟩ fun hfit=> ?_;unfold anl;simp only [aIh];refine aF (Ya e) ?_;refine aq (fun h=>az ?_) (fun h=> ?_)
 ·simp only [eS] at h ⊢;rw [gM,ak (by grind)];rfl
 simp only [eS] at h;have h:gj e=true:=by grind
 obtain ⟨k1,k2,k3⟩:=LR h;have k4:=aeb e.kind.toNat;have k5:=afC hm ht;refine aX (fun _=> ?_) ?_
 ·simp only [eS,fP,zO,aIi];simp;omega
 refine aX (fun _=> ?_) ?_
 ·simp only [eS,fP,zO,gW,eB,jY];refine jR ?_;simp only [gx,kO];unfold maxLen;omega
 refine aX (fun _=> ?_) ?_
 ·simp only [eS,fP,zO,gW,eB,jY];refine jR ?_;simp only [gx,kO];unfold maxLen;omega
 apply aq<;>intro g1<;>simp only [eS,fP] at g1
 ·have g1:e.kind=3:=by grind
  refine aX (fun _=> ?_) ?_
  ·simp only [eS,fP,zO,gW,eB,jY];refine jR ?_;simp only [gx,kO];unfold maxLen;omega
  refine aF (avy e.call ht) ?_;refine aX (fun _=> ?_) (az ?_)
  ·simp only [eS,fP,zO,gW,eB,jY];refine jR ?_;simp only [gx,kO];unfold maxLen;omega
  ·simp only [eS,fP,zO,gW,eB,jY];rw [gM,aA h,aA g1]
 have g1:e.kind≠3:=by grind
 refine aq (fun g2=> ?_) (fun g2=>az ?_)
 ·simp only [eS,fP] at g2;have g2:e.kind=5:=by grind
  obtain ⟨hN,hR⟩:=akP (YW h g2);refine aX (fun _=> ?_) ?_
  ·simp only [eS,fP,zO,gW,eB,jY];refine jR ?_;simp only [gx,kO];unfold maxLen;omega
  refine aF (afr e.recipe jX (by omega) (by omega)) ?_;refine aX (fun _=> ?_) (az ?_)
  ·simp only [eS,fP,zO,gW,eB,jY];refine jR ?_;simp only [gx,kO];unfold maxLen;omega
  ·simp only [eS,fP,zO,gW,eB,jY];rw [gM,aA h,ak g1,aA g2]
 simp only [eS,fP] at g2;have g2:e.kind≠5:=by grind
 simp only [eS,fP,zO,gW,eB,jY];rw [gM,aA h,ak g1,ak g2]
def wI(n:Nat)(r:D):Prop:= ∃s:ByteArray,r= .str s/\s.size<=n
def wI.ty{n:Nat}{r:D}(h:wI n r):bA aI.tab (.one (.c .str)) r:=by obtain ⟨x,rfl,_⟩:=h;trivial
def abL(n:Nat):List D->Bool
 | [.str s]=>decide (s.size<=n)
 | _=>false
def aEY{n:Nat}{r:List D}(h:abL n r=true): ∃s,r=[.str s]/\s.size<=n:=by
 match r,h with
 | [.str s],h=>exact ⟨s,rfl,by simpa [abL] using h⟩
def yM(n:Nat)(eD:List (List D))(h0:0<eD.length)(hs:eD.all (abL n)=true):Dr 42 [.sl eD] (wI n):=by
 have hs': ∀r∈eD,∃s:ByteArray,r=[.str s]/\s.size<=n:=fun r hr=>aEY (fO.1 hs r hr);have hty:bA aI.tab (.one (.c (.sl 9))) (.sl eD):=by show cN _ (aI.tab _) _;rw [NL];exact ud fun r hr=>by obtain ⟨s,rfl,_⟩:=hs' r hr;exact ⟨trivial,trivial⟩
 refine jE Dx UO (fun cs h=>by exact ⟨hty,ij h⟩) (.str aV) ⟨_,rfl,fX _⟩ fun rows i sd f1 hl hr hi=> ?_;(simp only [cA]);unfold Dx;have hn:(eD.length:Int)<=9223372036854775807:=by simp [dW,Fits,maxLen] at f1;omega
 (refine bJ (kq eD.length) (fun _ h=>iN.ty h) ?_ (hb:=by (simp only [gS,dL];try exact rfl)) (ha:=by (simp only [gS,dL];try exact rfl));rintro _ rows i sd ⟨x,rfl,hx⟩ hr hi)
 refine aX (fun _=> ?_) ?_
 ·simp [E.den,dL];omega
 have hx2:=hx.2 (by omega);have e:eD[x.toNat]? =some eD[x.toNat]:=cO (by omega);obtain ⟨s,hs1,hs2⟩:=hs' _ (vM (show x.toNat<eD.length by omega));refine ⟨⟨s,?_,hs2⟩,_,_,_,rfl,hr,hi⟩;simp [E.den,e,hs1]
def wG(r:D):Prop:= ∃x:Call,r=enc x/\x.text.size<=100/\x.method.size<=100
def wG.ty{r:D}(h:wG r):bA aI.tab (.one (.agg [.str,.str,.int .i64,.str])) r:=by obtain ⟨x,rfl,_⟩:=h;exact zz x
def E7:Dr 84 [] wG:=by
 have nt:aV.size<=100:=by decide
 refine jE aog aG4 (fun cs h=>by exact ij h) (enc (⟨aV,aV,0,aV⟩:Call)) ⟨_,rfl,(by decide),(by decide)⟩ fun rows i sd f1 hl hr hi=> ?_;(simp only [cA]);unfold aog
 (apply nY;(focus (simp only [gS];try exact rfl));(focus (simp only [gS];try exact rfl));(focus (exact ⟨_,_,_,rfl,by assumption,by assumption⟩));(focus (first|exact yM 100 _ (by decide) (by decide)|exact Dr.fD (yM 100 _ (by decide) (by decide))));(focus (exact fun _ h=>wI.ty h));rintro _ rows i sd ⟨s,rfl,hs⟩ hr hi;(simp only [cA]))
 apply aq<;>intro h
 ·(refine bJ (Yq) (fun _ h=>uH.ty h) ?_;rintro _ rows i sd ⟨k,rfl,hk⟩ hr hi)
  exact ⟨⟨⟨s,k,0,aV⟩,rfl,nt,hs⟩,_,_,_,rfl,hr,hi⟩
 apply aq<;>intro h
 ·(refine bJ (Yq) (fun _ h=>uH.ty h) ?_;rintro _ rows i sd ⟨k,rfl,hk⟩ hr hi)
  (refine bJ (kq _) (fun _ h=>iN.ty h) ?_;rintro _ rows i sd ⟨y,rfl,hy⟩ hr hi)
  exact ⟨⟨⟨s,k,y,aV⟩,rfl,nt,hs⟩,_,_,_,rfl,hr,hi⟩
 apply aq<;>intro h
 ·(refine bJ (kq _) (fun _ h=>iN.ty h) ?_;rintro _ rows i sd ⟨y,rfl,hy⟩ hr hi)
  exact ⟨⟨⟨s,aV,y,aV⟩,rfl,nt,hs⟩,_,_,_,rfl,hr,hi⟩
 apply aq<;>intro h
 ·(refine bJ (awP) (fun _ h=>uH.ty h) ?_;rintro _ rows i sd ⟨t,rfl,ht⟩ hr hi)
  exact ⟨⟨⟨s,aV,0,t⟩,rfl,by unfold Ak at ht;simpa using ht,hs⟩,_,_,_,rfl,hr,hi⟩
 ·exact ⟨⟨⟨s,aV,0,aV⟩,rfl,nt,hs⟩,_,_,_,rfl,hr,hi⟩
def awL:Dr 113 [] (wI 100):=by
 refine jE aoc aG0 (fun cs h=>by exact ij h) (.str aV) ⟨_,rfl,(by decide)⟩ fun rows i sd f1 hl hr hi=> ?_;(simp only [cA]);unfold aoc
 (refine bJ (pd _) (fun _ h=>mN.ty h) ?_;rintro _ rows i sd ⟨b,rfl⟩ hr hi)
 apply aq<;>intro h
 ·(apply nY;(focus (simp only [gS];try exact rfl));(focus (simp only [gS];try exact rfl));(focus (exact ⟨_,_,_,rfl,by assumption,by assumption⟩));(focus (first|exact yM 100 _ (by decide) (by decide)|exact Dr.fD (yM 100 _ (by decide) (by decide))));(focus (exact fun _ h=>wI.ty h));rintro _ rows i sd ⟨s,rfl,hs⟩ hr hi;(simp only [cA]))
  exact ⟨⟨_,rfl,hs⟩,_,_,_,rfl,hr,hi⟩
 ·(apply nY;(focus (simp only [gS];try exact rfl));(focus (simp only [gS];try exact rfl));(focus (exact ⟨_,_,_,rfl,by assumption,by assumption⟩));(focus (first|exact yM 100 _ (by decide) (by decide)|exact Dr.fD (yM 100 _ (by decide) (by decide))));(focus (exact fun _ h=>wI.ty h));rintro _ rows i sd ⟨s,rfl,hs⟩ hr hi;(simp only [cA]))
  exact ⟨⟨_,rfl,hs⟩,_,_,_,rfl,hr,hi⟩
def awM:Dr 65 [] wG:=by
 refine jE aoe aG2 (fun cs h=>by exact ij h) (enc (⟨aV,aV,0,aV⟩:Call)) ⟨_,rfl,(by decide),(by decide)⟩ fun rows i sd f1 hl hr hi=> ?_;(simp only [cA]);unfold aoe
 (refine bJ (E7) (fun _ h=>wG.ty h) ?_;rintro _ rows i sd ⟨x,rfl,hx,hm⟩ hr hi)
 (refine bJ (kq _) (fun _ h=>iN.ty h) ?_;rintro _ rows i sd ⟨y,rfl,hy⟩ hr hi)
 apply aq<;>intro h
 ·(refine bJ (awL) (fun _ h=>wI.ty h) ?_;rintro _ rows i sd ⟨s,rfl,hs⟩ hr hi)
  exact ⟨⟨⟨s,x.key,x.val,x.text⟩,rfl,hx,hs⟩,_,_,_,rfl,hr,hi⟩
 apply aq<;>intro h
 ·(refine bJ (afW) (fun _ h=>isS.ty h) ?_;rintro _ rows i sd ⟨s,rfl⟩ hr hi)
  exact ⟨⟨⟨x.method,s,x.val,x.text⟩,rfl,hx,hm⟩,_,_,_,rfl,hr,hi⟩
 apply aq<;>intro h
 ·(refine bJ (LJ) (fun _ h=>rV.ty h) ?_;rintro _ rows i sd ⟨v,rfl⟩ hr hi)
  exact ⟨⟨⟨x.method,x.key,v,x.text⟩,rfl,hx,hm⟩,_,_,_,rfl,hr,hi⟩
 apply aq<;>intro h
 ·(apply nY;(focus (simp only [gS];try exact rfl));(focus (simp only [gS];try exact rfl));(focus (exact ⟨_,_,_,rfl,by assumption,by assumption⟩));(focus (first|exact Ct Ak aV (by decide) _ (by decide) (by kernel_rfl)|exact Dr.fD (Ct Ak aV (by decide) _ (by decide) (by kernel_rfl))));(focus (exact fun _ h=>uH.ty h));rintro _ rows i sd ⟨s,rfl,hs⟩ hr hi;(simp only [cA]))
  exact ⟨⟨⟨x.method,x.key,x.val,s⟩,rfl,(by unfold Ak at hs;simpa using hs),hm⟩,_,_,_,rfl,hr,hi⟩
 ·exact ⟨⟨x,rfl,hx,hm⟩,_,_,_,rfl,hr,hi⟩
def ze(r:D):Prop:= ∃e:Event,r=enc e/\e.call.text.size<=100/\e.call.method.size<=100/\e.recipe.length<=6
def ze.ty{r:D}(h:ze r):bA aI.tab (.one (.agg [.int .i64,.str,.str,.str,.int .i64,.str,.sl 9])) r:=by obtain ⟨x,rfl,_⟩:=h;exact zA x
def FO(r:D):Prop:= ∃g:Host,r=enc g/\HW g
def FO.ty{r:D}(h:FO r):bA aI.tab (.one (.agg [.sl 49,.sl 58,.sl 9,.sl 9,.sl 28])) r:=by obtain ⟨x,rfl,_⟩:=h;exact vg x
def awX(l:List Entry):Dr 81 [ax l] isS:=by
 refine jE aoJ aHy (fun cs h=>by exact ⟨rp l,ij h⟩) (.str aV) ⟨_,rfl⟩ fun rows i sd f1 hl hr hi=> ?_;(simp only [cA]);unfold aoJ;have hl:l.length<=9223372036854775807:=qM f1.1
 (refine bJ (pd _) (fun _ h=>mN.ty h) ?_;rintro _ rows i sd ⟨b,rfl⟩ hr hi)
 have hz:ba .eql (l.length:Int) 0=decide (l.length=0):=by cases l<;>simp [ba]<;>omega
 rcases vP l.length with h0|h0
 ·have hz:ba .eql (l.length:Int) 0=true:=by rw [hz];exact QQ h0
  apply aq<;>intro h
  ·(refine bJ (Ys) (fun _ h=>isS.ty h) ?_ (hb:=by (simp only [gS,hz,Bool.not_true,Bool.false_and,Cm];try exact rfl)) (ha:=by (simp only [gS,hz,Bool.not_true,Bool.false_and,Cm];try exact rfl));rintro _ rows i sd ⟨s,rfl⟩ hr hi)
   exact ⟨⟨_,rfl⟩,_,_,_,rfl,hr,hi⟩
  ·simp only [eS,hz] at h;simp at h
 ·have hz:ba .eql (l.length:Int) 0=false:=by rw [hz];exact decide_eq_false (by omega)
  apply aq<;>intro h
  ·(refine bJ (Ys) (fun _ h=>isS.ty h) ?_ (hb:=by (simp only [gS,hz,Kv,sS,ib];try exact rfl)) (ha:=by (simp only [gS,hz,Kv,sS,ib];try exact rfl));rintro _ rows i sd ⟨s,rfl⟩ hr hi)
   exact ⟨⟨_,rfl⟩,_,_,_,rfl,hr,hi⟩
  ·(refine bJ (kq l.length) (fun _ h=>iN.ty h) ?_ (hb:=by (simp only [gS,hz,Kv,sS,ib];try exact rfl)) (ha:=by (simp only [gS,hz,Kv,sS,ib];try exact rfl));rintro _ rows i sd ⟨x,rfl,hx⟩ hr hi)
   have hx2:=hx.2 (by omega);refine aX (fun _=> ?_) ?_
   ·simp only [eS];simp;omega
   refine ⟨⟨(nth l x.toNat).name,?_⟩,_,_,_,rfl,hr,hi⟩;simp only [eS,uZ,nW]
structure mU where
 k:Nat
 rows:List (List D)
 i:Int
 h:Int
 x:Call
def mU.lay(nm:ByteArray)(s:mU):List D:=[.int .i64 s.k,.sl s.rows,.int .i64 s.i,.int .i64 s.h,.int .i64 3,.str nm,.str s.x.method,.str s.x.key,.int .i64 s.x.val,.str s.x.text,ax ([]:List ByteArray)]
def afF(l:List ByteArray){k:Nat}(hk:k<l.length):((l.map aE.cells)[k]?.getD [fW CT.str]).getD 0 D.un= .str (nth l k):=by rw [get_map l hk];rfl
def awH(l:List ByteArray):qI (ax l) 0 1=ax (l.take 1):=by simp [qI,ax,Ey]
set_option maxHeartbeats 8000000 in
def Yt(g:Host)(hG:HW g):tW 39 [enc g] ze [(6,1)]:=by
 have nt:gB.text.size<=100:=by decide
 have nm:gB.method.size<=100:=by decide
 have st:(cw mStart).text.size<=100:=by decide
 have sm:(cw mStart).method.size<=100:=by decide
 have n0:([]:List ByteArray).length<=6:=fX _;refine BS aoK aHz (fun cs h=>by exact ⟨vg g,ij h⟩) (enc (⟨0,aV,gB,[]⟩:Event)) ⟨_,rfl,nt,nm,n0⟩ fun rows i sd f1 hl hr hi=> ?_;(simp only [cA]);unfold aoK;have hu6:=hG.u;have hs6:=hG.s;have hl6:=hG.l24;have he6:=hG.e6
 (refine bJ (afU [1,1,1,2,3,3,3,3,3,4,5] (by decide)) (fun _ h=>M9.ty h) ?_;rintro _ rows i sd ⟨k,rfl,hk⟩ hr hi)
 have hk':k=1\/k=2\/k=3\/k=4\/k=5:=by simp at hk;omega
 clear hk
 (refine bJ (awX g.entries) (fun _ h=>isS.ty h) ?_;rintro _ rows i sd ⟨s0,rfl⟩ hr hi)
 (refine bJ (pd _) (fun _ h=>mN.ty h) ?_;rintro _ rows i sd ⟨b,rfl⟩ hr hi)
 obtain ⟨bu,bI⟩: ∃bu,ba .gtr (g.up.length:Int) 0=bu:=⟨_,rfl⟩;obtain ⟨bs,hbs⟩: ∃bs,ba .gtr (g.shut.length:Int) 0=bs:=⟨_,rfl⟩;rcases hk' with rfl|rfl|rfl|rfl|rfl
 ·apply aq<;>intro h
  ·exfalso;revert h;simp only [eS,bB,bI,hbs];simp
  apply aq<;>intro h
  ·exfalso;revert h;simp only [eS,bB,bI,hbs];simp
  refine aF (pZ g.entries s0) ?_;apply aq<;>intro h
  ·exfalso;revert h;simp only [eS,bB,bI,hbs];simp
  apply aq<;>intro h
  ·exfalso;revert h;simp only [eS,bB,bI,hbs];simp
  apply aq<;>intro h
  ·exfalso;revert h;simp only [eS,bB,bI,hbs];simp
  simp only [eS,VC.den,bB,bI,hbs,bS,reduceIte,reduceCtorEq];exact ⟨⟨⟨1,s0,gB,[]⟩,rfl,nt,nm,n0⟩,_,_,_,rfl,by assumption,by assumption⟩
 ·apply aq<;>intro h
  ·exfalso;revert h;simp only [eS,bB,bI,hbs];simp
  apply aq<;>intro h
  ·exfalso;revert h;simp only [eS,bB,bI,hbs];simp
  refine aF (pZ g.entries s0) ?_;apply aq<;>intro h
  ·exfalso;revert h;simp only [eS,bB,bI,hbs];simp
  apply aq<;>intro h
  ·exfalso;revert h;simp only [eS,bB,bI,hbs];simp
  apply aq<;>intro h
  ·exfalso;revert h;simp only [eS,bB,bI,hbs];simp
  simp only [eS,VC.den,bB,bI,hbs,bS,reduceIte,reduceCtorEq];exact ⟨⟨⟨2,s0,gB,[]⟩,rfl,nt,nm,n0⟩,_,_,_,rfl,by assumption,by assumption⟩
 ·cases bu
  ·apply aq<;>intro h
   ·exfalso;revert h;simp only [eS,bB,bI,hbs];simp
   apply aq<;>intro h
   ·exfalso;revert h;simp only [eS,bB,bI,hbs];simp
   refine aF (pZ g.entries s0) ?_;rcases Kx (dN g.entries s0) 0 with hf|hf
   ·have hf2:ba .lss (dN g.entries s0) 0=true:=by simp [ba,hf]
    apply aq<;>intro h
    ·simp only [eS,VC.den,bB,bI,hbs,bS,reduceIte,reduceCtorEq];exact ⟨⟨⟨3,s0,cw mStart,[]⟩,rfl,st,sm,n0⟩,_,_,_,rfl,by assumption,by assumption⟩
    ·exfalso;revert h;simp only [eS,bB,bI,hbs,hf2];simp
   obtain ⟨fi,hfi,hil,_⟩:=yO hf;rw [hfi];have hf2:ba .lss (fi:Int) 0=false:=by simp [ba]
   apply aq<;>intro h
   ·exfalso;revert h;simp only [eS,bB,bI,hbs,hf2];simp
   apply aq<;>intro h
   ·(refine bJ (E7) (fun _ h=>wG.ty h) ?_ (hb:=by (simp only [gS,bB,bI,hbs,bS,reduceIte,reduceCtorEq];try exact rfl)) (ha:=by (simp only [gS,bB,bI,hbs,bS,reduceIte,reduceCtorEq];try exact rfl));rintro _ rows i sd ⟨x,rfl,hx,hm⟩ hr hi)
    refine p7 mU (mU.lay s0) (fun s=>cN aI.tab [.int .u8] s.rows/\0<=s.i/\s.k<=3/\s.x.text.size<=100/\s.x.method.size<=100) (fun s=>3-s.k) ⟨0,rows,i,sd,x⟩ (fun s s' h=>by simp [mU.lay] at h;omega) (by first|exact rfl|(simp only [eS,mU.lay,bL,bB,bI,hbs,vN];rfl)) ⟨hr,hi,by simp,hx,hm⟩ ?_;rintro ⟨n,rows,j,sd,x⟩ ⟨hr,hi,hn,hx,hm⟩ -;simp only at hr hi hn hx hm;simp only [mU.lay,iH,iw];refine aX (fun _=> ?_) ?_
    ·simp only [eS,bB,bI,hbs];simp;have:=hG.pe;omega
    refine vX (r:= .int .i64 (gb (nth g.parts fi))) (xs:=[enc (nth g.parts fi)]) ?_ (fun _=>Ad (nth g.parts fi)) rfl ?_
    ·simp only [eS,bB,bI,hbs,Uf,jv]
    refine vX (r:= .int .i64 (cm x.method)) (xs:=[.str x.method]) ?_ (fun _=>EX x.method) rfl ?_
    ·simp only [eS]
    refine vX (r:= .bool (cG (gb (nth g.parts fi)) (cm x.method))) (xs:=[.int .i64 (gb (nth g.parts fi)),.int .i64 (cm x.method)]) ?_ (fun _=>vV _ _) trivial ?_
    ·simp only [eS]
    simp only [cA];apply aq<;>intro h
    ·simp only [eS] at h;have Sz:n<3:=by simp at h;omega
     (refine bJ (E7) (fun _ h=>wG.ty h) ?_;rintro _ rows i sd ⟨y,rfl,hy,MY⟩ hr hi)
     refine ⟨⟨n+1,rows,i,sd,y⟩,?_,⟨hr,hi,by simp only;omega,hy,MY⟩,by simp only;omega⟩;simp only [eS,mU.lay,bL];rw [bW];simp
    ·simp only [eS,VC.den,bB,bI,hbs,bS,reduceIte,reduceCtorEq];exact ⟨⟨⟨3,s0,x,[]⟩,rfl,hx,hm,n0⟩,_,_,_,rfl,by assumption,by assumption⟩
   ·exfalso;revert h;simp only [eS,bB,bI,hbs];simp
  ·have qQ:0<g.up.length:=by simp [ba] at bI;exact bI
   apply aq<;>intro h
   ·(refine bJ (kq g.up.length) (fun _ h=>iN.ty h) ?_ (hb:=by (simp only [gS,bB,bI,hbs,bS,reduceIte,reduceCtorEq];try exact rfl)) (ha:=by (simp only [gS,bB,bI,hbs,bS,reduceIte,reduceCtorEq];try exact rfl));rintro _ rows i sd ⟨y,rfl,hy⟩ hr hi)
    have wF:=hy.2 (by omega);have hy1:=hy.1;refine aX (fun _=> ?_) ?_
    ·simp only [eS,bB,bI,hbs];simp;omega
    apply aq<;>intro h
    ·exfalso;revert h;simp only [eS,bB,bI,hbs];simp
    have hnm:=afF g.up (show y.toNat<g.up.length by omega);refine aF (pZ g.entries (nth g.up y.toNat)) ?_;rcases Kx (dN g.entries (nth g.up y.toNat)) 0 with hf|hf
    ·have hf2:ba .lss (dN g.entries (nth g.up y.toNat)) 0=true:=by simp [ba,hf]
     apply aq<;>intro h
     ·simp only [eS,VC.den,bB,bI,hbs,hnm,bS,reduceIte,reduceCtorEq];exact ⟨⟨⟨3,nth g.up y.toNat,cw mStart,[]⟩,rfl,st,sm,n0⟩,_,_,_,rfl,by assumption,by assumption⟩
     ·exfalso;revert h;simp only [eS,bB,bI,hbs,hf2];simp
    obtain ⟨fi,hfi,hil,_⟩:=yO hf;rw [hfi];have hf2:ba .lss (fi:Int) 0=false:=by simp [ba]
    apply aq<;>intro h
    ·exfalso;revert h;simp only [eS,bB,bI,hbs,hf2];simp
    apply aq<;>intro h
    ·(refine bJ (E7) (fun _ h=>wG.ty h) ?_ (hb:=by (simp only [gS,bB,bI,hbs,bS,reduceIte,reduceCtorEq];try exact rfl)) (ha:=by (simp only [gS,bB,bI,hbs,bS,reduceIte,reduceCtorEq];try exact rfl));rintro _ rows i sd ⟨x,rfl,hx,hm⟩ hr hi)
     refine p7 mU (mU.lay (nth g.up y.toNat)) (fun s=>cN aI.tab [.int .u8] s.rows/\0<=s.i/\s.k<=3/\s.x.text.size<=100/\s.x.method.size<=100) (fun s=>3-s.k) ⟨0,rows,i,sd,x⟩ (fun s s' h=>by simp [mU.lay] at h;omega) (by first|exact rfl|(simp only [eS,mU.lay,bL,bB,bI,hbs,hnm];rfl)) ⟨hr,hi,by simp,hx,hm⟩ ?_;rintro ⟨n,rows,j,sd,x⟩ ⟨hr,hi,hn,hx,hm⟩ -;simp only at hr hi hn hx hm;simp only [mU.lay,iH,iw];refine aX (fun _=> ?_) ?_
     ·simp only [eS,bB,bI,hbs];simp;have:=hG.pe;omega
     refine vX (r:= .int .i64 (gb (nth g.parts fi))) (xs:=[enc (nth g.parts fi)]) ?_ (fun _=>Ad (nth g.parts fi)) rfl ?_
     ·simp only [eS,bB,bI,hbs,Uf,jv]
     refine vX (r:= .int .i64 (cm x.method)) (xs:=[.str x.method]) ?_ (fun _=>EX x.method) rfl ?_
     ·simp only [eS]
     refine vX (r:= .bool (cG (gb (nth g.parts fi)) (cm x.method))) (xs:=[.int .i64 (gb (nth g.parts fi)),.int .i64 (cm x.method)]) ?_ (fun _=>vV _ _) trivial ?_
     ·simp only [eS]
     simp only [cA];apply aq<;>intro h
     ·simp only [eS] at h;have Sz:n<3:=by simp at h;omega
      (refine bJ (E7) (fun _ h=>wG.ty h) ?_;rintro _ rows i sd ⟨y,rfl,hy,MY⟩ hr hi)
      refine ⟨⟨n+1,rows,i,sd,y⟩,?_,⟨hr,hi,by simp only;omega,hy,MY⟩,by simp only;omega⟩;simp only [eS,mU.lay,bL];rw [bW];simp
     ·simp only [eS,VC.den,bB,bI,hbs,hnm,bS,reduceIte,reduceCtorEq];exact ⟨⟨⟨3,nth g.up y.toNat,x,[]⟩,rfl,hx,hm,n0⟩,_,_,_,rfl,by assumption,by assumption⟩
    ·exfalso;revert h;simp only [eS,bB,bI,hbs];simp
   ·apply aq<;>intro h
    ·exfalso;revert h;simp only [eS,bB,bI,hbs];simp
    refine aF (pZ g.entries s0) ?_;rcases Kx (dN g.entries s0) 0 with hf|hf
    ·have hf2:ba .lss (dN g.entries s0) 0=true:=by simp [ba,hf]
     apply aq<;>intro h
     ·simp only [eS,VC.den,bB,bI,hbs,bS,reduceIte,reduceCtorEq];exact ⟨⟨⟨3,s0,cw mStart,[]⟩,rfl,st,sm,n0⟩,_,_,_,rfl,by assumption,by assumption⟩
     ·exfalso;revert h;simp only [eS,bB,bI,hbs,hf2];simp
    obtain ⟨fi,hfi,hil,_⟩:=yO hf;rw [hfi];have hf2:ba .lss (fi:Int) 0=false:=by simp [ba]
    apply aq<;>intro h
    ·exfalso;revert h;simp only [eS,bB,bI,hbs,hf2];simp
    apply aq<;>intro h
    ·(refine bJ (E7) (fun _ h=>wG.ty h) ?_ (hb:=by (simp only [gS,bB,bI,hbs,bS,reduceIte,reduceCtorEq];try exact rfl)) (ha:=by (simp only [gS,bB,bI,hbs,bS,reduceIte,reduceCtorEq];try exact rfl));rintro _ rows i sd ⟨x,rfl,hx,hm⟩ hr hi)
     refine p7 mU (mU.lay s0) (fun s=>cN aI.tab [.int .u8] s.rows/\0<=s.i/\s.k<=3/\s.x.text.size<=100/\s.x.method.size<=100) (fun s=>3-s.k) ⟨0,rows,i,sd,x⟩ (fun s s' h=>by simp [mU.lay] at h;omega) (by first|exact rfl|(simp only [eS,mU.lay,bL,bB,bI,hbs,vN];rfl)) ⟨hr,hi,by simp,hx,hm⟩ ?_;rintro ⟨n,rows,j,sd,x⟩ ⟨hr,hi,hn,hx,hm⟩ -;simp only at hr hi hn hx hm;simp only [mU.lay,iH,iw];refine aX (fun _=> ?_) ?_
     ·simp only [eS,bB,bI,hbs];simp;have:=hG.pe;omega
     refine vX (r:= .int .i64 (gb (nth g.parts fi))) (xs:=[enc (nth g.parts fi)]) ?_ (fun _=>Ad (nth g.parts fi)) rfl ?_
     ·simp only [eS,bB,bI,hbs,Uf,jv]
     refine vX (r:= .int .i64 (cm x.method)) (xs:=[.str x.method]) ?_ (fun _=>EX x.method) rfl ?_
     ·simp only [eS]
     refine vX (r:= .bool (cG (gb (nth g.parts fi)) (cm x.method))) (xs:=[.int .i64 (gb (nth g.parts fi)),.int .i64 (cm x.method)]) ?_ (fun _=>vV _ _) trivial ?_
     ·simp only [eS]
     simp only [cA];apply aq<;>intro h
     ·simp only [eS] at h;have Sz:n<3:=by simp at h;omega
      (refine bJ (E7) (fun _ h=>wG.ty h) ?_;rintro _ rows i sd ⟨y,rfl,hy,MY⟩ hr hi)
      refine ⟨⟨n+1,rows,i,sd,y⟩,?_,⟨hr,hi,by simp only;omega,hy,MY⟩,by simp only;omega⟩;simp only [eS,mU.lay,bL];rw [bW];simp
     ·simp only [eS,VC.den,bB,bI,hbs,bS,reduceIte,reduceCtorEq];exact ⟨⟨⟨3,s0,x,[]⟩,rfl,hx,hm,n0⟩,_,_,_,rfl,by assumption,by assumption⟩
    ·exfalso;revert h;simp only [eS,bB,bI,hbs];simp
 ·apply aq<;>intro h
  ·exfalso;revert h;simp only [eS,bB,bI,hbs];simp
  cases bs
  ·apply aq<;>intro h
   ·exfalso;revert h;simp only [eS,bB,bI,hbs];simp
   refine aF (pZ g.entries s0) ?_;apply aq<;>intro h
   ·exfalso;revert h;simp only [eS,bB,bI,hbs];simp
   apply aq<;>intro h
   ·exfalso;revert h;simp only [eS,bB,bI,hbs];simp
   apply aq<;>intro h
   ·exfalso;revert h;simp only [eS,bB,bI,hbs];simp
   simp only [eS,VC.den,bB,bI,hbs,bS,reduceIte,reduceCtorEq];exact ⟨⟨⟨4,s0,gB,[]⟩,rfl,nt,nm,n0⟩,_,_,_,rfl,by assumption,by assumption⟩
  ·have hsp:0<g.shut.length:=by simp [ba] at hbs;exact hbs
   apply aq<;>intro h
   ·(refine bJ (kq g.shut.length) (fun _ h=>iN.ty h) ?_ (hb:=by (simp only [gS,bB,bI,hbs,bS,reduceIte,reduceCtorEq];try exact rfl)) (ha:=by (simp only [gS,bB,bI,hbs,bS,reduceIte,reduceCtorEq];try exact rfl));rintro _ rows i sd ⟨y,rfl,hy⟩ hr hi)
    have wF:=hy.2 (by omega);have hy1:=hy.1;refine aX (fun _=> ?_) ?_
    ·simp only [eS,bB,bI,hbs];simp;omega
    have hnm:=afF g.shut (show y.toNat<g.shut.length by omega);refine aF (pZ g.entries (nth g.shut y.toNat)) ?_;apply aq<;>intro h
    ·exfalso;revert h;simp only [eS,bB,bI,hbs];simp
    apply aq<;>intro h
    ·exfalso;revert h;simp only [eS,bB,bI,hbs];simp
    apply aq<;>intro h
    ·exfalso;revert h;simp only [eS,bB,bI,hbs];simp
    simp only [eS,VC.den,bB,bI,hbs,hnm,bS,reduceIte,reduceCtorEq];exact ⟨⟨⟨4,nth g.shut y.toNat,gB,[]⟩,rfl,nt,nm,n0⟩,_,_,_,rfl,by assumption,by assumption⟩
   ·exfalso;revert h;simp only [eS,bB,bI,hbs];simp
 ·apply aq<;>intro h
  ·exfalso;revert h;simp only [eS,bB,bI,hbs];simp
  apply aq<;>intro h
  ·exfalso;revert h;simp only [eS,bB,bI,hbs];simp
  refine aF (pZ g.entries s0) ?_;rcases Kx (dN g.entries s0) 0 with hf|hf
  ·have hf2:ba .geq (dN g.entries s0) 0=false:=by simp [ba];omega
   apply aq<;>intro h
   ·exfalso;revert h;simp only [eS,bB,bI,hbs];simp
   apply aq<;>intro h
   ·exfalso;revert h;simp only [eS,bB,bI,hbs];simp
   apply aq<;>intro h
   ·(refine vY (afZ) (fun _ h=>AZ.ty h) ?_ (hb:=by (simp only [gS,bB,bI,hbs,bS,reduceIte,reduceCtorEq];try exact rfl)) (ha:=by (simp only [gS,bB,bI,hbs,bS,reduceIte,reduceCtorEq];try exact rfl));rintro _ rows i sd ⟨tx,rfl,CQ⟩ hr hi)
    have aah:tx.length<=6:=by omega
    (refine bJ (pd _) (fun _ h=>mN.ty h) ?_;rintro _ rows i sd ⟨b2,rfl⟩ hr hi)
    apply aq<;>intro h
    ·exfalso;revert h;simp only [eS,bB,bI,hbs,hf2];simp
    simp only [eS,VC.den,bB,bI,hbs,hf2,bS,reduceIte,reduceCtorEq];exact ⟨⟨⟨5,s0,gB,tx⟩,rfl,nt,nm,aah⟩,_,_,_,rfl,by assumption,by assumption⟩
   ·exfalso;revert h;simp only [eS,bB,bI,hbs];simp
  obtain ⟨fi,hfi,hil,_⟩:=yO hf;rw [hfi];have hf2:ba .geq (fi:Int) 0=true:=by simp [ba]
  apply aq<;>intro h
  ·exfalso;revert h;simp only [eS,bB,bI,hbs];simp
  apply aq<;>intro h
  ·exfalso;revert h;simp only [eS,bB,bI,hbs];simp
  apply aq<;>intro h
  ·(refine vY (afZ) (fun _ h=>AZ.ty h) ?_ (hb:=by (simp only [gS,bB,bI,hbs,bS,reduceIte,reduceCtorEq];try exact rfl)) (ha:=by (simp only [gS,bB,bI,hbs,bS,reduceIte,reduceCtorEq];try exact rfl));rintro _ rows i sd ⟨tx,rfl,CQ⟩ hr hi)
   have aah:tx.length<=6:=by omega
   (refine bJ (pd _) (fun _ h=>mN.ty h) ?_;rintro _ rows i sd ⟨b2,rfl⟩ hr hi)
   apply aq<;>intro h
   ·have hrp:=akO (hG.er _ (iC hil)).1;have hrb:=(Nz (hG.er _ (iC hil)).1).1;refine aX (fun _=> ?_) ?_
    ·simp only [eS,bB,bI,hbs];simp;omega
    refine aX (fun _=> ?_) ?_
    ·simp only [eS,bB,bI,hbs,uZ,nW,jv];simp;omega
    have ht1:((nth g.entries fi).recipe.take 1).length=1:=by rw [lX];omega
    refine fQ (LC ((nth g.entries fi).recipe.take 1) (by omega)) ?_ (ha:=by (simp only [gS,bB,bI,hbs,uZ,nW,jv,awH];try exact rfl))
    (apply nY;(focus (simp only [gS,bB,bI,hbs,hf2,bS,reduceIte,reduceCtorEq];try exact rfl));(focus (simp only [gS,bB,bI,hbs,hf2,bS,reduceIte,reduceCtorEq];try exact rfl));(focus (exact ⟨_,_,_,rfl,by assumption,by assumption⟩));(focus (first|exact qJ _ (by decide) rfl|exact Dr.fD (qJ _ (by decide) rfl)));(focus (exact fun _ h=>isS.ty h));rintro _ rows i sd ⟨t,rfl⟩ hr hi;(simp only [cA]))
    refine aX (fun _=> ?_) ?_
    ·simp only [eS];simp;omega
    refine aF (Cq ((nth g.entries fi).recipe.take 1++[t])) ?_ (ha:=by (simp only [gS,ax,uj,kU,vN,eB];try exact rfl));have ayj:D.sl (((nth g.entries fi).recipe.take 1).map aE.cells++[[.str t]])=ax ((nth g.entries fi).recipe.take 1++[t]):=by simp [ax,eB]
    apply aq<;>intro h2
    ·simp only [eS,VC.den,bB,bI,hbs,hf2,bS,reduceIte,reduceCtorEq];exact ⟨⟨⟨5,s0,gB,[Dk]⟩,rfl,nt,nm,(show [Dk].length<=6 by decide)⟩,_,_,_,rfl,by assumption,by assumption⟩
    ·simp only [eS,VC.den,bB,bI,hbs,hf2,ayj,bS,reduceIte,reduceCtorEq];exact ⟨⟨⟨5,s0,gB,(nth g.entries fi).recipe.take 1++[t]⟩,rfl,nt,nm,(by simp [ht1])⟩,_,_,_,rfl,by assumption,by assumption⟩
   ·simp only [eS,VC.den,bB,bI,hbs,hf2,bS,reduceIte,reduceCtorEq];exact ⟨⟨⟨5,s0,gB,tx⟩,rfl,nt,nm,aah⟩,_,_,_,rfl,by assumption,by assumption⟩
  ·exfalso;revert h;simp only [eS,bB,bI,hbs];simp
structure Cb where
 n:Int
 rows:List (List D)
 i:Int
 h:Int
 g:Host
def Cb.lay(s:Cb):List D:=[.int .i64 s.n,.sl s.rows,.int .i64 s.i,.int .i64 s.h,ax s.g.entries,ax s.g.parts,ax s.g.up,ax s.g.shut,ax s.g.log]
def awZ(g:Host)(hG:HW g)(m:Int)(hm:0<=m/\m<=100):Dr 91 [enc g,.int .i64 m] FO:=by
 refine jE aoP aHE (fun cs h=>by exact ⟨vg g,rfl,ij h⟩) (enc g) ⟨_,rfl,hG⟩ fun rows i sd f1 hl hr hi=> ?_;(simp only [cA]);unfold aoP
 (refine bJ (kq _) (fun _ h=>iN.ty h) ?_;rintro _ rows i sd ⟨y,rfl,hy⟩ hr hi)
 have ha:dJ .add .i64 m 1=m+1:=bW;have wF:=hy.2 (by rw [ha];omega);rw [ha] at wF;refine p7 Cb Cb.lay (fun s=>cN aI.tab [.int .u8] s.rows/\0<=s.i/\s.n<=101/\HW s.g) (fun s=>s.n.toNat) ⟨y,rows,i,sd,g⟩ (fun s s' h=>by simp [Cb.lay] at h;rw [h.1]) rfl ⟨hr,hi,by simp only;omega,hG⟩ ?_;rintro ⟨n,rows,j,sd,g⟩ ⟨hr,hi,hn,hG⟩ -;simp only at hr hi hn hG;simp only [Cb.lay,iH,iw];apply aq<;>intro h
 ·simp [E.den,ba] at h
  (refine vY (Yt g hG) (fun _ h=>ze.ty h) ?_;rintro _ rows i sd ⟨e,rfl,Ay,he2,Fu⟩ hr hi)
  refine Ik (r:= .aL [enc (wN g e).1,.bool (wN g e).2]) (xs:=[enc g,enc e]) ?_ (av3 g e hG.fit (by omega) (by omega)) ⟨vg _,trivial,trivial⟩ ?_
  ·rfl
  simp only [cA];have hs:dJ .sub .i64 n 1=n-1:=oV;apply aq<;>intro h2
  ·refine ⟨⟨n-1,rows,i,sd,(wN g e).1⟩,?_,⟨hr,hi,by simp only;omega,aCY hG e⟩,by simp only;omega⟩;simp only [eS,Cb.lay,bB];rw [hs]
  ·refine ⟨⟨n-1,rows,i,sd,g⟩,?_,⟨hr,hi,by simp only;omega,hG⟩,by simp only;omega⟩;simp only [eS,Cb.lay,bB];rw [hs]
 ·exact ⟨⟨g,rfl,hG⟩,_,_,_,rfl,hr,hi⟩
def af0:Dr 40 [] FO:=by
 have h0:HW (FC [] []):=ajR (l:=[]) rfl;refine jE aoG aHv (fun cs h=>by exact ij h) (enc (FC [] [])) ⟨_,rfl,h0⟩ fun rows i sd f1 hl hr hi=> ?_;(simp only [cA]);unfold aoG
 (refine bJ (awY) (fun _ h=>Nb.ty h) ?_;rintro _ rows i sd ⟨l,rfl,hl,hf⟩ hr hi)
 have h6:=(q9 hl).1;have hfit: ∀e∈l,e.fit:=fun e he=>⟨dq (hf e he).1 (by decide),dq (hf e he).2 (by decide)⟩;refine fQ (avF l (by omega) hfit) (hty:=⟨vg _,trivial,trivial⟩) ?_
 (refine bJ (awZ (FC (Jj l) (Jk l)) (ajR hl) 9 (by decide)) (fun _ h=>FO.ty h) ?_;rintro _ rows i sd ⟨g,rfl,hG⟩ hr hi)
 exact ⟨⟨g,rfl,hG⟩,_,_,_,rfl,hr,hi⟩
def awW:tW 24 [] ze [(6,1)]:=by
 have nt:gB.text.size<=100:=by decide
 have nm:gB.method.size<=100:=by decide
 have n0:([]:List ByteArray).length<=6:=fX _;refine BS aoF aHu (fun cs h=>by exact ij h) (enc (⟨0,aV,gB,[]⟩:Event)) ⟨_,rfl,nt,nm,n0⟩ fun rows i sd f1 hl hr hi=> ?_;(simp only [cA]);unfold aoF
 (refine bJ (af0) (fun _ h=>FO.ty h) ?_;rintro _ rows i sd ⟨g,rfl,hG⟩ hr hi)
 (refine vY (Yt g hG) (fun _ h=>ze.ty h) ?_;rintro _ rows i sd ⟨e,rfl,Ay,he2,Fu⟩ hr hi)
 (refine bJ (kq _) (fun _ h=>iN.ty h) ?_;rintro _ rows i sd ⟨y,rfl,hy⟩ hr hi)
 apply aq<;>intro h
 ·(refine bJ (LJ) (fun _ h=>rV.ty h) ?_;rintro _ rows i sd ⟨v,rfl⟩ hr hi)
  exact ⟨⟨⟨v,e.name,e.call,e.recipe⟩,rfl,Ay,he2,Fu⟩,_,_,_,rfl,hr,hi⟩
 apply aq<;>intro h
 ·(refine bJ (afW) (fun _ h=>isS.ty h) ?_;rintro _ rows i sd ⟨s,rfl⟩ hr hi)
  exact ⟨⟨⟨e.kind,s,e.call,e.recipe⟩,rfl,Ay,he2,Fu⟩,_,_,_,rfl,hr,hi⟩
 apply aq<;>intro h
 ·(refine bJ (awM) (fun _ h=>wG.ty h) ?_;rintro _ rows i sd ⟨x,rfl,hx,hm⟩ hr hi)
  exact ⟨⟨⟨e.kind,e.name,x,e.recipe⟩,rfl,hx,hm,Fu⟩,_,_,_,rfl,hr,hi⟩
 apply aq<;>intro h
 ·(refine vY (Yr) (fun _ h=>AZ.ty h) ?_;rintro _ rows i sd ⟨l,rfl,hl⟩ hr hi)
  exact ⟨⟨⟨e.kind,e.name,e.call,l⟩,rfl,Ay,he2,(show l.length<=6 by omega)⟩,_,_,_,rfl,hr,hi⟩
 ·exact ⟨⟨e,rfl,Ay,he2,Fu⟩,_,_,_,rfl,hr,hi⟩
def awd{c:Call}(h1:c.method.size<=100)(h2:c.text.size<=100):(eH c).size<=200:=by
 unfold eH;split
 ·rename_i h;have h3:=Ra h;have h4:=UY h;repeat' split
  all_goals (try simp only [gx,Ds,Uw,Uz,UC,kO])<;>omega
 ·decide
def agA{e:Event}(h1:e.call.method.size<=100)(h2:e.call.text.size<=100):(gM e).size<=1000:=by
 have h3:=awd h1 h2;unfold gM;split
 ·rename_i h;obtain ⟨k1,k2,k3⟩:=LR h;have k4:=aeb e.kind.toNat;split
  ·simp only [gx,kO];omega
  split
  ·rename_i h5;have hr:=Nz (YW h h5);have hj:=aav (sep:=jX) hr.2;have:e.recipe.length*(8+jX.size)<=4*9:=by rw [kO];exact Xz hr.1 (bU _)
   simp only [gx,kO];omega
  ·simp only [gx,kO];omega
 ·decide
def Tf(b:UInt8):Bool:=decide (97<=b.toNat)&&decide (b.toNat<=122)
def aB7{s:ByteArray}{b:UInt8}(h:b∈s.data.toList): ∃k,k<s.size/\yF s k=(b.toNat:Int):=by
 obtain ⟨k,hk,e⟩:=yE h;rw [size_data] at hk;refine ⟨k,hk,?_⟩;unfold yF;have:s[k]? =some b:=by rw [getElem?_pos s k hk];congr 1
 rw [this];rfl
def aCg{s:ByteArray}(h:jj s=true){b:UInt8}(hb:b∈s.data.toList):(97<=b.toNat/\b.toNat<=122)\/(48<=b.toNat/\b.toNat<=57):=by obtain ⟨k,hk,e⟩:=aB7 hb;unfold jj at h;simp only [aP] at h;have:=mD.1 h.2 k hk;unfold oA at this;rw [e] at this;simp only [aP,gK,cC] at this;omega
def ajJ{s:ByteArray}(h:jj s=true){c:UInt8}(hc:c.toNat<48\/57<c.toNat/\c.toNat<97):c∉s.data.toList:=fun hb=>by have:=aCg h hb;omega
def aAW{s:ByteArray}(h:kindOk s=true):s.data.toList.all Tf=true:=by
 unfold kindOk zf at h;repeat' split at h
 all_goals first
  | (rename_i e;rw [e];decide)
  | simp at h
def aA7{s:ByteArray}(h:nK s=true):s.data.toList.all Tf=true:=by
 unfold nK xN at h;repeat' split at h
 all_goals first
  | (rename_i e;rw [e];decide)
  | simp at h
def akN{l:List ByteArray}(h:gO l=true):l≠[]/\ ∀s∈l,s.data.toList.all Tf=true:=by
 unfold gO du at h;split at h
 ·simp [rep] at h
 rename_i h0;have hk0:kindOk (nth l 0)=true:=by grind
 have hne:l≠[]:=fun e=>h0 (.inl (by rw [e];rfl));split at h
 ·rename_i k hk;have h1: ∀{n:Nat} {p:Nat->Bool},dG p n=some k->p k=true:=by
   intro n;induction n with
   | zero=>intro p h;simp [dG] at h
   | succ n ih =>
    intro p h;simp only [dG] at h;split at h
    ·rename_i j hj;cases h;exact ih hj
    ·split at h
     ·cases h;assumption
     ·cases h
  have:=h1 hk;grind
 rename_i hn;have hw: ∀k,k<l.length-1->(rB l k).code=0:=fun k hk=>by simpa using RE hn k hk
 refine ⟨hne,fun s hs=> ?_⟩;obtain ⟨k,hk,rfl⟩:=yE hs;have e:l[k]=nth l k:=by simp [nth,hk]
 rw [e];cases k with
 | zero=>exact aAW hk0
 | succ k=>exact aA7 (aec (hw k (by omega))).1
def aDp{l:List ByteArray}(h:gO l=true){c:UInt8}(hc:c.toNat<97\/122<c.toNat): ∀x∈l.map (·.data.toList),c∉x:=fun x hx hm=>by obtain ⟨s,hs,rfl⟩:=gD.1 hx;have:=fO.1 ((akN h).2 s hs) c hm;simp [Tf] at this;omega
def aDq{l:List ByteArray}(h:gO l=true):Lib.split (kA l jX).data.toList [32]=l.map (·.data.toList):=by have:(kA l jX).data.toList=Lib.join (l.map (·.data.toList)) [32]:=Cp _;rw [this];exact alK (c:=32) (t:=[]) (by simpa using (akN h).1) (aDp h (by decide))
end
end Go.Proofs.YtekplmpbkgchfaaGreatDoor
