/- Contracts: texts divided; texts read as versions. -/
import Derived.Test.YtoomhbopolalnaaGreatDoorS18
set_option linter.all false
set_option maxRecDepth 100000
namespace Go.Proofs.YtoomhbopolalnaaGreatDoor
variable {cs:Array Value}{x:Call}{Q:Exit->Act->World->Prop}{b g i lo m n:Nat}{I:Nat->List (Nat×Value)->World->Prop}{N N':Nat->Prop}{p:Part}{P:Program}{A3 T y:TypeId}{S1 S2 v:Value}{W w w':World}
section
open Go.RowKit Go
variable [GC]
def VO(x:List UInt8):List D:=[.str (bs x)]
def Cm(l:List (List UInt8)):D:=.sl (l.map VO)
@[simp] def aMt (l:List (List UInt8)):(Cm l).lO=l.map VO:=rfl
@[simp] def aMs (l:List (List UInt8)):cK (Cm l)=l.length:=by simp[Cm,cK]
def ZM(s:ByteArray)(a b:Nat):s.extract a b=bs ((s.data.toList.drop a).take (b-a)):=by apply QK;simp only[bs,ByteArray.data_extract];apply Array.ext';simp
def aEs{s:ByteArray}{sep:List UInt8}(h:i+sep.length<=s.size):decide (s.extract i (i+sep.length)=bs sep)=Lib.occAt s.data.toList sep i:=by rw[ZM,Lib.occAt_iff_take _ _ _ (by rw[size_data];exact h),Nat.add_sub_cancel_left];simp[Bool.beq_eq_decide_eq]
def acn(s sep:List UInt8)(a j:Nat):Lib.occAt (s.drop a) sep j=Lib.occAt s sep (a+j):=by unfold Lib.occAt;rw[C5]
def axD(s:ByteArray)(sep:List UInt8)(m:sep≠[])(h1:sep.length<=100)(H:s.size<4294967281):dN az 190 none [.str s,.str (bs sep)] (Cm (Lib.split s.data.toList sep)) [] [(0,1)]:=by
 have A:0<sep.length:=Yz.2 m;refine gu apK an4 (by simp[an4,fK,bH,dI,cI]) fun B=> ?_;unfold apK;refine qO (List (List UInt8)×Nat×Nat) (fun x=>[Cm x.1,.int .i64 x.2.1,.int .i64 x.2.2])
  (fun x=>x.1++Lib.split (s.data.toList.drop x.2.1) sep=Lib.split s.data.toList sep/\x.2.1<=x.2.2/\x.2.2<=s.size/\x.1.length<=x.2.1/\∀j,x.2.1<=j->j<x.2.2->Lib.occAt s.data.toList sep j=false)
  (fun x=>s.size-x.2.2) ([],0,0) ?_ rfl ⟨by simp,bK _,fO _,fO _,fun j a b=>by simp only at b;omega⟩ ?_
 ·intro x y h;simp at h;have:x.2.2=y.2.2:=by omega
  simp only[this]
 rintro⟨out,fr,i⟩ ⟨q1,q2,q3,q4,q5⟩ _;simp only at q1 q2 q3 q4 q5;have c:dQ .add .i64 (i:Int) (((bs sep).size:Nat):Int)=((i+sep.length:Nat):Int):=by rw[bF (h1:=(by rw[A5];omega)) (h2:=(by rw[A5];omega)),A5];omega
 have g:gz .neq (bs sep) ⟨#[]⟩=true:=by simp only[Zz];rw[show(⟨#[]⟩:ByteArray)=bs []from rfl];simp[m]
 apply aj<;>intro h
 ·simp only[E.den,gY,iw,ud,tZ,Az,zn,gQ,DM,g,c,Zy,qI,dr]at h;have l:i+sep.length<=s.size:=by omega
  refine aQ (fun _=> ?_) ?_
  ·simp only[E.den,gY,iw,ud,tZ,gQ,DM,c];simp;omega
  apply aj<;>intro r<;>simp only[E.den,gY,iw,ud,tZ,Az,zn,gQ,DM,c,rV,gX,oA,aEs l]at r
  ·have f:Lib.index (s.data.toList.drop fr) sep=((i-fr:Nat):Int):=by
    refine Lib.index_first (by rw[LZ,size_data];omega) ?_ (fun j C=> ?_)
    ·rw[acn,show fr+(i-fr)=i by omega];exact r
    ·rw[acn];exact q5 _ (by omega) (by omega)
   refine aQ (fun _=> ?_) ?_
   ·simp only[eS];simp;omega
   refine aQ (fun _=> ?_) ?_
   ·simp only[eS];simp;omega
   refine Ji (out++[(s.data.toList.drop fr).take (i-fr)],i+sep.length,i+sep.length) ?_ ⟨?_,bK _,l,?_,fun j a b=>by simp only at a b;omega⟩ ?_
   ·simp only[E.den,gY,iw,ud,tZ,zn,gQ,DM,c,rV,gX,jJ,rR,ZM];simp[Cm,VO]
   ·simp only;rw[<-q1,ac7 m f,C5,show fr+(i-fr+sep.length)=i+sep.length by omega];simp
   ·simp;omega
   ·simp only;omega
  ·refine Ji (out,fr,i+1) ?_ ⟨q1,by simp only;omega,by simp only;omega,q4,fun j a b=> ?_⟩ ?_
   ·simp only[eS];rw[bF];rfl
   ·simp only at a b;by_cases e:j=i
    ·rw[e];exact r
    ·exact q5 j a (by omega)
   ·simp only;omega
 ·simp only[E.den,gY,iw,ud,tZ,Az,zn,gQ,DM,g,c,Zy,qI,qK]at h;have f:Lib.index (s.data.toList.drop fr) sep= -1:=by
   refine Lib.index_none fun j C=> ?_;rw[acn];rcases dO (fr+j) i with t|F
   ·exact q5 _ (by omega) t
   ·cases G:Lib.occAt s.data.toList sep (fr+j)with
    |false=>rfl
    |true=>
     rcases Lib.occAt_room G with z|z
     ·rw[size_data]at z;omega
     ·exact absurd z m
  refine aQ (fun _=> ?_) ?_
  ·simp only[eS];simp;omega
  refine aQ (fun _=> ?_) (ay ?_)
  ·simp only[eS];simp;omega
  ·simp only[E.den,gY,iw,ud,tZ,zn,gQ,DM,rV,gX,ZM];rw[<-q1,VG f,show s.size-fr=(s.data.toList.drop fr).length by rw[LZ,size_data],wU];simp[Cm,VO]
def aEw:(1:Int).toNat=1:=rfl
def aHp(l:List (List UInt8)):Cm l=ak (l.map bs):=by simp only[Cm,ak,QQ];congr 1
def agK(s sep:ByteArray)(a:sep.data.toList≠[])(h1:sep.data.toList.length<=100)(b:s.size<4294967281):dN az 190 none [.str s,.str sep] (ak (pieces s sep)) [] [(0,1)]:=by have h:=axD s sep.data.toList a h1 b;rw[aHp,agF]at h;exact h
def aEh(h:n<1000):(61:UInt8)∉jz n:=by intro m;have:=fM.1 (ayH h) _ m;simp[abS]at this
def ac6{c:UInt8}(s:List UInt8):(Lib.cut s [c]=(s,[],false)/\Lib.split s [c]=[s])\/((Lib.cut s [c]).2.2=true/\Lib.split s [c]=(Lib.cut s [c]).1::Lib.split (Lib.cut s [c]).2.1 [c]):=by
 by_cases h:c∈s
 ·right;obtain⟨a,b,rfl,f⟩:=List.eq_append_cons_of_mem h;have e:a++c::b=a++((c::[])++b):=rfl;rw[e,ayl f];refine⟨rfl,?_⟩;rw[ac7 (by simp) (abQ f)];simp
 ·left;exact⟨aym h,VG (index_none' h)⟩
def aGK{c:UInt8}{s:List UInt8}(h:c∉s):Lib.split s [c]=[s]:=VG (index_none' h)
def aEP{x:ByteArray}(h:(pieces x yZ).length=2):pieces x yZ=[pcA x,GR x]/\(Lib.cut x.data.toList [61]).2.2=true:=by
 have e:pieces x yZ=(Lib.split x.data.toList [61]).map bs:=rfl;rw[e]at h ⊢;rw[dq]at h;rcases ac6 (c:=61) x.data.toList with⟨c,a⟩|⟨c,a⟩
 ·rw[a]at h;simp at h
 ·rw[a]at h ⊢;simp only[dU]at h;rcases ac6 (c:=61) (Lib.cut x.data.toList [61]).2.1 with⟨f,b⟩|⟨f,b⟩
  ·rw[b];exact⟨rfl,c⟩
  ·exfalso;rw[b]at h;have:=(abV (sep:=[61]) (by simp) _ (Lib.cut (Lib.cut x.data.toList [61]).2.1 [61]).2.1 (bK _)).2;simp only[dU]at h;exact this (mM (by omega))
def aEO{x:ByteArray}(h:Cc x=true):(pieces x yZ).length=2:=by
 have e:pieces x yZ=(Lib.split x.data.toList [61]).map bs:=rfl;unfold Cc at h;simp only[aY]at h;obtain⟨n,f,g, -⟩:=aEr h.2;rw[e,dq];rcases ac6 (c:=61) x.data.toList with⟨a,c⟩|⟨a,c⟩
 ·rw[a]at h;simp at h
 ·rw[c];have z:(Lib.cut x.data.toList [61]).2.1=jz n:=by have:=congrArg (fun b:ByteArray=>b.data.toList) g;simpa[GR,awJ]using this
  rw[z,aGK (aEh f)];rfl
def axy(s:ByteArray)(C:s.size<4294967281):dN az 183 none [.str s] (.aU [ak (pJ s).1,.bool (pJ s).2]) [] [(0,2)]:=by
 refine gu apD aIQ ⟨trivial,trivial⟩ fun A=> ?_;unfold apD;refine aj (fun h=>ay ?_) (fun h=> ?_)
 ·simp only[eS,ank]at h;have h:s=OO:=by simpa using h
  rw[pJ,aD h];rfl
 simp only[eS,ank]at h;have y:s≠OO:=by simpa using h
 refine fD (agK s jt (by decide) (by decide) C) ?_ (ha:=by(simp only[gS,anj];try exact rfl));have J:=(alS (s:=s) (sep:=jt) (by decide)).1;have r:∀k,k<(pieces s jt).length->(nth (pieces s jt) k).size<4294967281:=fun k t=>by have:=aEQ (s:=s) (sep:=jt) (by decide) t;omega
 have g:∀k,k<(pieces s jt).length->Cc (nth (pieces s jt) k)=false->(.aU [ak (pJ s).1,.bool (pJ s).2]:D)=.aU [ak ([]:List Cell),.bool false]:=fun k t l=>by
  have F:GQ s=false:=by
   cases h:GQ s with
   |false=>rfl
   |true=> unfold GQ at h;simp only[aY]at h;have:=fM.1 h.1.1 _ (gF t);rw[l]at this;cases this
  rw[pJ,aw y,aw (by simp[F])]
 refine cU (pieces s jt).length (fun k=>[ak (((pieces s jt).take k).map mn),.int .i64 k]) (fun k=>∀i,i<k->Cc (nth (pieces s jt) i)=true) rfl (by omega) ?_;intro k t I _;simp only[cA];apply aj<;>intro a<;>simp only[eS]at a
 ·have a:k<(pieces s jt).length:=by simp at a;exact a
  refine dK ?_;refine fD (agK (nth (pieces s jt) k) yZ (by decide) (by decide) (r k a)) ?_ (ha:=by(simp only[gS,jr,fP,gX,VI];try exact rfl));refine aj (fun b=>ay ?_) (fun b=> ?_)
  ·simp only[eS]at b;have b:(pieces (nth (pieces s jt) k) yZ).length≠2:=by simp at b;omega
   rw[g k a (by cases l:Cc (nth (pieces s jt) k)with|false=>rfl|true=>exact absurd (aEO l) b)];rfl
  simp only[eS]at b;have b:(pieces (nth (pieces s jt) k) yZ).length=2:=by simp at b;omega
  obtain⟨c,G⟩:=aEP b
  (refine aQ (fun m=> ?_) ?_;(focus (simp only[cO,fw,vf,yg,Fz,Db,eS,c]at m ⊢;(try simp only[D.bool.injEq]at m);(try simp only[D.bool.injEq]);grind)))
  refine FK ?_ (axz (GR (nth (pieces s jt) k))) (aIk _) ?_
  ·simp only[List.map,E.den,c,jr,fP,aEw,ZA,iEq,sEq];rfl
  simp only[cA];refine aj (fun e=>ay ?_) (fun e=> ?_)
  ·simp only[eS,GL]at e;have e:zX (GR (nth (pieces s jt) k))=false:=by simpa using e
   rw[g k a (by unfold Cc;rw[e,Yo])];rfl
  ·simp only[eS,GL]at e;have e:zX (GR (nth (pieces s jt) k))=true:=by simpa using e
   (refine aQ (fun m=> ?_) ?_;(focus (simp only[cO,fw,vf,yg,Fz,Db,eS,c]at m ⊢;(try simp only[D.bool.injEq]at m);(try simp only[D.bool.injEq]);grind)))
   refine aQ (fun _=> ?_) ?_
   ·simp only[eS];simp[maxLen];omega
   refine cJ a ?_ fun i z=> ?_
   ·simp only[eS,GL,jr,fP];rw[bF,ak6 _ a,c,ach];simp[ak,mz,mn]
   ·rcases dO i k with h|h
    ·exact I i h
    ·obtain rfl:i=k:=by omega
     unfold Cc;simp[G,e]
 ·obtain rfl:k=(pieces s jt).length:=by simp at a;omega
  have B:(pieces s jt).take (pieces s jt).length=pieces s jt:=wU;have r:GQ s=iM (Cb s):=by
   unfold GQ;have:(pieces s jt).all Cc=true:=fM.2 fun x H=>by obtain⟨i,z,rfl⟩:=AQ H;have:=I i z;simpa[nth,z]using this
   rw[this,qI];cases l:iM (Cb s)with
   |false=>simp
   |true=> have:=ym l;unfold Cb at this;rw[dq]at this;simp[this]
  refine aH (Zn (Cb s)) ?_ (ha:=by(simp only[gS,B,Cb];try exact rfl));refine aj (fun f=>ay ?_) (fun f=>ay ?_)
  ·simp only[eS]at f;have f:iM (Cb s)=false:=by simpa using f
   rw[pJ,aw y,aw (by rw[r,f];simp)];rfl
  ·simp only[eS]at f;have f:iM (Cb s)=true:=by simpa using f
   rw[pJ,aw y,aD (by rw[r,f])];simp only[eS,B];rfl
def SA(n:Int)(h:gM n=true):aG az 171 none [.int .i64 n] (.int .i64 (je n)) []:=by
 refine bZ aqe aJo ⟨rfl,trivial⟩ fun f=> ?_;unfold aqe;obtain⟨a,b⟩:=zW.1 h;have e:je n=min (n+1) 999:=by unfold je;rw[wrap_i64 (by omega) (by omega)]
 refine aj (fun g=>ay ?_) (fun g=>ay ?_)
 ·simp only[eS]at g ⊢;have g:999<=n:=by simpa using g
  rw[e];congr 1;omega
 ·simp only[eS]at g ⊢;have g:n<999:=by simpa using g
  rw[bF,e];congr 1;omega
def axO(p:Core)(x:Call)(z:oB p=true)(F:gm x=true):aG az 182 none [enc p,enc x,.bool ((fg p.kind).testBit 0)] (.aU [enc (keepD p x).1,enc (keepD p x).2]) []:=by
 refine bZ ap8 aJi ⟨pS p,Co x,trivial,trivial⟩ fun t=> ?_;unfold ap8;obtain⟨G,m,H,A,I,J⟩:=rU.1 z;have B:=ym m;have l:=alT (SG m) x.key;have r:kG p.cells x.key=true->dG p.cells x.key<p.cells.length:=fun h=>(BK.1 h).1;have g:(⟨#[71,101,116]⟩:ByteArray)=kX:=rfl;refine aH (ag5 p.cells x.key) ?_;refine aj (fun h=>ay ?_) (fun c=> ?_)
 ·simp only[eS,eM,fB]at h ⊢;have b:keepD p x=(p,rep 2 0 0 0):=by unfold keepD;rw[aD (by simpa using h)]
  rw[b];rfl
 simp only[eS,eM,fB]at c;have c:¬((fg p.kind).testBit 0=true/\p.on=false):=by simpa using c
 refine aj (fun h=>ay ?_) (fun y=> ?_)
 ·simp only[eS,eM,fB,g]at h ⊢;simp only[aY,dr]at h;have a:kG p.cells x.key=false:=by
   cases a:kG p.cells x.key with
   |false=>rfl
   |true=>rw[a]at l;simp at l;omega
  have b:keepD p x=(p,rep 4 0 0 0):=by unfold keepD;rw[aw c,aD h.1,a];rfl
  rw[b];rfl
 simp only[eS,eM,fB,g]at y;refine aj (fun h=> ?_) (fun e=> ?_)
 ·simp only[eS,eM,fB,g]at h;have h:x.method=kX:=by simpa using h
  have a:kG p.cells x.key=true:=by
   cases a:kG p.cells x.key with
   |true=>rfl
   |false=>rw[a]at l;simp[h]at y;simp at l;omega
  have O:=r a;rw[a]at l;have l:GS p.cells x.key=((dG p.cells x.key:Nat):Int):=by simpa using l
  rw[l];refine dK ?_;refine ay ?_;simp only[eS,eM,rB,mz,gX];have b:keepD p x=(p,rep 0 (nth p.cells (dG p.cells x.key)).val 0 0):=by unfold keepD;rw[aw c,aD h,aD a]
  rw[b];rfl
 simp only[eS,eM,fB,g]at e;have e:x.method≠kX:=by simpa using e
 refine aj (fun h=>ay ?_) (fun f=> ?_)
 ·simp only[eS,eM,fB]at h ⊢;simp only[aY,dr]at h;have a:kG p.cells x.key=false:=by
   cases a:kG p.cells x.key with
   |false=>rfl
   |true=>rw[a]at l;simp at l;omega
  have b:keepD p x=(p,rep 5 0 0 0):=by unfold keepD;rw[aw c,aw e,aD ⟨a,by have:=h.2;simp at this;omega⟩]
  rw[b];rfl
 simp only[eS,eM,fB]at f;have f:¬(kG p.cells x.key=false/\4<=p.cells.length):=by
  rintro⟨C,T⟩;rw[C]at l;have l:GS p.cells x.key= -1:=by simpa using l
  rw[l]at f;simp at f;omega
 refine fD (ag6 p.cells x.key x.val (SG m) (by omega)) (hty:=xO _) ?_;refine aH (SA p.count A) ?_;refine ay ?_;simp only[eS,eM,fB];have b:keepD p x=(⟨p.kind,p.on,p.broken,sB p.cells x.key x.val,je p.count⟩,rep 0 (sB p.cells x.key x.val).length 0 0):=by unfold keepD;rw[aw c,aw e,aw f]
 rw[b];rfl
def axP(p:Core)(x:Call)(y:oB p=true)(z:x.method=mStart\/x.method=dR\/x.method=jo)(hb:¬(p.broken=true/\x.method≠jo/\x.method≠jQ)):aG az 184 none [enc p,.str x.method] (.aU [enc (eZ p x).1,enc (eZ p x).2]) []:=by
 refine bZ aqc aJm ⟨pS p,trivial,trivial⟩ fun t=> ?_;unfold aqc;obtain⟨B,C,F,A,G,H⟩:=rU.1 y;have g:(⟨#[72,101,97,108]⟩:ByteArray)=jo:=rfl;have b:(⟨#[83,116,111,112]⟩:ByteArray)=dR:=rfl;refine aj (fun h=>ay ?_) (fun c=> ?_)
 ·simp only[eS,eM,g]at h ⊢;have h:x.method=jo:=by simpa using h
  have a:eZ p x=(⟨p.kind,false,false,p.cells,p.count⟩,rep 0 0 0 0):=by unfold eZ gm;rw[aw hb];simp only[h];rfl
  rw[a];rfl
 simp only[eS,g]at c;have c:x.method≠jo:=by simpa using c
 refine aj (fun h=>ay ?_) (fun l=> ?_)
 ·simp only[eS,eM,b]at h ⊢;have h:x.method=dR/\p.on=false:=by simpa using h
  obtain⟨h,f⟩:=h;have a:eZ p x=(p,rep 2 0 0 0):=by unfold eZ;rw[aw hb,aw (show ¬x.method=mStart by rw[h];decide),aD h,aD f]
  rw[a];rfl
 simp only[eS,eM,b]at l;refine aj (fun h=>ay ?_) (fun e=> ?_)
 ·simp only[eS,eM,b]at h ⊢;have h:x.method=dR:=by simpa using h
  have f:¬p.on=false:=by simpa[h]using l
  have a:eZ p x=(⟨p.kind,false,p.broken,p.cells,p.count⟩,rep 0 0 0 0):=by unfold eZ;rw[aw hb,aw (show ¬x.method=mStart by rw[h];decide),aD h,aw f]
  rw[a];rfl
 simp only[eS,b]at e;have e:x.method≠dR:=by simpa using e
 have m:x.method=mStart:=by rcases z with h|h|h;exact h;exact absurd h e;exact absurd h c
 refine aj (fun h=>ay ?_) (fun r=> ?_)
 ·simp only[eS,eM]at h ⊢;have h:p.on=true:=by simpa using h
  have a:eZ p x=(⟨p.kind,false,true,p.cells,p.count⟩,rep 3 0 0 0):=by unfold eZ;rw[aw hb,aD m,aD h]
  rw[a];rfl
 simp only[eS,eM]at r;refine aH (SA p.count A) ?_;refine ay ?_;simp only[eS,eM];have a:eZ p x=(⟨p.kind,true,p.broken,p.cells,je p.count⟩,rep 0 0 0 0):=by unfold eZ;rw[aw hb,aD m,aw (by simpa using r)]
 rw[a];rfl
def aKv(hx:gy x=true):∃j:Fin 6,bY x.method=((2^j.val:Nat):Int)/\x.method∈methods j.val:=UT (MJ hx)
def axN(p:Core)(x:Call)(c:oB p=true)(hx:gy x=true)(V:x.text.size<4294967281):aG az 170 none [enc p,enc x,.bool ((fg p.kind).testBit 0)] (.aU [enc (eZ p x).1,enc (eZ p x).2]) []:=by
 refine bZ ap7 aJh ⟨pS p,Co x,trivial,trivial⟩ fun F=> ?_;unfold ap7;have X:=c;obtain⟨a,b,e,Y,f,g⟩:=rU.1 c;have G:(⟨#[72,101,97,108]⟩:ByteArray)=jo:=rfl;have f:(⟨#[84,101,108,108]⟩:ByteArray)=jQ:=rfl;have B:(⟨#[71,101,116]⟩:ByteArray)=kX:=rfl;have H:(⟨#[80,117,116]⟩:ByteArray)=jP:=rfl;have I:(⟨#[72,101,97,114]⟩:ByteArray)=jD:=rfl;have J:(⟨#[83,97,118,101]⟩:ByteArray)=Kf:=rfl;have O:(⟨#[76,111,97,100]⟩:ByteArray)=su:=rfl;refine aj (fun h=>ay ?_) (fun T=> ?_)
 ·simp only[eS,eM,fB,G,f]at h ⊢;have h:p.broken=true/\x.method≠jo/\x.method≠jQ:=by simpa[Mm]using h
  have a:eZ p x=(p,rep 3 0 0 0):=by unfold eZ;rw[aD h]
  rw[a];rfl
 simp only[eS,eM,fB,G,f]at T;have b:¬(p.broken=true/\x.method≠jo/\x.method≠jQ):=by rintro⟨q1,q2,q3⟩;simp[q1,q2,q3]at T
 have K:gm x=true->eZ p x=keepD p x:=fun h=>by obtain⟨l,g,m,Z,e⟩:=Oj h;unfold eZ;rw[aw b,aw Z,aw e,aD h]
 have e:gm x=true->aG az 182 none [enc p,enc x,.bool ((fg p.kind).testBit 0)] (.aU [enc (eZ p x).1,enc (eZ p x).2]) []:=fun h=>by rw[K h];exact axO p x c h
 refine aj (fun h=> ?_) (fun m=> ?_)
 ·simp only[eS,eM,fB,B]at h;have h:x.method=kX:=by simpa using h
  refine aj (fun _=> ?_) (fun g=> ?_)
  ·refine aH (e (Uy.2 (.inl h))) (hty:=⟨pS _,wG _,trivial⟩) ?_;refine ay ?_;simp only[eS]
  ·simp only[eS,fB,B]at g;simp[h]at g
 simp only[eS,eM,fB,B]at m;have m:x.method≠kX:=by simpa using m
 refine aj (fun h=> ?_) (fun r=> ?_)
 ·simp only[eS,eM,fB,H]at h;have h:x.method=jP:=by simpa using h
  refine aH (e (Uy.2 (.inr h))) (hty:=⟨pS _,wG _,trivial⟩) ?_;refine ay ?_;simp only[eS]
 simp only[eS,eM,fB,H]at r;have r:x.method≠jP:=by simpa using r
 refine aj (fun h=>ay ?_) (fun t=> ?_)
 ·simp only[eS,eM,fB,f]at h ⊢;have h:x.method=jQ:=by simpa using h
  have a:eZ p x=(p,rep 0 p.count 0 0):=by unfold eZ gm;rw[aw b];simp only[h];rfl
  rw[a];rfl
 simp only[eS,eM,fB,f]at t;have t:x.method≠jQ:=by simpa using t
 refine aj (fun h=> ?_) (fun y=> ?_)
 ·simp only[eS,eM,fB,I]at h;have h:x.method=jD:=by simpa using h
  refine aH (SA p.count Y) ?_;refine ay ?_;simp only[eS,eM,fB];have a:eZ p x=(⟨p.kind,if x.val=0 then false else if x.val=1 then true else p.on,p.broken,p.cells,je p.count⟩,rep 0 (je p.count) 0 0):=by unfold eZ gm;rw[aw b];simp only[h];rfl
  have e:((x.val==1)||(p.on&&(x.val != 0)))=(if x.val=0 then false else if x.val=1 then true else p.on):=by
   by_cases C:x.val=0
   ·simp[C]
   ·by_cases l:x.val=1
    ·simp[l]
    ·rw[aw C,aw l,show(x.val==1)=false from by simpa using l,show(x.val != 0)=true from by simpa using C];simp
  rw[a,e];rfl
 simp only[eS,eM,fB,I]at y;have y:x.method≠jD:=by simpa using y
 refine aj (fun h=> ?_) (fun z=> ?_)
 ·simp only[eS,eM,fB,J]at h;have h:x.method=Kf:=by simpa using h
  refine aH (agU p.cells) ?_;refine ay ?_;simp only[eS,eM,fB];have a:eZ p x=(p,⟨0,0,fmtC p.cells,0,0⟩):=by unfold eZ gm;rw[aw b];simp only[h];rfl
  rw[a];rfl
 simp only[eS,eM,fB,J]at z;have z:x.method≠Kf:=by simpa using z
 refine aj (fun h=> ?_) (fun A=> ?_)
 ·simp only[eS,eM,fB,O]at h;have h:x.method=su:=by simpa using h
  have a:eZ p x=(if(pJ x.text).2=true then(⟨p.kind,p.on,p.broken,(pJ x.text).1,p.count⟩,rep 0 (pJ x.text).1.length 0 0)else(p,rep 6 0 0 0)):=by unfold eZ gm;rw[aw b];simp only[h];rfl
  refine fD (axy x.text V) (hty:=⟨xO _,trivial,trivial⟩) ?_;refine aj (fun g=>ay ?_) (fun g=>ay ?_)
  ·simp only[eS,eM]at g ⊢;have g:(pJ x.text).2=false:=by simpa using g
   rw[a,g];rfl
  ·simp only[eS,eM]at g ⊢;have g:(pJ x.text).2=true:=by simpa using g
   rw[a,aD g];rfl
 simp only[eS,eM,fB,O]at A;have A:x.method≠su:=by simpa using A
 have a:x.method=mStart\/x.method=dR\/x.method=jo:=by
  obtain⟨j, -,e⟩:=aKv hx;have f:∀j:Fin 6,∀s:ByteArray,s∈methods j.val->s=mStart\/s=dR\/s=jo\/s=kX\/s=jP\/s=jQ\/s=jD\/s=su\/s=Kf:=by decide
  rcases f j _ e with h|h|h|h|h|h|h|h|h
  ·exact .inl h
  ·exact .inr (.inl h)
  ·exact .inr (.inr h)
  ·exact absurd h m
  ·exact absurd h r
  ·exact absurd h t
  ·exact absurd h y
  ·exact absurd h A
  ·exact absurd h z
 refine aH (axP p x c a b) (hty:=⟨pS _,wG _,trivial⟩) ?_;refine ay ?_;simp only[eS]
def axo(p:Core)(x:Call)(a:oB p=true)(hx:gy x=true)(ho:cm (fg p.kind) (bY x.method)=true)(t:x.text.size<4294967281):aG az 158 none [enc p,enc x] (.aU [enc (eZ p x).1,enc (eZ p x).2]) []:=by
 refine bZ ao9 aIo ⟨pS p,Co x,trivial⟩ fun f=> ?_;unfold ao9;obtain⟨c,b,e,g,m,r⟩:=rU.1 a;have l:=ym b;refine fD (Zr p (by omega)) (hty:=pS _) ?_;refine aH (agW p) ?_;refine aH (Sx x) ?_;apply aj<;>intro h
 ·simp only[eS]at h;rw[a,hx]at h;cases h
 refine aH (Jc p.kind) ?_;refine aH (FE x.method) ?_;refine aH (wX (fg p.kind) (bY x.method)) ?_;apply aj<;>intro h
 ·simp only[eS]at h;rw[ho]at h;cases h
 refine aH (MH (fg p.kind) 0 (DK _) (by omega)) ?_;refine aH (axN p x a hx t) (hty:=⟨pS _,wG _,trivial⟩) ?_;refine ay ?_;simp only[eS]
structure PV(K N:Nat->Prop)(w:World)(S1 S2:Value)(p:Part):Prop where
 gi:qa w/\NG<=w.heap.size
 kb:∀b,K b->NG<=b
 kn:∀b,K b->N b
 nb:∀b,N b->b<w.heap.size
 cs:R w (fun a=>N a.block) (ak p.core.cells) S1
 ly:∃g,lE K w g S2 (qp p.ai)
 ks:p.core.kind.size<=maxLen
 ct:IntKind.i64.min<=p.core.count/\p.core.count<=IntKind.i64.max
def cell_of_heap{p:Addr}(h:w'.heap[p.block]? =w.heap[p.block]?):w'.cell? p=w.cell? p:=by unfold World.cell?;rw[h]
def akx(h:∀b,¬N b->w'.heap[b]? =w.heap[b]?):bR w (fun a=>N a.block) w' (fun a=>N a.block) :=
 fun p v e c=>⟨by rw[cell_of_heap (h _ c)];exact e,c⟩
section
variable {K N N':Nat->Prop}{w w':World}{S1 S2:Value}{p:Part}
def PV.cF(h:PV K N w S1 S2 p):dZ w (fun a=>N a.block):=⟨fun a b=>h.nb _ b,h.gi.1,h.gi.2⟩
def PV.new(h:PV K N w S1 S2 p)(hb:Below w.heap.size w w')(h1:∀b,N' b->N b\/w.heap.size<=b)(h2:∀b,N b->N' b)(c:∀b,N' b->b<w'.heap.size):PV K N' w' S1 S2 p:=by
 obtain⟨g,l⟩:=h.ly;exact⟨⟨h.gi.1.keep fun k a=>hb.block k (ek a h.gi.2),dV h.gi.2 hb.size⟩,h.kb,fun b a=>h2 b (h.kn b a),c,
  R.keep (bR.below hb fun q r e=>(h1 _ e).elim id fun f=>by omega) _ _ h.cs,⟨g,l.keep (fun b m=>hb.block b (l.out m).2.2) fun _ h=>h⟩,h.ks,h.ct⟩
def PV.below(h:PV K N w S1 S2 p)(hb:Below w.heap.size w w'):PV K N w' S1 S2 p :=
 h.new hb (fun b a=>.inl a) (fun b a=>a) fun b a=>ek (h.nb b a) hb.size
def PV.less(h:PV K N w S1 S2 p)(h1:∀b,N' b->N b)(h2:∀b,K b->N' b):PV K N' w S1 S2 p :=
 {h with kn:=h2,nb:=fun b a=>h.nb b (h1 b a),cs:=R.less h.cs fun _ c=>h1 _ c}
def PV.one(h:PV K N w S1 S2 p)(ho:bU w w' b)(f:N b)(c:¬K b)(hg:NG<=b):PV K N w' S1 S2 p:=by
 obtain⟨g,l⟩:=h.ly;exact⟨⟨h.gi.1.keep fun k c=>ho.block k (by omega),by rw[ho.size];exact h.gi.2⟩,h.kb,h.kn,fun b m=>by rw[ho.size];exact h.nb b m,
  R.keep (akx fun i a=>ho.block i fun e=>a (e▸f)) _ _ h.cs,⟨g,l.keep (fun i a=>ho.block i fun e=>c (e▸(l.out a).1)) fun _ h=>h⟩,h.ks,h.ct⟩
def PV.len(h:PV K N w S1 S2 p):∃a n c,S1=.slice a n c:=by obtain⟨a,n,c,rfl,_⟩:=h.cs;exact⟨a,n,c,rfl⟩
def PV.iP(h:PV K N w S1 S2 p):∀u∈(dz p S1 S2).toList,u.oneCell'=true:=by obtain⟨a,n,c,rfl⟩:=h.len;obtain⟨g,l⟩:=h.ly;obtain⟨b,e,rfl,_⟩:=l.aDp;exact acy _
def PV.lay{o cap k:Nat}(h:PV K N w S1 (.slice (some ⟨b,o,none⟩) n cap) p)(a:k<p.ai.length) :
  w.cell? ⟨b,o+k*2,none⟩=some (.string (nth p.ai k).name)/\w.cell? ⟨b,o+k*2+1,none⟩=some (.int .i64 (nth p.ai k).count)/\(∀i,w.frozen? ⟨b,i,none⟩=false)/\K b/\n=p.ai.length:=by
 have l:k<(qp p.ai).length:=by rw[Kl];exact a
 obtain⟨g,m⟩:=h.ly;obtain⟨b',z,A,e,r,B,C,c,f,t,F⟩:=m.at l;simp only[fA,aS,kB,yd]at e;obtain⟨⟨rfl,rfl⟩,y,_⟩:=e;rw[alX a]at c f;exact⟨c,f,fun i=>t i none,r,by rw[y,Kl]⟩
def PV.slot{k:Nat}(h:PV K N w S1 S2 p)(a:k<p.ai.length):∃b o cap,S2=.slice (some ⟨b,o,none⟩) p.ai.length cap:=by
 have c:k<(qp p.ai).length:=by rw[Kl];exact a
 obtain⟨g,l⟩:=h.ly;obtain⟨b',f,m,e,_⟩:=l.at c;exact⟨b',f,m,by rw[e,Kl]⟩
def PV.bump{b o n cap k:Nat}(h:PV K N w S1 (.slice (some ⟨b,o,none⟩) n cap) p)(f:k<p.ai.length)(y:IntKind.i64.min<=je (nth p.ai k).count/\je (nth p.ai k).count<=IntKind.i64.max) :
  PV K N (w.setCell ⟨b,o+k*2+1,none⟩ (.int .i64 (je (nth p.ai k).count))) S1 (.slice (some ⟨b,o,none⟩) n cap) (bump p k):=by
 obtain⟨-, -, -,a,z⟩:=h.lay f;subst z;obtain⟨g,r⟩:=h.ly;have l:k<(qp p.ai).length:=by rw[Kl];exact f
 have A:p.ai.length=(qp p.ai).length:=(Kl _).symm;rw[A]at r ⊢;have t:=r.put l y;have c:(qp p.ai).set k ((nth (qp p.ai) k).1,je (nth p.ai k).count)=qp (Go.Proofs.YtoomhbopolalnaaGreatDoor.bump p k).ai:=by rw[alX f];unfold qp Go.Proofs.YtoomhbopolalnaaGreatDoor.bump;rw[QR]
 rw[c]at t;exact⟨giK h.gi (h.kb _ a),h.kb,h.kn,fun i m=>by have:=h.nb i m;simpa using this,
  R.keep (akx fun i m=>aaU fun e=>m (e▸h.kn _ a)) _ _ h.cs,⟨g,t⟩,h.ks,h.ct⟩
structure MB(K N:Nat->Prop)(w:World)(b:Nat)(T:TypeId)(cs:Array Value):Prop where
 bl:aA w b T cs
 n:N b
 k:¬K b
 g:NG<=b
def MB.lt(h:MB K N w b T cs):b<w.heap.size:=h.bl.lt
def MB.oD(h:MB K N w b T cs)(f:dD K w w'):MB K N w' b T cs:={h with bl:=h.bl.oD f h.k}
def MB.below(h:MB K N w b T cs)(hb:Below w.heap.size w w'):MB K N w' b T cs:={h with bl:=h.bl.below hb h.bl.lt}
def MB.more(h:MB K N w b T cs)(a:∀b,N b->N' b):MB K N' w b T cs:={h with n:=a _ h.n}
def MB.other{b':Nat}(h:MB K N w b T cs)(ho:bU w w' b')(e:b≠b'):MB K N w' b T cs:={h with bl:=(ho.block _ e).trans h.bl}
def MB.put{cs':Array Value}(h:MB K N w b T cs)(r:aA w' b T cs'):MB K N w' b T cs':={h with bl:=r}
def MB.far(h:MB K N w b T cs){a:Addr}(v:Value)(ha:K a.block):MB K N (w.setCell a v) b T cs:={h with bl:=h.bl.far (fun e=>h.k (e▸ha)) v}
def MB.new(h:PV K N w S1 S2 p)(r:aA w' b T cs)(hb:w.heap.size<=b)(a:N' b):MB K N' w' b T cs :=
 ⟨r,a,fun c=>by have:=h.nb _ (h.kn _ c);omega,dV h.gi.2 hb⟩
end
def aFt{fn:Func}{p u t3:Tmp}{ty:TypeId}(h:fn.results=#[.cell p ty,.cell u y,.tmp t3])(tmps:Array Value)(w:World){g b:Nat}{t t2:TypeId}{cs c:Array Value}(d e:TypeDesc)
  (B:tmps.getD p undef=.pointer (some ⟨g,0,none⟩)) (hg:aA w g t cs) (C:P.underlying ty=some d) (hd:(match d with|.struct _|.array _ _=>true|_=>false)=true) (F:(P.info? ty).map (·.size)=some cs.size)
  (f:tmps.getD u undef=.pointer (some ⟨b,0,none⟩)) (l:aA w b t2 c) (m:P.underlying y=some e) (r:(match e with|.struct _|.array _ _=>true|_=>false)=true) (z:(P.info? y).map (·.size)=some c.size) :
  (results fn tmps).run P w=.ok (.tuple #[.agg cs,.agg c,tmps.getD t3 undef]) w:=by
 have A:tmps[p]?.getD undef=.pointer (some ⟨g,0,none⟩):=by simpa using B
 have a:tmps[u]?.getD undef=.pointer (some ⟨b,0,none⟩):=by simpa using f
 simp[results,h,A,a,asAddr,IZ w g t ty cs (0,0) d hg C hd F,IZ w b t2 y c (0,0) e l m r z,mw,Result.andThen]
def rK{E:List (Nat×Value)}{fn:Func}{R:Ending->World->Prop}{p u t3:Tmp}{ty:TypeId}{A:Nat}{t t2:TypeId}{c:Array Value}{d e:TypeDesc}(h:fn.results=#[.cell p ty,.cell u y,.tmp t3])(B:lk E t3=some v)(hg:aA w g t cs)(f:aA w A t2 c)(C:P.underlying ty=some d)(l:P.underlying y=some e)(F:(P.info? ty).map (·.size)=some cs.size)(m:(P.info? y).map (·.size)=some c.size)(G:R (.returned (.tuple #[.agg cs,.agg c,v])) w)(H:lk E p=some (.pointer (some ⟨g,0,none⟩)):=by rfl)(r:lk E u=some (.pointer (some ⟨A,0,none⟩)):=by rfl)(hd:(match d with|.struct _|.array _ _=>true|_=>false)=true:=by rfl)(z:(match e with|.struct _|.array _ _=>true|_=>false)=true:=by rfl):NX n (bodyPost P fn R .ret) E w :=
 fun a b=>⟨b.df,_,aFt h a.tmps w d e (b.at' p _ H) hg C hd F (b.at' u _ r) f l z m,by rw[b.at' t3 _ B];exact G⟩
def aC(ve vp vu vs vl:Value):Array Value:=#[ve,vp,vu,vs,vl]
structure HX(M:Addr->Prop)(N:Nat->Prop)(w:World)(h:Host)(ve vp vs vl:Value):Prop where
 gi:qa w/\NG<=w.heap.size
 mb:∀q,M q->q.block<w.heap.size
 nb:∀x,N x->x<w.heap.size
 e:R w (BM M N) (ak h.entries) ve
 p:OR M N w 51 6 (h.parts.map aB.cells) vp
 s:R w (BM M N) (ak h.shut) vs
 l:OR M N w 33 7 (h.log.map aB.cells) vl
 pl:∀x,vp.ownBlock=some x->vl.ownBlock≠some x
 gp:∀x,vp.ownBlock=some x->NG<=x
 gl:∀x,vl.ownBlock=some x->NG<=x
def KV(vp vl:Value):Nat->Prop:=fun x=>vp.ownBlock=some x\/vl.ownBlock=some x
section
variable {M:Addr->Prop}{N N':Nat->Prop}{w w':World}{h:Host}{ve vp vu vs vl:Value}
def HX.cF(H:HX M N w h ve vp vs vl):dZ w (BM M N):=⟨fun q a=>a.elim (H.mb q) (H.nb _),H.gi.1,H.gi.2⟩
def dH{d:D}(r:R w (BM M N) d v)(hb:Below w.heap.size w w')(a:∀x,N' x->N x\/w.heap.size<=x):R w' (BM M N') d v :=
 R.keep (BM.below hb a) _ _ r
def HX.new(H:HX M N w h ve vp vs vl)(hb:Below w.heap.size w w')(hN:∀x,N' x->N x\/w.heap.size<=x)(iI:∀x,N x->N' x)(zJ:∀x,N' x->x<w'.heap.size):HX M N' w' h ve vp vs vl :=
 {H with
  gi:=⟨H.gi.1.keep fun k hk=>hb.block k (ek hk H.gi.2),dV H.gi.2 hb.size⟩
  mb:=fun q hq=>ek (H.mb q hq) hb.size
  nb:=zJ
  e:=dH H.e hb hN
  p:=H.p.below hb hN iI
  s:=dH H.s hb hN
  l:=H.l.below hb hN iI}
def HX.below(H:HX M N w h ve vp vs vl)(hb:Below w.heap.size w w'):HX M N w' h ve vp vs vl :=
 H.new hb (fun x a=>.inl a) (fun x a=>a) fun x a=>ek (H.nb x a) hb.size
def iO{d:D}(r:R w (BM M N) d v)(ho:bU w w' g)(hg:N g):R w' (BM M N) d v :=
 R.keep (BM.one ho hg) _ _ r
def HX.one(H:HX M N w h ve vp vs vl)(ho:bU w w' g)(hg:N g)(hk:¬KV vp vl g)(r9:NG<=g):HX M N w' h ve vp vs vl :=
 {H with
  gi:=⟨H.gi.1.keep fun k hk=>ho.block k (by omega),by rw[ho.size];exact H.gi.2⟩
  mb:=fun q hq=>by rw[ho.size];exact H.mb q hq
  nb:=fun x hx=>by rw[ho.size];exact H.nb x hx
  e:=iO H.e ho hg
  p:=H.p.one ho hg fun e=>hk (.inl e)
  s:=iO H.s ho hg
  l:=H.l.one ho hg fun e=>hk (.inr e)}
def HX.part{cap:Nat}(H:HX M N w h ve (.slice (some ⟨b,0,none⟩) h.parts.length cap) vs vl)(hp:OR M N w' 51 6 ((h.parts.map aB.cells).set i (aB.cells p)) (.slice (some ⟨b,0,none⟩) h.parts.length cap))(ho:bU w w' b):HX M N w' {h with parts:=h.parts.set i p} ve (.slice (some ⟨b,0,none⟩) h.parts.length cap) vs vl:=by
 have hb:N b:=(H.p.lt b rfl).1;have r9:=H.gp b rfl;exact {H with
  gi:=⟨H.gi.1.keep fun k hk=>ho.block k (by omega),by rw[ho.size];exact H.gi.2⟩
  mb:=fun q hq=>by rw[ho.size];exact H.mb q hq
  nb:=fun x hx=>by rw[ho.size];exact H.nb x hx
  e:=iO H.e ho hb
  p:=by rw[QR];exact hp
  s:=iO H.s ho hb
  l:=H.l.one ho hb fun e=>H.pl b rfl e}
def OR.less{T:Nat}{rows:List (List D)}(h:OR M N w T m rows v)(h1:∀x,N' x->N x)(h2:∀x,v.ownBlock=some x->N' x):OR M N' w T m rows v :=
 h.keep (fun _ _=>rfl) (fun p u a b=>⟨a,fun c=>b (c.imp id (h1 _))⟩) h2
def HX.less(H:HX M N w h ve vp vs vl)(h1:∀x,N' x->N x)(h2:∀x,KV vp vl x->N' x):HX M N' w h ve vp vs vl :=
 {H with
  nb:=fun x a=>H.nb x (h1 x a)
  e:=R.less H.e fun q b=>b.imp id (h1 _)
  p:=H.p.less h1 fun x a=>h2 x (.inl a)
  s:=R.less H.s fun q b=>b.imp id (h1 _)
  l:=H.l.less h1 fun x a=>h2 x (.inr a)}
def HX.grow{row:Option Nat}(H:HX M N w h ve vp vs vl)(hg:w.grownBy w' row)(hr:∀x,row=some x->N x/\¬KV vp vl x/\NG<=x)(hN:∀x,N' x->N x\/w.heap.size<=x)(iI:∀x,N x->N' x)(zJ:∀x,N' x->x<w'.heap.size):HX M N' w' h ve vp vs vl:=by
 have kp:bR w (BM M N) w' (BM M N'):=fun p u hc hn=>by have hpl:=gf hc;have hb:w'.heap[p.block]? =w.heap[p.block]? :=hg.block p.block hpl fun e=>hn (.inr (hr _ e.symm).1);exact⟨by unfold World.cell? at hc ⊢;rw[hb];exact hc,fun h=>h.elim (fun h=>hn (.inl h)) fun h=>(hN _ h).elim (fun h=>hn (.inr h)) fun h=>by omega⟩
 exact {H with
  gi:=⟨H.gi.1.keep fun k hk=>hg.block k (ek hk H.gi.2) fun e=>by have:=(hr _ e.symm).2.2;omega,dV H.gi.2 hg.size⟩
  mb:=fun q hq=>ek (H.mb q hq) hg.size
  nb:=zJ
  e:=R.keep kp _ _ H.e
  p:=H.p.keep (fun x hx=>hg.block x (H.p.lt x hx).2 fun e=>(hr _ e.symm).2.1 (.inl hx)) kp fun x hx=>iI x (H.p.lt x hx).1
  s:=R.keep kp _ _ H.s
  l:=H.l.keep (fun x hx=>hg.block x (H.l.lt x hx).2 fun e=>(hr _ e.symm).2.1 (.inr hx)) kp fun x hx=>iI x (H.l.lt x hx).1}
end
section
variable {n:Nat}{P:Program}{Q:Exit->Act->World->Prop}{E:List (Nat×Value)}{w:World}
variable {t0 t1 t2 t3 t4 t5 t6 t7:Nat}{dA:TypeDesc}{o0 o1 o2 o3 o4 o5 o6 o7:Oper}{b' c' k':Nat}{s u s1 u1:ByteArray}
def OU{I J:Operand}{O V A4:TypeId}{X:Nat}
  (h0:o0.op=.move I) (g0:o0.guard=none) (d0:o0.dst=some t0)
  (h1:o1.op=.binOp .eql V (.tmp t0) (.const (.string u)) A3) (g1:o1.guard=none) (d1:o1.dst=some t1)
  (h2:o2.op=.move (.tmp t1)) (g2:o2.guard=none) (c:o2.dst=some t2)
  (h3:o3.op=.fieldAddr T J X) (g3:o3.guard=some (2,true)) (Y:o3.dst=some t3)
  (h4:o4.op=.load O (.tmp t3)) (Z:o4.guard=some (2,true)) (d4:o4.dst=some t4)
  (h5:o5.op=.binOp .eql V (.tmp t4) (.const (.string u1)) A4) (g5:o5.guard=some (2,true)) (d5:o5.dst=some t5)
  (h6:o6.op=.pick (.tmp t2) (.tmp t5) (.const (.bool false))) (g6:o6.guard=none) (d6:o6.dst=some t6)
  (h7:o7.op=.assign (.tmp t6)) (g7:o7.guard=none) (d7:o7.dst=some t7)
  (hn:t0<n/\t1<n/\t2<n/\t3<n/\t4<n/\t5<n/\t6<n/\t7<n)
  (z:∀z0 z1 z2,ev ((t2,z2)::(t1,z1)::(t0,z0)::E) J=some (.pointer (some ⟨b',c',none⟩)))
  (a:t2≠t5/\t2≠t4/\t2≠t3)
  (A:ev E I=some (.string s)) (hA:P.underlying O=some dA) (B:E9 dA=false)
  (C:mC P T X=some k') (G:w.cell? ⟨b',c'+k',none⟩=some (.string s1))
  (h:∀E',(∀t,t∉[t0,t1,t2,t3,t4,t5,t6,t7]->lk E' t=lk E t)->lk E' t7=some (.bool (gz .eql s u&&gz .eql s1 u1))->NX n (Q .normal) E' w) :
  WL n P #[o0,o1,o2,o3,o4,o5,o6,o7] Q [o0,o1,o2,o3,o4,o5,o6,o7] E w:=by
 obtain⟨f,g,r,n3,n4,n5,n6,n7⟩:=hn;have l:∀t v (F:List (Nat×Value)),lk ((t,v)::F) t=some v:=fun t v F=>by simp[lk]
 have b:∀{t m v} {F:List (Nat×Value)},t≠m->lk ((m,v)::F) t=lk F t:=fun {t m v F} H=>by
  simp only[lk];cases y:Nat.beq m t with
  |false=>rfl
  |true=>exact absurd (gL y).symm H
 refine fq g0 d0 (aI (ho:=h0) (hx:=A)) f ?_;refine fq g1 d1 (Ce h1 (l _ _ _) rfl) g ?_;refine fq g2 c (aI (ho:=h2) (hx:=(l _ _ _))) r ?_;have f:∀(vs:List (Nat×Value)) (t:Nat),t∉[t0,t1,t2,t3,t4,t5,t6,t7]->(∀p∈vs,p.1∈[t0,t1,t2,t3,t4,t5,t6,t7])->lk (vs++E) t=lk E t:=by
  intro vs t g;induction vs with
  |nil=>intro _;rfl
  |cons p r ih=> intro m;obtain⟨r,H⟩:=p;have h1:r∈[t0,t1,t2,t3,t4,t5,t6,t7]:=m (r,H) (by simp);rw[gY,b (fun e=>g (by rw[e];exact h1))];exact ih fun q r=>m q (by simp[r])
 cases y:gz .eql s u with
 |false=> refine WL.no (b:=false) g3 (by simpa using c) (by rw[l]) Y n3 ?_;refine WL.no (b:=false) Z (by simpa using c) (by rw[b a.2.2,l]) d4 n4 ?_;refine WL.no (b:=false) g5 (by simpa using c) (by rw[b a.2.1,b a.2.2,l]) d5 n5 ?_;refine fq g6 d6 (sD h6 (by show lk _ _=_;rw[b a.1,b a.2.1,b a.2.2,l]) rfl) n6 ?_;refine fq g7 d7 (bO (ho:=h7) (hx:=(l _ _ _))) n7 (WL.nil (h _ (fun t g=> ?_) (by rw[l,y];rfl)));exact f [_,_,_,_,_,_,_,_] t g (by simp)
 |true=> refine wR (b:=true) g3 (by simpa using c) (by rw[l]) Y (br (ho:=h3) (hx:=(z _ _ _)) C) n3 ?_;refine wR (b:=true) Z (by simpa using c) (by rw[b a.2.2,l]) d4 (bB (ho:=h4) (hx:=(l _ _ _)) hA (hd:=B) G) n4 ?_;refine wR (b:=true) g5 (by simpa using c) (by rw[b a.2.1,b a.2.2,l]) d5 (Ce h5 (l _ _ _) rfl) n5 ?_;refine fq g6 d6 (ru h6 (by show lk _ _=_;rw[b a.1,b a.2.1,b a.2.2,l]) (l _ _ _)) n6 ?_;refine fq g7 d7 (bO (ho:=h7) (hx:=(l _ _ _))) n7 (WL.nil (h _ (fun t g=> ?_) (by rw[l,y,qI])));exact f [_,_,_,_,_,_,_,_] t g (by simp)
def anz{C G:Operand}{H:Bool}{A2:TypeId}
  (h0:o0.op=.move C) (g0:o0.guard=none) (d0:o0.dst=some t0)
  (h1:o1.op=.binOp .eql A2 (.tmp t0) (.const (.string u)) A3) (g1:o1.guard=none) (d1:o1.dst=some t1)
  (h2:o2.op=.move (.tmp t1)) (g2:o2.guard=none) (y:o2.dst=some t2)
  (h3:o3.op=.move G) (g3:o3.guard=some (2,true)) (I:o3.dst=some t3)
  (J:o4.op=.pick (.tmp t2) (.tmp t3) (.const (.bool false))) (O:o4.guard=none) (T:o4.dst=some t4)
  (V:o5.op=.assign (.tmp t4)) (g5:o5.guard=none) (X:o5.dst=some t5)
  (hn:t0<n/\t1<n/\t2<n/\t3<n/\t4<n/\t5<n)
  (z:∀z0 z1 z2,ev ((t2,z2)::(t1,z1)::(t0,z0)::E) G=some (.bool H))
  (a:t2≠t3)
  (A:ev E C=some (.string s))
  (h:∀E',(∀t,t∉[t0,t1,t2,t3,t4,t5]->lk E' t=lk E t)->lk E' t5=some (.bool (gz .eql s u&&H))->NX n (Q .normal) E' w) :
  WL n P #[o0,o1,o2,o3,o4,o5] Q [o0,o1,o2,o3,o4,o5] E w:=by
 obtain⟨c,f,r,Y,Z,n5⟩:=hn;have l:∀t v (F:List (Nat×Value)),lk ((t,v)::F) t=some v:=fun t v F=>by simp[lk]
 have b:∀{t g v} {F:List (Nat×Value)},t≠g->lk ((g,v)::F) t=lk F t:=fun {t g v F} B=>by
  simp only[lk];cases m:Nat.beq g t with
  |false=>rfl
  |true=>exact absurd (gL m).symm B
 refine fq g0 d0 (aI (ho:=h0) (hx:=A)) c ?_;refine fq g1 d1 (Ce h1 (l _ _ _) rfl) f ?_;refine fq g2 y (aI (ho:=h2) (hx:=(l _ _ _))) r ?_;have f:∀(vs:List (Nat×Value)) (t:Nat),t∉[t0,t1,t2,t3,t4,t5]->(∀p∈vs,p.1∈[t0,t1,t2,t3,t4,t5])->lk (vs++E) t=lk E t:=by
  intro vs t c;induction vs with
  |nil=>intro _;rfl
  |cons p r ih=> intro g;obtain⟨r,B⟩:=p;have h1:r∈[t0,t1,t2,t3,t4,t5]:=g (r,B) (by simp);rw[gY,b (fun e=>c (by rw[e];exact h1))];exact ih fun q r=>g q (by simp[r])
 cases m:gz .eql s u with
 |false=> refine WL.no (b:=false) g3 (by simpa using y) (by rw[l]) I Y ?_;refine fq O T (sD J (by show lk _ _=_;rw[b a,l]) rfl) Z ?_;refine fq g5 X (bO (ho:=V) (hx:=(l _ _ _))) n5 (WL.nil (h _ (fun t c=> ?_) (by rw[l,m];rfl)));exact f [_,_,_,_,_,_] t c (by simp)
 |true=> refine wR (b:=true) g3 (by simpa using y) (by rw[l]) I (aI (ho:=h3) (hx:=(z _ _ _))) Y ?_;refine fq O T (ru J (by show lk _ _=_;rw[b a,l]) (l _ _ _)) Z ?_;refine fq g5 X (bO (ho:=V) (hx:=(l _ _ _))) n5 (WL.nil (h _ (fun t c=> ?_) (by rw[l,m,qI])));exact f [_,_,_,_,_,_] t c (by simp)
end
def agt(w:World)(z:Array Value)(T:TypeId):Below w.heap.size w (w.alloc (.cells z T)):=by go_grown
def PV.alloc{K:Nat->Prop}(h:PV K N w S1 S2 p)(T:TypeId)(z:Array Value) :
  ∃w' N',w'=w.alloc (.cells z T)/\Below w.heap.size w w'/\(∀b,N b->N' b)/\PV K N' w' S1 S2 p/\MB K N' w' w.heap.size T z/\w'.heap.size=w.heap.size+1:=by
 have a:=agt w z T;have c:(w.alloc (.cells z T)).heap.size=w.heap.size+1:=by simp[eB]
 have f:PV K (fun i=>N i\/i=w.heap.size) (w.alloc (.cells z T)) S1 S2 p:=h.new a (fun b a=>a.imp id fun e=>by omega) (fun b a=>.inl a) fun b a=>by
  rcases a with a|a
  ·have:=h.nb b a;omega
  ·omega
 exact⟨_,_,rfl,a,fun b a=>.inl a,f,MB.new h (aA.new w T z) (bK _) (.inr rfl),c⟩
def Ie(K N:Nat->Prop)(w:World)(S2:Value)(y:Part×gK)(e:Ending)(w':World):Prop :=
 ∃a,e=.returned (.tuple #[.agg (dz y.1 a S2),.agg (eY y.2)])/\PV K N w' a S2 y.1/\dD K w w'
def Ii(k:Nat):Prop:=∀(K N:Nat->Prop) (w:World) (S1 S2:Value) (p:Part) (x:Call),PV K N w S1 S2 p->Ig x->dw p=true->gy x=true->k<=p.ai.length->cm (fQ p k) (bY x.method)=true ->
 Calls az 132 #[.agg (dz p S1 S2),.int .i64 ((k:Nat):Int),lH x] w (Ie K N w S2 (bi k p x))
def tU(K N:Nat->Prop)(w:World)(S2:Value)(k:Nat)(p:Part)(x:Call)(e:Ending)(w':World):Prop :=
 ∃a q r own,e=.returned (.tuple #[.agg (dz q a S2),.agg (eY r),.bool own])/\PV K N w' a S2 q/\dD K w w'/\(own=true->bi (k+1) p x=(q,r))/\(own=false->q=p/\bi (k+1) p x=bi k p x/\cm (fQ p k) (bY x.method)=true)
def afT(k:Nat):Prop:=∀(K N:Nat->Prop) (w:World) (S1 S2:Value) (p:Part) (x:Call),PV K N w S1 S2 p->Ig x->dw p=true->gy x=true->k+1<=p.ai.length->cm (fQ p (k+1)) (bY x.method)=true ->
 Calls az 159 #[.agg (dz p S1 S2),.int .i64 ((k+1:Nat):Int),lH x] w (tU K N w S2 k p x)
def tU.mk{K:Nat->Prop}{k:Nat}{q:Part}{r:gK}{own:Bool}{e:Ending}(a:e=.returned (.tuple #[.agg (dz q S1 S2),.agg (eY r),.bool own]))(H:PV K N' w' S1 S2 q)(c:∀b,N b->N' b)(f:∀b,K b->N b)(F:dD K w w')
  (h1:own=true->bi (k+1) p x=(q,r)) (h2:own=false->q=p/\bi (k+1) p x=bi k p x/\cm (fQ p k) (bY x.method)=true):tU K N w S2 k p x e w' :=
 ⟨S1,q,r,own,a,H.less c f,F,h1,h2⟩
def aub{K:Nat->Prop}(h:PV K N w S1 S2 p)(n:Int)(a:gM n=true) :
  Calls az 171 #[.int .i64 n] w fun e w'=>e=.returned (.int .i64 (je n))/\Below w.heap.size w w':=by
 have b:=zW.1 a;refine(aG.calls (SA n a) (vs:=[.int .i64 n]) h.cF ⟨_,[],rfl,⟨rfl,by have:IntKind.i64.min= -9223372036854775808/\IntKind.i64.max=9223372036854775807:=(by decide);omega⟩,rfl⟩).mono ?_;rintro e w' ⟨v,rfl,⟨rfl,f⟩,c⟩;exact⟨rfl,c⟩
def axJ(a b:Int):aG az 172 none [.int .i64 a,.int .i64 b] (.int .i64 (if a<b then a else b)) []:=by
 refine bZ apT aI4 ⟨rfl,rfl,trivial⟩ fun f=> ?_;unfold apT;refine aj (fun h=>ay ?_) (fun h=>ay ?_)
 ·simp only[eS]at h ⊢;have h:a<b:=by simpa using h
  rw[aD h]
 ·simp only[eS]at h ⊢;have h:¬a<b:=by simpa using h
  rw[aw h]
def aKm{K:Nat->Prop}(h:PV K N w S1 S2 p)(a:Int)(ha:IntKind.i64.min<=a/\a<=IntKind.i64.max) :
  Calls az 172 #[.int .i64 a,.int .i64 999] w fun e w'=>e=.returned (.int .i64 (min a 999))/\Below w.heap.size w w':=by
 refine(aG.calls (axJ a 999) (vs:=[.int .i64 a,.int .i64 999]) h.cF ⟨_,_,rfl,⟨rfl,ha⟩,_,[],rfl,⟨rfl,by decide⟩,rfl⟩).mono ?_;rintro e w' ⟨v,rfl,⟨rfl,c⟩,b⟩;refine⟨?_,b⟩;congr 2;split<;>congr 1<;>omega
def aKk{K:Nat->Prop}(h:PV K N w S1 S2 p)(x:Call)(hx:Ig x)(m:dw p=true)(r:gy x=true)(ho:cm (fQ p 0) (bY x.method)=true) :
  Calls az 158 #[.agg #[.string p.core.kind,.bool p.core.on,.bool p.core.broken,S1,.int .i64 p.core.count],lH x] w fun e w'=>
   ∃a,e=.returned (.tuple #[.agg #[.string (eZ p.core x).1.kind,.bool (eZ p.core x).1.on,.bool (eZ p.core x).1.broken,a,.int .i64 (eZ p.core x).1.count],.agg (eY (eZ p.core x).2)])/\PV K N w' a S2 ⟨(eZ p.core x).1,p.ai⟩/\Below w.heap.size w w':=by
 have c:=(pK.1 m).1;have t:fQ p 0=fg p.core.kind:=by unfold fQ;rw[aD rfl]
 rw[t]at ho;refine(aG.calls (axo p.core x c r ho hx.text) (vs:=[.agg #[.string p.core.kind,.bool p.core.on,.bool p.core.broken,S1,.int .i64 p.core.count],lH x]) h.cF ⟨_,_,rfl,⟨_,rfl,_,_,rfl,⟨rfl,h.ks⟩,_,_,rfl,rfl,_,_,rfl,rfl,_,_,rfl,h.cs,_,_,rfl,⟨rfl,h.ct⟩,rfl⟩,_,[],rfl,
  ⟨_,rfl,_,_,rfl,⟨rfl,hx.method⟩,_,_,rfl,⟨rfl,hx.key⟩,_,_,rfl,⟨rfl,hx.val⟩,_,_,rfl,⟨rfl,by have:=hx.text;unfold maxLen;omega⟩,rfl⟩,rfl⟩).mono ?_
 rintro e w' ⟨v,rfl,⟨y,rfl,v0,r0,z,⟨A,rfl,T,q0,B,⟨rfl,C⟩,V,q1,rfl,rfl,X,q2,rfl,rfl,F,q3,rfl,G,Y,q4,rfl,⟨rfl,H⟩,rfl⟩,v1,r1,rfl,⟨I,rfl,Z,a,J,⟨rfl,_⟩,b,s1,rfl,⟨rfl,_⟩,c,f,rfl,⟨rfl,_⟩,g,t,rfl,⟨rfl,_⟩,O,s4,rfl,⟨rfl,_⟩,rfl⟩,rfl⟩,l⟩;have b:A=_:=iT.1 (B.trans (rfl:_=(#[_,_,_,_,_]:Array Value).toList));have f:I=_:=iT.1 (J.trans (rfl:_=(#[_,_,_,_,_]:Array Value).toList));have g:y=_:=iT.1 (z.trans (rfl:_=(#[_,_]:Array Value).toList));subst b f g;have O:=h.below l;exact⟨F,rfl,{O with cs:=G,ks:=C,ct:=H},l⟩
def RY(m:ByteArray):um az 31 [(0,.string m)]=some #[.string m,.string cL,.int .i64 0,.string cL]:=by kernel_rfl
def awF:um az 110 []=some (eY (rep 0 0 0 0)):=by kernel_rfl
section
variable {n:Nat}{P:Program}{Q:Exit->Act->World->Prop}{E:List (Nat×Value)}{w:World}
def XV(n:Nat)(I:Nat->List (Nat×Value)->World->Prop)(m:Nat)(a:Act)(w:World):Prop:=∃b E',b<m/\I b E' w/\Env n a E'
def CW.loop{c:Code}(I:Nat->List (Nat×Value)->World->Prop)(g:Nat)(r:I g E w)(round:∀m E w,I m E w->CW n P c (Exit.then (XV n I m) Q) E w):CW n P (.loop c) Q E w:=fun a t=>
 wp_loop_ghost (fun m a w=>∃E',I m E' w/\Env n a E') g ⟨E,r,t⟩ fun m a w ⟨E',h,f⟩=>by
  refine AY (round m E' w h a f) ?_;intro e F w' b;cases e with
  |normal=> obtain⟨y,z,A,B,C⟩:=b;exact⟨y,A,z,B,C⟩
  |exit id=>exact b
  |goto l=>exact b
  |ret=>exact b
  |panic G=>exact b
  |outgrown=>exact b
def NX.again(b:Nat)(E':List (Nat×Value))(h1:b<m)(c:tf E E')(h2:I b E' w):NX n (Exit.then (XV n I m) Q .normal) E w:=fun a e=>⟨b,E',h1,h2,e.sub c⟩
def NX.ag{E':List (Nat×Value)}(a:Nat)(h2:I a E' w)(h1:a<m:=by omega)(b:tf E E':=by((repeat refine And.intro rfl ?_);exact trivial)):NX n (Exit.then (XV n I m) Q .normal) E w:=NX.again a E' h1 b h2
end
section
variable {n:Nat}{P:Program}{ops:Array Oper}{Q:Exit->Act->World->Prop}{S:World->Prop}{s k:Nat}{L L':Array Bool}{E E':List (Nat×Value)}{w w':World}{i j d:Nat}{o:Oper}{v:Value}
def qC(n:Nat)(P:Program)(ops:Array Oper)(Q:Exit->Act->World->Prop)(S:World->Prop)(s k:Nat)(L:Array Bool)(E:List (Nat×Value))(w:World)(i:Nat):Prop:=∀a,Env n a E->wpOp P ops Q i (fun b w'=>(i≠s->S w')/\uh P .any ops Q S s k (L.setIfInBounds i true) b w') a w
def CH(r:Region.ready .any ops L=[i])(h:qC n P ops Q S s k L E w i):AU n P ops Q S s (k+1) L E w:=fun a c=>⟨fun e=>(by rw[r]at e;cases e),fun x b=>by rw[r]at b;cases mP.1 b;exact h a c⟩
def CI(r:Region.ready .any ops L=[i,j])(h:qC n P ops Q S s k L E w i)(h2:qC n P ops Q S s k L E w j):AU n P ops Q S s (k+1) L E w:=fun a c=>⟨fun e=>(by rw[r]at e;cases e),fun x b=>by
 rw[r]at b;rcases fw.1 b with rfl|b
 ·exact h a c
 ·cases mP.1 b;exact h2 a c⟩
def aun{l:Nat}(r:Region.ready .any ops L=[i,j,l])(h:qC n P ops Q S s k L E w i)(h2:qC n P ops Q S s k L E w j)(f:qC n P ops Q S s k L E w l):AU n P ops Q S s (k+1) L E w:=fun a c=>⟨fun e=>(by rw[r]at e;cases e),fun x b=>by
 rw[r]at b;rcases fw.1 b with rfl|b
 ·exact h a c
 rcases fw.1 b with rfl|b
 ·exact h2 a c
 ·cases mP.1 b;exact f a c⟩
def auq(e:ops.toList[i]? =some o)(hg:o.guard=none)(hd:o.dst=some d)(r:eQ n P E o w v w')(b:d<n)(f:S w')(h:AU n P ops Q S s k (L.setIfInBounds i true) ((d,v)::E) w'):qC n P ops Q S s k L E w i:=fun a c=>
 Iv.op (by rw[<-sX];exact e) fun l g=>by rw[aD (ER hg _)];unfold Oper.wp;rw[r a c,Mc,hd];exact g _ _ (fun _=>f) fun _=>h _ (c.put b v)
def aup(c:ops.toList[i]? =some o)(hg:o.guard=none)(hd:o.dst=none)(r:CQ n P E o w w')(e:i≠s->S w')(h:AU n P ops Q S s k (L.setIfInBounds i true) E w'):qC n P ops Q S s k L E w i:=fun a b=>
 Iv.op (by rw[<-sX];exact c) fun g f=>by rw[aD (ER hg _)];unfold Oper.wp;rw[r a b,YG,hd];exact f _ _ e fun _=>h _ b
def qC.c{f:FuncId}{args:Array Value}{R:Ending->World->Prop}(g:ops.toList[i]? =some o)(hg:o.guard=none)(hd:o.dst=some d)(r:zr n P E o w f args)(b:d<n)(hC:Calls P f args w R)
  (h:∀e w',R e w'->∃v,e=.returned v/\S w'/\AU n P ops Q S s k (L.setIfInBounds i true) ((d,v)::E) w'):qC n P ops Q S s k L E w i:=fun a c=>
 Iv.op (by rw[<-sX];exact g) fun z l=>by rw[aD (ER hg _)];unfold Oper.wp;rw[r a c];refine hC.mono fun e w' m=> ?_;obtain⟨v,rfl,t,y⟩:=h e w' m;rw[hd];exact l _ _ (fun _=>t) fun _=>y _ (c.put b v)
def Qt(b:L=L')(c:tf E E')(h:AU n P ops Q S s k L' E' w):AU n P ops Q S s k L E w:=fun a e=>b▸h a (e.sub c)
def nW(r:eQ n P E o w v w')(b:S w')(h:AU n P ops Q S s k (L.setIfInBounds i true) ((d,v)::E) w')(c:ops.toList[i]? =some o:=by kernel_rfl)(hg:o.guard=none:=by kernel_rfl)(hd:o.dst=some d:=by kernel_rfl)(a:d<n:=by decide):qC n P ops Q S s k L E w i:=auq c hg hd r a b h
def xX{f:FuncId}{args:Array Value}{R:Ending->World->Prop}(r:zr n P E o w f args)(hC:Calls P f args w R)
  (h:∀e w',R e w'->∃v,e=.returned v/\S w'/\AU n P ops Q S s k (L.setIfInBounds i true) ((d,v)::E) w') (b:ops.toList[i]? =some o:=by kernel_rfl) (hg:o.guard=none:=by kernel_rfl) (hd:o.dst=some d:=by kernel_rfl) (a:d<n:=by decide):qC n P ops Q S s k L E w i:=qC.c b hg hd r a hC h
def ju(h:AU n P ops Q S s k L' E' w)(a:L=L':=by kernel_rfl)(b:tf E E':=by((repeat refine And.intro rfl ?_);exact trivial)):AU n P ops Q S s k L E w:=Qt a b h
def regs:Code->List (Nat×Array Oper)
 |.region id ops _=>[(id,ops)]
 |.seq a b=>regs a++regs b
 |.cond _ a b=>regs a++regs b
 |.block _ c=>regs c
 |.loop c=>regs c
 |_=>[]
def G5(fn:Func)(id:Nat):Array Oper:=match fn.body with
 |some c=>(((regs c).find? fun p=>Nat.beq p.1 id).map (·.2)).getD #[]
 |none=>#[]
def aEg:Oper:={dst:=none,op:=.move (.const (.bool true)),type:=0,pos:= "",after:=#[],guard:=none}
def opAt(ops:Array Oper)(i:Nat):Oper:=(ops.toList[i]?).getD aEg
def eA{x:Operand}{vs:Array Value}(ho:o.op=.extract x i:=by rfl)(hx:ev E x=some (.tuple vs):=by rfl)(b:vs[i]? =some v:=by rfl):eQ n P E o w v w:=fun a c=>by simp[execOp,ho,c.ev hx,Instr.extract,b]
end
abbrev aN:Value:=.slice none 0 0
abbrev PH(b:Nat):Value:=.pointer (some ⟨b,0,none⟩)
def lh(l:List Nat):Array Bool:=((List.range 17).map fun i=>l.any (Nat.beq i)).toArray
def aE3{E:List (Nat×Value)}{o:Oper}{e:TypeId}{i:TypeInfo}{x y:Operand}{s t z:ByteArray}(ho:o.op=.buildSlice T 2 #[(0,x),(1,y)])(hx:ev E x=some (.string s))(g:ev E y=some (.string t))(l:P.underlying T=some (.slice e))(c:P.info? e=some i)(b:i.size=1)(m:i.zero=some (.string z)) :
  eQ n P E o w (.slice (some ⟨w.heap.size,0,none⟩) 2 2) (w.alloc (.cells #[.string s,.string t] e)):=fun a f=>by
 have r:Array.range 2=#[0,1]:=rfl;simp[execOp,ho,f.ev hx,f.ev g,Instr.buildSlice,run_underlying l,run_sizeOf c,b,zeroValue,run_typeInfo c,m,Value.cells,Instr.fill,newRow,r]
structure HS(K N:Nat->Prop)(w:World)(S2:Value)(N':Nat->Prop)(W:World)(S1:Value)(q:Part):Prop where
 h:PV K N' W S1 S2 q
 hf:dD K w W
 hn:∀i,N i->N' i
structure BX(K N':Nat->Prop)(W:World)(p:Part)(x:Call)(S1 S2:Value)(lo g3 g5 g6 g7 g15:Nat):Prop where
 m3:MB K N' W g3 51 (dz p S1 S2)
 m5:MB K N' W g5 31 #[.string x.method,.string x.key,.int .i64 x.val,.string x.text]
 m6:MB K N' W g6 51 jV
 m7:MB K N' W g7 110 cQ
 m15:MB K N' W g15 51 (dz p S1 S2)
 lt:g3<lo/\g5<lo/\g6<lo/\g7<lo/\g15<lo
section
variable {K N N' Io:Nat->Prop}{w W W':World}{p q:Part}{x:Call}{S1 S2 U:Value}{lo g3 g5 g6 g7 g15:Nat}
def BX.map(h:BX K N' W p x S1 S2 lo g3 g5 g6 g7 g15)(f:∀b T cs,b<lo->MB K N' W b T cs->MB K Io W' b T cs):BX K Io W' p x S1 S2 lo g3 g5 g6 g7 g15 :=
 ⟨f _ _ _ h.lt.1 h.m3,f _ _ _ h.lt.2.1 h.m5,f _ _ _ h.lt.2.2.1 h.m6,f _ _ _ h.lt.2.2.2.1 h.m7,f _ _ _ h.lt.2.2.2.2 h.m15,h.lt⟩
def HS.below(h:HS K N w S2 N' W U q)(hb:Below W.heap.size W W'):HS K N w S2 N' W' U q:=⟨h.h.below hb,h.hf.jd hb,h.hn⟩
def HS.one(h:HS K N w S2 N' W U q){T:TypeId}{cs:Array Value}(m:MB K N' W b T cs)(ho:bU W W' b)(a:w.heap.size<=b):HS K N w S2 N' W' U q:=⟨h.h.one ho m.n m.k m.g,h.hf.one ho (.inr a),h.hn⟩
end
noncomputable def jE:Array Oper:=G5 Tryz.f159 22
noncomputable def clH:Go.Call:=match (opAt jE 9).op with
 |.call c=>c
 |_=>{callee:=.value (.const (.bool true)),args:=#[],argTypes:=#[]}
def sH(q:Part)(x:Call)(S1 S2:Value)(g5 g15:Nat):World->Prop:=fun W=>aA W g15 51 (dz q S1 S2)/\aA W g5 31 #[.string x.method,.string x.key,.int .i64 x.val,.string x.text]
def BX.s{K:Nat->Prop}{g3 g5 g6 g7 g15:Nat}(h:BX K N' W p x S1 S2 lo g3 g5 g6 g7 g15):sH p x S1 S2 g5 g15 W:=⟨h.m15.bl,h.m5.bl⟩
def azi:vI az 26=some 1:=by kernel_rfl
def aCg:∃i,az.info? 9=some i/\i.size=1/\i.zero=some (.string ⟨#[]⟩):=⟨_,rfl,rfl,rfl⟩
def lb(a b:Bool)(l:List Nat):Array Bool:=lh (cond a [13] []++(cond b [14] []++l))
def ex(x y:Option Nat):List (Nat×Value):=x.elim [] (fun b=>[(16,PH b)])++y.elim [] (fun b=>[(17,PH b)])
def fu(k:Nat):Option Nat->Option Nat->Nat
 |none,none=>k+2
 |none,some _=>k+1
 |some _,none=>k+1
 |some _,some _=>k
structure OA(K N':Nat->Prop)(W:World)(lo:Nat)(y z:Option Nat):Prop where
 a:∀b,y=some b->MB K N' W b 51 jV/\lo<=b
 b:∀b,z=some b->MB K N' W b 110 cQ/\lo<=b
 ne:∀b,y=some b->z≠some b
def OA.map{K:Nat->Prop}{W':World}{y z:Option Nat}(h:OA K N W lo y z)(f:∀b T cs,MB K N W b T cs->MB K N' W' b T cs):OA K N' W' lo y z:=⟨fun b e=>⟨f _ _ _ (h.a b e).1,(h.a b e).2⟩,fun b e=>⟨f _ _ _ (h.b b e).1,(h.b b e).2⟩,h.ne⟩
def Qs{ops:Array Oper}{S:World->Prop}{s k:Nat}{L:Array Bool}{E:List (Nat×Value)}{l:List Nat}(r:Region.ready .any ops L=l)(b:l≠[])(h:∀x∈l,qC n P ops Q S s k L E w x):AU n P ops Q S s (k+1) L E w:=fun a c=>⟨fun e=>absurd (r.symm.trans e) b,fun x f=>h x (r▸f) a c⟩
def UJ{K:Nat->Prop}{q qq:Part}{U:Value}{g3 g5 g6 g7 g15:Nat}{base main:List Nat}{kc:Nat}{Ec:List (Nat×Value)}(C:World->Prop)(hC:∀W W',Below W.heap.size W W'->C W->C W')
  (m:∀y z N' W,HS K N w S2 N' W U qq->BX K N' W q x S1 S2 lo g3 g5 g6 g7 g15->lo<=W.heap.size->C W->OA K N' W lo y z->∀i∈main,qC 235 az jE Q (sH q x S1 S2 g5 g15) 16 (fu kc y z) (lb y.isSome z.isSome base) (Ec++ex y z) W i)
  (B:main≠[]\/∀b d N' W,HS K N w S2 N' W U qq->BX K N' W q x S1 S2 lo g3 g5 g6 g7 g15->lo<=W.heap.size->C W->OA K N' W lo (some b) (some d)->AU 235 az jE Q (sH q x S1 S2 g5 g15) 16 (kc+1) (lb true true base) (Ec++ex (some b) (some d)) W)
  (G:∀a b,main≠[]\/(a&&b)=false->Region.ready .any jE (lb a b base)=main++(cond a [] [13]++cond b [] [14]):=by rintro (_|_) (_|_) h<;>first|(simp at h;done)|kernel_rfl)
  (h3:∀b,(lb false b base).setIfInBounds 13 true=lb true b base:=by rintro (_|_)<;>kernel_rfl) (h4:∀a,(lb a false base).setIfInBounds 14 true=lb a true base:=by rintro (_|_)<;>kernel_rfl)
  (hE:∀b z,tf ((16,PH b)::(Ec++ex none z)) (Ec++ex (some b) z):=by rintro b (_|d)<;>((repeat refine And.intro rfl ?_);exact trivial)) (hF:∀b y,tf ((17,PH b)::(Ec++ex y none)) (Ec++ex y (some b)):=by rintro b (_|d)<;>((repeat refine And.intro rfl ?_);exact trivial)) :
  ∀y z N' W,HS K N w S2 N' W U qq->BX K N' W q x S1 S2 lo g3 g5 g6 g7 g15->lo<=W.heap.size->C W->OA K N' W lo y z->AU 235 az jE Q (sH q x S1 S2 g5 g15) 16 (fu kc y z+1) (lb y.isSome z.isSome base) (Ec++ex y z) W:=by
 have I:∀b d N' W,HS K N w S2 N' W U qq->BX K N' W q x S1 S2 lo g3 g5 g6 g7 g15->lo<=W.heap.size->C W->OA K N' W lo (some b) (some d)->AU 235 az jE Q (sH q x S1 S2 g5 g15) 16 (kc+1) (lb true true base) (Ec++ex (some b) (some d)) W:=by
  rcases B with B|B
  ·exact fun b d N' W H X l c O=>Qs (G true true (.inl B)) (by simpa using B) fun i g=>m _ _ _ _ H X l c O i (by simpa using g)
  ·exact B
 have a3:∀z,(∀b N' W,HS K N w S2 N' W U qq->BX K N' W q x S1 S2 lo g3 g5 g6 g7 g15->lo<=W.heap.size->C W->OA K N' W lo (some b) z->AU 235 az jE Q (sH q x S1 S2 g5 g15) 16 (fu kc none z) (lb true z.isSome base) (Ec++ex (some b) z) W)->∀N' W,HS K N w S2 N' W U qq->BX K N' W q x S1 S2 lo g3 g5 g6 g7 g15->lo<=W.heap.size->C W->OA K N' W lo none z->qC 235 az jE Q (sH q x S1 S2 g5 g15) 16 (fu kc none z) (lb false z.isSome base) (Ec++ex none z) W 13:=by intro z h N' W H X t c O;obtain⟨W',Io,J,r,A,V,M,Y⟩:=H.h.alloc 51 jV;have F:BX K Io W' q x S1 S2 lo g3 g5 g6 g7 g15:=X.map fun b T Z _ m=>(m.below r).more A;have O':=O.map fun b T Z m=>(m.below r).more A;exact nW (o:=opAt jE 13) (d:=16) (w':=W') (by rw[J];exact eV (z:=.agg jV) (by kernel_rfl) uF) F.s (Qt (h3 _) (hE _ _) (h _ _ _ ⟨V,H.hf.jd r,fun i g=>A i (H.hn i g)⟩ F (by omega) (hC _ _ r c) ⟨fun b e=>by cases e;exact⟨M,t⟩,O'.b,fun b e f=>by cases e;exact absurd (O.b _ f).1.lt (QY _)⟩))
 have a4:∀y,(∀d N' W,HS K N w S2 N' W U qq->BX K N' W q x S1 S2 lo g3 g5 g6 g7 g15->lo<=W.heap.size->C W->OA K N' W lo y (some d)->AU 235 az jE Q (sH q x S1 S2 g5 g15) 16 (fu kc y none) (lb y.isSome true base) (Ec++ex y (some d)) W)->∀N' W,HS K N w S2 N' W U qq->BX K N' W q x S1 S2 lo g3 g5 g6 g7 g15->lo<=W.heap.size->C W->OA K N' W lo y none->qC 235 az jE Q (sH q x S1 S2 g5 g15) 16 (fu kc y none) (lb y.isSome false base) (Ec++ex y none) W 14:=by intro y h N' W H X t c O;obtain⟨W',Io,J,r,A,V,M,Y⟩:=H.h.alloc 110 cQ;have F:BX K Io W' q x S1 S2 lo g3 g5 g6 g7 g15:=X.map fun b T Z _ m=>(m.below r).more A;have O':=O.map fun b T Z m=>(m.below r).more A;exact nW (o:=opAt jE 14) (d:=17) (w':=W') (by rw[J];exact eV (z:=.agg cQ) (by kernel_rfl) mW) F.s (Qt (h4 _) (hF _ _) (h _ _ _ ⟨V,H.hf.jd r,fun i g=>A i (H.hn i g)⟩ F (by omega) (hC _ _ r c) ⟨O'.a,fun b e=>by cases e;exact⟨M,t⟩,fun b e f=>by cases f;exact absurd (O.a _ e).1.lt (QY _)⟩))
 have r:∀b N' W,HS K N w S2 N' W U qq->BX K N' W q x S1 S2 lo g3 g5 g6 g7 g15->lo<=W.heap.size->C W->OA K N' W lo (some b) none->AU 235 az jE Q (sH q x S1 S2 g5 g15) 16 (kc+2) (lb true false base) (Ec++ex (some b) none) W:=fun b N' W H X l c O=>Qs (G true false (.inr rfl)) (by simp) fun i g=>by
  rcases iV.1 g with g|g
  ·exact m (some b) none _ _ H X l c O i g
  ·obtain rfl:i=14:=by simpa using g
   exact a4 (some b) (I b) _ _ H X l c O
 have t:∀d N' W,HS K N w S2 N' W U qq->BX K N' W q x S1 S2 lo g3 g5 g6 g7 g15->lo<=W.heap.size->C W->OA K N' W lo none (some d)->AU 235 az jE Q (sH q x S1 S2 g5 g15) 16 (kc+2) (lb false true base) (Ec++ex none (some d)) W:=fun d N' W H X l c O=>Qs (G false true (.inr rfl)) (by simp) fun i g=>by
  rcases iV.1 g with g|g
  ·exact m none (some d) _ _ H X l c O i g
  ·obtain rfl:i=13:=by simpa using g
   exact a3 (some d) (fun b=>I b d) _ _ H X l c O
 rintro (_|b) (_|d) N' W H X l c O
 ·exact Qs (G false false (.inr rfl)) (by simp) fun i g=>by
   rcases iV.1 g with g|g
   ·exact m none none _ _ H X l c O i g
   ·have g:i=13\/i=14:=by simpa using g
    rcases g with rfl|rfl
    ·exact a3 none r _ _ H X l c O
    ·exact a4 none t _ _ H X l c O
 ·exact t d _ _ H X l c O
 ·exact r b _ _ H X l c O
 ·exact I b d _ _ H X l c O
set_option maxHeartbeats 8000000 in
def aFi{k:Nat}(IH:Ii k){K N:Nat->Prop}{w:World}{q:Part}{x:Call}{S1 S2:Value}{m:ByteArray}{j lo g3 g5 g6 g7 g15:Nat}{Q:Exit->Act->World->Prop}(C:∀c a t v w,Q (.panic c) (Act.put a t v) w->Q (.panic c) a w)
  (hj:(#[Value.string dR,.string mStart])[j]? =some (.string m)) (hj2:j<2) (vV:x.val=(j:Int)) (hmf:Ig (bL m)) (kz:gy (bL m)=true) (hq:dw q=true) (hk:k<=q.ai.length) (hmo:cm (fQ q k) (bY (bL m).method)=true) (hlw:w.heap.size<=lo)
  (fin:∀(N':Nat->Prop) (W:World) (U:Value) (f g:Nat),HS K N w S2 N' W U (bi k q (bL m)).1->BX K N' W q x S1 S2 lo g3 g5 g6 g7 g15->MB K N' W f 51 (dz (bi k q (bL m)).1 U S2)->MB K N' W g 110 (eY (bi k q (bL m)).2)->lo<=f->lo<=g->f≠g->lo<=W.heap.size ->
   NX 235 (Q .normal) [(6,PH g6),(7,PH g7),(16,PH f),(17,PH g)] W)
  (N':Nat->Prop) (W:World) (H:HS K N w S2 N' W S1 q) (X:BX K N' W q x S1 S2 lo g3 g5 g6 g7 g15) (l:lo<=W.heap.size) :
  AU 235 az jE Q (sH q x S1 S2 g5 g15) 16 17 (Array.replicate 17 false) [(1,.int .i64 ((k+1:Nat):Int)),(5,PH g5),(6,PH g6),(7,PH g7),(15,PH g15)] W:=by
 have hw:dQ .sub .i64 ((k+1:Nat):Int) 1=(k:Int):=by have:=(pK.1 hq).2.1;rw[lS];omega
 have s3:=fun U=>UJ (K:=K) (N:=N) (w:=w) (S1:=S1) (S2:=S2) (q:=q) (qq:=(bi k q (bL m)).1) (x:=x) (lo:=lo) (g3:=g3) (g5:=g5) (g6:=g6) (g7:=g7) (g15:=g15) (U:=U) (Q:=Q) (base:=[0,1,2,3,4,5,6,7,8,9,10,11,12]) (main:=[]) (kc:=1) (Ec:=[(6,PH g6),(7,PH g7),(177,.agg (dz (bi k q (bL m)).1 U S2)),(178,.agg (eY (bi k q (bL m)).2))]) (fun _=>True) (fun _ _ _ h=>h) (fun _ _ _ _ _ _ _ _ _ i G=>by cases G) (.inr fun f g N' W H X l _ O=>by have F:=O.a f rfl;have J:=O.b g rfl;have hne:f≠g:=fun e=>O.ne f rfl (e▸rfl);obtain⟨A,B,I,T,r⟩:=X.lt;refine iK (o:=opAt jE 15) 15 (by kernel_rfl) (hg:=(by kernel_rfl)) (hd:=(by kernel_rfl)) (T:=51) (x:=.tmp 16) (y:=.tmp 177) (C:=jV) (hop:=(by kernel_rfl)) rfl F.1.bl H.h.iP cu (fun w' r _=>⟨(r.block _ (by omega)).trans X.m15.bl,(r.block _ (by omega)).trans X.m5.bl⟩) fun A B O1=> ?_;have Z:=H.one F.1 O1 (by omega);have X1:=X.map fun b T V I r=>r.other O1 (by omega);have A:=J.1.other O1 (by omega);have Y:=F.1.put B;refine iK (o:=opAt jE 16) 16 (by kernel_rfl) (hg:=(by kernel_rfl)) (hd:=(by kernel_rfl)) (T:=110) (x:=.tmp 17) (y:=.tmp 178) (C:=cQ) (hop:=(by kernel_rfl)) rfl A.bl (jF _) cw (fun _ _ h=>absurd rfl h) fun B R2 O2=> ?_;have H2:=Z.one A O2 (by omega);have X2:=X1.map fun b T V I r=>r.other O2 (by omega);have Z:=Y.other O2 (by omega);have B:=A.put R2;refine ij (by kernel_rfl) ?_;exact fun A Y=>fin _ _ _ _ _ H2 X2 Z B F.2 J.2 hne (by have:=O1.size;have:=O2.size;omega) A (Y.sub ⟨rfl,rfl,rfl,rfl,trivial⟩))
 have J:=UJ (K:=K) (N:=N) (w:=w) (S1:=S1) (S2:=S2) (q:=q) (qq:=q) (x:=x) (lo:=lo) (g3:=g3) (g5:=g5) (g6:=g6) (g7:=g7) (g15:=g15) (U:=S1) (Q:=Q) (base:=[0,1,2,3,4,5,6,7,8]) (main:=[9]) (kc:=5) (Ec:=[(6,PH g6),(7,PH g7),(167,.agg (dz q S1 S2)),(169,.int .i64 ((k:Nat):Int)),(175,.agg #[.string m,.string cL,.int .i64 0,.string cL])]) (fun _=>True) (fun _ _ _ h=>h) (fun y z N' W H X l c O i G=>by
  obtain rfl:=mP.1 G;rcases y with _|b<;>rcases z with _|d<;>(
   refine xX (o:=opAt jE 9) (d:=176) (pL (cl:=clH) (args:=#[.agg (dz q S1 S2),.int .i64 ((k:Nat):Int),.agg #[.string m,.string cL,.int .i64 0,.string cL]]) (by kernel_rfl) (by kernel_rfl) (by kernel_rfl) rfl) (IH K N' W S1 S2 q (bL m) H.h hmf hq kz hk hmo) ?_;rintro _ W' ⟨U,rfl,Y,A⟩;have X:=X.map fun b T V _ r=>r.oD A;have F:=A.size;refine⟨_,rfl,X.s,?_⟩;refine iE (o:=opAt jE 10) (d:=166) 10 C (fun W B=>aI (x:=.tmp 176) (ho:=(by kernel_rfl))) X.s ?_;refine iE (o:=opAt jE 11) (d:=177) 11 C (fun W B=>eA (x:=.tmp 166) (i:=0) (ho:=(by kernel_rfl))) X.s ?_;refine iE (o:=opAt jE 12) (d:=178) 12 C (fun W B=>eA (x:=.tmp 166) (i:=1) (ho:=(by kernel_rfl))) X.s ?_;exact ju (s3 U _ _ _ _ ⟨Y,H.hf.OT A,H.hn⟩ X (by omega) trivial (O.map fun b T V r=>r.oD A)))) (.inl (by simp))
 have s1:=fun b3=>UJ (K:=K) (N:=N) (w:=w) (S1:=S1) (S2:=S2) (q:=q) (qq:=q) (x:=x) (lo:=lo) (g3:=g3) (g5:=g5) (g6:=g6) (g7:=g7) (g15:=g15) (U:=S1) (Q:=Q) (base:=[0,1,2,3,4,5,6]) (main:=[7]) (kc:=7) (Ec:=[(6,PH g6),(7,PH g7),(167,.agg (dz q S1 S2)),(169,.int .i64 ((k:Nat):Int)),(173,.pointer (some ⟨b3,j,none⟩))]) (fun W=>W.cell? ⟨b3,j,none⟩=some (.string m)) (fun _ _ I h=>Di I h) (fun y z N' W H X l c O i G=>by
  obtain rfl:=mP.1 G;rcases y with _|b<;>rcases z with _|d<;>(
   refine nW (o:=opAt jE 7) (d:=174) (bB (T:=9) (x:=.tmp 173) (ho:=(by kernel_rfl)) iy c) X.s ?_;refine iE (o:=opAt jE 8) (d:=175) 8 C (fun W B=>kI (T:=31) (parts:=#[(0,.tmp 174)]) (vs:=[(0,.string m)]) (ho:=(by kernel_rfl)) (RY _)) X.s ?_;exact ju (J _ _ _ _ H X l trivial O))) (.inl (by simp))
 have Y:=UJ (K:=K) (N:=N) (w:=w) (S1:=S1) (S2:=S2) (q:=q) (qq:=q) (x:=x) (lo:=lo) (g3:=g3) (g5:=g5) (g6:=g6) (g7:=g7) (g15:=g15) (U:=S1) (Q:=Q) (base:=[0,1,2,4,5]) (main:=[3]) (kc:=9) (Ec:=[(6,PH g6),(7,PH g7),(167,.agg (dz q S1 S2)),(169,.int .i64 ((k:Nat):Int)),(172,.int .i64 x.val)]) (fun _=>True) (fun _ _ _ h=>h) (fun y z N' W H X l c O i G=>by
  obtain rfl:=mP.1 G;rcases y with _|b<;>rcases z with _|d<;>(
   have I:=agt W #[.string dR,.string mStart] 9;have A:(W.alloc (.cells #[.string dR,.string mStart] 9)).cell? ⟨W.heap.size,j,none⟩=some (.string m):=by rw[(aA.new W 9 #[.string dR,.string mStart]).cell];exact hj
   have F:(W.alloc (.cells #[.string dR,.string mStart] 9)).heap.size=W.heap.size+1:=by simp[eB]
   have X:=X.map fun b T V _ r=>r.below I;have Z:=H.below I;obtain⟨ti,F,G,J⟩:=aCg;refine nW (o:=opAt jE 3) (d:=170) (aE3 (e:=9) (x:=.const (.string dR)) (y:=.const (.string mStart)) (s:=dR) (t:=mStart) (by kernel_rfl) rfl rfl fz F G J) X.s ?_;refine iE (o:=opAt jE 6) (d:=173) 6 C (fun W B=>yR (T:=26) (x:=.tmp 170) (i:=.tmp 172) (by kernel_rfl) rfl (show ev _ _=some (.int .i64 x.val)from rfl) (by omega) (by omega) azi) X.s ?_;exact Qt (by kernel_rfl) (by rw[vV];refine⟨rfl,rfl,rfl,rfl,by simp[lk],?_⟩;(repeat refine And.intro rfl ?_);exact trivial) (s1 W.heap.size _ _ _ _ Z X (by omega) A (O.map fun b T V r=>r.below I)))) (.inl (by simp))
 refine iE (o:=opAt jE 0) (d:=167) 0 C (fun W B=>bG (T:=51) (x:=.tmp 15) (ho:=(by kernel_rfl)) dF B.1 cu) X.s ?_;refine iE (o:=opAt jE 1) (d:=168) 1 C (fun W B=>aI (x:=.tmp 1) (ho:=(by kernel_rfl))) X.s ?_;refine iE (o:=opAt jE 2) (d:=169) 2 C (fun W B=>iA (op:=.sub) (T:=3) (U:=3) (x:=.tmp 168) (y:=.const (.int .i64 1)) (ho:=(by kernel_rfl)) (hb:=hw)) X.s ?_;refine iE (o:=opAt jE 4) (d:=171) 4 C (fun W B=>br (x:=.tmp 5) (ho:=(by kernel_rfl)) aai) X.s ?_;refine iE (o:=opAt jE 5) (d:=172) 5 C (fun W B=>bB (T:=3) (x:=.tmp 171) (ho:=(by kernel_rfl)) kS ((B.2.cell 2).trans rfl)) X.s ?_;exact ju (Y none none _ _ H X l trivial ⟨fun _ e=>(by cases e),fun _ e=>(by cases e),fun _ e=>(by cases e)⟩)
end
end Go.Proofs.YtoomhbopolalnaaGreatDoor
