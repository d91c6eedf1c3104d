/- Cores, parts, recipes: what the program and the reference compute. -/
import Derived.Test.YtoomhbopolalnabGreatDoorT13
import Derived.Lib.Split
import Derived.Lib.Join
import Derived.Lib.Atoi
import Derived.Lib.ItoaNum
set_option linter.all false
set_option maxRecDepth 100000
namespace Go.Proofs.YtoomhbopolalnabGreatDoor
variable {l:List ByteArray}{b n:Nat}{w:World}
section
open Go.RowKit Go
variable [GC]
def nN(l:List Cell)(k:Nat):Bool:=kX (nth l k).key&&gL (nth l k).val&&(k==0||dz (nth l (k-1)).key (nth l k).key)
def iS(l:List Cell):Bool:=decide (l.length<=4)&&dW (nN l) l.length
def sub_one{k:Nat}(h:0<k)(a:k<=9223372036854775807):(dL .sub .i64 (k:Int) 1).toNat=k-1:=by rw[mz];omega
def axM(l:List Cell):aH Tryz.prog 154 none [aj l] (.bool (iS l)) []:=by
 refine cu apb aIb ⟨xR l,trivial⟩ fun f=> ?_;have i:l.length<=9223372036854775807:=kS f.1;unfold apb;apply ai<;>intro h<;>simp only[eS]at h
 ·refine ay ?_;simp only[E.den,D.bool.injEq];unfold iS;grind
 have d:l.length<=4:=by grind
 refine cQ l.length (fun k=>[.int .i64 k]) (fun k=>dW (nN l) k=true) rfl rfl ?_;intro k j I _;simp only[cA];apply ai<;>intro a<;>simp only[eS]at a
 ·have a:k<l.length:=by simp at a;exact a
  refine eu ?_;refine aF (I2 (nth l k).key) ?_;refine aF (ML (nth l k).val) ?_;refine aM (fun g=> ?_) ?_
  ·simp[cP,E.den,bg]at g ⊢;rw[mz];omega
  apply ai<;>intro b<;>simp only[eS,sJ,mS]at b
  ·have c:nN l k=false:=by
    unfold nN;by_cases e:0<k
    ·rw[sub_one e (by omega)]at b;grind
    ·grind
   refine ay ?_;simp[E.den,iS,qm a c]
  ·have c:nN l k=true:=by
    unfold nN;by_cases e:0<k
    ·rw[sub_one e (by omega)]at b;grind
    ·grind
   refine cK a ?_ (show(dW (nN l) k&&nN l k)=true by rw[I,c];rfl);simp only[eS];rw[bC];rfl
 ·obtain rfl:k=l.length:=by simp at a;omega
  exact ay (by simp[E.den,iS,I,d])
def ZV(l:List Cell):aH Tryz.prog 148 none [aj l] (.bool (iS l)) []:=by
 refine cu ap6 aI5 ⟨xR l,trivial⟩ fun f=> ?_;have c:l.length<=9223372036854775807:=kS f.1;unfold ap6;refine cQ l.length (fun k=>[.int .i64 k]) (fun k=>dW (nN l) k=true) rfl rfl ?_;intro k d I _;simp only[cA];apply ai<;>intro h<;>simp only[eS]at h
 ·have h:k<l.length:=by simp at h;exact h
  refine eu ?_;refine aF (MN (nth l k).key) ?_;refine aM (fun g=> ?_) ?_
  ·simp[cP,E.den,bg]at g ⊢;rw[mz];omega
  apply ai<;>intro a<;>simp only[eS,sJ,mS]at a
  ·have b:nN l k=false:=by
    unfold nN gL;by_cases e:0<k
    ·rw[sub_one e (by omega)]at a;grind
    ·grind
   refine ay ?_;simp[E.den,iS,qm h b]
  ·have b:nN l k=true:=by
    unfold nN gL;by_cases e:0<k
    ·rw[sub_one e (by omega)]at a;grind
    ·grind
   refine cK h ?_ (show(dW (nN l) k&&nN l k)=true by rw[I,b];rfl);simp only[eS];rw[bC];rfl
 ·obtain rfl:k=l.length:=by simp at h;omega
  refine ay ?_;simp only[eS];simp only[iS,I,Ra,D.bool.injEq];grind
def vZ(s:ByteArray):Core:=if kindOk s then ⟨s,false,false,[],0⟩else ⟨⟨#[]⟩,false,false,[],0⟩
def axS(s:ByteArray):dJ Tryz.prog 177 none [.str s] (.aU [enc (vZ s),.bool (kindOk s)]) [] [(3,2)]:=by
 refine gh apq aIn ⟨trivial,trivial⟩ fun f=> ?_;unfold apq;refine aF (ZL s) ?_;apply ai<;>intro h<;>simp only[eS]at h
 ·have h:kindOk s=false:=by simpa using h
  exact ay (by simp only[vZ,h];rfl)
 ·have h:kindOk s=true:=by simpa using h
  exact ay (by simp only[vZ,h];rfl)
def ayl(s:ByteArray):dJ Tryz.prog 144 none [.str s] (.aU [enc (vZ s),.bool (kindOk s)]) [] [(3,2)]:=by
 refine gh aqo aJm ⟨trivial,trivial⟩ fun f=> ?_;unfold aqo;refine aF (I5 s) ?_;apply ai<;>intro h<;>simp only[eS]at h
 ·have h:kindOk s=false:=by simpa using h
  exact ay (by simp only[vZ,h];rfl)
 ·have h:kindOk s=true:=by simpa using h
  exact ay (by simp only[vZ,h];rfl)
def oK(p:Core):Bool:=kindOk p.kind&&iS p.cells&&(p.cells.length==0||(fR p.kind).testBit 1)&&gL p.count&& !(p.on&&p.broken)&&((fR p.kind).testBit 0||(!p.on&& !p.broken))
def axw:∀n:Fin 64,bg .eql (dL .and .i64 ((n.val:Nat):Int) 2) 0= !n.val.testBit 1:=by decide +kernel
def axv:∀n:Fin 64,bg .eql (dL .and .i64 ((n.val:Nat):Int) 1) 1=n.val.testBit 0:=by decide +kernel
def axN(p:Core):aH Tryz.prog 124 none [enc p] (.bool (oK p)) []:=by
 refine cu apc aIc ⟨rI p,trivial⟩ fun f=> ?_;have b1:=axw ⟨fR p.kind,DN _⟩;have b0:=axv ⟨fR p.kind,DN _⟩;simp only[Z5]at b1 b0;unfold apc;refine aF (ZL p.kind) ?_;refine aF (axM p.cells) ?_;refine aF (ML p.count) ?_;apply ai<;>intro h<;>simp only[eS,fK,b1]at h
 ·refine ay ?_;simp only[E.den,D.bool.injEq];unfold oK;grind
 ·refine ay ?_;simp only[eS,fK,b0];simp only[D.bool.injEq];unfold oK;grind
def ahE(p:Core):aH Tryz.prog 135 none [enc p] (.bool (oK p)) []:=by
 refine cu ap7 aI6 ⟨rI p,trivial⟩ fun f=> ?_;unfold ap7;refine aF (I5 p.kind) ?_;refine aF (MP (fR p.kind) 0 (DN _) (by omega)) ?_;refine aF (ZV p.cells) ?_;refine aF (MP (fR p.kind) 1 (DN _) (by omega)) ?_;apply ai<;>intro h<;>simp only[eS,fK]at h
 ·refine ay ?_;simp only[E.den,D.bool.injEq];unfold oK gL;grind
 ·refine ay ?_;simp only[eS,fK];simp only[D.bool.injEq];unfold oK gL;grind
def ax0(p:Core)(h:p.cells.length<=4294967296):dJ Tryz.prog 82 none [enc p] (enc p) [] [(3,2)]:=by
 refine gh apC aIz ⟨rI p,trivial⟩ fun f=> ?_;unfold apC;refine aM (fun _=> ?_) (ay ?_)
 ·simp[E.den,fK,h]
 ·simp[E.den,fK,enc,aj]
def ZZ(p:Core)(h:p.cells.length<=4294967296):dJ Tryz.prog 97 none [enc p] (enc p) [] [(3,2)]:=by
 refine gh aqV aJQ ⟨rI p,trivial⟩ fun f=> ?_;unfold aqV;refine aM (fun _=> ?_) (ay ?_)
 ·simp[E.den,fK,h]
 ·simp[E.den,fK,enc,aj]
def ZP(p:Part)(h:p.core.cells.length<=4294967296)(a:p.ak.length<=4294967296):dJ Tryz.prog 51 none [enc p] (enc p) [] [(3,2),(5,2)]:=by
 refine gh apG aID ⟨kH p,trivial⟩ fun f=> ?_;unfold apG;refine dU (ax0 p.core h) (hty:=rI _) ?_;refine aM (fun _=> ?_) (ay ?_)
 ·simp[E.den,jN,a]
 ·simp[E.den,jN,fK,enc,aj]
def Z0(p:Part)(h:p.core.cells.length<=4294967296)(a:p.ak.length<=4294967296):dJ Tryz.prog 58 none [enc p] (enc p) [] [(3,2),(5,2)]:=by
 refine gh aq4 aJZ ⟨kH p,trivial⟩ fun f=> ?_;unfold aq4;refine dU (ZZ p.core h) (hty:=rI _) ?_;refine aM (fun _=> ?_) (ay ?_)
 ·simp[E.den,jN,a]
 ·simp[E.den,jN,fK,enc,aj]
def rA(s:ByteArray):Part:=⟨vZ s,[]⟩
def axT(s:ByteArray):dJ Tryz.prog 164 none [.str s] (.aU [enc (rA s),.bool (kindOk s)]) [] [(3,2),(5,2)]:=by refine gh apr aIo ⟨trivial,trivial⟩ fun h=> ?_;unfold apr;refine dU (axS s) (hty:=⟨rI _,trivial,trivial⟩) ?_;exact ay rfl
def ayn(s:ByteArray):dJ Tryz.prog 110 none [.str s] (.aU [enc (rA s),.bool (kindOk s)]) [] [(3,2),(5,2)]:=by refine gh aqq aJo ⟨trivial,trivial⟩ fun h=> ?_;unfold aqq;refine dU (ayl s) (hty:=⟨rI _,trivial,trivial⟩) ?_;exact ay rfl
def fP(p:Part)(k:Nat):Nat:=if k=0 then fR p.core.kind else qW (nth p.ak (k-1)).name
def zM(p:Part)(k:Nat):fP p k<64:=by unfold fP;split;exact DN _;exact aAh _
def fq(p:Part):Nat:=fP p p.ak.length
def ahB(p:Part)(k:Nat)(a:k<=p.ak.length):aH Tryz.prog 91 none [enc p,.int .i64 k] (.int .i64 (fP p k)) []:=by
 refine cu apI aIF ⟨kH p,rfl,trivial⟩ fun f=> ?_;have b:(k:Int)<=9223372036854775807:=f.2.1.2;unfold apI;apply ai<;>intro h<;>simp only[eS]at h
 ·have h:k=0:=by simp at h;exact h
  subst h;refine aF (ZL p.core.kind) ?_;exact ay rfl
 ·have h:k≠0:=by simpa using h
  have e:=sub_one (k:=k) (by omega) (by omega);refine aM (fun _=> ?_) ?_
  ·simp[E.den,jN];rw[mz];omega
  refine aF (ZQ (nth p.ak (k-1)).name) ?_ (ha:=by(simp only[gS,jN,G4,zI,e];try exact rfl));exact ay (by simp[E.den,tD,fP,h])
def ahM(p:Part)(k:Nat)(a:k<=p.ak.length):aH Tryz.prog 78 none [enc p,.int .i64 k] (.int .i64 (fP p k)) []:=by
 refine cu aq5 aJ0 ⟨kH p,rfl,trivial⟩ fun f=> ?_;have b:(k:Int)<=9223372036854775807:=f.2.1.2;unfold aq5;apply ai<;>intro h<;>simp only[eS]at h
 ·have h:k=0:=by simp at h;exact h
  subst h;refine aF (I5 p.core.kind) ?_;exact ay rfl
 ·have h:k≠0:=by simpa using h
  have e:=sub_one (k:=k) (by omega) (by omega);refine aM (fun _=> ?_) ?_
  ·simp[E.den,jN];rw[mz];omega
  refine aF (Z1 (nth p.ak (k-1)).name) ?_ (ha:=by(simp only[gS,jN,G4,zI,e];try exact rfl));exact ay (by simp[E.den,tD,fP,h])
def MJ(p:Part):aH Tryz.prog 55 none [enc p] (.int .i64 (fq p)) []:=by refine cu ao8 aH8 ⟨kH p,trivial⟩ fun h=> ?_;unfold ao8;refine aF (ahB p p.ak.length (bM _)) ?_;exact ay rfl
def Bb(p:Part):aH Tryz.prog 43 none [enc p] (.int .i64 (fq p)) []:=by refine cu ap1 aI1 ⟨kH p,trivial⟩ fun h=> ?_;unfold ap1;refine aF (ahM p p.ak.length (bM _)) ?_;exact ay rfl
def counts:ByteArray:=⟨#[99,111,117,110,116,115]⟩
def mY:ByteArray:=⟨#[104,101,97,114,115]⟩
def rn(p:Part)(k:Nat):Bool:=pM (nth p.ak k).name&&cw (fP p k) (mK (nth p.ak k).name)&&gL (nth p.ak k).count&&(decide ((nth p.ak k).count=0)||decide ((nth p.ak k).name=counts)||decide ((nth p.ak k).name=mY))
def dC(p:Part):Bool:=oK p.core&&decide (p.ak.length<=3)&&dW (rn p) p.ak.length
def ZJ(p:Part):aH Tryz.prog 85 none [enc p] (.bool (dC p)) []:=by
 refine cu apj aIi ⟨kH p,trivial⟩ fun f=> ?_;unfold apj;refine aF (axN p.core) ?_;apply ai<;>intro h<;>simp only[eS,jN]at h
 ·refine ay ?_;simp only[E.den,D.bool.injEq];unfold dC;grind
 have d:oK p.core=true:=by grind
 have b:p.ak.length<=3:=by grind
 refine cQ p.ak.length (fun k=>[.int .i64 k]) (fun k=>dW (rn p) k=true) rfl rfl ?_;intro k e I _;simp only[cA];apply ai<;>intro a<;>simp only[eS,jN]at a
 ·have a:k<p.ak.length:=by simp at a;exact a
  refine eu ?_;refine aF (ZQ (nth p.ak k).name) ?_;refine aF (ahB p k e) ?_;refine aF (Ti (fP p k) (mK (nth p.ak k).name)) ?_ (ha:=by(simp only[gS,tD];try exact rfl));refine aF (ML (nth p.ak k).count) ?_;apply ai<;>intro b<;>simp only[eS,jN,G4,zI,tD]at b
  ·have c:rn p k=false:=by unfold rn counts mY;grind
   refine ay ?_;simp[E.den,dC,qm a c]
  ·have c:rn p k=true:=by unfold rn counts mY;grind
   refine cK a ?_ (show(dW (rn p) k&&rn p k)=true by rw[I,c];rfl);simp only[eS];rw[bC];rfl
 ·obtain rfl:k=p.ak.length:=by simp at a;omega
  exact ay (by simp[E.den,dC,I,d,b])
def ZY(p:Part):aH Tryz.prog 99 none [enc p] (.bool (dC p)) []:=by
 refine cu aqe aJc ⟨kH p,trivial⟩ fun f=> ?_;unfold aqe;refine aF (ahE p.core) ?_;apply ai<;>intro h<;>simp only[eS,jN]at h
 ·refine ay ?_;simp only[E.den,D.bool.injEq];unfold dC;grind
 have d:oK p.core=true:=by grind
 have b:p.ak.length<=3:=by grind
 refine cQ p.ak.length (fun k=>[.int .i64 k]) (fun k=>dW (rn p) k=true) rfl rfl ?_;intro k e I _;simp only[cA];apply ai<;>intro a<;>simp only[eS,jN]at a
 ·have a:k<p.ak.length:=by simp at a;exact a
  refine eu ?_;refine aF (ahH (nth p.ak k).name) ?_;refine aF (ahM p k e) ?_;refine aF (wW (fP p k) (mK (nth p.ak k).name)) ?_;apply ai<;>intro b<;>simp only[eS,jN,G4,zI]at b
  ·have c:rn p k=false:=by unfold rn counts mY gL;grind
   refine ay ?_;simp[E.den,dC,qm a c]
  ·have c:rn p k=true:=by unfold rn counts mY gL;grind
   refine cK a ?_ (show(dW (rn p) k&&rn p k)=true by rw[I,c];rfl);simp only[eS];rw[bC];rfl
 ·obtain rfl:k=p.ak.length:=by simp at a;omega
  exact ay (by simp[E.den,dC,I,d,b])
def rep(code val w h:Int):gH:=⟨code,val,⟨#[]⟩,w,h⟩
def kJ(p:Part)(s:ByteArray):Part×gH :=
 if dC p=false\/pM s=false then(p,rep 7 0 0 0)
 else if 3<=p.ak.length then(p,rep 5 0 0 0)
 else if cw (fq p) (mK s)=false then(p,rep 1 0 (mK s) (fq p))
 else(⟨p.core,p.ak++[⟨s,0⟩]⟩,rep 0 (qW s) 0 0)
def axY(p:Part)(s:ByteArray)(h1:p.core.cells.length<=4294967296)(h2:p.ak.length<=4294967295):dJ Tryz.prog 165 none [enc p,.str s] (.aU [enc (kJ p s).1,enc (kJ p s).2]) [] [(3,2),(5,2)]:=by
 refine gh apA aIx ⟨kH p,trivial,trivial⟩ fun f=> ?_;unfold apA;refine dU (ZP p h1 (by omega)) (hty:=kH _) ?_;refine aF (ZQ s) ?_;refine aF (ZJ p) ?_;apply ai<;>intro h<;>simp only[eS,tD]at h
 ·refine ay ?_;unfold kJ;rw[aC (by grind)];rfl
 have n:¬(dC p=false\/pM s=false):=by grind
 apply ai<;>intro a<;>simp only[eS,jN]at a
 ·refine ay ?_;unfold kJ;rw[aw n,aC (by grind)];rfl
 have m:¬3<=p.ak.length:=by grind
 refine aF (MJ p) ?_;refine aF (Ti (fq p) (mK s)) ?_ (ha:=by(simp only[gS,tD];try exact rfl));apply ai<;>intro b<;>simp only[eS]at b
 ·refine aF (MJ p) ?_;refine ay ?_;unfold kJ;rw[aw n,aw m,aC (by grind)];rfl
 ·refine aM (fun _=> ?_) (ay ?_)
  ·simp[E.den,jN];omega
  unfold kJ;rw[aw n,aw m,aw (by grind)];simp[E.den,jN,enc,aj,zI,tD,rep,Bc]
def ayx(p:Part)(s:ByteArray)(h1:p.core.cells.length<=4294967296)(h2:p.ak.length<=4294967295):dJ Tryz.prog 111 none [enc p,.str s] (.aU [enc (kJ p s).1,enc (kJ p s).2]) [] [(3,2),(5,2)]:=by
 refine gh aqD aJz ⟨kH p,trivial,trivial⟩ fun f=> ?_;unfold aqD;refine dU (Z0 p h1 (by omega)) (hty:=kH _) ?_;refine aF (Z1 s) ?_;refine aF (ZY p) ?_;apply ai<;>intro h<;>simp only[eS,tD]at h
 ·refine ay ?_;unfold kJ;rw[aC (by grind)];rfl
 have n:¬(dC p=false\/pM s=false):=by grind
 have a:p.ak.length<=3:=by
  have:dC p=true:=by grind
  unfold dC at this;grind
 apply ai<;>intro b<;>simp only[eS,jN]at b
 ·refine ay ?_;unfold kJ;rw[aw n,aC (by grind)];rfl
 have m:¬3<=p.ak.length:=by grind
 refine aF (Bb p) ?_;refine aF (wW (fq p) (mK s)) ?_ (ha:=by(simp only[gS,tD];try exact rfl));apply ai<;>intro c<;>simp only[eS]at c
 ·refine aF (Bb p) ?_;refine ay ?_;unfold kJ;rw[aw n,aw m,aC (by grind)];rfl
 ·refine aM (fun _=> ?_) (ay ?_)
  ·simp[E.den,jN];omega
  unfold kJ;rw[aw n,aw m,aw (by grind)];simp[E.den,jN,enc,aj,zI,tD,rep,Bc]
def amb:Part:=⟨⟨⟨#[]⟩,false,false,[],0⟩,[]⟩
def gO(l:List ByteArray):Nat->Part
 |0=>rA (nth l 0)
 |k+1=>(kJ (gO l k) (nth l (k+1))).1
def tN(l:List ByteArray)(k:Nat):gH:=(kJ (gO l k) (nth l (k+1))).2
def eA(p:Nat->Bool):Nat->Option Nat
 |0=>none
 |n+1=>match eA p n with
  |some k=>some k
  |none=>if p n then some n else none
def vH{p:Nat->Bool}:∀{n:Nat},(∀i,i<n->p i=false)->eA p n=none
 |0,_=>rfl
 |n+1,h=>by have h1:=vH (n:=n) (fun i a=>h i (by omega));simp[eA,h1,h n (by omega)]
def vI{p:Nat->Bool}{k:Nat}(a:p k=true)(h:∀i,i<k->p i=false):∀{n:Nat},k<n->eA p n=some k
 |0,b=>by omega
 |n+1,b=>by
  by_cases e:k=n
  ·subst e;simp[eA,vH h,a]
  ·simp[eA,vI a h (show k<n by omega)]
def dZ(l:List ByteArray):Part×gH :=
 if l.length=0\/kindOk (nth l 0)=false then(amb,rep 7 0 0 0)
 else match eA (fun k=> !decide ((tN l k).code=0)) (l.length-1)with
  |some k=>(amb,tN l k)
  |none=>(gO l (l.length-1),rep 0 (fq (gO l (l.length-1))) 0 0)
def aLb{p:Part}{s:ByteArray}(h1:p.core.cells=[])(h2:p.ak.length<=3):(kJ p s).1.core.cells=[]/\(kJ p s).1.ak.length<=3:=by
 unfold kJ;split
 ·exact⟨h1,h2⟩
 split
 ·exact⟨h1,h2⟩
 split
 ·exact⟨h1,h2⟩
 ·refine⟨h1,?_⟩;simp;omega
def EN(l:List ByteArray):∀k,(gO l k).core.cells=[]/\(gO l k).ak.length<=3
 |0=>by refine⟨?_,by simp[gO,rA]⟩;simp only[gO,rA,vZ];split<;>rfl
 |k+1=>aLb (EN l k).1 (EN l k).2
def Ee(l:List ByteArray):List ByteArray:=(l.drop 1).take (l.length-1)
def amg{k:Nat}(h:k<l.length-1):nth (Ee l) k=nth l (k+1):=by
 have a:k+1<l.length:=by omega
 simp[nth,Ee,List.getD,qk,h,Dc 1 k,bX a]
def J7(l:List ByteArray):(Ee l).length=l.length-1:=by simp[Ee]
def ah6{env:List D}{e:E}(h:e.den env=aj l):(E.cut e (.li .i64 1) (.len e)).den env=aj (Ee l):=by simp[E.den,h,qn,aj,Ee,E7,List.map_drop,cG]
def uF(p:Part):List D:=[.str p.core.kind,.bool p.core.on,.bool p.core.broken,aj p.core.cells,.int .i64 p.core.count,aj p.ak]
def axQ(l:List ByteArray):dJ Tryz.prog 143 none [aj l] (.aU [enc (dZ l).1,enc (dZ l).2]) [] [(3,2),(5,2)]:=by
 refine gh apn aIl ⟨jW l,trivial⟩ fun f=> ?_;have j:l.length<=9223372036854775807:=kS f.1;unfold apn;apply ai<;>intro h<;>simp only[eS]at h
 ·refine ay ?_;unfold dZ;rw[aC (.inl (by grind))];rfl
 have o:l.length≠0:=by grind
 refine aM (fun _=> ?_) ?_
 ·simp[E.den];omega
 refine dU (axT (nth l 0)) (hty:=⟨kH _,trivial,trivial⟩) ?_;apply ai<;>intro d<;>simp only[eS]at d
 ·refine ay ?_;unfold dZ;rw[aC (.inr (by grind))];rfl
 have p:kindOk (nth l 0)=true:=by grind
 have m:¬(l.length=0\/kindOk (nth l 0)=false):=by grind
 refine aM (fun _=> ?_) ?_
 ·simp[E.den];omega
 refine cQ (l.length-1) (fun k=>.int .i64 k::uF (gO l k)) (fun k=>∀i,i<k->(!decide ((tN l i).code=0))=false) rfl (by omega) ?_;intro k n I _;simp only[ia,iy,uF];have c:∀(env:List D),(E.cut (.var 0) (.li .i64 1) (.len (.var 0))).den (aj l::env)=aj (Ee l):=fun env=>ah6 rfl;apply ai<;>intro a
 ·have a:k<l.length-1:=by have:(D.bool (bg .lss (k:Int) (cG ((E.cut (.var 0) (.li .i64 1) (.len (.var 0))).den (aj l:: .aU [enc (rA (nth l 0)),.bool (kindOk (nth l 0))]:: .int .i64 k::uF (gO l k)))))).kG=true:=a;rw[c,th,J7]at this;simp[bg]at this;omega
  refine aM (fun _=> ?_) ?_
  ·show D.bool (decide (0<=(k:Int)/\(k:Int)<cG ((E.cut (.var 0) (.li .i64 1) (.len (.var 0))).den (aj l:: .aU [enc (rA (nth l 0)),.bool (kindOk (nth l 0))]:: .int .i64 k::uF (gO l k)))))=.bool true;rw[c,th,J7];simp;omega
  refine aag (xs:=[enc (gO l k),.str (nth l (k+1))]) ?_ (axY (gO l k) (nth l (k+1)) (by rw[(EN l k).1];simp) (by have:=(EN l k).2;omega)) (show bG _ _ _ from ⟨kH _,wC _,trivial⟩) ?_
  ·show [enc (gO l k),(E.cell (.row [.str] (.cut (.var 0) (.li .i64 1) (.len (.var 0))) (.var 2)) 0).den (aj l:: .aU [enc (rA (nth l 0)),.bool (kindOk (nth l 0))]:: .int .i64 k::uF (gO l k))]=_;simp only[E.den,tW,tV,gQ];have e:=c (.aU [enc (rA (nth l 0)),.bool (kindOk (nth l 0))]:: .int .i64 k::uF (gO l k));simp only[E.den,tW,tV,gQ]at e;rw[e];simp only[eS,gZ,eO,amg a]
  simp only[cA];apply ai<;>intro g<;>simp only[eS,Bc]at g
  ·have b:(!decide ((tN l k).code=0))=true:=by unfold tN;grind
   refine ay ?_;unfold dZ;rw[aw m,vI b I a];rfl
  ·have b:(!decide ((tN l k).code=0))=false:=by unfold tN;grind
   refine cK a ?_ fun i q=> ?_
   ·simp only[eS,jN];rw[bC];rfl
   ·rcases dP i k with h|h
    ·exact I i h
    ·obtain rfl:i=k:=by omega
     exact b
 ·have a:k=l.length-1:=by have:(D.bool (bg .lss (k:Int) (cG ((E.cut (.var 0) (.li .i64 1) (.len (.var 0))).den (aj l:: .aU [enc (rA (nth l 0)),.bool (kindOk (nth l 0))]:: .int .i64 k::uF (gO l k)))))).kG=false:=a;rw[c,th,J7]at this;simp[bg]at this;omega
  subst a;refine aF (MJ (gO l (l.length-1))) ?_;refine ay ?_;unfold dZ;rw[aw m,vH I];rfl
def Tn(l:List ByteArray):dJ Tryz.prog 69 none [aj l] (.aU [enc (dZ l).1,enc (dZ l).2]) [] [(3,2),(5,2)]:=by
 refine gh aqk aJi ⟨jW l,trivial⟩ fun f=> ?_;have j:l.length<=9223372036854775807:=kS f.1;unfold aqk;apply ai<;>intro h<;>simp only[eS]at h
 ·refine ay ?_;unfold dZ;rw[aC (.inl (by grind))];rfl
 have o:l.length≠0:=by grind
 refine aM (fun _=> ?_) ?_
 ·simp[E.den];omega
 refine dU (ayn (nth l 0)) (hty:=⟨kH _,trivial,trivial⟩) ?_;apply ai<;>intro d<;>simp only[eS]at d
 ·refine ay ?_;unfold dZ;rw[aC (.inr (by grind))];rfl
 have p:kindOk (nth l 0)=true:=by grind
 have m:¬(l.length=0\/kindOk (nth l 0)=false):=by grind
 refine aM (fun _=> ?_) ?_
 ·simp[E.den];omega
 refine cQ (l.length-1) (fun k=>.int .i64 k::uF (gO l k)) (fun k=>∀i,i<k->(!decide ((tN l i).code=0))=false) rfl (by omega) ?_;intro k n I _;simp only[ia,iy,uF];have c:∀(env:List D),(E.cut (.var 0) (.li .i64 1) (.len (.var 0))).den (aj l::env)=aj (Ee l):=fun env=>ah6 rfl;apply ai<;>intro a
 ·have a:k<l.length-1:=by have:(D.bool (bg .lss (k:Int) (cG ((E.cut (.var 0) (.li .i64 1) (.len (.var 0))).den (aj l:: .aU [enc (rA (nth l 0)),.bool (kindOk (nth l 0))]:: .int .i64 k::uF (gO l k)))))).kG=true:=a;rw[c,th,J7]at this;simp[bg]at this;omega
  refine aM (fun _=> ?_) ?_
  ·show D.bool (decide (0<=(k:Int)/\(k:Int)<cG ((E.cut (.var 0) (.li .i64 1) (.len (.var 0))).den (aj l:: .aU [enc (rA (nth l 0)),.bool (kindOk (nth l 0))]:: .int .i64 k::uF (gO l k)))))=.bool true;rw[c,th,J7];simp;omega
  refine aag (xs:=[enc (gO l k),.str (nth l (k+1))]) ?_ (ayx (gO l k) (nth l (k+1)) (by rw[(EN l k).1];simp) (by have:=(EN l k).2;omega)) (show bG _ _ _ from ⟨kH _,wC _,trivial⟩) ?_
  ·show [enc (gO l k),(E.cell (.row [.str] (.cut (.var 0) (.li .i64 1) (.len (.var 0))) (.var 2)) 0).den (aj l:: .aU [enc (rA (nth l 0)),.bool (kindOk (nth l 0))]:: .int .i64 k::uF (gO l k))]=_;simp only[E.den,tW,tV,gQ];have e:=c (.aU [enc (rA (nth l 0)),.bool (kindOk (nth l 0))]:: .int .i64 k::uF (gO l k));simp only[E.den,tW,tV,gQ]at e;rw[e];simp only[eS,gZ,eO,amg a]
  simp only[cA];apply ai<;>intro g<;>simp only[eS,Bc]at g
  ·have b:(!decide ((tN l k).code=0))=true:=by unfold tN;grind
   refine ay ?_;unfold dZ;rw[aw m,vI b I a];rfl
  ·have b:(!decide ((tN l k).code=0))=false:=by unfold tN;grind
   refine cK a ?_ fun i q=> ?_
   ·simp only[eS,jN];rw[bC];rfl
   ·rcases dP i k with h|h
    ·exact I i h
    ·obtain rfl:i=k:=by omega
     exact b
 ·have a:k=l.length-1:=by have:(D.bool (bg .lss (k:Int) (cG ((E.cut (.var 0) (.li .i64 1) (.len (.var 0))).den (aj l:: .aU [enc (rA (nth l 0)),.bool (kindOk (nth l 0))]:: .int .i64 k::uF (gO l k)))))).kG=false:=a;rw[c,th,J7]at this;simp[bg]at this;omega
  subst a;refine aF (Bb (gO l (l.length-1))) ?_;refine ay ?_;unfold dZ;rw[aw m,vH I];rfl
def Cj(l:List ByteArray):Int:=if(dZ l).2.code=0 then(dZ l).2.val else 0
def jH(l:List ByteArray):Bool:=decide ((dZ l).2.code=0)
def ZN(l:List ByteArray):aH Tryz.prog 106 none [aj l] (.aU [.int .i64 (Cj l),.bool (jH l)]) []:=by
 refine cu apv aIs ⟨jW l,trivial⟩ fun f=> ?_;unfold apv;refine dU (axQ l) (hty:=⟨kH _,wC _,trivial⟩) ?_;apply ai<;>intro h<;>simp only[eS,Bc]at h
 ·have h:¬(dZ l).2.code=0:=by grind
  exact ay (by simp[E.den,Cj,jH,h])
 ·have h:(dZ l).2.code=0:=by grind
  exact ay (by simp[E.den,Cj,jH,h,Bc])
def Dj(l:List ByteArray):aH Tryz.prog 48 none [aj l] (.aU [.int .i64 (Cj l),.bool (jH l)]) []:=by
 refine cu aqw aJt ⟨jW l,trivial⟩ fun f=> ?_;unfold aqw;refine dU (Tn l) (hty:=⟨kH _,wC _,trivial⟩) ?_;apply ai<;>intro h<;>simp only[eS,Bc]at h
 ·have h:¬(dZ l).2.code=0:=by grind
  exact ay (by simp[E.den,Cj,jH,h])
 ·have h:(dZ l).2.code=0:=by grind
  exact ay (by simp[E.den,Cj,jH,h,Bc])
def cL:ByteArray:=⟨#[]⟩
def BZ(n:mr):Bool:=yI n.kR&& !decide (n.kR=0)&&(decide (n.ko=cL)||kX n.ko)&&n.least.ok
def ahx(n:mr):aH Tryz.prog 109 none [enc n] (.bool (BZ n)) []:=by refine cu api aIh ⟨Ei n,trivial⟩ fun h=> ?_;unfold api;refine aF (ZI n.kR) ?_;refine aF (I2 n.ko) ?_;refine aF (ahy n.least) ?_;refine ay ?_;simp only[eS,zJ];simp only[D.bool.injEq];unfold BZ cL;grind
def ZX(n:mr):aH Tryz.prog 141 none [enc n] (.bool (BZ n)) []:=by refine cu aqd aJb ⟨Ei n,trivial⟩ fun h=> ?_;unfold aqd;refine aF (ZW n.kR) ?_;refine aF (MN n.ko) ?_;refine aF (ahG n.least) ?_;refine ay ?_;simp only[eS,zJ];simp only[D.bool.injEq];unfold BZ cL;grind
def rp(e:Entry)(k:Nat):Bool:=BZ (nth e.needs k)&& !decide ((nth e.needs k).ko=e.name)
def mT(e:Entry):Bool:=jH e.recipe&&kX e.name&&e.jw.ok&&decide (e.needs.length<=3)&&dW (rp e) e.needs.length
def ahw(e:Entry):aH Tryz.prog 67 none [enc e] (.bool (mT e)) []:=by
 refine cu apd aId ⟨Ao e,trivial⟩ fun f=> ?_;unfold apd;refine aF (ZN e.recipe) ?_;refine aF (I2 e.name) ?_;refine aF (ahy e.jw) ?_;apply ai<;>intro h<;>simp only[eS,ja]at h
 ·refine ay ?_;simp only[E.den,D.bool.injEq];unfold mT;grind
 have c:jH e.recipe=true:=by grind
 have d:kX e.name=true:=by grind
 have g:e.jw.ok=true:=by grind
 have i:e.needs.length<=3:=by grind
 refine cQ e.needs.length (fun k=>[.int .i64 k]) (fun k=>dW (rp e) k=true) rfl rfl ?_;intro k l I _;simp only[cA];apply ai<;>intro a<;>simp only[eS,ja]at a
 ·have a:k<e.needs.length:=by simp at a;exact a
  refine eu ?_;refine aF (ahx (nth e.needs k)) ?_;apply ai<;>intro j<;>simp only[eS,ja,V4,zJ]at j
  ·have b:rp e k=false:=by unfold rp;grind
   refine ay ?_;simp[E.den,mT,qm a b]
  ·have b:rp e k=true:=by unfold rp;grind
   refine cK a ?_ (show(dW (rp e) k&&rp e k)=true by rw[I,b];rfl);simp only[eS];rw[bC];rfl
 ·obtain rfl:k=e.needs.length:=by simp at a;omega
  exact ay (by simp[E.den,mT,I,c,d,g,i])
def ahF(e:Entry):aH Tryz.prog 104 none [enc e] (.bool (mT e)) []:=by
 refine cu ap8 aI7 ⟨Ao e,trivial⟩ fun f=> ?_;unfold ap8;refine aF (Dj e.recipe) ?_;refine aF (MN e.name) ?_;refine aF (ahG e.jw) ?_;apply ai<;>intro h<;>simp only[eS,ja]at h
 ·refine ay ?_;simp only[E.den,D.bool.injEq];unfold mT;grind
 have c:jH e.recipe=true:=by grind
 have d:kX e.name=true:=by grind
 have g:e.jw.ok=true:=by grind
 have i:e.needs.length<=3:=by grind
 refine cQ e.needs.length (fun k=>[.int .i64 k]) (fun k=>dW (rp e) k=true) rfl rfl ?_;intro k l I _;simp only[cA];apply ai<;>intro a<;>simp only[eS,ja]at a
 ·have a:k<e.needs.length:=by simp at a;exact a
  refine eu ?_;refine aF (ZX (nth e.needs k)) ?_;apply ai<;>intro j<;>simp only[eS,ja,V4,zJ]at j
  ·have b:rp e k=false:=by unfold rp;grind
   refine ay ?_;simp[E.den,mT,qm a b]
  ·have b:rp e k=true:=by unfold rp;grind
   refine cK a ?_ (show(dW (rp e) k&&rp e k)=true by rw[I,b];rfl);simp only[eS];rw[bC];rfl
 ·obtain rfl:k=e.needs.length:=by simp at a;omega
  exact ay (by simp[E.den,mT,I,c,d,g,i])
def OH(a b:lQ):Bool:=decide (a.l8=b.l8)&&decide (b.min<=a.min)
def axR(a b:lQ):aH Tryz.prog 128 none [enc a,enc b] (.bool (OH a b)) []:=by
 refine cu apo aIm ⟨Ej a,Ej b,trivial⟩ fun f=> ?_;unfold apo;refine aF (axL a b) ?_;refine ay ?_;simp only[eS,MT];simp only[D.bool.injEq];unfold OH lQ.cmp;rw[wQ];simp;intro h
 (repeat' split)<;>omega
def ayj(a b:lQ):aH Tryz.prog 161 none [enc a,enc b] (.bool (OH a b)) []:=by refine cu aql aJj ⟨Ej a,Ej b,trivial⟩ fun h=> ?_;unfold aql;refine ay ?_;simp only[eS,MT];simp only[D.bool.injEq];unfold OH;grind
def Kq(e:Entry)(n:mr):Bool:=mT e&&BZ n&&(decide (n.ko=cL)||decide (n.ko=e.name))&&cw (Cj e.recipe) n.kR&&OH e.jw n.least
def axW(e:Entry)(n:mr):aH Tryz.prog 90 none [enc e,enc n] (.bool (Kq e n)) []:=by
 refine cu apx aIu ⟨Ao e,Ei n,trivial⟩ fun f=> ?_;unfold apx;refine aF (ahw e) ?_;refine aF (ahx n) ?_;apply ai<;>intro h<;>simp only[eS]at h
 ·refine ay ?_;simp only[E.den,D.bool.injEq];unfold Kq;grind
 refine aF (ZN e.recipe) ?_;refine aF (Ti (Cj e.recipe) n.kR) ?_;refine aF (axR e.jw n.least) ?_;refine ay ?_;simp only[eS,zJ,ja];simp only[D.bool.injEq];unfold Kq cL;grind
def ays(e:Entry)(n:mr):aH Tryz.prog 139 none [enc e,enc n] (.bool (Kq e n)) []:=by refine cu aqy aJv ⟨Ao e,Ei n,trivial⟩ fun h=> ?_;unfold aqy;refine aF (Dj e.recipe) ?_;refine aF (ahF e) ?_;refine aF (ZX n) ?_;refine aF (wW (Cj e.recipe) n.kR) ?_;refine aF (ayj e.jw n.least) ?_;refine ay ?_;simp only[eS,zJ,ja];simp only[D.bool.injEq];unfold Kq cL;grind
def mC(l:List Entry)(k:Nat):Bool:=mT (nth l k)&&(k==0||dz (nth l (k-1)).name (nth l k).name)
def cm(l:List Entry):Bool:=decide (l.length<=6)&&dW (mC l) l.length
def ZK(l:List Entry):aH Tryz.prog 30 none [aj l] (.bool (cm l)) []:=by
 refine cu apk aIj ⟨mh l,trivial⟩ fun f=> ?_;have i:l.length<=9223372036854775807:=kS f.1;unfold apk;apply ai<;>intro h<;>simp only[eS]at h
 ·refine ay ?_;simp only[E.den,D.bool.injEq];unfold cm;grind
 have d:l.length<=6:=by grind
 refine cQ l.length (fun k=>[.int .i64 k]) (fun k=>dW (mC l) k=true) rfl rfl ?_;intro k j I _;simp only[cA];apply ai<;>intro a<;>simp only[eS]at a
 ·have a:k<l.length:=by simp at a;exact a
  refine eu ?_;refine aF (ahw (nth l k)) ?_;refine aM (fun g=> ?_) ?_
  ·simp[cP,E.den,bg]at g ⊢;rw[mz];omega
  apply ai<;>intro b<;>simp only[eS,oZ,ja]at b
  ·have c:mC l k=false:=by
    unfold mC;by_cases e:0<k
    ·rw[sub_one e (by omega)]at b;grind
    ·grind
   refine ay ?_;simp[E.den,cm,qm a c]
  ·have c:mC l k=true:=by
    unfold mC;by_cases e:0<k
    ·rw[sub_one e (by omega)]at b;grind
    ·grind
   refine cK a ?_ (show(dW (mC l) k&&mC l k)=true by rw[I,c];rfl);simp only[eS];rw[bC];rfl
 ·obtain rfl:k=l.length:=by simp at a;omega
  exact ay (by simp[E.den,cm,I,d])
def I4(l:List Entry):aH Tryz.prog 64 none [aj l] (.bool (cm l)) []:=by
 refine cu aqf aJd ⟨mh l,trivial⟩ fun f=> ?_;have c:l.length<=9223372036854775807:=kS f.1;unfold aqf;refine cQ l.length (fun k=>[.int .i64 k]) (fun k=>dW (mC l) k=true) rfl rfl ?_;intro k d I _;simp only[cA];apply ai<;>intro h<;>simp only[eS]at h
 ·have h:k<l.length:=by simp at h;exact h
  refine eu ?_;refine aF (ahF (nth l k)) ?_;refine aM (fun g=> ?_) ?_
  ·simp[cP,E.den,bg]at g ⊢;rw[mz];omega
  apply ai<;>intro a<;>simp only[eS,oZ,ja]at a
  ·have b:mC l k=false:=by
    unfold mC;by_cases e:0<k
    ·rw[sub_one e (by omega)]at a;grind
    ·grind
   refine ay ?_;simp[E.den,cm,qm h b]
  ·have b:mC l k=true:=by
    unfold mC;by_cases e:0<k
    ·rw[sub_one e (by omega)]at a;grind
    ·grind
   refine cK h ?_ (show(dW (mC l) k&&mC l k)=true by rw[I,b];rfl);simp only[eS];rw[bC];rfl
 ·obtain rfl:k=l.length:=by simp at h;omega
  refine ay ?_;simp only[eS];simp only[cm,I,Ra,D.bool.injEq];grind
def yR(l:List Entry)(s:ByteArray)(n:mr)(k:Nat):Bool:= !decide ((nth l k).name=s)&&Kq (nth l k) n
def xF(l:List Entry)(s:ByteArray)(n:mr):Option Nat:=eA (yR l s n) l.length
def Ch(l:List Entry)(s:ByteArray)(n:mr):Int:=match xF l s n with|some k=>k|none=> -1
def GR(l:List Entry)(s:ByteArray)(n:mr):ByteArray:=match xF l s n with|some k=>(nth l k).name|none=>cL
def vG{p:Nat->Bool}{k:Nat}:∀{n:Nat},eA p n=some k->k<n/\p k=true/\∀i,i<k->p i=false
 |0,h=>by cases h
 |n+1,h=>by
  simp only[eA]at h;split at h
  ·rename_i j a;cases h;obtain⟨h1,h2,f⟩:=vG a;exact⟨by omega,h2,f⟩
  ·rename_i a;split at h
   ·rename_i b;cases h;refine⟨by omega,b,fun i c=> ?_⟩;cases d:p i with
    |false=>rfl
    |true=>
     exfalso;have:∀{n:Nat},eA p n=none->∀i,i<n->p i=false:=by
      intro n;induction n with
      |zero=>intro _ i c;omega
      |succ n ih=>
       intro h i c;simp only[eA]at h;split at h
       ·cases h
       ·rename_i g;split at h
        ·cases h
        ·rename_i b;by_cases e:i=n
         ·subst e;simpa using b
         ·exact ih g i (by omega)
     rw[this a i c]at d;cases d
   ·cases h
def ax7(l:List Entry)(s:ByteArray)(n:mr):aH Tryz.prog 54 none [aj l,.str s,enc n] (.int .i64 (Ch l s n)) []:=by
 refine cu apN aIL ⟨mh l,trivial,Ei n,trivial⟩ fun f=> ?_;have d:l.length<=9223372036854775807:=kS f.1;unfold apN;refine cQ l.length (fun k=>[.int .i64 k]) (fun k=>∀i,i<k->yR l s n i=false) rfl (by omega) ?_;intro k e I _;simp only[cA];apply ai<;>intro a<;>simp only[eS]at a
 ·have a:k<l.length:=by simp at a;exact a
  refine eu ?_;refine aF (axW (nth l k) n) ?_;apply ai<;>intro c<;>simp only[eS,oZ,ja]at c
  ·have b:yR l s n k=true:=by unfold yR;grind
   refine ay ?_;simp[E.den,Ch,xF,vI b I a]
  ·have b:yR l s n k=false:=by unfold yR;grind
   refine cK a ?_ fun i g=> ?_
   ·simp only[eS];rw[bC];rfl
   ·rcases dP i k with h|h
    ·exact I i h
    ·obtain rfl:i=k:=by omega
     exact b
 ·obtain rfl:k=l.length:=by simp at a;omega
  exact ay (by simp[E.den,Ch,xF,vH I])
def ahJ(l:List Entry)(s:ByteArray)(n:mr):aH Tryz.prog 103 none [aj l,.str s,enc n] (.str (GR l s n)) []:=by
 refine cu aqu aJr ⟨mh l,trivial,Ei n,trivial⟩ fun f=> ?_;have d:l.length<=9223372036854775807:=kS f.1;unfold aqu;refine cQ l.length (fun k=>[.int .i64 k]) (fun k=>∀i,i<k->yR l s n i=false) rfl (by omega) ?_;intro k e I _;simp only[cA];apply ai<;>intro a<;>simp only[eS]at a
 ·have a:k<l.length:=by simp at a;exact a
  refine eu ?_;refine aF (ays (nth l k) n) ?_;apply ai<;>intro c<;>simp only[eS,oZ,ja]at c
  ·have b:yR l s n k=true:=by unfold yR;grind
   refine ay ?_;simp only[eS,oZ,ja];simp[GR,xF,vI b I a]
  ·have b:yR l s n k=false:=by unfold yR;grind
   refine cK a ?_ fun i g=> ?_
   ·simp only[eS];rw[bC];rfl
   ·rcases dP i k with h|h
    ·exact I i h
    ·obtain rfl:i=k:=by omega
     exact b
 ·obtain rfl:k=l.length:=by simp at a;omega
  exact ay (by simp[E.den,GR,xF,vH I,cL])
def anL{w':World}{M:Addr->Prop}{b:Nat}(a:∀o,¬M ⟨b,o,none⟩):∀(l:List ByteArray) (k:Nat),(∀i (h:i<l.length),w'.cell? ⟨b,k+i,none⟩=some (.string l[i]))->(∀s,s∈l->s.size<=maxLen)->jj w' M (l.map aB.cells) b k
 |[],_,_,_=>by simp[jj]
 |s::l,k,h,c=>by simp only[jA,jj,eO,Rw,R,yf];refine⟨⟨_,h 0 (by simp),a _,rfl,c s (by simp)⟩,anL a l (k+1) (fun i f=> ?_) fun d e=>c d (by simp[e])⟩;have:=h (i+1) (by simp;omega);rw[show k+(i+1)=k+1+i by omega]at this;simpa using this
def Ik{w':World}{M:Addr->Prop}{cs:Array Value}{T:Nat}(l:List ByteArray)(h:w'.heap[b]? =some (.cells cs T))(c:cs=(l.map Value.string).toArray)(a:n=l.length)(d:∀o,¬M ⟨b,o,none⟩)(f:∀s,s∈l->s.size<=maxLen)(g:l.length<=maxLen) :
  R w' M (aj l) (.slice (some ⟨b,0,none⟩) n n):=by
 subst a;refine⟨_,_,_,rfl,by simp,bM _,g,fun h=>by(cases h),?_⟩;intro k o s e;cases e;refine⟨fun _=>rfl,anL d l 0 (fun i j=> ?_) f⟩;simp[World.cell?,h,c,j]
def tq{o c:Obj}(h:w.heap[b]? =some o):(w.alloc c).heap[b]? =some o:=by
 have d:b<w.heap.size:=by
  rcases dP b w.heap.size with a|a
  ·exact a
  ·rw[E5 a]at h;cases h
 exact(Mb w c b d).trans h
def JG{o:Obj}(h:b=w.heap.size):(w.alloc o).heap[b]? =some o:=by subst h;show(w.heap.push o)[w.heap.size]? =_;simp
def hasB(l:List ByteArray)(s:ByteArray):Bool:=l.any fun t=>decide (t=s)
def Fv(l:List ByteArray)(s:ByteArray):aH Tryz.prog 18 none [aj l,.str s] (.bool (hasB l s)) []:=by
 refine cu apJ aIG ⟨jW l,trivial,trivial⟩ fun f=> ?_;have e:l.length<=9223372036854775807:=kS f.1;unfold apJ;refine cQ l.length (fun k=>[.int .i64 k]) (fun k=>∀i,i<k->nth l i≠s) rfl (by omega) ?_;intro k g I _;simp only[cA];apply ai<;>intro a<;>simp only[eS]at a
 ·have a:k<l.length:=by simp at a;exact a
  refine eu ?_;apply ai<;>intro d<;>simp only[eS,gZ,eO]at d
  ·have b:hasB l s=true:=by
    unfold hasB;rw[uW];refine⟨s,?_,by simp⟩;have:nth l k=s:=by grind
    rw[<-this,nth,jZ,bX a];simp
   exact ay (by simp[E.den,b])
  ·refine cK a ?_ fun i c=> ?_
   ·simp only[eS];rw[bC];rfl
   ·rcases dP i k with h|h
    ·exact I i h
    ·obtain rfl:i=k:=by omega
     grind
 ·obtain rfl:k=l.length:=by simp at a;omega
  have b:hasB l s=false:=by unfold hasB;rw[YX];intro t h;obtain⟨i,c,rfl⟩:=tX h;have:=I i c;simpa[nth,jZ,c]using this
  exact ay (by simp[E.den,b])
def nM(l:List ByteArray)(s:ByteArray):aH Tryz.prog 25 none [aj l,.str s] (.bool (hasB l s)) []:=by
 refine cu aqG aJC ⟨jW l,trivial,trivial⟩ fun f=> ?_;have e:l.length<=9223372036854775807:=kS f.1;unfold aqG;refine cQ l.length (fun k=>[.int .i64 k]) (fun k=>∀i,i<k->nth l i≠s) rfl (by omega) ?_;intro k g I _;simp only[cA];apply ai<;>intro a<;>simp only[eS]at a
 ·have a:k<l.length:=by simp at a;exact a
  refine eu ?_;apply ai<;>intro d<;>simp only[eS,gZ,eO]at d
  ·have b:hasB l s=true:=by
    unfold hasB;rw[uW];refine⟨s,?_,by simp⟩;have:nth l k=s:=by grind
    rw[<-this,nth,jZ,bX a];simp
   exact ay (by simp[E.den,b])
  ·refine cK a ?_ fun i c=> ?_
   ·simp only[eS];rw[bC];rfl
   ·rcases dP i k with h|h
    ·exact I i h
    ·obtain rfl:i=k:=by omega
     grind
 ·obtain rfl:k=l.length:=by simp at a;omega
  have b:hasB l s=false:=by unfold hasB;rw[YX];intro t h;obtain⟨i,c,rfl⟩:=tX h;have:=I i c;simpa[nth,jZ,c]using this
  exact ay (by simp[E.den,b])
def ZS(l:List ByteArray)(s:ByteArray):aH Tryz.prog 11 none [aj l,.str s] (.bool (hasB l s)) []:=by
 refine cu apT aIR ⟨jW l,trivial,trivial⟩ fun f=> ?_;have e:l.length<=9223372036854775807:=kS f.1;unfold apT;refine cQ l.length (fun k=>[.int .i64 k]) (fun k=>∀i,i<k->nth l i≠s) rfl (by omega) ?_;intro k g I _;simp only[cA];apply ai<;>intro a<;>simp only[eS]at a
 ·have a:k<l.length:=by simp at a;exact a
  refine eu ?_;apply ai<;>intro d<;>simp only[eS,gZ,eO]at d
  ·have b:hasB l s=true:=by
    unfold hasB;rw[uW];refine⟨s,?_,by simp⟩;have:nth l k=s:=by grind
    rw[<-this,nth,jZ,bX a];simp
   exact ay (by simp[E.den,b])
  ·refine cK a ?_ fun i c=> ?_
   ·simp only[eS];rw[bC];rfl
   ·rcases dP i k with h|h
    ·exact I i h
    ·obtain rfl:i=k:=by omega
     grind
 ·obtain rfl:k=l.length:=by simp at a;omega
  have b:hasB l s=false:=by unfold hasB;rw[YX];intro t h;obtain⟨i,c,rfl⟩:=tX h;have:=I i c;simpa[nth,jZ,c]using this
  exact ay (by simp[E.den,b])
def mStart:ByteArray:=⟨#[83,116,97,114,116]⟩
def dY:ByteArray:=⟨#[83,116,111,112]⟩
def kW:ByteArray:=⟨#[71,101,116]⟩
def jS:ByteArray:=⟨#[80,117,116]⟩
def jT:ByteArray:=⟨#[84,101,108,108]⟩
def jG:ByteArray:=⟨#[72,101,97,114]⟩
def sw:ByteArray:=⟨#[76,111,97,100]⟩
def J9:ByteArray:=⟨#[83,97,118,101]⟩
def jr:ByteArray:=⟨#[72,101,97,108]⟩
def methods:Nat->List ByteArray
 |0=>[mStart,dY]
 |1=>[kW,jS]
 |2=>[jT]
 |3=>[jG]
 |4=>[sw,J9]
 |5=>[jr]
 |_=>[]
def aEE(k:Nat)(h:k<6)(v0 v1 v a v4 b:Value)(w:World):(Instr.index 182 (.agg #[v0,v1,v,a,v4,b]) (.int .i64 k)).run Tryz.prog w=.ok ([v0,v1,v,a,v4,b].getD k (.bool false)) w:=by
 obtain rfl|rfl|rfl|rfl|rfl|rfl:k=0\/k=1\/k=2\/k=3\/k=4\/k=5:=by omega
 all_goals kernel_rfl
def aEF:∀(k:Fin 6),∀s,s∈methods k.val->s.size<=maxLen:=by decide
def aHF(k:Nat)(a:k<6)(w:World)(M:Addr->Prop)(b:∀p,M p->p.block<w.heap.size) :
  Calls Tryz.prog 156 #[.int .i64 k] w fun e w'=>∃v,e=.returned v/\R w' M (aj (methods k)) v/\Below w.heap.size w w':=by
 have i:=aEE k a;go_enter Tryz.func156,Tryz.ntmps156;go_wp2;go_returns;refine⟨_,rfl,?_,by go_grown⟩;have z:=aEF ⟨k,a⟩;have m:∀n,∀o,¬M ⟨w.heap.size+n,o,none⟩:=fun n o h=>by have:=b _ h;simp at this;omega
 obtain rfl|rfl|rfl|rfl|rfl|rfl:k=0\/k=1\/k=2\/k=3\/k=4\/k=5:=by omega
 ·exact Ik _ (tq (tq (tq (tq (tq (JG (by simp))))))) rfl rfl (m 0) z (by decide)
 ·exact Ik _ (tq (tq (tq (tq (JG (by simp)))))) rfl rfl (m 1) z (by decide)
 ·exact Ik _ (tq (tq (tq (JG (by simp))))) rfl rfl (m 2) z (by decide)
 ·exact Ik _ (tq (tq (JG (by simp)))) rfl rfl (m 3) z (by decide)
 ·exact Ik _ (tq (JG (by simp))) rfl rfl (m 4) z (by decide)
 ·exact Ik _ (JG (by simp)) rfl rfl (m 5) z (by decide)
def ax5(k:Nat)(h:k<6):aH Tryz.prog 156 none [.int .i64 k] (aj (methods k)) []:=by refine avD (by kernel_rfl) fun w M s a r=> ?_;obtain⟨v,q,rfl,⟨rfl,_⟩,rfl⟩:=r;exact aHF k h w M a
def ayC(k:Nat)(a:k<6):dJ Tryz.prog 121 none [.int .i64 k] (aj (methods k)) [] [(0,1)]:=by
 refine gh aqR aJM ⟨rfl,trivial⟩ fun h=> ?_;unfold aqR;obtain rfl|rfl|rfl|rfl|rfl|rfl:k=0\/k=1\/k=2\/k=3\/k=4\/k=5:=by omega
 all_goals
  simp[VC.den,E.den,bg];rfl
def Iq(s:ByteArray)(k:Nat):Bool:=hasB (methods k) s
def jY(s:ByteArray):Int:=match eA (Iq s) 6 with|some k=>k|none=> -1
def ahu(s:ByteArray):aH Tryz.prog 130 none [.str s] (.int .i64 (jY s)) []:=by
 refine cu ao6 aH7 ⟨trivial,trivial⟩ fun f=> ?_;unfold ao6;refine cQ 6 (fun k=>[.int .i64 k]) (fun k=>∀i,i<k->Iq s i=false) rfl (by omega) ?_;intro k c I _;simp only[cA];apply ai<;>intro a<;>simp only[eS]at a
 ·have a:k<6:=by simp at a;omega
  refine aF (ax5 k a) ?_;refine aF (Fv (methods k) s) ?_;apply ai<;>intro b<;>simp only[eS]at b
  ·refine ay ?_;simp[E.den,jY,vI b I a]
  ·refine cK a ?_ fun i d=> ?_
   ·simp only[eS];rw[bC];rfl
   ·rcases dP i k with h|h
    ·exact I i h
    ·obtain rfl:i=k:=by omega
     exact b
 ·obtain rfl:k=6:=by simp at a;omega
  exact ay (by simp[E.den,jY,vH I])
def ayd(s:ByteArray):aH Tryz.prog 79 none [.str s] (.int .i64 (jY s)) []:=by
 refine cu apY aIX ⟨trivial,trivial⟩ fun f=> ?_;unfold apY;refine cQ 6 (fun k=>[.int .i64 k]) (fun k=>∀i,i<k->Iq s i=false) rfl (by omega) ?_;intro k c I _;simp only[cA];apply ai<;>intro a<;>simp only[eS]at a
 ·have a:k<6:=by simp at a;omega
  refine dU (ayC k a) ?_;refine aF (nM (methods k) s) ?_;apply ai<;>intro b<;>simp only[eS]at b
  ·refine ay ?_;simp[E.den,jY,vI b I a]
  ·refine cK a ?_ fun i d=> ?_
   ·simp only[eS];rw[bC];rfl
   ·rcases dP i k with h|h
    ·exact I i h
    ·obtain rfl:i=k:=by omega
     exact b
 ·obtain rfl:k=6:=by simp at a;omega
  exact ay (by simp[E.den,jY,vH I])
def agQ(s:ByteArray):jY s<6:=by
 unfold jY;cases h:eA (Iq s) 6 with
 |none=>simp
 |some k=>have:=(vG h).1;simp;omega
def cg(s:ByteArray):Int:=if jY s<0 then 0 else((2^(jY s).toNat:Nat):Int)
def ava(s:ByteArray):(cg s=0)↔jY s<0:=by
 unfold cg;split
 ·simp[*]
 ·have:=Nat.two_pow_pos (jY s).toNat;constructor<;>intro h<;>omega
def Fy(s:ByteArray):aH Tryz.prog 44 none [.str s] (.int .i64 (cg s)) []:=by
 refine cu aqC aJy ⟨trivial,trivial⟩ fun f=> ?_;unfold aqC;refine aF (ayd s) ?_;apply ai<;>intro h<;>simp only[eS]at h
 ·have h:jY s<0:=by simpa using h
  exact ay (by simp[E.den,cg,h])
 have h:¬jY s<0:=by simpa using h
 have b:=agQ s;refine aM (fun _=> ?_) (ay ?_)
 ·simp[E.den,bg];omega
 ·have e:=ag3 ⟨(jY s).toNat,by omega⟩;have a:(((jY s).toNat:Nat):Int)=jY s:=by omega
  rw[a]at e;simp only[eS,e];simp[cg,h]
def gu(c:Call):Bool:= !decide (jY c.method<0)&&(decide (c.text=cL)||decide (c.method=sw)) &&
 ((decide (c.method=kW)||decide (c.method=jS))&&kX c.key|| !(decide (c.method=kW)||decide (c.method=jS))&&decide (c.key=cL)) &&
 (decide (c.val=0)||(decide (c.method=jS)||decide (c.method=jG))&&decide (0<c.val)&&decide (c.val<=999))
def acN:kW≠jS/\kW≠jG/\jS≠jG:=by decide
def Tm(c:Call):aH Tryz.prog 137 none [enc c] (.bool (gu c)) []:=by
 refine cu ap5 aI4 ⟨Cq c,trivial⟩ fun f=> ?_;unfold ap5;refine aF (Fy c.method) ?_;refine aF (MN c.key) ?_;apply ai<;>intro h<;>simp only[eS,fF]at h
 ·have:=ava c.method;have:=acN;refine ay ?_;simp only[E.den,D.bool.injEq];unfold gu kW jS jG sw cL at *;grind
 have:=ava c.method;have:=acN;refine ay ?_;simp only[eS,fF];simp only[D.bool.injEq];unfold gu kW jS jG sw cL at *;grind
def ahv(c:Call):aH Tryz.prog 92 none [enc c] (.bool (gu c)) []:=by
 refine cu apa aIa ⟨Cq c,trivial⟩ fun f=> ?_;have n:=acN;unfold apa;refine aF (ahu c.method) ?_;apply ai<;>intro h<;>simp only[eS,fF]at h
 ·refine ay ?_;simp only[E.den,D.bool.injEq];unfold gu kW jS jG sw cL at *;grind
 apply ai<;>intro a<;>simp only[eS,fF]at a
 ·refine aF (I2 c.key) ?_;refine ay ?_;simp only[eS,fF];simp only[D.bool.injEq];unfold gu kW jS jG sw cL at *;grind
 apply ai<;>intro b<;>simp only[eS,fF]at b
 ·refine aF (I2 c.key) ?_;refine aF (ML c.val) ?_;refine ay ?_;simp only[eS,fF];simp only[D.bool.injEq];unfold gu kW jS jG sw cL gL at *;grind
 apply ai<;>intro d<;>simp only[eS,fF]at d
 ·refine aF (ML c.val) ?_;refine ay ?_;simp only[eS,fF];simp only[D.bool.injEq];unfold gu kW jS jG sw cL gL at *;grind
 refine ay ?_;simp only[eS,fF];simp only[D.bool.injEq];unfold gu kW jS jG sw cL at *;grind
def oo:Call:=⟨cL,cL,0,cL⟩
def aiA(c:Call):mU [.str c.method,.str c.key,.int .i64 c.val,.str c.text] [.str ⟨#[]⟩,.str ⟨#[]⟩,.int .i64 0,.str ⟨#[]⟩]=decide (c=oo):=azW c oo
def ayb(c:Call):aH Tryz.prog 127 none [enc c] (.bool (decide (c=oo))) []:=by refine cu apR aIP ⟨Cq c,trivial⟩ fun h=> ?_;unfold apR;refine ay ?_;simp only[eS,fF,aiA]
def xe(e:Event):Bool:=decide (1<=e.kind)&&decide (e.kind<=5)&&kX e.name&&(decide (e.kind=3)&&gu e.call|| !decide (e.kind=3)&&decide (e.call=oo))&&(decide (e.kind=5)&&jH e.recipe|| !decide (e.kind=5)&&decide (e.recipe.length=0))
def ayg(e:Event):aH Tryz.prog 102 none [enc e] (.bool (xe e)) []:=by
 refine cu ap9 aI8 ⟨Cr e,trivial⟩ fun f=> ?_;unfold ap9;refine aF (Dj e.recipe) ?_;refine aF (Tm e.call) ?_;refine aF (MN e.name) ?_;apply ai<;>intro h<;>simp only[eS,rX]at h
 ·refine ay ?_;simp only[E.den,D.bool.injEq];unfold xe;grind
 apply ai<;>intro a<;>simp only[eS,rX,aiA]at a
 ·refine ay ?_;simp only[E.den,D.bool.injEq];unfold xe;grind
 refine ay ?_;simp only[eS,rX];simp only[D.bool.injEq];unfold xe;grind
def axO(e:Event):aH Tryz.prog 88 none [enc e] (.bool (xe e)) []:=by
 refine cu ape aIe ⟨Cr e,trivial⟩ fun f=> ?_;unfold ape;refine aF (I2 e.name) ?_;apply ai<;>intro h<;>simp only[eS,rX]at h
 ·refine ay ?_;simp only[E.den,D.bool.injEq];unfold xe;grind
 refine aF (ahv e.call) ?_;refine aF (ayb e.call) ?_;apply ai<;>intro a<;>simp only[eS,rX]at a
 ·refine ay ?_;simp only[E.den,D.bool.injEq];unfold xe;grind
 apply ai<;>intro b<;>simp only[eS,rX]at b
 ·refine aF (ZN e.recipe) ?_;refine ay ?_;simp only[eS,rX];simp only[D.bool.injEq];unfold xe;grind
 refine ay ?_;simp only[eS,rX];simp only[D.bool.injEq];unfold xe;grind
end
variable {sep t x:List UInt8}
section
def jD(n:Nat):List UInt8 :=
 if n<10 then [UInt8.ofNat (48+n)]else if n<100 then [UInt8.ofNat (48+n/10),UInt8.ofNat (48+n%10)]else [UInt8.ofNat (48+n/100),UInt8.ofNat (48+n/10%10),UInt8.ofNat (48+n%10)]
def aif(h:n<1000):Lib.decDigits n=jD n:=by
 unfold jD;by_cases a:n<10
 ·rw[aC a,Lib.decDigits,dif_pos a]
 ·rw[aw a,Lib.decDigits,dif_neg a];by_cases b:n<100
  ·rw[aC b,Lib.decDigits,dif_pos (by omega)];rfl
  ·rw[aw b,Lib.decDigits,dif_neg (by omega),Lib.decDigits,dif_pos (by omega),show n/10/10=n/100 by omega];rfl
def acz(b:UInt8):Bool:=decide (48<=b.toNat/\b.toNat<=57)
def wu(l:List UInt8):Int:=(l.take 4).foldl (fun n c=>10*n+(c.toNat:Int)-48) 0
def MZ:∀n∈List.range 1000,(Lib.atoi (jD n)=some (n:Int)/\wu (jD n)=(n:Int)/\0<(jD n).length/\(jD n).length<=3)/\(jD n).all acz=true:=by decide +kernel
def aii(h:n<1000):Lib.atoi (jD n)=some (n:Int):=(MZ n (oF.2 h)).1.1
def azy(h:n<1000):wu (jD n)=(n:Int):=(MZ n (oF.2 h)).1.2.1
def azx(h:n<1000):0<(jD n).length:=(MZ n (oF.2 h)).1.2.2.1
def aah(h:n<1000):(jD n).length<=3:=(MZ n (oF.2 h)).1.2.2.2
def azv(h:n<1000):(jD n).all acz=true:=(MZ n (oF.2 h)).2
def azw{m:Nat}(b:n<1000)(c:m<1000)(h:jD n=jD m):n=m:=by have a:=aii b;have d:=aii c;rw[h,d]at a;simp at a;omega
def Ad(l:List UInt8):Option Nat:=(List.range 1000).find? fun n=>decide (jD n=l)
def acW{l:List UInt8}:Ad l=some n↔n<1000/\jD n=l:=by
 unfold Ad;constructor
 ·intro h;exact⟨oF.1 (agY h),by simpa using List.find?_some h⟩
 ·rintro⟨a,b⟩;cases f:(List.range 1000).find? fun n=>decide (jD n=l)with
  |none=>have:=List.find?_eq_none.1 f n (oF.2 a);simp[b]at this
  |some m=>
   have c:=oF.1 (agY f);have e:jD m=l:=by simpa using List.find?_some f
   rw[azw c a (e.trans b.symm)]
def amP{c:UInt8}{l:List UInt8}(h:l.head?≠some c):(c::t).isPrefixOf l=false:=by
 cases l with
 |nil=>rfl
 |cons b r=> have:c≠b:=fun e=>h (by simp[e]);simp[List.isPrefixOf,this]
def index_none'{c:UInt8}{t:List UInt8}:∀{x:List UInt8},c∉x->Lib.index x (c::t)= -1
 |[],_=>rfl
 |b::x,h=>by unfold Lib.index;rw[amP (by intro e;simp at e;exact h (by simp[e])),index_none' (x:=x) (fun e=>h (by simp[e]))];rfl
def acx{c:UInt8}{t rest:List UInt8}:∀{x:List UInt8},c∉x->Lib.index (x++((c::t)++rest)) (c::t)=x.length
 |[],_=>by
  simp only[iy,ia,oD];unfold Lib.index;have:(c::t).isPrefixOf (c::(t++rest))=true:=by rw[List.isPrefixOf_iff_prefix];exact⟨rest,rfl⟩
  rw[this];rfl
 |b::x,h=>by have a:c∉x:=fun e=>h (by simp[e]);have ih:=acx (t:=t) (rest:=rest) a;rw[ia];unfold Lib.index;rw[amP (by intro e;simp at e;exact h (by simp[e])),ih];simp
def Wm{s:List UInt8}(h:Lib.index s sep= -1):Lib.split s sep=[s]:=by unfold Lib.split;rw[Lib.count_miss h];rfl
def adP{s:List UInt8}{i:Nat}(e:sep≠[])(h:Lib.index s sep=i):Lib.split s sep=s.take i::Lib.split (s.drop (i+sep.length)) sep:=by unfold Lib.split;rw[Lib.count_hit e h,Dc 1,Lib.splitK];rw[aw (by rw[h];simp),h];simp
def acB{sep:List UInt8}(p:sep≠[]):∀(n:Nat) (s:List UInt8),s.length<=n->Lib.join (Lib.split s sep) sep=s/\Lib.split s sep≠[]
 |n,s,f=>by
  rcases Lib.index_spec s sep with⟨h,_⟩|⟨i,h,h1,h2,_⟩
  ·rw[Wm h];exact⟨Lib.join_one _ _,by simp⟩
  ·rw[adP p h];have m:=Lib.index_room s sep (by rw[h];omega);have b:0<sep.length:=Y7.2 p;rw[h]at m;have l:(s.drop (i+sep.length)).length<s.length:=by simp;omega
   cases n with
   |zero=>omega
   |succ n=>
    obtain⟨q1,q2⟩:=acB p n (s.drop (i+sep.length)) (by omega);refine⟨?_,by simp⟩;cases a:Lib.split (s.drop (i+sep.length)) sep with
    |nil=>exact absurd a q2
    |cons y r=>
     rw[a]at q1;have e:Lib.join (s.take i::y::r) sep=s.take i++(sep++Lib.join (y::r) sep):=by rw[Lib.join_cons,Lib.join_cons];simp[Lib.joinTail]
     rw[e,q1];have o:=Lib.occAt_iff_take s sep i (by omega);rw[h2]at o;have c:(s.drop i).take sep.length=sep:=by simpa using o.symm
     have d:s.drop (i+sep.length)=(s.drop i).drop sep.length:=by rw[C9]
     rw[d]
     conv=>lhs;rw[show sep++(s.drop i).drop sep.length=(s.drop i).take sep.length++(s.drop i).drop sep.length by rw[c]]
     rw[Db,Db]
def azb{c:UInt8}{rest:List UInt8}(h:c∉x):Lib.cut (x++((c::t)++rest)) (c::t)=(x,rest,true):=by unfold Lib.cut;rw[acx h,aC (by omega)];simp
def azc{c:UInt8}(h:c∉x):Lib.cut x (c::t)=(x,[],false):=by unfold Lib.cut;rw[index_none' h];rfl
end
end Go.Proofs.YtoomhbopolalnabGreatDoor
