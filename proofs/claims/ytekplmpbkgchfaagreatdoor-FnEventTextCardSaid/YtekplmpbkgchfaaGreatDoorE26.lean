/- Calls and events read from texts: what the readers give. -/
import Derived.Test.YtekplmpbkgchfaaGreatDoorE25
import Derived.Test.YtekplmpbkgchfaaGreatDoorE14
import Derived.Test.YtekplmpbkgchfaaGreatDoorE11
import Derived.WalkKit
import Derived.ProofKit
import Derived.OpenShut
import Derived.ShutString
import Derived.ChangeOld
import Derived.Below
import Derived.Deep.Slices
import Derived.Test.YtekplmpbkgchfaaGreatDoorTie
import Derived.Test.YtekplmpbkgchfaaGreatDoorCards
import Derived.HandedShaped
import Derived.LaidLaws
import Derived.Lib.LaidTab
import Derived.Stop.LaidErr
import Derived.Shelf.Vars
import Derived.SevenTiedAt
import Derived.Test.YtekplmpbkgchfaaGreatDoorE13
import Derived.ChangeVars
import Derived.Test.YtekplmpbkgchfaaGreatDoorRows
import Derived.JoinedOf
import Derived.KernelRfl
import Derived.Test.YtekplmpbkgchfaaGreatDoorE0
set_option linter.all false
set_option maxRecDepth 100000
namespace Go.Proofs.YtekplmpbkgchfaaGreatDoor
section
open Go.RowKit Go
variable [GC]
def aEO:jX.data.toList=[32]:=rfl
def aB8{s:ByteArray}(h:0<=j9 s):s=mStart\/s=cM\/s=fH\/s=eQ\/s=jJ\/s=eP\/s=gN\/s=FV\/s=js:=by
 unfold j9 at h;split at h
 ·rename_i k hk;obtain ⟨k6,h1,_⟩:=ux hk;unfold Er hasB at h1;obtain ⟨t,ht,e⟩:=uf.1 h1;simp only [cC] at e;subst e;obtain rfl|rfl|rfl|rfl|rfl|rfl:k=0\/k=1\/k=2\/k=3\/k=4\/k=5:=by omega
  all_goals (simp only [methods,fJ,sV,vT] at ht;grind)
 ·simp at h
def awa{x:Call}(h:bZ x=true):0<=j9 x.method:=by unfold bZ at h;simp only [aP,oP,mZ] at h;omega
def awc{x:Call}(h:bZ x=true)(hm:x.method=eQ):jj x.key=true/\x.text=aV/\0<=x.val/\x.val<=999:=by have hv:=EZ h;have hn:=uK;have hn':=A7;unfold bZ at h;rw [hm] at h;simp only [aP,gK,cC] at h;grind
def av7{x:Call}(h:bZ x=true)(hm:x.method=fH):jj x.key=true/\x.text=aV/\x.val=0:=by have hv:=EZ h;have hn:=uK;have hn':=A7;unfold bZ at h;rw [hm] at h;simp only [aP,gK,cC] at h;grind
def av8{x:Call}(h:bZ x=true)(hm:x.method=eP):x.key=aV/\x.text=aV/\0<=x.val/\x.val<=999:=by have hv:=EZ h;have hn:=uK;have hn':=A7;unfold bZ at h;rw [hm] at h;simp only [aP,gK,cC] at h;grind
def av9{x:Call}(h:bZ x=true)(hm:x.method=gN):x.key=aV/\x.val=0:=by have hv:=EZ h;have hn:=uK;have hn':=A7;unfold bZ at h;rw [hm] at h;simp only [aP,gK,cC] at h;grind
def av6{x:Call}(h:bZ x=true)(h1:x.method≠eQ)(h2:x.method≠fH)(h3:x.method≠eP)(h4:x.method≠gN):x=⟨x.method,aV,0,aV⟩:=by obtain ⟨m,k,v,t⟩:=x;unfold bZ at h;simp only [aP,gK,cC] at h h1 h2 h3 h4;simp only [Call.mk.injEq,sX];grind
def aCc{x:Call}(h:bZ x=true):(32:UInt8)∉x.method.data.toList:=by rcases aB8 (awa h) with e|e|e|e|e|e|e|e|e<;>rw [e]<;>decide
def awn{x:Call}(h:bZ x=true)(hm:x.method=eQ):(eH x).data.toList=eQ.data.toList++([32]++(x.key.data.toList++([32]++fR x.val.toNat))):=by unfold eH;rw [aA h,aA hm];simp [Cg,UD,eQ,jX,zF]
def awi{x:Call}(h:bZ x=true)(hm:x.method=fH):(eH x).data.toList=fH.data.toList++([32]++x.key.data.toList):=by unfold eH;have hn:=uK;rw [aA h,ak (by rw [hm];exact hn.1),aA hm];simp [Cg,Uu,fH]
def awj{x:Call}(h:bZ x=true)(hm:x.method=eP):(eH x).data.toList=eP.data.toList++([32]++fR x.val.toNat):=by unfold eH;have hn:=uK;rw [aA h,ak (by rw [hm];exact hn.2.2.symm),ak (by rw [hm];exact hn.2.1.symm),aA hm];simp [Cg,Ux,eP,zF]
def awk{x:Call}(h:bZ x=true)(hm:x.method=gN):(eH x).data.toList=gN.data.toList++([32]++x.text.data.toList):=by unfold eH;have hn:=A7;rw [aA h,ak (by rw [hm];exact hn.2.1.symm),ak (by rw [hm];exact hn.1.symm),ak (by rw [hm];exact hn.2.2.symm),aA hm];simp [Cg,UA,gN]
def awh{x:Call}(h:bZ x=true)(h1:x.method≠eQ)(h2:x.method≠fH)(h3:x.method≠eP)(h4:x.method≠gN):eH x=x.method:=by unfold eH;rw [aA h,ak h1,ak h2,ak h3,ak h4]
def dh(s:ByteArray):ByteArray:=bs (Lib.cut s.data.toList [32]).1
def bV(s:ByteArray):ByteArray:=bs (Lib.cut s.data.toList [32]).2.1
def awF(s:ByteArray):(dh s).size<=s.size:=by have:=(Yn s.data.toList [32]).1;rw [size_data] at this;unfold dh;rw [rG];exact this
def E6(s:ByteArray):(bV s).size<=s.size:=by have:=(Yn s.data.toList [32]).2;rw [size_data] at this;unfold bV;rw [rG];exact this
def Cs{x:ByteArray}{r:List UInt8}(hx:(32:UInt8)∉x.data.toList){s:ByteArray}(e:s.data.toList=x.data.toList++([32]++r)):dh s=x/\bV s=bs r:=by unfold dh bV;rw [e,afP (c:=32) (t:=[]) hx];exact ⟨Ac _,rfl⟩
def afT{x:ByteArray}(hx:(32:UInt8)∉x.data.toList):dh x=x/\bV x=aV:=by unfold dh bV;rw [afR (c:=32) (t:=[]) hx];exact ⟨Ac _,rfl⟩
def fA(s:ByteArray):Call :=
 if dh s=eQ then ⟨dh s,dh (bV s),qU (bV (bV s)),aV⟩
 else if dh s=fH then ⟨dh s,bV s,0,aV⟩
 else if dh s=eP then ⟨dh s,aV,qU (bV s),aV⟩
 else if dh s=gN then ⟨dh s,aV,0,bV s⟩
 else ⟨dh s,aV,0,aV⟩
def awp{x:Call}(h:bZ x=true):fA (eH x)=x:=by
 have hn:=uK;have hn':=A7;by_cases h1:x.method=eQ
 ·obtain ⟨k1,k2,k3,k4⟩:=awc h h1;obtain ⟨e1,e2⟩:=Cs (x:=eQ) (by decide) (awn h h1);obtain ⟨e3,e4⟩:=Cs (x:=x.key) (s:=bs (x.key.data.toList++([32]++fR x.val.toNat))) (ajJ k1 (by decide)) (by rw [Cp]);unfold fA;rw [e1,aA rfl,e2,e3,e4,aj0 (by omega)];obtain ⟨m,k,v,t⟩:=x;simp only at h1 k2 k3 k4 ⊢;subst h1 k2;simp only [Call.mk.injEq,sX,vR];omega
 by_cases h2:x.method=fH
 ·obtain ⟨k1,k2,k3⟩:=av7 h h2;obtain ⟨e1,e2⟩:=Cs (x:=fH) (by decide) (awi h h2);unfold fA;rw [e1,ak hn.1,aA rfl,e2,Ac];obtain ⟨m,k,v,t⟩:=x;simp only at h2 k2 k3 ⊢;subst h2 k2 k3;rfl
 by_cases h3:x.method=eP
 ·obtain ⟨k1,k2,k3,k4⟩:=av8 h h3;obtain ⟨e1,e2⟩:=Cs (x:=eP) (by decide) (awj h h3);unfold fA;rw [e1,ak hn.2.2.symm,ak hn.2.1.symm,aA rfl,e2,aj0 (by omega)];obtain ⟨m,k,v,t⟩:=x;simp only at h3 k1 k2 k3 k4 ⊢;subst h3 k1 k2;simp only [Call.mk.injEq,sX,vR];omega
 by_cases h4:x.method=gN
 ·obtain ⟨k1,k2⟩:=av9 h h4;obtain ⟨e1,e2⟩:=Cs (x:=gN) (by decide) (awk h h4);unfold fA;rw [e1,ak hn'.2.1.symm,ak hn'.1.symm,ak hn'.2.2.symm,aA rfl,e2,Ac];obtain ⟨m,k,v,t⟩:=x;simp only at h4 k1 k2 ⊢;subst h4 k1 k2;rfl
 have hx:=av6 h h1 h2 h3 h4;obtain ⟨e1,e2⟩:=afT (aCc h);rw [awh h h1 h2 h3 h4];unfold fA;rw [e1,ak h1,ak h2,ak h3,ak h4];exact hx.symm
def ajS:Call:=⟨aV,aV,0,aV⟩
def wQ(s:ByteArray):Bool:=bZ (fA s)&&decide (eH (fA s)=s)
def qh(s:ByteArray):Call:=if wQ s then fA s else ajS
def aDe{x:Call}(h:bZ x=true):wQ (eH x)=true/\qh (eH x)=x:=by
 have e:=awp h;have hb:wQ (eH x)=true:=by unfold wQ;rw [e,h];simp
 exact ⟨hb,by unfold qh;rw [aA hb,e]⟩
def CX(s:ByteArray):Int:=if s=nth words 1 then 1 else if s=nth words 2 then 2 else if s=nth words 3 then 3 else if s=nth words 4 then 4 else if s=nth words 5 then 5 else 0
def ai8{k:Int}(h1:1<=k)(h5:k<=5):CX (nth words k.toNat)=k/\(32:UInt8)∉(nth words k.toNat).data.toList:=by
 obtain rfl|rfl|rfl|rfl|rfl:k=1\/k=2\/k=3\/k=4\/k=5:=by omega
 all_goals decide
def Dt(x:Event):List UInt8:=if x.kind=3 then [32]++(eH x.call).data.toList else if x.kind=5 then [32]++(kA x.recipe jX).data.toList else []
def axB{x:Event}(h:gj x=true):(gM x).data.toList=(nth words x.kind.toNat).data.toList++([32]++(x.name.data.toList++Dt x)):=by
 unfold gM Dt;rw [aA h];split
 ·simp [Cg,jX]
 ·split<;>simp [Cg,jX]
def iL(s:ByteArray):Event :=
 ⟨CX (dh s),dh (bV s),if CX (dh s)=3 then qh (bV (bV s)) else gB,if CX (dh s)=5 then pieces (bV (bV s)) jX else []⟩
def axA{x:Event}(h:gj x=true):jj x.name=true/\(x.kind=3->bZ x.call=true)/\(x.kind≠3->x.call=gB)/\(x.kind=5->gO x.recipe=true)/\(x.kind≠5->x.recipe=[]):=by unfold gj at h;simp only [aP,gK,cC,oP,mZ,List.length_eq_zero_iff] at h;grind
def axz{x:Event}(h:gj x=true):iL (gM x)=x:=by
 obtain ⟨k1,k5,_⟩:=LR h;obtain ⟨hn,c3,cn,r5,rn⟩:=axA h;obtain ⟨w1,w2⟩:=ai8 k1 k5;obtain ⟨e1,e2⟩:=Cs w2 (axB h);have hno:(32:UInt8)∉x.name.data.toList:=ajJ hn (by decide);unfold iL;rw [e1,e2,w1];by_cases h3:x.kind=3
 ·obtain ⟨e3,e4⟩:=Cs (s:=bs (x.name.data.toList++Dt x)) (r:=(eH x.call).data.toList) hno (by rw [Cp];unfold Dt;rw [aA h3]);rw [e3,e4,Ac,aA h3,(aDe (c3 h3)).2,ak (by omega), <-rn (by omega)]
 ·by_cases h5:x.kind=5
  ·obtain ⟨e3,e4⟩:=Cs (s:=bs (x.name.data.toList++Dt x)) (r:=(kA x.recipe jX).data.toList) hno (by rw [Cp];unfold Dt;rw [ak h3,aA h5]);rw [e3,e4,Ac,ak h3,aA h5, <-cn h3];unfold pieces;rw [aEO,aDq (r5 h5),ajB]
  ·have ht:Dt x=[]:=by unfold Dt;rw [ak h3,ak h5]
   rw [ht,oQ,Ac];obtain ⟨e3,e4⟩:=afT hno;rw [e3,ak h3,ak h5, <-cn h3, <-rn h5]
def ajT:Event:=⟨0,aV,gB,[]⟩
def qY(s:ByteArray):Bool:=gj (iL s)&&decide (gM (iL s)=s)
def qZ(s:ByteArray):Event:=if qY s then iL s else ajT
def akJ{x:Event}(h:gj x=true):qY (gM x)=true/\qZ (gM x)=x:=by
 have e:=axz h;have hb:qY (gM x)=true:=by unfold qY;rw [e,h];simp
 exact ⟨hb,by unfold qZ;rw [aA hb,e]⟩
def aDi{s:ByteArray}(h:qY s=true):gj (qZ s)=true/\gM (qZ s)=s:=by have e:qZ s=iL s:=aA h;unfold qY at h;simp only [aP,cC] at h;rw [e];exact h
def fG(s:ByteArray):D:= .aL [.str (dh s),.str (bV s),.bool (Lib.cut s.data.toList [32]).2.2]
def Q3[BV](s:ByteArray)(hs:s.size<4294967281):aH ay 26 none [.str s,.str (bs [32])] (fG s) []:=avb s [32] hs
def akG(s:ByteArray):(qh s).method.size<=s.size/\(qh s).text.size<=s.size:=by
 have h1:=awF s;have h2:=E6 s;have h0:aV.size=0:=rfl;unfold qh fA;split
 ·repeat' split
  all_goals exact ⟨by omega,by simp only;omega⟩
 ·exact ⟨fX _,fX _⟩
def Nw{s:ByteArray}(h: ¬(bZ (fA s)=true/\eH (fA s)=s)):D.aL [enc (qh s),.bool (wQ s)]= .aL [enc ajS,.bool false]:=by
 have hb:wQ s=false:=by unfold wQ;simpa using h
 rw [qh,hb];rfl
def Nx{s:ByteArray}(h:bZ (fA s)=true/\eH (fA s)=s):D.aL [enc (qh s),.bool (wQ s)]= .aL [enc (fA s),.bool true]:=by
 have hb:wQ s=true:=by unfold wQ;simpa using h
 rw [qh,hb];rfl
def aF5(s:ByteArray):bA aI.tab (.aL [.agg [.str,.str,.int .i64,.str],.c .bool]) (.aL [enc (qh s),.bool (wQ s)]):=⟨zz _,trivial,trivial⟩
def TE(n:Nat):aV.size<=n:=fX n
def avm[BV][zQ][Kh](s:ByteArray)(hs:s.size<=1048576):aH ay 27 none [.str s] (.aL [enc (qh s),.bool (wQ s)]) []:=by
 refine cB am0 aFS ⟨trivial,trivial⟩ fun hfit=> ?_;unfold am0;have hn:=uK;have hn':=A7;have hz:=E6 s;have hzz:=E6 (bV s);have hs1:s.size<4294967281:=by omega
 have hs2:(bV s).size<4294967281:=by omega
 have hs3:(bV s).size<=1048576:=by omega
 refine aF (Q3 s hs1) ?_;apply aq<;>intro g1<;>simp only [eS,fG,aaN] at g1
 ·have g1:dh s=eQ:=by simpa using g1
  refine aF (Q3 (bV s) hs2) ?_ (ha:=by (simp only [gS,fG];try exact rfl));refine aF (afl (bV (bV s))) (hty:=abY _) ?_ (ha:=by (simp only [gS,fG];try exact rfl));have hX:fA s=⟨dh s,dh (bV s),qU (bV (bV s)),aV⟩:=by unfold fA;rw [aA g1]
  refine aF (EV ⟨dh s,dh (bV s),qU (bV (bV s)),aV⟩) ?_ (ha:=by (simp only [gS,fG,iZ];try exact rfl));refine aF (Ib ⟨dh s,dh (bV s),qU (bV (bV s)),aV⟩ (TE _)) ?_ (ha:=by (simp only [gS,fG,iZ];try exact rfl));refine aq (fun h=>az ?_) (fun h=>az ?_)
  ·simp only [eS,fG,iZ] at h;have hn: ¬(bZ (fA s)=true/\eH (fA s)=s):=by rw [hX];grind
   rw [Nw hn];rfl
  ·simp only [eS,fG,iZ] at h;have hy:bZ (fA s)=true/\eH (fA s)=s:=by rw [hX];grind
   rw [Nx hy,hX];rfl
 have g1:dh s≠eQ:=by simpa using g1
 apply aq<;>intro g2<;>simp only [eS,fG,aaK] at g2
 ·have g2:dh s=fH:=by simpa using g2
  have hX:fA s=⟨dh s,bV s,0,aV⟩:=by unfold fA;rw [ak g1,aA g2]
  refine aF (EV ⟨dh s,bV s,0,aV⟩) ?_ (ha:=by (simp only [gS,fG,iZ];try exact rfl));refine aF (Ib ⟨dh s,bV s,0,aV⟩ (TE _)) ?_ (ha:=by (simp only [gS,fG,iZ];try exact rfl));refine aq (fun h=>az ?_) (fun h=>az ?_)
  ·simp only [eS,fG,iZ] at h;have hn: ¬(bZ (fA s)=true/\eH (fA s)=s):=by rw [hX];grind
   rw [Nw hn];rfl
  ·simp only [eS,fG,iZ] at h;have hy:bZ (fA s)=true/\eH (fA s)=s:=by rw [hX];grind
   rw [Nx hy,hX];rfl
 have g2:dh s≠fH:=by simpa using g2
 apply aq<;>intro g3<;>simp only [eS,fG,aaL] at g3
 ·have g3:dh s=eP:=by simpa using g3
  refine aF (afl (bV s)) (hty:=abY _) ?_ (ha:=by (simp only [gS,fG];try exact rfl));have hX:fA s=⟨dh s,aV,qU (bV s),aV⟩:=by unfold fA;rw [ak g1,ak g2,aA g3]
  refine aF (EV ⟨dh s,aV,qU (bV s),aV⟩) ?_ (ha:=by (simp only [gS,fG,iZ];try exact rfl));refine aF (Ib ⟨dh s,aV,qU (bV s),aV⟩ (TE _)) ?_ (ha:=by (simp only [gS,fG,iZ];try exact rfl));refine aq (fun h=>az ?_) (fun h=>az ?_)
  ·simp only [eS,fG,iZ] at h;have hn: ¬(bZ (fA s)=true/\eH (fA s)=s):=by rw [hX];grind
   rw [Nw hn];rfl
  ·simp only [eS,fG,iZ] at h;have hy:bZ (fA s)=true/\eH (fA s)=s:=by rw [hX];grind
   rw [Nx hy,hX];rfl
 have g3:dh s≠eP:=by simpa using g3
 apply aq<;>intro g4<;>simp only [eS,fG,aaM] at g4
 ·have g4:dh s=gN:=by simpa using g4
  have hX:fA s=⟨dh s,aV,0,bV s⟩:=by unfold fA;rw [ak g1,ak g2,ak g3,aA g4]
  refine aF (EV ⟨dh s,aV,0,bV s⟩) ?_ (ha:=by (simp only [gS,fG,iZ];try exact rfl));refine aF (Ib ⟨dh s,aV,0,bV s⟩ hs3) ?_ (ha:=by (simp only [gS,fG,iZ];try exact rfl));refine aq (fun h=>az ?_) (fun h=>az ?_)
  ·simp only [eS,fG,iZ] at h;have hn: ¬(bZ (fA s)=true/\eH (fA s)=s):=by rw [hX];grind
   rw [Nw hn];rfl
  ·simp only [eS,fG,iZ] at h;have hy:bZ (fA s)=true/\eH (fA s)=s:=by rw [hX];grind
   rw [Nx hy,hX];rfl
 have g4:dh s≠gN:=by simpa using g4
 have hX:fA s=⟨dh s,aV,0,aV⟩:=by unfold fA;rw [ak g1,ak g2,ak g3,ak g4]
 refine aF (EV ⟨dh s,aV,0,aV⟩) ?_ (ha:=by (simp only [gS,fG,iZ];try exact rfl));refine aF (Ib ⟨dh s,aV,0,aV⟩ (TE _)) ?_ (ha:=by (simp only [gS,fG,iZ];try exact rfl));refine aq (fun h=>az ?_) (fun h=>az ?_)
 ·simp only [eS,fG,iZ] at h;have hn: ¬(bZ (fA s)=true/\eH (fA s)=s):=by rw [hX];grind
  rw [Nw hn];rfl
 ·simp only [eS,fG,iZ] at h;have hy:bZ (fA s)=true/\eH (fA s)=s:=by rw [hX];grind
  rw [Nx hy,hX];rfl
def TV{s:ByteArray}(h: ¬(gj (iL s)=true/\gM (iL s)=s)):D.aL [enc (qZ s),.bool (qY s)]= .aL [enc ajT,.bool false]:=by
 have hb:qY s=false:=by unfold qY;simpa using h
 rw [qZ,hb];rfl
def abf{s:ByteArray}(h:gj (iL s)=true/\gM (iL s)=s):D.aL [enc (qZ s),.bool (qY s)]= .aL [enc (iL s),.bool true]:=by
 have hb:qY s=true:=by unfold qY;simpa using h
 rw [qZ,hb];rfl
def WE:gB.method.size<=1048576/\gB.text.size<=1048576:=by decide
def aAX{k:Nat}(h:k<5){s:ByteArray}(e:nth words (k+1)=s):CX s=((k+1:Nat):Int):=by have:=(ai8 (k:=((k+1:Nat):Int)) (by omega) (by omega)).1;rw [jv,e] at this;exact this
def aAY{s:ByteArray}(h: ∀i,i<5->nth words (i+1)≠s):CX s=0:=by unfold CX;rw [ak (fun e=>h 0 (by omega) e.symm),ak (fun e=>h 1 (by omega) e.symm),ak (fun e=>h 2 (by omega) e.symm),ak (fun e=>h 3 (by omega) e.symm),ak (fun e=>h 4 (by omega) e.symm)]
def aHG:bA aI.tab (.one (.agg [.str,.str,.str,.str,.str,.str])) (.agg (words.map .str)):=⟨trivial,trivial,trivial,trivial,trivial,trivial,trivial⟩
def afh[BV][zQ][Kh][Ki](s:ByteArray)(hs:s.size<=1048576):eA ay 8 none [.str s] (.aL [enc (qZ s),.bool (qY s)]) [] [(6,1)]:=by
 refine iT am1 aFT ⟨trivial,trivial⟩ fun hfit=> ?_;unfold am1;have hz:=E6 s;have hzz:=E6 (bV s);have hs1:s.size<4294967281:=by omega
 have hs2:(bV s).size<4294967281:=by omega
 have hs3:(bV (bV s)).size<=1048576:=by omega
 have hs4:(bV (bV s)).size<4294967281:=by omega
 have hrc:=akG (bV (bV s));have IZ:(qh (bV (bV s))).method.size<=1048576:=by omega
 have AQ:(qh (bV (bV s))).text.size<=1048576:=by omega
 refine aF (Q3 s hs1) ?_;refine aF (Q3 (bV s) hs2) ?_ (ha:=by (simp only [gS,fG];try exact rfl));refine eZ 5 (fun k=>[.int .i64 ((k+1:Nat):Int)]) (fun k=> ∀i,i<k->nth words (i+1)≠dh s) rfl (fun i hi=>absurd hi (by omega)) ?_;intro k hk hI _;simp only [cA];apply aq<;>intro h2<;>simp only [eS] at h2
 ·have h2:k<5:=by simp at h2;omega
  refine af1 (.agg (words.map .str)) (ag7 (by decide) Ki.h) aHG (fun _=> ?_) ?_
  ·simp only [E.den,pU,qD,iF];omega
  simp only [cA];apply aq<;>intro h3<;>simp only [eS,fG,zq] at h3
  ·have h3:nth words (k+1)≠dh s:=by simpa using h3
   refine dK h2 ?_ fun i hi=> ?_
   ·simp only [eS];rw [bW];rfl
   ·rcases dY i k with h|h
    ·exact hI i h
    ·obtain rfl:i=k:=by omega
     exact h3
  have h3:nth words (k+1)=dh s:=by simpa using h3
  have MF:=aAX h2 h3;apply aq<;>intro g1<;>simp only [eS] at g1
  ·have g1:((k+1:Nat):Int)=3:=by simp at g1;omega
   have g5: ¬((k+1:Nat):Int)=5:=by omega
   refine aF (avm (bV (bV s)) hs3) (hty:=aF5 _) ?_ (ha:=by (simp only [gS,fG];try exact rfl));have hX:iL s=⟨((k+1:Nat):Int),dh (bV s),qh (bV (bV s)),[]⟩:=by unfold iL;rw [MF,aA g1,ak g5]
   refine aF (Ic ⟨((k+1:Nat):Int),dh (bV s),qh (bV (bV s)),[]⟩) ?_ (ha:=by (simp only [gS,fG,bL];try exact rfl));refine aF (K8 ⟨((k+1:Nat):Int),dh (bV s),qh (bV (bV s)),[]⟩ IZ AQ) ?_ (ha:=by (simp only [gS,fG,bL];try exact rfl));refine aq (fun h=>az ?_) (fun h=>az ?_)
   ·simp only [eS,fG,bL] at h;have hn: ¬(gj (iL s)=true/\gM (iL s)=s):=by rw [hX];grind
    rw [TV hn];rfl
   ·simp only [eS,fG,bL] at h;have hy:gj (iL s)=true/\gM (iL s)=s:=by rw [hX];grind
    rw [abf hy,hX];rfl
  have g1: ¬((k+1:Nat):Int)=3:=by simp at g1;omega
  apply aq<;>intro g2<;>simp only [eS] at g2
  ·have g2:((k+1:Nat):Int)=5:=by simp at g2;omega
   refine fQ (ava (bV (bV s)) jX hs4 (by decide)) ?_ (ha:=by (simp only [gS,fG,jY];try exact rfl));have hX:iL s=⟨((k+1:Nat):Int),dh (bV s),gB,pieces (bV (bV s)) jX⟩:=by unfold iL;rw [MF,ak g1,aA g2]
   refine aF (Ic ⟨((k+1:Nat):Int),dh (bV s),gB,pieces (bV (bV s)) jX⟩) ?_ (ha:=by (simp only [gS,fG,bL];try exact rfl));refine aF (K8 ⟨((k+1:Nat):Int),dh (bV s),gB,pieces (bV (bV s)) jX⟩ WE.1 WE.2) ?_ (ha:=by (simp only [gS,fG,bL];try exact rfl));refine aq (fun h=>az ?_) (fun h=>az ?_)
   ·simp only [eS,fG,bL] at h;have hn: ¬(gj (iL s)=true/\gM (iL s)=s):=by rw [hX];grind
    rw [TV hn];rfl
   ·simp only [eS,fG,bL] at h;have hy:gj (iL s)=true/\gM (iL s)=s:=by rw [hX];grind
    rw [abf hy,hX];rfl
  have g2: ¬((k+1:Nat):Int)=5:=by simp at g2;omega
  have hX:iL s=⟨((k+1:Nat):Int),dh (bV s),gB,[]⟩:=by unfold iL;rw [MF,ak g1,ak g2]
  refine aF (Ic ⟨((k+1:Nat):Int),dh (bV s),gB,[]⟩) ?_ (ha:=by (simp only [gS,fG,bL];try exact rfl));refine aF (K8 ⟨((k+1:Nat):Int),dh (bV s),gB,[]⟩ WE.1 WE.2) ?_ (ha:=by (simp only [gS,fG,bL];try exact rfl));refine aq (fun h=>az ?_) (fun h=>az ?_)
  ·simp only [eS,fG,bL] at h;have hn: ¬(gj (iL s)=true/\gM (iL s)=s):=by rw [hX];grind
   rw [TV hn];rfl
  ·simp only [eS,fG,bL] at h;have hy:gj (iL s)=true/\gM (iL s)=s:=by rw [hX];grind
   rw [abf hy,hX];rfl
 ·obtain rfl:k=5:=by simp at h2;omega
  have MF:=aAY hI;have hn: ¬(gj (iL s)=true/\gM (iL s)=s):=fun h=>by have:=(LR h.1).1;have e:(iL s).kind=CX (dh s):=rfl;rw [e,MF] at this;omega
  refine az ?_;rw [TV hn];rfl
end
section
open Go.RowKit Go.ChangeShapes Go.WideShapes Go.ChangeAt
variable [GC]
def opn(tb:TB):Nat->Nat->Bool
 | 0,_=>false
 | d+1,T=>match tb.get T with
  | none=>false
  | some ti=>match ti.vt with
   | .one (.c (.sl e))=>opn tb d e&&Nat.blt 0 (tb.tab e).length
   | .one (.c _)=>true
   | .one (.agg ts)=>Ag tb 0 ts ti.fs&&ti.fs.all (fun x=>opn tb d x.2)
   | .aL _=>false
def aka{tb:TB}{d T:Nat}(h:opn tb d T=true): ∃ti v,tb.get T=some ti/\ti.vt= .one v/\tb.tab T=v.cells:=by
 cases d with
 | zero=>simp [opn] at h
 | succ d =>
  simp only [opn] at h;split at h
  ·simp at h
  ·rename_i ti aO;cases hv:ti.vt with
   | aL _=>rw [hv] at h;simp at h
   | one v=>exact ⟨ti,v,aO,hv,by simp [TB.tab,aO,TI.cells,hv]⟩
def asj(tb:TB)(T:Nat):VT:=match tb.get T with|some ti=>ti.vt|none=> .aL []
def M0:Addr->Prop:=fun _=>False
section
variable {H:Type}{enc:TypeId×Value->H}{P:Program}{w:World}{base:Nat}{spare:Nat->Bool}{held:Bool}{tb:TB}
def aDI{M:Addr->Prop}{ds:List D}{cs:List Value}{b o:Nat}(h:Rs w M ds cs)(hc: ∀j u,cs[j]? =some u->w.cell? ⟨b,o+j,none⟩=some u)(hM: ∀p,¬M p):Rw w M ds b o :=
 G6 fun i d hd=>by obtain ⟨v,h1,h2⟩:=h.get hd;exact ⟨v,hc i v h1,hM _,h2⟩
def afH(aJ:dz P tb tb=true){d T:Nat}(h:opn tb d T=true):P.cellsOf T=(tb.tab T).length:=by obtain ⟨ti,v,h1,h2,h3⟩:=aka h;obtain ⟨i,hi,hs,_⟩:=ye aJ h1 h2;simp [Program.cellsOf,hi,hs,h3]
def aj9{cs:List Value}: ∀(fl:List (Nat×Nat)) (o:Nat) (ts:List CT),Ag tb o ts fl=true ->
  (∀p∈fl,∃ds,br tb.tab (tb.tab p.2) ds/\Rs w M0 ds ((cs.drop p.1).take (tb.tab p.2).length))->cs.length=o+ts.length-> ∃ds,br tb.tab ts ds/\Rs w M0 ds (cs.drop o)
 | [],o,ts,h,_,hl=>by simp only [Ag,List.isEmpty_iff] at h;subst h;refine ⟨[],trivial,?_⟩;rw [Ha (by simp at hl;omega)];rfl
 | (o',t)::r,o,ts,h,hf,hl=>by
  simp only [Ag,aP] at h;obtain ⟨h1,h2⟩:=h;have h1:=iW h1;subst h1;cases ht:tb.get t with
  | none=>rw [ht] at h2;simp at h2
  | some i =>
   rw [ht] at h2;simp only [aP,cC] at h2;obtain ⟨h2,h3⟩:=h2;have htab:tb.tab t=i.cells:=by simp [TB.tab,ht]
   obtain ⟨ds,q1,q2⟩:=hf (o,t) (by simp);simp only [htab] at q1 q2;have hle:i.cells.length<=ts.length:=by have:=congrArg List.length h2;rw [lX] at this;omega
   obtain ⟨ds',q3,q4⟩:=aj9 r (o+i.cells.length) (ts.drop i.cells.length) h3 (fun p hp=>hf p (by simp [hp])) (by rw [KA];omega);refine ⟨ds++ds',?_,?_⟩
   ·have:ts=i.cells++ts.drop i.cells.length:=(Ez i.cells.length ts).symm.trans (by rw [h2]);rw [this];exact q1.append q3
   ·have:cs.drop o=(cs.drop o).take i.cells.length++cs.drop (o+i.cells.length):=by rw [<-Ch,Ez]
    rw [this];exact q2.append q4
def aa2(aJ:dz P tb tb=true): ∀(d T:Nat),opn tb d T=true-> ∀(fuel:Nat) (cs:List Value) (x:DataW H×List MemPlace),DataW.trod enc P w base spare held fuel T cs=some x-> ∃ds,br tb.tab (tb.tab T) ds/\Rs w M0 ds cs
 | 0,_,h,_,_,_,_=>by simp [opn] at h
 | d+1,T,h,fuel,cs,x,hx=>by
  simp only [opn] at h;split at h
  ·simp at h
  ·rename_i ti aO;have htab:tb.tab T=ti.cells:=by simp [TB.tab,aO]
   rw [htab];cases hv:ti.vt with
   | aL _=>rw [hv] at h;simp at h
   | one v =>
    rw [hv] at h;simp only [TI.cells,hv];cases v with
    | c t =>
     obtain ⟨i,ds,_,_,_,_,hu,hd⟩:=jl aJ aO hv;cases t with
     | mem=>exact hd.elim
     | fn=>exact hd.elim
     | bool => simp only [ju] at hd;subst hd;obtain ⟨b,rfl,_⟩:=DataW.trod_bool hu hx;exact ⟨[.bool b],⟨trivial,trivial⟩,Rs.one rfl⟩
     | int k => simp only [ju] at hd;subst hd;obtain ⟨n,rfl,_,hw⟩:=DataW.trod_int hu hx;exact ⟨[.int k n],⟨rfl,trivial⟩,Rs.one ⟨rfl,by simpa [Lit.wf] using hw⟩⟩
     | str => simp only [ju] at hd;subst hd;obtain ⟨s,rfl,_,hw⟩:=DataW.trod_string hu hx;exact ⟨[.str s],⟨trivial,trivial⟩,Rs.one ⟨rfl,hw⟩⟩
     | sl e =>
      simp only [ju] at hd;subst hd;simp only [aP] at h;obtain ⟨he,hpos⟩:=h;have hpos:0<(tb.tab e).length:=ia hpos;have hn:=afH aJ he;rcases Go.Deep.open_slice hu hx with ⟨h0,_⟩|⟨a,len,cap,m,n,Dd,Pl,hcs,_,hl,hm,hmm,_,hi⟩
      ·exact ⟨[.sl []],⟨trivial,trivial⟩,by rw [h0];exact Rs.one ⟨none,0,0,rfl,rfl,bU _,fX _,fun _=>rfl,fun b o s hh=>by cases hh⟩⟩
      ·have hlm:len<=m:=by rw [hmm];split<;>omega
       have hex: ∀i,i<len-> ∃q:List Value×List D,w.cells? base (a.add (i*P.cellsOf e)) (P.cellsOf e)=some q.1/\br tb.tab (tb.tab e) q.2/\Rs w M0 q.2 q.1:=fun i hil=>by obtain ⟨cs',hc,ht'⟩:=hi i (by omega);obtain ⟨y,hy1,wF⟩:=aa2 aJ d e he _ _ _ ht';exact ⟨(cs',y),hc,hy1,wF⟩
       have hch: ∃f:Nat->List Value×List D,∀i,i<len->w.cells? base (a.add (i*P.cellsOf e)) (P.cellsOf e)=some (f i).1/\br tb.tab (tb.tab e) (f i).2/\Rs w M0 (f i).2 (f i).1:=by refine ⟨fun i=>if hi:i<len then (hex i hi).choose else ([],[]),fun i hi=> ?_⟩;simp only [hi,dif_pos];exact (hex i hi).choose_spec
       obtain ⟨f,hf⟩:=hch;have hcell: ∀i,i<len-> ∀j u,(f i).1[j]? =some u->w.cell? ((a.add (i*P.cellsOf e)).add j)=some u:=fun i hil j u hu=>by
        obtain ⟨_,hcl,hat⟩:=World.cells?_some (hf i hil).1;have hj:j<P.cellsOf e:=by rw [<-hcl];exact (dQ.1 hu).1
        rw [hat j hj,hu]
       have hspot:0<len->a.spot=none:=fun h0=>by
        have ay8:0<(f 0).1.length:=by rw [(hf 0 h0).2.2.length,(hf 0 h0).2.1.length];exact hpos
        have hx:=hcell 0 h0 0 _ (cO ay8);rw [Nat.zero_mul] at hx;exact World.cell?_spot (a:=a) (by simpa [Addr.add] using hx)
       refine ⟨[.sl ((List.range len).map fun i=>(f i).2)],⟨?_,trivial⟩,?_⟩
       ·refine ud fun r hr=> ?_;obtain ⟨i,hi,rfl⟩:=gD.1 hr;exact (hf i (by simpa using hi)).2.1
       ·rw [hcs];refine Rs.one ⟨some a,len,cap,rfl,by simp,hl,hm,(fun h=>by cases h),fun b o s hh=>⟨fun h0=> ?_,?_⟩⟩
        ·have:=hspot h0;simp only [bg] at hh;subst hh;exact this
        ·simp only [bg] at hh;subst hh;refine B6 (n:=(tb.tab e).length) (fun r hr=> ?_) fun i r hr=> ?_
         ·obtain ⟨i,hi,rfl⟩:=gD.1 hr;exact (hf i (by simpa using hi)).2.1.length
         ·have hil:i<len:=by have:=(dQ.1 hr).1;simpa using this
          have hr':r=(f i).2:=by simp [hil] at hr;exact hr.symm
          subst hr';refine aDI (hf i hil).2.2 (fun j u hu=> ?_) (fun _ h=>h);have h1:=hcell i hil j u hu;have hs:=hspot (by omega);simp only at hs;subst hs;rw [hn] at h1
          rwa [addr_add,addr_add] at h1
    | agg ts =>
     simp only [aP] at h;obtain ⟨hc,hall⟩:=h;obtain ⟨i,fields,zs,hi,hs,_,_,_,hu,hfo⟩:=tP aJ aO hv;obtain ⟨xs,m,_,_,hl,hxs,hf⟩:=DataW.trod_struct hu hx;have hlen:cs.length=ts.length:=by rw [hl];simp [Program.cellsOf,hi,hs]
     have key: ∀p∈ti.fs,∃ds,br tb.tab (tb.tab p.2) ds/\Rs w M0 ds ((cs.drop p.1).take (tb.tab p.2).length):=by
      intro p hp;have hop:=fO.1 hall p hp;obtain ⟨k,hk⟩:=List.getElem?_of_mem hp;have hfk: ∃fd,fields.toList[k]? =some fd/\fd.offset=p.1/\fd.type=p.2:=Y0 hfo hk;obtain ⟨fd,Mx,e1,e2⟩:=hfk;have ah0:fields[k]? =some fd:=by simpa using Mx
      have hlt:k<xs.length:=by rw [hxs];exact (rD.1 ah0).1
      have ht:=(hf k fd ah0).trans (cO hlt);rw [e1,e2,afH aJ hop] at ht;exact aa2 aJ d p.2 hop _ _ _ ht
     have:=aj9 (w:=w) ti.fs 0 ts hc key (by omega);simpa [V1.cells] using this
def aCM(aJ:dz P tb tb=true){r:Reach}{b0 T:Nat}{v:Value}{dd:DataW H}{p:List MemPlace}(ht:opn tb 12 T=true)(hv:Value.okWide P w r b0 T v)(h:DataW.Trod enc P w base spare held T v dd p) :
  ∃x,bA tb.tab (asj tb T) x/\R w M0 x v:=by
 obtain ⟨fuel,hf⟩:=h;obtain ⟨ds,h1,h2⟩:=aa2 aJ 12 T ht fuel _ _ hf;obtain ⟨ti,v1,aO,hv1,htab⟩:=aka ht;rw [htab] at h1;unfold asj;rw [aO];simp only [hv1];cases v1 with
 | c t =>
  obtain ⟨_,d,_,_,_,_,hu,hd⟩:=jl aJ aO hv1;have hc:v.cells.toList=[v]:=by
   cases t<;>simp only [ju] at hd<;>subst hd
   ·obtain ⟨_,rfl⟩:=okWide_bool hu hv;rfl
   ·obtain ⟨_,rfl⟩:=okWide_int hu hv;rfl
   ·obtain ⟨_,rfl⟩:=okWide_string hu hv;rfl
   ·obtain ⟨_,_,_,rfl⟩:=okWide_slice hu hv;rfl
  rw [hc] at h2
  match ds,h1 with
  | [x],h1 => obtain ⟨v',q,e,h3,h4⟩:=h2;simp only [Ev] at e;obtain ⟨rfl,rfl⟩:=e;exact ⟨x,h1.1,h3⟩
 | agg ts => obtain ⟨_,fields,_,_,_,_,_,_,hu,_⟩:=tP aJ aO hv1;obtain ⟨cs,rfl,_⟩:=okWide_struct hu hv;exact ⟨.agg ds,h1,cs,rfl,h2⟩
end
theorem law_run{P:Program}{f:FuncId}{ds:List D}{vs:List Value}{w:World}(h:aH P f none ds (.bool true) [])(hG:fN w M0)(hr:Rs w M0 ds vs):Calls P f vs.toArray w fun e w'=>e= .returned (.bool true)/\Below w.heap.size w w':=by refine (h.2 w M0 0 vs hG hr (fun cs hcs=>by cases hcs)).mono ?_;rintro e w' ⟨v,rfl,h1,h2,_⟩;simp only [R] at h1;subst h1;exact ⟨rfl,h2.Br⟩
end
section
open Go.RowKit Go Go.ChangeShapes
def ayg{H:Type}{enc:TypeId×Value->H}{a:Assume}{C:Checked}{os:Os}{f:FuncId}{fn:Func}{s:ChangeSpec}{conds:List PathCond}{apart fresh handsOn again:Bool}{X:World->Array Value->Prop}
  (hX: ∀(w w':World) (args:Array Value),w.heap=w'.heap->X w args->X w' args)
  (own:ownKnob C.prog.godebug=none) (started:os.Started) (noInit:C.prog.inits.idxOf? f=none) (hfn:C.prog.funcs[f]? =some fn)
  (witness: ∃(w:World) (tape:Tape) (i:Input),w.os=os/\(w.forCall tape i).Shaped C.prog/\i.vars=[]/\Input.okWide C.prog (w.forCall tape i) .any w.heap.size f i /\
   ((s.pre enc C.prog fn conds apart (w.forCall tape i).memory i.args/\X (w.forCall tape i).memory i.args)/\sizedMet enc C.prog fn (OpenSpec.ofChange s) apart (w.forCall tape i).memory i.args)/\a.holds C.prog (lone (Frame.enter C.prog f i.args .normal) [] (w.forCall tape i)))
  (contract: ∀(W:World) (base:Nat) (args:Array Value) (ds gs:List (DataW H)) (before:List MemPlace),
   (∀(j:Nat) t v,fn.params[j]? =some t->args[j]? =some v->Value.okWide C.prog W .any base t v) ->
   DataW.Whole enc C.prog fn.params.toList s.vars apart W args.toList ds gs before ->
   conds.all (PathCond.test C.prog ⟨fn.params.toList,ds,s.plain.varTypes C.prog,gs⟩)=true ->
   (DataW.weightsEach C.prog (fn.params.toList++s.plain.varTypes C.prog) (ds++gs)).all (· <=reachBytes)=true->W.ShapedOpen C.prog->X W args ->
   a.holds C.prog (lone (Frame.enter C.prog f args .normal) [] W) ->
   Calls C.prog f args W fun e W'=> ∃v,e= .returned v/\s.post enc C.prog fn apart fresh handsOn again W args v W') :
  ReturnsInHanded a C os f .any (fun w args=>(s.pre enc C.prog fn conds apart w args/\X w args)/\sizedMet enc C.prog fn (OpenSpec.ofChange s) apart w args) (s.post enc C.prog fn apart fresh handsOn again):=by
 refine returnsInHanded_of_calls own started noInit witness fun w tape i _ azL _ hok hpre hh=> ?_;obtain ⟨_,_,_,fn',hfn',_,_,_,_,hval⟩:=hok;cases gh (hfn'.symm.trans hfn);obtain ⟨⟨⟨ds,gs,before,q1,q2⟩,q3⟩,q4⟩:=hpre;refine (contract (w.forCall tape i) w.heap.size i.args ds gs before hval (DataW.Whole.of_heap (w':=w.forCall tape i) (by rfl) q1) q2 (q4.weights q1) azL (hX _ _ _ (by rfl) q3) hh).mono fun e W' ⟨v,he,hp⟩=> ?_;cases he;exact ChangeSpec.post_blind hp
def aET{P:Program}{ps:Array TypeId}(h:ps.all (fun t=> !P.wantsStandIn t)=true): ∀(j:Nat) t,ps[j]? =some t->P.wantsStandIn t=false:=fun j t ht=>by rw [PI] at h;have:=h t (Array.mem_of_getElem? ht);simpa using this
def Zc{P:Program}{w:World}{n:String}{g:Nat}{cs:Array Value}{p:Array Value->Prop}(hg:P.globalNamed n=some g)(h:w.var? P n=some cs)(hp:p cs):lV w g p:=by
 simp only [World.var?,hg,P5] at h;split at h
 ·rename_i c t f hh;simp at h;subst h;exact ⟨_,t,f,hh,hp⟩
 ·simp at h
def axO{w:World}{g:Nat}{v:Value}(h:w.cell? ⟨g,0,none⟩=some v):lV w g fun cs=>cs[0]? =some v:=by
 unfold World.cell? at h;cases hb:w.heap[g]? with
 | none=>simp [hb] at h
 | some o =>
  simp only [hb] at h;cases o with
  | cells cs t f=>exact ⟨cs,t,f,hb,by simpa using h⟩
  | _=>simp at h
def UG{H:Type}(l:List ByteArray):DataW H:= .agg (l.map fun s=> .lit (.string s.data.toList))
def data_inj{s s':ByteArray}(h:s.data.toList=s'.data.toList):s=s':=by apply Kw;exact kJ.1 h
def awv{H:Type}{enc:TypeId×Value->H}{P:Program}{w:World}{base:Nat}{sp:Nat->Bool}{held:Bool}{fuel:Nat}{t e:TypeId}{n:Nat}{cs:List Value}{zs:List ByteArray}{p:List MemPlace}
  (ht:P.underlying t=some (.array n e)) (he:P.underlying e=some .string) (hce:P.cellsOf e=1) (hct:P.cellsOf t=n)
  (h:DataW.trod enc P w base sp held fuel t cs=some (UG zs,p)):cs=zs.map Value.string:=by
 cases fuel with
 | zero=>simp [DataW.trod] at h
 | succ fuel =>
  simp only [DataW.trod,ht,hce,hct,Nat.mul_one] at h;split at h
  ·rename_i hl;obtain ⟨xs,hm,hx⟩:=lJ.1 h;have hxs:xs.map (·.1)=zs.map fun z=>(DataW.lit (.string z.data.toList):DataW H):=by have:=congrArg Prod.fst hx;simpa [UG] using this
   have hxl:xs.length=n:=by simpa using Lib.mapM_length hm
   have hzl:zs.length=n:=by have:=congrArg List.length hxs;simp at this;omega
   apply zV;intro i;by_cases hi:i<n
   ·obtain ⟨b,hb,hf⟩:=Lib.mapM_at hm i i (by simp [hi]);obtain ⟨z,hc,rfl,_⟩:=DataW.trod_string he hf;have h1:cs[i]? =some (.string z):=by have:=congrArg (·[0]?) hc;simpa [pV,xm] using this
    have h2:(xs.map (·.1))[i]? =some (DataW.lit (.string z.data.toList):DataW H):=by simp [hb]
    rw [hxs] at h2;simp only [iI,lJ,DataW.lit.injEq,Lit.string.injEq] at h2;obtain ⟨z',hz',e⟩:=h2;rw [h1,iI,hz',data_inj e];rfl
   ·rw [nU (by omega),nU (by simp;omega)]
  ·cases h
def aFl{P:Program}{W:World}{name:String}{zs:List ByteArray}{rest:List (String×DataW Unit)}{g:Nat}{t e:TypeId}{n:Nat}
  (hg:P.globalNamed name=some g) (hty:(P.globals[g]?).map (·.type)=some t) (ht:P.underlying t=some (.array n e)) (he:P.underlying e=some .string) (hce:P.cellsOf e=1) (hct:P.cellsOf t=n)
  (h:laidMet P ((name,UG zs)::rest) W):lV W g fun cs=>cs=(zs.map Value.string).toArray:=by
 obtain ⟨ps,⟨g',t',cs,fuel,p,q,hg',ht',hvar,hd,_,_⟩,_⟩:=h;obtain rfl:=gh (hg.symm.trans hg');obtain rfl:=gh (hty.symm.trans ht');exact Zc hg hvar (by rw [<-awv ht he hce hct hd])
def aHL{H:Type}{enc:TypeId×Value->H}{P:Program}{W W':World}{n:String}{gs:List (DataW H)}{q:List MemPlace}{g:Nat}{t:TypeId}(hl:laidOutB P=true)(hg:P.globalNamed n=some g)(hty:(P.globals[g]?).map (·.type)=some t)
  (hr:P.readableRec t=true) (hrow:t<P.types.size) (hV:DataW.TrodVars enc P W (fun _=>true) [n] gs q) (fF:Below W.heap.size W W') :
  ∃d,gs=[d]/\ ∃pv,DataW.TrodVars enc P W' (fun b=>decide (b<W.heap.size)) [n] [d] pv:=by
 obtain ⟨g',t',cs,fuel,d,p,rfl,hg',ht',hc,htr,rfl⟩:=trodVars_one hV;obtain rfl:=gh (hg.symm.trans hg');obtain rfl:=gh (hty.symm.trans ht');have kv:DataW.Trod enc P W 0 (fun _=>true) true t (.agg cs) d p:=⟨fuel,htr⟩;obtain ⟨m,hm⟩:=Below.trod hl hr hrow kv fF (DataW.trod_lt fuel _ _ _ htr);have hlt:g<W.heap.size:=by
  simp only [World.var?,hg,P5] at hc;rcases dY g W.heap.size with h|h
  ·exact h
  ·simp [yC h] at hc
 refine ⟨d,rfl,_,trodVars_mk1 hg hty (cs:=cs) ?_ hm⟩;simp only [World.var?,hg,P5] at hc ⊢;rw [fF.block g hlt];exact hc
def aEz{W:World}{r:List (String×DataW Unit)}{n:String}(hn:ay.globalNamed n=some 2)(h:laidMet ay ((n,Rows.laid_strconv_ErrSyntax)::r) W):lV W 2 fun cs=> ∃tp p,cs= #[.iface tp p]:=by
 obtain ⟨a,s,hv,_⟩:=laid_sentinel (tp:=247) h hn (by kernel_rfl) QB
  (fun u hu=>typeName_ptr_named (nm:= "errors.errorString") (by kernel_rfl) (by kernel_rfl) (by decide) u (hu.trans (by decide)))
  XJ XK rfl rfl jq (by kernel_rfl) (by kernel_rfl)
 exact Zc hn hv ⟨_,_,rfl⟩
def aEB{W:World}{r:List (String×DataW Unit)}{n:String}(hn:ay.globalNamed n=some 6)(h:laidMet ay ((n,Rows.laid_internal_strconv_uint64pow10)::r) W):lV W 6 fun cs=>cs=(Lib.pow10Tab.map fun z=>Value.int .u64 z).toArray:=by
 have e:(Rows.laid_internal_strconv_uint64pow10:DataW Unit)=Lib.tabData .u64 Lib.pow10Tab:=by kernel_rfl
 rw [e] at h;have:=Lib.tabIs_of_head (t:=251) hn (by kernel_rfl) KQ KP (by kernel_rfl) (by kernel_rfl) h;exact Zc hn this rfl
def aEA{W:World}(h:W.ShapedOpen ay):lV W 1 fun cs=> ∃m,cs[0]? =some (Value.int .i64 m):=by obtain ⟨m,hm⟩:=cell_of_shapedOpen_int (g:=1) (t:=3) (zero:= #[.int .i64 0]) (k:= .i64) h (KT (by kernel_rfl)) (by kernel_rfl) rfl (by kernel_rfl) (by kernel_rfl) lL;obtain ⟨cs,t,f,h1,h2⟩:=axO hm;exact ⟨cs,t,f,h1,m,h2⟩
def ag6{w:World}{g:Nat}{p:Array Value->Prop}(h:lV w g p):g+1<=w.heap.size:=by
 obtain ⟨cs,t,f,h1,_⟩:=h;rcases dY g w.heap.size with h|h
 ·exact h
 ·rw [yC h] at h1;cases h1
def aEC{W:World}{r:List (String×DataW Unit)}{n:String}(hn:ay.globalNamed n=some 0)(h:laidMet ay ((n,Rows.laid_loop_example_g03016_impl_eventWords)::r) W):lV W 0 fun cs=>cs=(words.map Value.string).toArray:=by
 have e:(Rows.laid_loop_example_g03016_impl_eventWords:DataW Unit)=UG words:=by kernel_rfl
 rw [e] at h;exact aFl (t:=66) hn (by kernel_rfl) Tryz.underlying66 jq (by kernel_rfl) (by kernel_rfl) h
end
section
open Go
def aAv:ownKnob ay.godebug=none:=by kernel_rfl
def aau:laidOutB ay=true:=by kernel_rfl
def aAw:mapsRowed ay=true:=by kernel_rfl
def aAx:(ay.stops==[])=true:=by kernel_rfl
def aAs:(ay.stopKnobs==[])=true:=by kernel_rfl
def aAr:(Rows.fnEventTextRow.plainKeys==ay.plainKeys)=true:=by kernel_rfl
def aAq:ay.stopsHeard=true:=by kernel_rfl
def aAp:ay.mayEnter=true:=by kernel_rfl
def aAt:(Rows.fnEventTextRow.lifted==ay.liftsFinal)=true:=by kernel_rfl
def aAu:(ay.make==some Rows.fnEventTextRow.make)=true:=by kernel_rfl
def je{a b:Bool}(ha:a=true)(hb:b=true):(a&&b)=true:=by rw [ha,hb];rfl
end
end Go.Proofs.YtekplmpbkgchfaaGreatDoor
