/- Names, kinds, faces: what the program and the reference compute. -/
import Derived.Test.YtoomhbopolalnaaGreatDoorS13
import Derived.Lib.Split
import Derived.Lib.Join
import Derived.Lib.Atoi
import Derived.Lib.ItoaNum
set_option linter.all false
set_option maxRecDepth 100000
namespace Go.Proofs.YtoomhbopolalnaaGreatDoor
variable {l:List ByteArray}{b n:Nat}{w:World}
section
open Go.RowKit Go
variable [GC]
def qn(s:ByteArray)(k:Nat):Bool:=(decide (97<=Df s k)&&decide (Df s k<=122))||(!(k==0)&&(decide (48<=Df s k)&&decide (Df s k<=57)))
def kY(s:ByteArray):Bool:=decide (1<=s.size)&&decide (s.size<=8)&&eK (qn s) s.size
def axI(b:Int)(f:Bool):aG Tryz.prog 156 none [.int .u8 b,.bool f] (.bool ((decide (97<=b)&&decide (b<=122))||(!f&&(decide (48<=b)&&decide (b<=57))))) []:=by refine bZ apS aI3 ⟨rfl,trivial,trivial⟩ fun h=> ?_;unfold apS;refine ay ?_;simp[E.den,bg,Bool.and_assoc]
def MF(s:ByteArray):aG Tryz.prog 130 none [.str s] (.bool (kY s)) []:=by
 refine bZ apm aIA ⟨trivial,trivial⟩ fun f=> ?_;have l:=aik f.1;unfold apm;refine cU s.size (fun k=>[.int .i64 k]) (fun k=>eK (qn s) k=true) rfl rfl ?_;intro k c I _;simp only[cA];apply aj<;>intro h<;>simp only[eS]at h
 ·have h:k<s.size:=by simp at h;exact h
  refine dK ?_;refine aH (axI (Df s k) ((k:Int)==0)) ?_ (ha:=by(simp only[gS,agq,Zx,gX];try exact rfl));apply aj<;>intro a<;>simp only[eS]at a
  ·have b:qn s k=false:=by simp at a;simp[qn];omega
   refine ay ?_;simp[E.den,kY,qg h b]
  ·have b:qn s k=true:=by simp at a;simp[qn];omega
   refine cJ h ?_ (show(eK (qn s) k&&qn s k)=true by rw[I,b];rfl);simp only[eS];rw[bF];rfl
 ·obtain rfl:k=s.size:=by simp at h;omega
  refine ay ?_;simp only[kY,I,Bool.and_true];simp only[eS];congr 1;grind
def I9(s:ByteArray):aG Tryz.prog 97 none [.str s] (.bool (kY s)) []:=by
 refine bZ aos aHG ⟨trivial,trivial⟩ fun f=> ?_;have l:=aik f.1;unfold aos;refine dK ?_;refine dK ?_;apply aj<;>intro h<;>simp only[eS]at h
 ·refine ay ?_;simp only[E.den,D.bool.injEq];by_cases d:1<=s.size/\s.size<=8
  ·have b:qn s 0=false:=by simp at h;simp[qn];omega
   simp[kY,qg (show 0<s.size by omega) b]
  ·have:(decide (1<=s.size)&&decide (s.size<=8))=false:=by simp;omega
   simp[kY,this]
 have d:1<=s.size/\s.size<=8:=by grind
 refine cU s.size (fun k=>[.int .i64 k]) (fun k=>eK (qn s) k=true) rfl rfl ?_;intro k g I _;simp only[cA];apply aj<;>intro a<;>simp only[eS]at a
 ·have a:k<s.size:=by simp at a;exact a
  refine dK ?_;refine dK ?_;refine dK ?_;refine dK ?_;apply aj<;>intro c<;>simp only[eS]at c
  ·have b:qn s k=false:=by simp at c;simp[qn];omega
   refine ay ?_;simp[E.den,kY,qg a b]
  ·have b:qn s k=true:=by
    simp at h c;by_cases e:k=0
    ·subst e;simp[qn];omega
    ·simp[qn];omega
   refine cJ a ?_ (show(eK (qn s) k&&qn s k)=true by rw[I,b];rfl);simp only[eS];rw[bF];rfl
 ·obtain rfl:k=s.size:=by simp at a;omega
  refine ay ?_;simp[E.den,kY,I,d]
def gM(n:Int):Bool:=decide (0<=n)&&decide (n<=999)
def ME(n:Int):aG Tryz.prog 121 none [.int .i64 n] (.bool (gM n)) []:=by refine bZ aJU aH8 ⟨rfl,trivial⟩ fun h=> ?_;exact ay (by simp[E.den,bg,gM])
def kinds:List ByteArray:=[⟨#[115,116,111,110,101]⟩,⟨#[108,97,109,112]⟩,⟨#[115,104,101,108,102]⟩,⟨#[109,101,116,101,114]⟩,⟨#[100,114,97,119,101,114]⟩,⟨#[104,111,114,110]⟩,⟨#[118,97,117,108,116]⟩,⟨#[114,111,98,111,116]⟩]
def DJ:List Nat:=[0,1,2,5,3,9,19,63]
def BN(s:ByteArray):Option Nat:=if s=nth kinds 0 then some 0 else if s=nth kinds 1 then some 1 else if s=nth kinds 2 then some 2 else if s=nth kinds 3 then some 3 else if s=nth kinds 4 then some 4 else if s=nth kinds 5 then some 5 else if s=nth kinds 6 then some 6 else if s=nth kinds 7 then some 7 else none
def fg(s:ByteArray):Nat:=match BN s with|some k=>DJ.getD k 0|none=>0
def kindOk(s:ByteArray):Bool:=(BN s).isSome
def DK(s:ByteArray):fg s<64:=by
 unfold fg;split
 ·rename_i k _;by_cases h:k<8
  ·obtain rfl|rfl|rfl|rfl|rfl|rfl|rfl|rfl:k=0\/k=1\/k=2\/k=3\/k=4\/k=5\/k=6\/k=7:=by omega
   all_goals decide
  ·rw[List.getD,nB (by simp[DJ];omega)];decide
 ·decide
def aky{s:ByteArray}(h:∀j,j<8->nth kinds j≠s):BN s=none:=by unfold BN;rw[aw (fun e=>h 0 (by omega) e.symm),aw (fun e=>h 1 (by omega) e.symm),aw (fun e=>h 2 (by omega) e.symm),aw (fun e=>h 3 (by omega) e.symm),aw (fun e=>h 4 (by omega) e.symm),aw (fun e=>h 5 (by omega) e.symm),aw (fun e=>h 6 (by omega) e.symm),aw (fun e=>h 7 (by omega) e.symm)]
def eight{k:Nat}(h:k<8):k=0\/k=1\/k=2\/k=3\/k=4\/k=5\/k=6\/k=7:=by omega
def Zg(s:ByteArray):aG Tryz.prog 150 none [.str s] (.aU [.int .i64 (fg s),.bool (kindOk s)]) []:=by
 refine bZ aox aHK ⟨trivial,trivial⟩ fun f=> ?_;clear f;unfold aox;refine aj (fun h=> ?_) (fun a=> ?_)
 ·simp only[eS]at h;simp at h;subst h;exact ay rfl
 refine aj (fun h=> ?_) (fun b=> ?_)
 ·simp only[eS]at h;simp at h;subst h;exact ay rfl
 refine aj (fun h=> ?_) (fun c=> ?_)
 ·simp only[eS]at h;simp at h;subst h;exact ay rfl
 refine aj (fun h=> ?_) (fun d=> ?_)
 ·simp only[eS]at h;simp at h;subst h;exact ay rfl
 refine aj (fun h=> ?_) (fun g=> ?_)
 ·simp only[eS]at h;simp at h;subst h;exact ay rfl
 refine aj (fun h=> ?_) (fun i=> ?_)
 ·simp only[eS]at h;simp at h;subst h;exact ay rfl
 refine aj (fun h=> ?_) (fun k=> ?_)
 ·simp only[eS]at h;simp at h;subst h;exact ay rfl
 refine aj (fun h=> ?_) (fun l=> ?_)
 ·simp only[eS]at h;simp at h;subst h;exact ay rfl
 simp only[eS]at a b c d g i k l;simp at a b c d g i k l;have n:BN s=none:=aky fun j m=>by obtain rfl|rfl|rfl|rfl|rfl|rfl|rfl|rfl:=eight m;all_goals (intro e;first|exact a e.symm|exact b e.symm|exact c e.symm|exact d e.symm|exact g e.symm|exact i e.symm|exact k e.symm|exact l e.symm)
 exact ay (by simp[E.den,fg,kindOk,n])
def akz:∀k:Fin 8,BN (nth kinds k.val)=some k.val:=by decide +kernel
def UH:E:=.put (.put (.put (.put (.put (.put (.put (.put (.ja 9) (.aq (.ls ⟨#[115,116,111,110,101]⟩))) (.aq (.ls ⟨#[108,97,109,112]⟩))) (.aq (.ls ⟨#[115,104,101,108,102]⟩))) (.aq (.ls ⟨#[109,101,116,101,114]⟩))) (.aq (.ls ⟨#[100,114,97,119,101,114]⟩))) (.aq (.ls ⟨#[104,111,114,110]⟩))) (.aq (.ls ⟨#[118,97,117,108,116]⟩))) (.aq (.ls ⟨#[114,111,98,111,116]⟩))
def abY:E:=.put (.put (.put (.put (.put (.put (.put (.put (.ja 3) (.aq (.li .i64 0))) (.aq (.li .i64 1))) (.aq (.li .i64 2))) (.aq (.li .i64 5))) (.aq (.li .i64 3))) (.aq (.li .i64 9))) (.aq (.li .i64 19))) (.aq (.li .i64 63))
def abX(env:List D):UH.den env=ak kinds:=rfl
def akA(env:List D):abY.den env=ak (DJ.map fun (n:Nat)=>(n:Int)):=rfl
def Jc(s:ByteArray):aG Tryz.prog 112 none [.str s] (.aU [.int .i64 (fg s),.bool (kindOk s)]) []:=by
 refine bZ aJZ aIF ⟨trivial,trivial⟩ fun f=> ?_;clear f;show VC.den _ _ (.loop [.one (.c (.int .i64))] [.li .i64 0] (.ite (.ic .lss (.var 1) (.len UH)) (.rq (.cond [] (.bN UH (.var 1))) (.ite (.sc .eql (.cell (.row [.str] UH (.var 1)) 0) (.var 0)) (.rq (.cond [] (.bN abY (.var 1))) (.ret (.bn (.bn .zb (.cell (.row [.int .i64] abY (.var 1)) 0)) (.lb true)) [])) (.again 0 [.ar .add .i64 (.var 1) (.li .i64 1)]))) (.ret (.bn (.bn .zb (.li .i64 0)) (.lb false)) []))) _ _ _;have e:kinds.length=8:=rfl;refine cU 8 (fun k=>[.int .i64 k]) (fun k=>∀j,j<k->nth kinds j≠s) rfl (by omega) ?_;intro k c I _;simp only[cA];apply aj<;>intro a<;>simp only[eS,abX,e]at a
 ·have a:k<8:=by simp at a;omega
  refine aQ (fun _=> ?_) ?_
  ·simp only[eS,abX,e];simp;omega
  apply aj<;>intro b<;>simp only[eS,abX,jr,fP]at b
  ·simp at b;refine aQ (fun _=> ?_) ?_
   ·simp only[eS,akA,dq];simp[DJ];omega
   refine ay ?_;simp only[eS,akA,amB,ahk];have n:BN s=some k:=by rw[<-b];exact akz ⟨k,a⟩
   simp only[fg,kindOk,n];obtain rfl|rfl|rfl|rfl|rfl|rfl|rfl|rfl:k=0\/k=1\/k=2\/k=3\/k=4\/k=5\/k=6\/k=7:=by omega
   all_goals rfl
  ·simp at b;refine cJ a ?_ fun j d=> ?_
   ·simp only[eS];rw[bF];rfl
   ·rcases dO j k with h|h
    ·exact I j h
    ·obtain rfl:j=k:=by omega
     exact b
 ·obtain rfl:k=8:=by simp at a;omega
  refine ay ?_;have n:=aky I;simp[E.den,fg,kindOk,n]
def ai:List ByteArray:=[⟨#[112,108,97,105,110]⟩,⟨#[114,117,110,115]⟩,⟨#[107,101,101,112,115]⟩,⟨#[99,111,117,110,116,115]⟩,⟨#[108,97,122,121]⟩,⟨#[114,101,97,100,115]⟩,⟨#[104,101,97,114,115]⟩,⟨#[104,101,97,108,115]⟩,⟨#[116,119,105,99,101]⟩]
def DL:List Nat:=[0,1,2,2,3,2,1,1,4]
def GD:List Nat:=[0,1,2,6,3,2,9,33,4]
def zS(s:ByteArray):Option Nat:=if s=nth ai 0 then some 0 else if s=nth ai 1 then some 1 else if s=nth ai 2 then some 2 else if s=nth ai 3 then some 3 else if s=nth ai 4 then some 4 else if s=nth ai 5 then some 5 else if s=nth ai 6 then some 6 else if s=nth ai 7 then some 7 else if s=nth ai 8 then some 8 else none
def mJ(s:ByteArray):Nat:=match zS s with|some k=>DL.getD k 0|none=>0
def qR(s:ByteArray):Nat:=match zS s with|some k=>GD.getD k 0|none=>0
def pG(s:ByteArray):Bool:=(zS s).isSome
def nine{k:Nat}(h:k<9):k=0\/k=1\/k=2\/k=3\/k=4\/k=5\/k=6\/k=7\/k=8:=by omega
def azA(s:ByteArray):qR s<64:=by
 unfold qR;split
 ·rename_i k _;by_cases h:k<9
  ·obtain rfl|rfl|rfl|rfl|rfl|rfl|rfl|rfl|rfl:=nine h;all_goals decide
  ·rw[List.getD,nB (by simp[GD];omega)];decide
 ·decide
def akE{s:ByteArray}(h:∀j,j<9->nth ai j≠s):zS s=none:=by unfold zS;rw[aw (fun e=>h 0 (by omega) e.symm),aw (fun e=>h 1 (by omega) e.symm),aw (fun e=>h 2 (by omega) e.symm),aw (fun e=>h 3 (by omega) e.symm),aw (fun e=>h 4 (by omega) e.symm),aw (fun e=>h 5 (by omega) e.symm),aw (fun e=>h 6 (by omega) e.symm),aw (fun e=>h 7 (by omega) e.symm),aw (fun e=>h 8 (by omega) e.symm)]
def UK:∀k:Fin 9,zS (nth ai k.val)=some k.val:=by decide +kernel
def tG(s:ByteArray):D:=.aU [.int .i64 (mJ s),.int .i64 (qR s),.bool (pG s)]
def Zk(s:ByteArray):aG Tryz.prog 118 none [.str s] (tG s) []:=by
 refine bZ aoW aIa ⟨trivial,trivial⟩ fun f=> ?_;clear f;unfold aoW;refine aj (fun h=> ?_) (fun a=> ?_)
 ·simp only[eS]at h;simp at h;subst h;exact ay rfl
 refine aj (fun h=> ?_) (fun b=> ?_)
 ·simp only[eS]at h;simp at h;subst h;exact ay rfl
 refine aj (fun h=> ?_) (fun c=> ?_)
 ·refine aj (fun _=> ?_) (fun n=> ?_)
  ·simp only[eS]at h;simp at h;subst h;exact ay rfl
  ·rw[h]at n;cases n
 refine aj (fun h=> ?_) (fun d=> ?_)
 ·simp only[eS]at h;simp at h;subst h;exact ay rfl
 refine aj (fun h=> ?_) (fun g=> ?_)
 ·simp only[eS]at h;simp at h;subst h;exact ay rfl
 refine aj (fun h=> ?_) (fun i=> ?_)
 ·simp only[eS]at h;simp at h;subst h;exact ay rfl
 refine aj (fun h=> ?_) (fun k=> ?_)
 ·simp only[eS]at h;simp at h;subst h;exact ay rfl
 refine aj (fun h=> ?_) (fun l=> ?_)
 ·simp only[eS]at h;simp at h;subst h;exact ay rfl
 refine aj (fun h=> ?_) (fun m=> ?_)
 ·simp only[eS]at h;simp at h;subst h;exact ay rfl
 simp only[eS]at a b c d g i k l m;simp at a b c d g i k l m;have o:zS s=none:=akE fun j p=>by obtain rfl|rfl|rfl|rfl|rfl|rfl|rfl|rfl|rfl:=nine p;all_goals (intro e;first|exact a e.symm|exact b e.symm|exact c e.symm|exact d e.symm|exact g e.symm|exact i e.symm|exact k e.symm|exact l e.symm|exact m e.symm)
 exact ay (by simp[E.den,tG,mJ,qR,pG,o])
def UL:E:=.put (.put (.put (.put (.put (.put (.put (.put (.put (.ja 9) (.aq (.ls ⟨#[112,108,97,105,110]⟩))) (.aq (.ls ⟨#[114,117,110,115]⟩))) (.aq (.ls ⟨#[107,101,101,112,115]⟩))) (.aq (.ls ⟨#[99,111,117,110,116,115]⟩))) (.aq (.ls ⟨#[108,97,122,121]⟩))) (.aq (.ls ⟨#[114,101,97,100,115]⟩))) (.aq (.ls ⟨#[104,101,97,114,115]⟩))) (.aq (.ls ⟨#[104,101,97,108,115]⟩))) (.aq (.ls ⟨#[116,119,105,99,101]⟩))
def ab2:E:=.put (.put (.put (.put (.put (.put (.put (.put (.put (.ja 3) (.aq (.li .i64 0))) (.aq (.li .i64 1))) (.aq (.li .i64 2))) (.aq (.li .i64 2))) (.aq (.li .i64 3))) (.aq (.li .i64 2))) (.aq (.li .i64 1))) (.aq (.li .i64 1))) (.aq (.li .i64 4))
def ab1:E:=.put (.put (.put (.put (.put (.put (.put (.put (.put (.ja 3) (.aq (.li .i64 0))) (.aq (.li .i64 1))) (.aq (.li .i64 2))) (.aq (.li .i64 6))) (.aq (.li .i64 3))) (.aq (.li .i64 2))) (.aq (.li .i64 9))) (.aq (.li .i64 33))) (.aq (.li .i64 4))
def ab0(env:List D):UL.den env=ak ai:=rfl
def akG(env:List D):ab2.den env=ak (DL.map fun (n:Nat)=>(n:Int)):=rfl
def akF(env:List D):ab1.den env=ak (GD.map fun (n:Nat)=>(n:Int)):=rfl
def Zt(s:ByteArray):aG Tryz.prog 113 none [.str s] (tG s) []:=by
 refine bZ aJ0 aJu ⟨trivial,trivial⟩ fun f=> ?_;clear f;show VC.den _ _ (.loop [.one (.c (.int .i64))] [.li .i64 0] (.ite (.ic .lss (.var 1) (.len UL)) (.rq (.cond [] (.bN UL (.var 1))) (.ite (.sc .eql (.cell (.row [.str] UL (.var 1)) 0) (.var 0)) (.rq (.cond [] (.bN ab2 (.var 1))) (.rq (.cond [] (.bN ab1 (.var 1))) (.ret (.bn (.bn (.bn .zb (.cell (.row [.int .i64] ab2 (.var 1)) 0)) (.cell (.row [.int .i64] ab1 (.var 1)) 0)) (.lb true)) []))) (.again 0 [.ar .add .i64 (.var 1) (.li .i64 1)]))) (.ret (.bn (.bn (.bn .zb (.li .i64 0)) (.li .i64 0)) (.lb false)) []))) _ _ _;have e:ai.length=9:=rfl;refine cU 9 (fun k=>[.int .i64 k]) (fun k=>∀j,j<k->nth ai j≠s) rfl (by omega) ?_;intro k c I _;simp only[cA];apply aj<;>intro a<;>simp only[eS,ab0,e]at a
 ·have a:k<9:=by simp at a;omega
  refine aQ (fun _=> ?_) ?_
  ·simp only[eS,ab0,e];simp;omega
  apply aj<;>intro b<;>simp only[eS,ab0,jr,fP]at b
  ·simp at b;refine aQ (fun _=> ?_) (aQ (fun _=> ?_) ?_)
   ·simp only[eS,akG,dq];simp[DL];omega
   ·simp only[eS,akF,dq];simp[GD];omega
   refine ay ?_;simp only[eS,akG,akF,amB,ahk];have n:zS s=some k:=by rw[<-b];exact UK ⟨k,a⟩
   simp only[tG,mJ,qR,pG,n];obtain rfl|rfl|rfl|rfl|rfl|rfl|rfl|rfl|rfl:=nine a;all_goals rfl
  ·simp at b;refine cJ a ?_ fun j d=> ?_
   ·simp only[eS];rw[bF];rfl
   ·rcases dO j k with h|h
    ·exact I j h
    ·obtain rfl:j=k:=by omega
     exact b
 ·obtain rfl:k=9:=by simp at a;omega
  refine ay ?_;have n:=akE I;simp[E.den,tG,mJ,qR,pG,n]
def agZ(s:ByteArray):aG Tryz.prog 128 none [.str s] (.aU [.int .i64 (mJ s),.bool (pG s)]) []:=by refine bZ apt aIG ⟨trivial,trivial⟩ fun h=> ?_;unfold apt;refine aH (Zt s) ?_;exact ay rfl
def aEu:∀n m:Fin 64,((List.range 6).all fun k=> !(m.val.testBit k&& !n.val.testBit k))=decide (m.val &&& n.val=m.val):=by decide +kernel
def aEv:∀n m:Fin 64,bg .eql (dQ .andNot .i64 ((m.val:Nat):Int) ((n.val:Nat):Int)) 0=decide (m.val &&& n.val=m.val):=by decide +kernel
def wX(a b:Int):aG Tryz.prog 39 none [.int .i64 a,.int .i64 b] (.bool (cm a b)) []:=by
 refine bZ apC aIP ⟨rfl,rfl,trivial⟩ fun i=> ?_;unfold apC;refine aH (Zo a) ?_;refine aH (Zo b) ?_;apply aj<;>intro h<;>simp only[eS]at h
 ·refine ay ?_;simp only[E.den,D.bool.injEq];unfold cm;grind
 have g:yH a=true:=by grind
 have l:yH b=true:=by grind
 obtain⟨n,rfl,d⟩:=akq g;obtain⟨m,rfl,e⟩:=akq l;have p:cm (n:Int) (m:Int)=((List.range 6).all fun k=> !(m.testBit k&& !n.testBit k)):=by unfold cm;rw[g,l,qI,qI,aEv ⟨n,d⟩ ⟨m,e⟩,aEu ⟨n,d⟩ ⟨m,e⟩]
 rw[p];refine cU 6 (fun k=>[.int .i64 k]) (fun k=>∀j,j<k->(!(m.testBit j&& !n.testBit j))=true) rfl (by omega) ?_;intro k q I _;simp only[cA];apply aj<;>intro c<;>simp only[eS]at c
 ·have c:k<6:=by simp at c;omega
  refine aH (MH m k e c) ?_;refine aH (MH n k d c) ?_;apply aj<;>intro f<;>simp only[eS]at f
  ·refine ay ?_;simp only[E.den,D.bool.injEq];symm;rw[List.all_eq_false];exact⟨k,by simpa using c,by rw[f];simp⟩
  ·refine cJ c ?_ fun j o=> ?_
   ·simp only[eS];rw[bF];rfl
   ·rcases dO j k with h|h
    ·exact I j h
    ·obtain rfl:j=k:=by omega
     rw[f];rfl
 ·obtain rfl:k=6:=by simp at c;omega
  refine ay ?_;simp only[E.den,D.bool.injEq];symm;rw[fM];intro j o;exact I j (by simpa using o)
def nI(l:List Cell)(k:Nat):Bool:=kY (nth l k).key&&gM (nth l k).val&&(k==0||du (nth l (k-1)).key (nth l k).key)
def iM(l:List Cell):Bool:=decide (l.length<=4)&&eK (nI l) l.length
def sub_one{k:Nat}(h:0<k)(a:k<=9223372036854775807):(dQ .sub .i64 (k:Int) 1).toNat=k-1:=by rw[lS];omega
def awQ(l:List Cell):aG Tryz.prog 151 none [ak l] (.bool (iM l)) []:=by
 refine bZ aom aHB ⟨xO l,trivial⟩ fun f=> ?_;have i:l.length<=9223372036854775807:=kF f.1;unfold aom;apply aj<;>intro h<;>simp only[eS]at h
 ·refine ay ?_;simp only[E.den,D.bool.injEq];unfold iM;grind
 have d:l.length<=4:=by grind
 refine cU l.length (fun k=>[.int .i64 k]) (fun k=>eK (nI l) k=true) rfl rfl ?_;intro k j I _;simp only[cA];apply aj<;>intro a<;>simp only[eS]at a
 ·have a:k<l.length:=by simp at a;exact a
  refine dK ?_;refine aH (I9 (nth l k).key) ?_;refine aH (ME (nth l k).val) ?_;refine aQ (fun g=> ?_) ?_
  ·simp[cO,E.den,bg]at g ⊢;rw[lS];omega
  apply aj<;>intro b<;>simp only[eS,rB,mz]at b
  ·have c:nI l k=false:=by
    unfold nI;by_cases e:0<k
    ·rw[sub_one e (by omega)]at b;grind
    ·grind
   refine ay ?_;simp[E.den,iM,qg a c]
  ·have c:nI l k=true:=by
    unfold nI;by_cases e:0<k
    ·rw[sub_one e (by omega)]at b;grind
    ·grind
   refine cJ a ?_ (show(eK (nI l) k&&nI l k)=true by rw[I,c];rfl);simp only[eS];rw[bF];rfl
 ·obtain rfl:k=l.length:=by simp at a;omega
  exact ay (by simp[E.den,iM,I,d])
def Zn(l:List Cell):aG Tryz.prog 144 none [ak l] (.bool (iM l)) []:=by
 refine bZ apg aIv ⟨xO l,trivial⟩ fun f=> ?_;have c:l.length<=9223372036854775807:=kF f.1;unfold apg;refine cU l.length (fun k=>[.int .i64 k]) (fun k=>eK (nI l) k=true) rfl rfl ?_;intro k d I _;simp only[cA];apply aj<;>intro h<;>simp only[eS]at h
 ·have h:k<l.length:=by simp at h;exact h
  refine dK ?_;refine aH (MF (nth l k).key) ?_;refine aQ (fun g=> ?_) ?_
  ·simp[cO,E.den,bg]at g ⊢;rw[lS];omega
  apply aj<;>intro a<;>simp only[eS,rB,mz]at a
  ·have b:nI l k=false:=by
    unfold nI gM;by_cases e:0<k
    ·rw[sub_one e (by omega)]at a;grind
    ·grind
   refine ay ?_;simp[E.den,iM,qg h b]
  ·have b:nI l k=true:=by
    unfold nI gM;by_cases e:0<k
    ·rw[sub_one e (by omega)]at a;grind
    ·grind
   refine cJ h ?_ (show(eK (nI l) k&&nI l k)=true by rw[I,b];rfl);simp only[eS];rw[bF];rfl
 ·obtain rfl:k=l.length:=by simp at h;omega
  refine ay ?_;simp only[eS];simp only[iM,I,Bool.and_true,D.bool.injEq];grind
def v7(s:ByteArray):Core:=if kindOk s then ⟨s,false,false,[],0⟩else ⟨⟨#[]⟩,false,false,[],0⟩
def awW(s:ByteArray):dN Tryz.prog 173 none [.str s] (.aU [enc (v7 s),.bool (kindOk s)]) [] [(3,2)]:=by
 refine gu aoA aHN ⟨trivial,trivial⟩ fun f=> ?_;unfold aoA;refine aH (Zg s) ?_;apply aj<;>intro h<;>simp only[eS]at h
 ·have h:kindOk s=false:=by simpa using h
  exact ay (by simp only[v7,h];rfl)
 ·have h:kindOk s=true:=by simpa using h
  exact ay (by simp only[v7,h];rfl)
def axv(s:ByteArray):dN Tryz.prog 138 none [.str s] (.aU [enc (v7 s),.bool (kindOk s)]) [] [(3,2)]:=by
 refine gu apz aIM ⟨trivial,trivial⟩ fun f=> ?_;unfold apz;refine aH (Jc s) ?_;apply aj<;>intro h<;>simp only[eS]at h
 ·have h:kindOk s=false:=by simpa using h
  exact ay (by simp only[v7,h];rfl)
 ·have h:kindOk s=true:=by simpa using h
  exact ay (by simp only[v7,h];rfl)
def oB(p:Core):Bool:=kindOk p.kind&&iM p.cells&&(p.cells.length==0||(fg p.kind).testBit 1)&&gM p.count&& !(p.on&&p.broken)&&((fg p.kind).testBit 0||(!p.on&& !p.broken))
def awA:∀n:Fin 64,bg .eql (dQ .and .i64 ((n.val:Nat):Int) 2) 0= !n.val.testBit 1:=by decide +kernel
def awz:∀n:Fin 64,bg .eql (dQ .and .i64 ((n.val:Nat):Int) 1) 1=n.val.testBit 0:=by decide +kernel
def awR(p:Core):aG Tryz.prog 117 none [enc p] (.bool (oB p)) []:=by
 refine bZ aon aHC ⟨pS p,trivial⟩ fun f=> ?_;have b1:=awA ⟨fg p.kind,DK _⟩;have b0:=awz ⟨fg p.kind,DK _⟩;simp only[Zx]at b1 b0;unfold aon;refine aH (Zg p.kind) ?_;refine aH (awQ p.cells) ?_;refine aH (ME p.count) ?_;apply aj<;>intro h<;>simp only[eS,eM,b1]at h
 ·refine ay ?_;simp only[E.den,D.bool.injEq];unfold oB;grind
 ·refine ay ?_;simp only[eS,eM,b0];simp only[D.bool.injEq];unfold oB;grind
def agW(p:Core):aG Tryz.prog 127 none [enc p] (.bool (oB p)) []:=by
 refine bZ aph aIw ⟨pS p,trivial⟩ fun f=> ?_;unfold aph;refine aH (Jc p.kind) ?_;refine aH (MH (fg p.kind) 0 (DK _) (by omega)) ?_;refine aH (Zn p.cells) ?_;refine aH (MH (fg p.kind) 1 (DK _) (by omega)) ?_;apply aj<;>intro h<;>simp only[eS,eM]at h
 ·refine ay ?_;simp only[E.den,D.bool.injEq];unfold oB gM;grind
 ·refine ay ?_;simp only[eS,eM];simp only[D.bool.injEq];unfold oB gM;grind
def aw8(p:Core)(h:p.cells.length<=4294967296):dN Tryz.prog 76 none [enc p] (enc p) [] [(3,2)]:=by
 refine gu aoN aH0 ⟨pS p,trivial⟩ fun f=> ?_;unfold aoN;refine aQ (fun _=> ?_) (ay ?_)
 ·simp[E.den,eM,h]
 ·simp[E.den,eM,enc,ak]
def Zr(p:Core)(h:p.cells.length<=4294967296):dN Tryz.prog 87 none [enc p] (enc p) [] [(3,2)]:=by
 refine gu ap6 aJg ⟨pS p,trivial⟩ fun f=> ?_;unfold ap6;refine aQ (fun _=> ?_) (ay ?_)
 ·simp[E.den,eM,h]
 ·simp[E.den,eM,enc,ak]
def Zi(p:Part)(h:p.core.cells.length<=4294967296)(a:p.ai.length<=4294967296):dN Tryz.prog 48 none [enc p] (enc p) [] [(3,2),(5,2)]:=by
 refine gu aoR aH4 ⟨jS p,trivial⟩ fun f=> ?_;unfold aoR;refine fD (aw8 p.core h) (hty:=pS _) ?_;refine aQ (fun _=> ?_) (ay ?_)
 ·simp[E.den,iN,a]
 ·simp[E.den,iN,eM,enc,ak]
def Zs(p:Part)(h:p.core.cells.length<=4294967296)(a:p.ai.length<=4294967296):dN Tryz.prog 53 none [enc p] (enc p) [] [(3,2),(5,2)]:=by
 refine gu aqf aJp ⟨jS p,trivial⟩ fun f=> ?_;unfold aqf;refine fD (Zr p.core h) (hty:=pS _) ?_;refine aQ (fun _=> ?_) (ay ?_)
 ·simp[E.den,iN,a]
 ·simp[E.den,iN,eM,enc,ak]
def rl(s:ByteArray):Part:=⟨v7 s,[]⟩
def awX(s:ByteArray):dN Tryz.prog 160 none [.str s] (.aU [enc (rl s),.bool (kindOk s)]) [] [(3,2),(5,2)]:=by refine gu aoB aHO ⟨trivial,trivial⟩ fun h=> ?_;unfold aoB;refine fD (awW s) (hty:=⟨pS _,trivial,trivial⟩) ?_;exact ay rfl
def axx(s:ByteArray):dN Tryz.prog 103 none [.str s] (.aU [enc (rl s),.bool (kindOk s)]) [] [(3,2),(5,2)]:=by refine gu apB aIO ⟨trivial,trivial⟩ fun h=> ?_;unfold apB;refine fD (axv s) (hty:=⟨pS _,trivial,trivial⟩) ?_;exact ay rfl
def fQ(p:Part)(k:Nat):Nat:=if k=0 then fg p.core.kind else qR (nth p.ai (k-1)).name
def zF(p:Part)(k:Nat):fQ p k<64:=by unfold fQ;split;exact DK _;exact azA _
def fc(p:Part):Nat:=fQ p p.ai.length
def agT(p:Part)(k:Nat)(a:k<=p.ai.length):aG Tryz.prog 120 none [enc p,.int .i64 k] (.int .i64 (fQ p k)) []:=by
 refine bZ aoT aH6 ⟨jS p,rfl,trivial⟩ fun f=> ?_;have b:(k:Int)<=9223372036854775807:=f.2.1.2;unfold aoT;apply aj<;>intro h<;>simp only[eS]at h
 ·have h:k=0:=by simp at h;exact h
  subst h;refine aH (Zg p.core.kind) ?_;exact ay rfl
 ·have h:k≠0:=by simpa using h
  have e:=sub_one (k:=k) (by omega) (by omega);refine aQ (fun _=> ?_) ?_
  ·simp[E.den,iN];rw[lS];omega
  refine aH (Zk (nth p.ai (k-1)).name) ?_ (ha:=by(simp only[gS,iN,D3,yn,e];try exact rfl));exact ay (by simp[E.den,tG,fQ,h])
def ag7(p:Part)(k:Nat)(a:k<=p.ai.length):aG Tryz.prog 72 none [enc p,.int .i64 k] (.int .i64 (fQ p k)) []:=by
 refine bZ aqg aJq ⟨jS p,rfl,trivial⟩ fun f=> ?_;have b:(k:Int)<=9223372036854775807:=f.2.1.2;unfold aqg;apply aj<;>intro h<;>simp only[eS]at h
 ·have h:k=0:=by simp at h;exact h
  subst h;refine aH (Jc p.core.kind) ?_;exact ay rfl
 ·have h:k≠0:=by simpa using h
  have e:=sub_one (k:=k) (by omega) (by omega);refine aQ (fun _=> ?_) ?_
  ·simp[E.den,iN];rw[lS];omega
  refine aH (Zt (nth p.ai (k-1)).name) ?_ (ha:=by(simp only[gS,iN,D3,yn,e];try exact rfl));exact ay (by simp[E.den,tG,fQ,h])
def MC(p:Part):aG Tryz.prog 84 none [enc p] (.int .i64 (fc p)) []:=by refine bZ aoj aHy ⟨jS p,trivial⟩ fun h=> ?_;unfold aoj;refine aH (agT p p.ai.length (bK _)) ?_;exact ay rfl
def A6(p:Part):aG Tryz.prog 40 none [enc p] (.int .i64 (fc p)) []:=by refine bZ apb aIr ⟨jS p,trivial⟩ fun h=> ?_;unfold apb;refine aH (ag7 p p.ai.length (bK _)) ?_;exact ay rfl
def counts:ByteArray:=⟨#[99,111,117,110,116,115]⟩
def mU:ByteArray:=⟨#[104,101,97,114,115]⟩
def qY(p:Part)(k:Nat):Bool:=pG (nth p.ai k).name&&cm (fQ p k) (mJ (nth p.ai k).name)&&gM (nth p.ai k).count&&(decide ((nth p.ai k).count=0)||decide ((nth p.ai k).name=counts)||decide ((nth p.ai k).name=mU))
def dw(p:Part):Bool:=oB p.core&&decide (p.ai.length<=3)&&eK (qY p) p.ai.length
def Zf(p:Part):aG Tryz.prog 79 none [enc p] (.bool (dw p)) []:=by
 refine bZ aou aHI ⟨jS p,trivial⟩ fun f=> ?_;unfold aou;refine aH (awR p.core) ?_;apply aj<;>intro h<;>simp only[eS,iN]at h
 ·refine ay ?_;simp only[E.den,D.bool.injEq];unfold dw;grind
 have d:oB p.core=true:=by grind
 have b:p.ai.length<=3:=by grind
 refine cU p.ai.length (fun k=>[.int .i64 k]) (fun k=>eK (qY p) k=true) rfl rfl ?_;intro k e I _;simp only[cA];apply aj<;>intro a<;>simp only[eS,iN]at a
 ·have a:k<p.ai.length:=by simp at a;exact a
  refine dK ?_;refine aH (Zk (nth p.ai k).name) ?_;refine aH (agT p k e) ?_;refine aH (Sw (fQ p k) (mJ (nth p.ai k).name)) ?_ (ha:=by(simp only[gS,tG];try exact rfl));refine aH (ME (nth p.ai k).count) ?_;apply aj<;>intro b<;>simp only[eS,iN,D3,yn,tG]at b
  ·have c:qY p k=false:=by unfold qY counts mU;grind
   refine ay ?_;simp[E.den,dw,qg a c]
  ·have c:qY p k=true:=by unfold qY counts mU;grind
   refine cJ a ?_ (show(eK (qY p) k&&qY p k)=true by rw[I,c];rfl);simp only[eS];rw[bF];rfl
 ·obtain rfl:k=p.ai.length:=by simp at a;omega
  exact ay (by simp[E.den,dw,I,d,b])
def Zq(p:Part):aG Tryz.prog 89 none [enc p] (.bool (dw p)) []:=by
 refine bZ apo aIC ⟨jS p,trivial⟩ fun f=> ?_;unfold apo;refine aH (agW p.core) ?_;apply aj<;>intro h<;>simp only[eS,iN]at h
 ·refine ay ?_;simp only[E.den,D.bool.injEq];unfold dw;grind
 have d:oB p.core=true:=by grind
 have b:p.ai.length<=3:=by grind
 refine cU p.ai.length (fun k=>[.int .i64 k]) (fun k=>eK (qY p) k=true) rfl rfl ?_;intro k e I _;simp only[cA];apply aj<;>intro a<;>simp only[eS,iN]at a
 ·have a:k<p.ai.length:=by simp at a;exact a
  refine dK ?_;refine aH (agZ (nth p.ai k).name) ?_;refine aH (ag7 p k e) ?_;refine aH (wX (fQ p k) (mJ (nth p.ai k).name)) ?_;apply aj<;>intro b<;>simp only[eS,iN,D3,yn]at b
  ·have c:qY p k=false:=by unfold qY counts mU gM;grind
   refine ay ?_;simp[E.den,dw,qg a c]
  ·have c:qY p k=true:=by unfold qY counts mU gM;grind
   refine cJ a ?_ (show(eK (qY p) k&&qY p k)=true by rw[I,c];rfl);simp only[eS];rw[bF];rfl
 ·obtain rfl:k=p.ai.length:=by simp at a;omega
  exact ay (by simp[E.den,dw,I,d,b])
def rep(code val w h:Int):gK:=⟨code,val,⟨#[]⟩,w,h⟩
def kL(p:Part)(s:ByteArray):Part×gK :=
 if dw p=false\/pG s=false then(p,rep 7 0 0 0)
 else if 3<=p.ai.length then(p,rep 5 0 0 0)
 else if cm (fc p) (mJ s)=false then(p,rep 1 0 (mJ s) (fc p))
 else(⟨p.core,p.ai++[⟨s,0⟩]⟩,rep 0 (qR s) 0 0)
def aw6(p:Part)(s:ByteArray)(h1:p.core.cells.length<=4294967296)(h2:p.ai.length<=4294967295):dN Tryz.prog 161 none [enc p,.str s] (.aU [enc (kL p s).1,enc (kL p s).2]) [] [(3,2),(5,2)]:=by
 refine gu aoL aHY ⟨jS p,trivial,trivial⟩ fun f=> ?_;unfold aoL;refine fD (Zi p h1 (by omega)) (hty:=jS _) ?_;refine aH (Zk s) ?_;refine aH (Zf p) ?_;apply aj<;>intro h<;>simp only[eS,tG]at h
 ·refine ay ?_;unfold kL;rw[aD (by grind)];rfl
 have n:¬(dw p=false\/pG s=false):=by grind
 apply aj<;>intro a<;>simp only[eS,iN]at a
 ·refine ay ?_;unfold kL;rw[aw n,aD (by grind)];rfl
 have m:¬3<=p.ai.length:=by grind
 refine aH (MC p) ?_;refine aH (Sw (fc p) (mJ s)) ?_ (ha:=by(simp only[gS,tG];try exact rfl));apply aj<;>intro b<;>simp only[eS]at b
 ·refine aH (MC p) ?_;refine ay ?_;unfold kL;rw[aw n,aw m,aD (by grind)];rfl
 ·refine aQ (fun _=> ?_) (ay ?_)
  ·simp[E.den,iN];omega
  unfold kL;rw[aw n,aw m,aw (by grind)];simp[E.den,iN,enc,ak,yn,tG,rep,A7]
def axH(p:Part)(s:ByteArray)(h1:p.core.cells.length<=4294967296)(h2:p.ai.length<=4294967295):dN Tryz.prog 104 none [enc p,.str s] (.aU [enc (kL p s).1,enc (kL p s).2]) [] [(3,2),(5,2)]:=by
 refine gu apO aIZ ⟨jS p,trivial,trivial⟩ fun f=> ?_;unfold apO;refine fD (Zs p h1 (by omega)) (hty:=jS _) ?_;refine aH (Zt s) ?_;refine aH (Zq p) ?_;apply aj<;>intro h<;>simp only[eS,tG]at h
 ·refine ay ?_;unfold kL;rw[aD (by grind)];rfl
 have n:¬(dw p=false\/pG s=false):=by grind
 have a:p.ai.length<=3:=by
  have:dw p=true:=by grind
  unfold dw at this;grind
 apply aj<;>intro b<;>simp only[eS,iN]at b
 ·refine ay ?_;unfold kL;rw[aw n,aD (by grind)];rfl
 have m:¬3<=p.ai.length:=by grind
 refine aH (A6 p) ?_;refine aH (wX (fc p) (mJ s)) ?_ (ha:=by(simp only[gS,tG];try exact rfl));apply aj<;>intro c<;>simp only[eS]at c
 ·refine aH (A6 p) ?_;refine ay ?_;unfold kL;rw[aw n,aw m,aD (by grind)];rfl
 ·refine aQ (fun _=> ?_) (ay ?_)
  ·simp[E.den,iN];omega
  unfold kL;rw[aw n,aw m,aw (by grind)];simp[E.den,iN,enc,ak,yn,tG,rep,A7]
def alq:Part:=⟨⟨⟨#[]⟩,false,false,[],0⟩,[]⟩
def gP(l:List ByteArray):Nat->Part
 |0=>rl (nth l 0)
 |k+1=>(kL (gP l k) (nth l (k+1))).1
def tT(l:List ByteArray)(k:Nat):gK:=(kL (gP l k) (nth l (k+1))).2
def eH(p:Nat->Bool):Nat->Option Nat
 |0=>none
 |n+1=>match eH p n with
  |some k=>some k
  |none=>if p n then some n else none
def yq{p:Nat->Bool}:∀{n:Nat},(∀i,i<n->p i=false)->eH p n=none
 |0,_=>rfl
 |n+1,h=>by have h1:=yq (n:=n) (fun i a=>h i (by omega));simp[eH,h1,h n (by omega)]
def yt{p:Nat->Bool}{k:Nat}(a:p k=true)(h:∀i,i<k->p i=false):∀{n:Nat},k<n->eH p n=some k
 |0,b=>by omega
 |n+1,b=>by
  by_cases e:k=n
  ·subst e;simp[eH,yq h,a]
  ·simp[eH,yt a h (show k<n by omega)]
def dX(l:List ByteArray):Part×gK :=
 if l.length=0\/kindOk (nth l 0)=false then(alq,rep 7 0 0 0)
 else match eH (fun k=> !decide ((tT l k).code=0)) (l.length-1)with
  |some k=>(alq,tT l k)
  |none=>(gP l (l.length-1),rep 0 (fc (gP l (l.length-1))) 0 0)
def aKA{p:Part}{s:ByteArray}(h1:p.core.cells=[])(h2:p.ai.length<=3):(kL p s).1.core.cells=[]/\(kL p s).1.ai.length<=3:=by
 unfold kL;split
 ·exact⟨h1,h2⟩
 split
 ·exact⟨h1,h2⟩
 split
 ·exact⟨h1,h2⟩
 ·refine⟨h1,?_⟩;simp;omega
def ET(l:List ByteArray):∀k,(gP l k).core.cells=[]/\(gP l k).ai.length<=3
 |0=>by refine⟨?_,by simp[gP,rl]⟩;simp only[gP,rl,v7];split<;>rfl
 |k+1=>aKA (ET l k).1 (ET l k).2
def Eh(l:List ByteArray):List ByteArray:=(l.drop 1).take (l.length-1)
def alw{k:Nat}(h:k<l.length-1):nth (Eh l) k=nth l (k+1):=by
 have a:k+1<l.length:=by omega
 simp[nth,Eh,List.getD,qe,h,C8 1 k,bX a]
def Kd(l:List ByteArray):(Eh l).length=l.length-1:=by simp[Eh]
def ahr{env:List D}{e:E}(h:e.den env=ak l):(E.cut e (.li .i64 1) (.len e)).den env=ak (Eh l):=by simp[E.den,h,rV,ak,Eh,Ff,List.map_drop,cK]
def uI(p:Part):List D:=[.str p.core.kind,.bool p.core.on,.bool p.core.broken,ak p.core.cells,.int .i64 p.core.count,ak p.ai]
def awU(l:List ByteArray):dN Tryz.prog 133 none [ak l] (.aU [enc (dX l).1,enc (dX l).2]) [] [(3,2),(5,2)]:=by
 refine gu aoy aHL ⟨kA l,trivial⟩ fun f=> ?_;have j:l.length<=9223372036854775807:=kF f.1;unfold aoy;apply aj<;>intro h<;>simp only[eS]at h
 ·refine ay ?_;unfold dX;rw[aD (.inl (by grind))];rfl
 have o:l.length≠0:=by grind
 refine aQ (fun _=> ?_) ?_
 ·simp[E.den];omega
 refine fD (awX (nth l 0)) (hty:=⟨jS _,trivial,trivial⟩) ?_;apply aj<;>intro d<;>simp only[eS]at d
 ·refine ay ?_;unfold dX;rw[aD (.inr (by grind))];rfl
 have p:kindOk (nth l 0)=true:=by grind
 have m:¬(l.length=0\/kindOk (nth l 0)=false):=by grind
 refine aQ (fun _=> ?_) ?_
 ·simp[E.den];omega
 refine cU (l.length-1) (fun k=>.int .i64 k::uI (gP l k)) (fun k=>∀i,i<k->(!decide ((tT l i).code=0))=false) rfl (by omega) ?_;intro k n I _;simp only[gY,iw,uI];have c:∀(env:List D),(E.cut (.var 0) (.li .i64 1) (.len (.var 0))).den (ak l::env)=ak (Eh l):=fun env=>ahr rfl;apply aj<;>intro a
 ·have a:k<l.length-1:=by have:(D.bool (bg .lss (k:Int) (cK ((E.cut (.var 0) (.li .i64 1) (.len (.var 0))).den (ak l:: .aU [enc (rl (nth l 0)),.bool (kindOk (nth l 0))]:: .int .i64 k::uI (gP l k)))))).kJ=true:=a;rw[c,vJ,Kd]at this;simp[bg]at this;omega
  refine aQ (fun _=> ?_) ?_
  ·show D.bool (decide (0<=(k:Int)/\(k:Int)<cK ((E.cut (.var 0) (.li .i64 1) (.len (.var 0))).den (ak l:: .aU [enc (rl (nth l 0)),.bool (kindOk (nth l 0))]:: .int .i64 k::uI (gP l k)))))=.bool true;rw[c,vJ,Kd];simp;omega
  refine ZG (xs:=[enc (gP l k),.str (nth l (k+1))]) ?_ (aw6 (gP l k) (nth l (k+1)) (by rw[(ET l k).1];simp) (by have:=(ET l k).2;omega)) (show bH _ _ _ from ⟨jS _,wG _,trivial⟩) ?_
  ·show [enc (gP l k),(E.cell (.row [.str] (.cut (.var 0) (.li .i64 1) (.len (.var 0))) (.var 2)) 0).den (ak l:: .aU [enc (rl (nth l 0)),.bool (kindOk (nth l 0))]:: .int .i64 k::uI (gP l k))]=_;simp only[E.den,ud,tZ,gQ];have e:=c (.aU [enc (rl (nth l 0)),.bool (kindOk (nth l 0))]:: .int .i64 k::uI (gP l k));simp only[E.den,ud,tZ,gQ]at e;rw[e];simp only[eS,jr,fP,alw a]
  simp only[cA];apply aj<;>intro g<;>simp only[eS,A7]at g
  ·have b:(!decide ((tT l k).code=0))=true:=by unfold tT;grind
   refine ay ?_;unfold dX;rw[aw m,yt b I a];rfl
  ·have b:(!decide ((tT l k).code=0))=false:=by unfold tT;grind
   refine cJ a ?_ fun i q=> ?_
   ·simp only[eS,iN];rw[bF];rfl
   ·rcases dO i k with h|h
    ·exact I i h
    ·obtain rfl:i=k:=by omega
     exact b
 ·have a:k=l.length-1:=by have:(D.bool (bg .lss (k:Int) (cK ((E.cut (.var 0) (.li .i64 1) (.len (.var 0))).den (ak l:: .aU [enc (rl (nth l 0)),.bool (kindOk (nth l 0))]:: .int .i64 k::uI (gP l k)))))).kJ=false:=a;rw[c,vJ,Kd]at this;simp[bg]at this;omega
  subst a;refine aH (MC (gP l (l.length-1))) ?_;refine ay ?_;unfold dX;rw[aw m,yq I];rfl
def Sy(l:List ByteArray):dN Tryz.prog 63 none [ak l] (.aU [enc (dX l).1,enc (dX l).2]) [] [(3,2),(5,2)]:=by
 refine gu apv aII ⟨kA l,trivial⟩ fun f=> ?_;have j:l.length<=9223372036854775807:=kF f.1;unfold apv;apply aj<;>intro h<;>simp only[eS]at h
 ·refine ay ?_;unfold dX;rw[aD (.inl (by grind))];rfl
 have o:l.length≠0:=by grind
 refine aQ (fun _=> ?_) ?_
 ·simp[E.den];omega
 refine fD (axx (nth l 0)) (hty:=⟨jS _,trivial,trivial⟩) ?_;apply aj<;>intro d<;>simp only[eS]at d
 ·refine ay ?_;unfold dX;rw[aD (.inr (by grind))];rfl
 have p:kindOk (nth l 0)=true:=by grind
 have m:¬(l.length=0\/kindOk (nth l 0)=false):=by grind
 refine aQ (fun _=> ?_) ?_
 ·simp[E.den];omega
 refine cU (l.length-1) (fun k=>.int .i64 k::uI (gP l k)) (fun k=>∀i,i<k->(!decide ((tT l i).code=0))=false) rfl (by omega) ?_;intro k n I _;simp only[gY,iw,uI];have c:∀(env:List D),(E.cut (.var 0) (.li .i64 1) (.len (.var 0))).den (ak l::env)=ak (Eh l):=fun env=>ahr rfl;apply aj<;>intro a
 ·have a:k<l.length-1:=by have:(D.bool (bg .lss (k:Int) (cK ((E.cut (.var 0) (.li .i64 1) (.len (.var 0))).den (ak l:: .aU [enc (rl (nth l 0)),.bool (kindOk (nth l 0))]:: .int .i64 k::uI (gP l k)))))).kJ=true:=a;rw[c,vJ,Kd]at this;simp[bg]at this;omega
  refine aQ (fun _=> ?_) ?_
  ·show D.bool (decide (0<=(k:Int)/\(k:Int)<cK ((E.cut (.var 0) (.li .i64 1) (.len (.var 0))).den (ak l:: .aU [enc (rl (nth l 0)),.bool (kindOk (nth l 0))]:: .int .i64 k::uI (gP l k)))))=.bool true;rw[c,vJ,Kd];simp;omega
  refine ZG (xs:=[enc (gP l k),.str (nth l (k+1))]) ?_ (axH (gP l k) (nth l (k+1)) (by rw[(ET l k).1];simp) (by have:=(ET l k).2;omega)) (show bH _ _ _ from ⟨jS _,wG _,trivial⟩) ?_
  ·show [enc (gP l k),(E.cell (.row [.str] (.cut (.var 0) (.li .i64 1) (.len (.var 0))) (.var 2)) 0).den (ak l:: .aU [enc (rl (nth l 0)),.bool (kindOk (nth l 0))]:: .int .i64 k::uI (gP l k))]=_;simp only[E.den,ud,tZ,gQ];have e:=c (.aU [enc (rl (nth l 0)),.bool (kindOk (nth l 0))]:: .int .i64 k::uI (gP l k));simp only[E.den,ud,tZ,gQ]at e;rw[e];simp only[eS,jr,fP,alw a]
  simp only[cA];apply aj<;>intro g<;>simp only[eS,A7]at g
  ·have b:(!decide ((tT l k).code=0))=true:=by unfold tT;grind
   refine ay ?_;unfold dX;rw[aw m,yt b I a];rfl
  ·have b:(!decide ((tT l k).code=0))=false:=by unfold tT;grind
   refine cJ a ?_ fun i q=> ?_
   ·simp only[eS,iN];rw[bF];rfl
   ·rcases dO i k with h|h
    ·exact I i h
    ·obtain rfl:i=k:=by omega
     exact b
 ·have a:k=l.length-1:=by have:(D.bool (bg .lss (k:Int) (cK ((E.cut (.var 0) (.li .i64 1) (.len (.var 0))).den (ak l:: .aU [enc (rl (nth l 0)),.bool (kindOk (nth l 0))]:: .int .i64 k::uI (gP l k)))))).kJ=false:=a;rw[c,vJ,Kd]at this;simp[bg]at this;omega
  subst a;refine aH (A6 (gP l (l.length-1))) ?_;refine ay ?_;unfold dX;rw[aw m,yq I];rfl
def Cg(l:List ByteArray):Int:=if(dX l).2.code=0 then(dX l).2.val else 0
def jq(l:List ByteArray):Bool:=decide ((dX l).2.code=0)
def Zh(l:List ByteArray):aG Tryz.prog 96 none [ak l] (.aU [.int .i64 (Cg l),.bool (jq l)]) []:=by
 refine bZ aoF aHS ⟨kA l,trivial⟩ fun f=> ?_;unfold aoF;refine fD (awU l) (hty:=⟨jS _,wG _,trivial⟩) ?_;apply aj<;>intro h<;>simp only[eS,A7]at h
 ·have h:¬(dX l).2.code=0:=by grind
  exact ay (by simp[E.den,Cg,jq,h])
 ·have h:(dX l).2.code=0:=by grind
  exact ay (by simp[E.den,Cg,jq,h,A7])
def Dg(l:List ByteArray):aG Tryz.prog 45 none [ak l] (.aU [.int .i64 (Cg l),.bool (jq l)]) []:=by
 refine bZ apH aIT ⟨kA l,trivial⟩ fun f=> ?_;unfold apH;refine fD (Sy l) (hty:=⟨jS _,wG _,trivial⟩) ?_;apply aj<;>intro h<;>simp only[eS,A7]at h
 ·have h:¬(dX l).2.code=0:=by grind
  exact ay (by simp[E.den,Cg,jq,h])
 ·have h:(dX l).2.code=0:=by grind
  exact ay (by simp[E.den,Cg,jq,h,A7])
def cL:ByteArray:=⟨#[]⟩
def BU(n:mq):Bool:=yH n.kW&& !decide (n.kW=0)&&(decide (n.j8=cL)||kY n.j8)&&n.least.ok
def agO(n:mq):aG Tryz.prog 99 none [enc n] (.bool (BU n)) []:=by refine bZ aot aHH ⟨Em n,trivial⟩ fun h=> ?_;unfold aot;refine aH (Ze n.kW) ?_;refine aH (I9 n.j8) ?_;refine aH (agQ n.least) ?_;refine ay ?_;simp only[eS,zB];simp only[D.bool.injEq];unfold BU cL;grind
def Zp(n:mq):aG Tryz.prog 137 none [enc n] (.bool (BU n)) []:=by refine bZ apn aIB ⟨Em n,trivial⟩ fun h=> ?_;unfold apn;refine aH (Zo n.kW) ?_;refine aH (MF n.j8) ?_;refine aH (agY n.least) ?_;refine ay ?_;simp only[eS,zB];simp only[D.bool.injEq];unfold BU cL;grind
def rf(e:Entry)(k:Nat):Bool:=BU (nth e.needs k)&& !decide ((nth e.needs k).j8=e.name)
def mR(e:Entry):Bool:=jq e.recipe&&kY e.name&&e.jT.ok&&decide (e.needs.length<=3)&&eK (rf e) e.needs.length
def agN(e:Entry):aG Tryz.prog 59 none [enc e] (.bool (mR e)) []:=by
 refine bZ aoo aHD ⟨Ah e,trivial⟩ fun f=> ?_;unfold aoo;refine aH (Zh e.recipe) ?_;refine aH (I9 e.name) ?_;refine aH (agQ e.jT) ?_;apply aj<;>intro h<;>simp only[eS,iW]at h
 ·refine ay ?_;simp only[E.den,D.bool.injEq];unfold mR;grind
 have c:jq e.recipe=true:=by grind
 have d:kY e.name=true:=by grind
 have g:e.jT.ok=true:=by grind
 have i:e.needs.length<=3:=by grind
 refine cU e.needs.length (fun k=>[.int .i64 k]) (fun k=>eK (rf e) k=true) rfl rfl ?_;intro k l I _;simp only[cA];apply aj<;>intro a<;>simp only[eS,iW]at a
 ·have a:k<e.needs.length:=by simp at a;exact a
  refine dK ?_;refine aH (agO (nth e.needs k)) ?_;apply aj<;>intro j<;>simp only[eS,iW,Vu,zB]at j
  ·have b:rf e k=false:=by unfold rf;grind
   refine ay ?_;simp[E.den,mR,qg a b]
  ·have b:rf e k=true:=by unfold rf;grind
   refine cJ a ?_ (show(eK (rf e) k&&rf e k)=true by rw[I,b];rfl);simp only[eS];rw[bF];rfl
 ·obtain rfl:k=e.needs.length:=by simp at a;omega
  exact ay (by simp[E.den,mR,I,c,d,g,i])
def agX(e:Entry):aG Tryz.prog 101 none [enc e] (.bool (mR e)) []:=by
 refine bZ api aIx ⟨Ah e,trivial⟩ fun f=> ?_;unfold api;refine aH (Dg e.recipe) ?_;refine aH (MF e.name) ?_;refine aH (agY e.jT) ?_;apply aj<;>intro h<;>simp only[eS,iW]at h
 ·refine ay ?_;simp only[E.den,D.bool.injEq];unfold mR;grind
 have c:jq e.recipe=true:=by grind
 have d:kY e.name=true:=by grind
 have g:e.jT.ok=true:=by grind
 have i:e.needs.length<=3:=by grind
 refine cU e.needs.length (fun k=>[.int .i64 k]) (fun k=>eK (rf e) k=true) rfl rfl ?_;intro k l I _;simp only[cA];apply aj<;>intro a<;>simp only[eS,iW]at a
 ·have a:k<e.needs.length:=by simp at a;exact a
  refine dK ?_;refine aH (Zp (nth e.needs k)) ?_;apply aj<;>intro j<;>simp only[eS,iW,Vu,zB]at j
  ·have b:rf e k=false:=by unfold rf;grind
   refine ay ?_;simp[E.den,mR,qg a b]
  ·have b:rf e k=true:=by unfold rf;grind
   refine cJ a ?_ (show(eK (rf e) k&&rf e k)=true by rw[I,b];rfl);simp only[eS];rw[bF];rfl
 ·obtain rfl:k=e.needs.length:=by simp at a;omega
  exact ay (by simp[E.den,mR,I,c,d,g,i])
def Oq(a b:lQ):Bool:=decide (a.mH=b.mH)&&decide (b.min<=a.min)
def awV(a b:lQ):aG Tryz.prog 135 none [enc a,enc b] (.bool (Oq a b)) []:=by
 refine bZ aoz aHM ⟨En a,En b,trivial⟩ fun f=> ?_;unfold aoz;refine aH (awP a b) ?_;refine ay ?_;simp only[eS,ML];simp only[D.bool.injEq];unfold Oq lQ.cmp;rw[uX];simp;intro h
 (repeat' split)<;>omega
def axt(a b:lQ):aG Tryz.prog 169 none [enc a,enc b] (.bool (Oq a b)) []:=by refine bZ apw aIJ ⟨En a,En b,trivial⟩ fun h=> ?_;unfold apw;refine ay ?_;simp only[eS,ML];simp only[D.bool.injEq];unfold Oq;grind
def Ku(e:Entry)(n:mq):Bool:=mR e&&BU n&&(decide (n.j8=cL)||decide (n.j8=e.name))&&cm (Cg e.recipe) n.kW&&Oq e.jT n.least
def aw3(e:Entry)(n:mq):aG Tryz.prog 100 none [enc e,enc n] (.bool (Ku e n)) []:=by
 refine bZ aoJ aHW ⟨Ah e,Em n,trivial⟩ fun f=> ?_;unfold aoJ;refine aH (agN e) ?_;refine aH (agO n) ?_;apply aj<;>intro h<;>simp only[eS]at h
 ·refine ay ?_;simp only[E.den,D.bool.injEq];unfold Ku;grind
 refine aH (Zh e.recipe) ?_;refine aH (Sw (Cg e.recipe) n.kW) ?_;refine aH (awV e.jT n.least) ?_;refine ay ?_;simp only[eS,zB,iW];simp only[D.bool.injEq];unfold Ku cL;grind
def axC(e:Entry)(n:mq):aG Tryz.prog 157 none [enc e,enc n] (.bool (Ku e n)) []:=by refine bZ apJ aIV ⟨Ah e,Em n,trivial⟩ fun h=> ?_;unfold apJ;refine aH (Dg e.recipe) ?_;refine aH (agX e) ?_;refine aH (Zp n) ?_;refine aH (wX (Cg e.recipe) n.kW) ?_;refine aH (axt e.jT n.least) ?_;refine ay ?_;simp only[eS,zB,iW];simp only[D.bool.injEq];unfold Ku cL;grind
def mB(l:List Entry)(k:Nat):Bool:=mR (nth l k)&&(k==0||du (nth l (k-1)).name (nth l k).name)
def cG(l:List Entry):Bool:=decide (l.length<=6)&&eK (mB l) l.length
def agP(l:List Entry):aG Tryz.prog 25 none [ak l] (.bool (cG l)) []:=by
 refine bZ aov aHJ ⟨mL l,trivial⟩ fun f=> ?_;have i:l.length<=9223372036854775807:=kF f.1;unfold aov;apply aj<;>intro h<;>simp only[eS]at h
 ·refine ay ?_;simp only[E.den,D.bool.injEq];unfold cG;grind
 have d:l.length<=6:=by grind
 refine cU l.length (fun k=>[.int .i64 k]) (fun k=>eK (mB l) k=true) rfl rfl ?_;intro k j I _;simp only[cA];apply aj<;>intro a<;>simp only[eS]at a
 ·have a:k<l.length:=by simp at a;exact a
  refine dK ?_;refine aH (agN (nth l k)) ?_;refine aQ (fun g=> ?_) ?_
  ·simp[cO,E.den,bg]at g ⊢;rw[lS];omega
  apply aj<;>intro b<;>simp only[eS,oQ,iW]at b
  ·have c:mB l k=false:=by
    unfold mB;by_cases e:0<k
    ·rw[sub_one e (by omega)]at b;grind
    ·grind
   refine ay ?_;simp[E.den,cG,qg a c]
  ·have c:mB l k=true:=by
    unfold mB;by_cases e:0<k
    ·rw[sub_one e (by omega)]at b;grind
    ·grind
   refine cJ a ?_ (show(eK (mB l) k&&mB l k)=true by rw[I,c];rfl);simp only[eS];rw[bF];rfl
 ·obtain rfl:k=l.length:=by simp at a;omega
  exact ay (by simp[E.den,cG,I,d])
def Jb(l:List Entry):aG Tryz.prog 61 none [ak l] (.bool (cG l)) []:=by
 refine bZ apq aID ⟨mL l,trivial⟩ fun f=> ?_;have c:l.length<=9223372036854775807:=kF f.1;unfold apq;refine cU l.length (fun k=>[.int .i64 k]) (fun k=>eK (mB l) k=true) rfl rfl ?_;intro k d I _;simp only[cA];apply aj<;>intro h<;>simp only[eS]at h
 ·have h:k<l.length:=by simp at h;exact h
  refine dK ?_;refine aH (agX (nth l k)) ?_;refine aQ (fun g=> ?_) ?_
  ·simp[cO,E.den,bg]at g ⊢;rw[lS];omega
  apply aj<;>intro a<;>simp only[eS,oQ,iW]at a
  ·have b:mB l k=false:=by
    unfold mB;by_cases e:0<k
    ·rw[sub_one e (by omega)]at a;grind
    ·grind
   refine ay ?_;simp[E.den,cG,qg h b]
  ·have b:mB l k=true:=by
    unfold mB;by_cases e:0<k
    ·rw[sub_one e (by omega)]at a;grind
    ·grind
   refine cJ h ?_ (show(eK (mB l) k&&mB l k)=true by rw[I,b];rfl);simp only[eS];rw[bF];rfl
 ·obtain rfl:k=l.length:=by simp at h;omega
  refine ay ?_;simp only[eS];simp only[cG,I,Bool.and_true,D.bool.injEq];grind
def yQ(l:List Entry)(s:ByteArray)(n:mq)(k:Nat):Bool:= !decide ((nth l k).name=s)&&Ku (nth l k) n
def xE(l:List Entry)(s:ByteArray)(n:mq):Option Nat:=eH (yQ l s n) l.length
def Cd(l:List Entry)(s:ByteArray)(n:mq):Int:=match xE l s n with|some k=>k|none=> -1
def GV(l:List Entry)(s:ByteArray)(n:mq):ByteArray:=match xE l s n with|some k=>(nth l k).name|none=>cL
def xg{p:Nat->Bool}{k:Nat}:∀{n:Nat},eH p n=some k->k<n/\p k=true/\∀i,i<k->p i=false
 |0,h=>by cases h
 |n+1,h=>by
  simp only[eH]at h;split at h
  ·rename_i j a;cases h;obtain⟨h1,h2,f⟩:=xg a;exact⟨by omega,h2,f⟩
  ·rename_i a;split at h
   ·rename_i b;cases h;refine⟨by omega,b,fun i c=> ?_⟩;cases d:p i with
    |false=>rfl
    |true=>
     exfalso;have:∀{n:Nat},eH p n=none->∀i,i<n->p i=false:=by
      intro n;induction n with
      |zero=>intro _ i c;omega
      |succ n ih=>
       intro h i c;simp only[eH]at h;split at h
       ·cases h
       ·rename_i g;split at h
        ·cases h
        ·rename_i b;by_cases e:i=n
         ·subst e;simpa using b
         ·exact ih g i (by omega)
     rw[this a i c]at d;cases d
   ·cases h
def axf(l:List Entry)(s:ByteArray)(n:mq):aG Tryz.prog 60 none [ak l,.str s,enc n] (.int .i64 (Cd l s n)) []:=by
 refine bZ aoY aIc ⟨mL l,trivial,Em n,trivial⟩ fun f=> ?_;have d:l.length<=9223372036854775807:=kF f.1;unfold aoY;refine cU l.length (fun k=>[.int .i64 k]) (fun k=>∀i,i<k->yQ l s n i=false) rfl (by omega) ?_;intro k e I _;simp only[cA];apply aj<;>intro a<;>simp only[eS]at a
 ·have a:k<l.length:=by simp at a;exact a
  refine dK ?_;refine aH (aw3 (nth l k) n) ?_;apply aj<;>intro c<;>simp only[eS,oQ,iW]at c
  ·have b:yQ l s n k=true:=by unfold yQ;grind
   refine ay ?_;simp[E.den,Cd,xE,yt b I a]
  ·have b:yQ l s n k=false:=by unfold yQ;grind
   refine cJ a ?_ fun i g=> ?_
   ·simp only[eS];rw[bF];rfl
   ·rcases dO i k with h|h
    ·exact I i h
    ·obtain rfl:i=k:=by omega
     exact b
 ·obtain rfl:k=l.length:=by simp at a;omega
  exact ay (by simp[E.den,Cd,xE,yq I])
def ag3(l:List Entry)(s:ByteArray)(n:mq):aG Tryz.prog 131 none [ak l,.str s,enc n] (.str (GV l s n)) []:=by
 refine bZ apF aIR ⟨mL l,trivial,Em n,trivial⟩ fun f=> ?_;have d:l.length<=9223372036854775807:=kF f.1;unfold apF;refine cU l.length (fun k=>[.int .i64 k]) (fun k=>∀i,i<k->yQ l s n i=false) rfl (by omega) ?_;intro k e I _;simp only[cA];apply aj<;>intro a<;>simp only[eS]at a
 ·have a:k<l.length:=by simp at a;exact a
  refine dK ?_;refine aH (axC (nth l k) n) ?_;apply aj<;>intro c<;>simp only[eS,oQ,iW]at c
  ·have b:yQ l s n k=true:=by unfold yQ;grind
   refine ay ?_;simp only[eS,oQ,iW];simp[GV,xE,yt b I a]
  ·have b:yQ l s n k=false:=by unfold yQ;grind
   refine cJ a ?_ fun i g=> ?_
   ·simp only[eS];rw[bF];rfl
   ·rcases dO i k with h|h
    ·exact I i h
    ·obtain rfl:i=k:=by omega
     exact b
 ·obtain rfl:k=l.length:=by simp at a;omega
  exact ay (by simp[E.den,GV,xE,yq I,cL])
def amO{w':World}{M:Addr->Prop}{b:Nat}(a:∀o,¬M ⟨b,o,none⟩):∀(l:List ByteArray) (k:Nat),(∀i (h:i<l.length),w'.cell? ⟨b,k+i,none⟩=some (.string l[i]))->(∀s,s∈l->s.size<=maxLen)->jg w' M (l.map aB.cells) b k
 |[],_,_,_=>by simp[jg]
 |s::l,k,h,c=>by simp only[jJ,jg,fP,Rw,R,yd];refine⟨⟨_,h 0 (by simp),a _,rfl,c s (by simp)⟩,amO a l (k+1) (fun i f=> ?_) fun d e=>c d (by simp[e])⟩;have:=h (i+1) (by simp;omega);rw[show k+(i+1)=k+1+i by omega]at this;simpa using this
def Ip{w':World}{M:Addr->Prop}{cs:Array Value}{T:Nat}(l:List ByteArray)(h:w'.heap[b]? =some (.cells cs T))(c:cs=(l.map Value.string).toArray)(a:n=l.length)(d:∀o,¬M ⟨b,o,none⟩)(f:∀s,s∈l->s.size<=maxLen)(g:l.length<=maxLen) :
  R w' M (ak l) (.slice (some ⟨b,0,none⟩) n n):=by
 subst a;refine⟨_,_,_,rfl,by simp,bK _,g,fun h=>by(cases h),?_⟩;intro k o s e;cases e;refine⟨fun _=>rfl,amO d l 0 (fun i j=> ?_) f⟩;simp[World.cell?,h,c,j]
def tv{o c:Obj}(h:w.heap[b]? =some o):(w.alloc c).heap[b]? =some o:=by
 have d:b<w.heap.size:=by
  rcases dO b w.heap.size with a|a
  ·exact a
  ·rw[Fa a]at h;cases h
 exact(LX w c b d).trans h
def JP{o:Obj}(h:b=w.heap.size):(w.alloc o).heap[b]? =some o:=by subst h;show(w.heap.push o)[w.heap.size]? =_;simp
def hasB(l:List ByteArray)(s:ByteArray):Bool:=l.any fun t=>decide (t=s)
def Zj(l:List ByteArray)(s:ByteArray):aG Tryz.prog 17 none [ak l,.str s] (.bool (hasB l s)) []:=by
 refine bZ aoU aH7 ⟨kA l,trivial,trivial⟩ fun f=> ?_;have e:l.length<=9223372036854775807:=kF f.1;unfold aoU;refine cU l.length (fun k=>[.int .i64 k]) (fun k=>∀i,i<k->nth l i≠s) rfl (by omega) ?_;intro k g I _;simp only[cA];apply aj<;>intro a<;>simp only[eS]at a
 ·have a:k<l.length:=by simp at a;exact a
  refine dK ?_;apply aj<;>intro d<;>simp only[eS,jr,fP]at d
  ·have b:hasB l s=true:=by
    unfold hasB;rw[uY];refine⟨s,?_,by simp⟩;have:nth l k=s:=by grind
    rw[<-this,nth,kQ,bX a];simp
   exact ay (by simp[E.den,b])
  ·refine cJ a ?_ fun i c=> ?_
   ·simp only[eS];rw[bF];rfl
   ·rcases dO i k with h|h
    ·exact I i h
    ·obtain rfl:i=k:=by omega
     grind
 ·obtain rfl:k=l.length:=by simp at a;omega
  have b:hasB l s=false:=by unfold hasB;rw[Ys];intro t h;obtain⟨i,c,rfl⟩:=AQ h;have:=I i c;simpa[nth,kQ,c]using this
  exact ay (by simp[E.den,b])
def nE(l:List ByteArray)(s:ByteArray):aG Tryz.prog 22 none [ak l,.str s] (.bool (hasB l s)) []:=by
 refine bZ apR aI2 ⟨kA l,trivial,trivial⟩ fun f=> ?_;have e:l.length<=9223372036854775807:=kF f.1;unfold apR;refine cU l.length (fun k=>[.int .i64 k]) (fun k=>∀i,i<k->nth l i≠s) rfl (by omega) ?_;intro k g I _;simp only[cA];apply aj<;>intro a<;>simp only[eS]at a
 ·have a:k<l.length:=by simp at a;exact a
  refine dK ?_;apply aj<;>intro d<;>simp only[eS,jr,fP]at d
  ·have b:hasB l s=true:=by
    unfold hasB;rw[uY];refine⟨s,?_,by simp⟩;have:nth l k=s:=by grind
    rw[<-this,nth,kQ,bX a];simp
   exact ay (by simp[E.den,b])
  ·refine cJ a ?_ fun i c=> ?_
   ·simp only[eS];rw[bF];rfl
   ·rcases dO i k with h|h
    ·exact I i h
    ·obtain rfl:i=k:=by omega
     grind
 ·obtain rfl:k=l.length:=by simp at a;omega
  have b:hasB l s=false:=by unfold hasB;rw[Ys];intro t h;obtain⟨i,c,rfl⟩:=AQ h;have:=I i c;simpa[nth,kQ,c]using this
  exact ay (by simp[E.den,b])
def Zm(l:List ByteArray)(s:ByteArray):aG Tryz.prog 8 none [ak l,.str s] (.bool (hasB l s)) []:=by
 refine bZ ao4 aIi ⟨kA l,trivial,trivial⟩ fun f=> ?_;have e:l.length<=9223372036854775807:=kF f.1;unfold ao4;refine cU l.length (fun k=>[.int .i64 k]) (fun k=>∀i,i<k->nth l i≠s) rfl (by omega) ?_;intro k g I _;simp only[cA];apply aj<;>intro a<;>simp only[eS]at a
 ·have a:k<l.length:=by simp at a;exact a
  refine dK ?_;apply aj<;>intro d<;>simp only[eS,jr,fP]at d
  ·have b:hasB l s=true:=by
    unfold hasB;rw[uY];refine⟨s,?_,by simp⟩;have:nth l k=s:=by grind
    rw[<-this,nth,kQ,bX a];simp
   exact ay (by simp[E.den,b])
  ·refine cJ a ?_ fun i c=> ?_
   ·simp only[eS];rw[bF];rfl
   ·rcases dO i k with h|h
    ·exact I i h
    ·obtain rfl:i=k:=by omega
     grind
 ·obtain rfl:k=l.length:=by simp at a;omega
  have b:hasB l s=false:=by unfold hasB;rw[Ys];intro t h;obtain⟨i,c,rfl⟩:=AQ h;have:=I i c;simpa[nth,kQ,c]using this
  exact ay (by simp[E.den,b])
def mStart:ByteArray:=⟨#[83,116,97,114,116]⟩
def dR:ByteArray:=⟨#[83,116,111,112]⟩
def kX:ByteArray:=⟨#[71,101,116]⟩
def jP:ByteArray:=⟨#[80,117,116]⟩
def jQ:ByteArray:=⟨#[84,101,108,108]⟩
def jD:ByteArray:=⟨#[72,101,97,114]⟩
def su:ByteArray:=⟨#[76,111,97,100]⟩
def Kf:ByteArray:=⟨#[83,97,118,101]⟩
def jo:ByteArray:=⟨#[72,101,97,108]⟩
def methods:Nat->List ByteArray
 |0=>[mStart,dR]
 |1=>[kX,jP]
 |2=>[jQ]
 |3=>[jD]
 |4=>[su,Kf]
 |5=>[jo]
 |_=>[]
def aDZ(k:Nat)(h:k<6)(v0 v1 v a v4 b:Value)(w:World):(Instr.index 186 (.agg #[v0,v1,v,a,v4,b]) (.int .i64 k)).run Tryz.prog w=.ok ([v0,v1,v,a,v4,b].getD k (.bool false)) w:=by
 obtain rfl|rfl|rfl|rfl|rfl|rfl:k=0\/k=1\/k=2\/k=3\/k=4\/k=5:=by omega
 all_goals kernel_rfl
def aD0:∀(k:Fin 6),∀s,s∈methods k.val->s.size<=maxLen:=by decide
def aG5(k:Nat)(a:k<6)(w:World)(M:Addr->Prop)(b:∀p,M p->p.block<w.heap.size) :
  Calls Tryz.prog 165 #[.int .i64 k] w fun e w'=>∃v,e=.returned v/\R w' M (ak (methods k)) v/\Below w.heap.size w w':=by
 have i:=aDZ k a;go_enter Tryz.func165,Tryz.ntmps165;go_wp2;go_returns;refine⟨_,rfl,?_,by go_grown⟩;have z:=aD0 ⟨k,a⟩;have m:∀n,∀o,¬M ⟨w.heap.size+n,o,none⟩:=fun n o h=>by have:=b _ h;simp at this;omega
 obtain rfl|rfl|rfl|rfl|rfl|rfl:k=0\/k=1\/k=2\/k=3\/k=4\/k=5:=by omega
 ·exact Ip _ (tv (tv (tv (tv (tv (JP (by simp))))))) rfl rfl (m 0) z (by decide)
 ·exact Ip _ (tv (tv (tv (tv (JP (by simp)))))) rfl rfl (m 1) z (by decide)
 ·exact Ip _ (tv (tv (tv (JP (by simp))))) rfl rfl (m 2) z (by decide)
 ·exact Ip _ (tv (tv (JP (by simp)))) rfl rfl (m 3) z (by decide)
 ·exact Ip _ (tv (JP (by simp))) rfl rfl (m 4) z (by decide)
 ·exact Ip _ (JP (by simp)) rfl rfl (m 5) z (by decide)
def axd(k:Nat)(h:k<6):aG Tryz.prog 165 none [.int .i64 k] (ak (methods k)) []:=by refine auJ (by kernel_rfl) fun w M s a r=> ?_;obtain⟨v,q,rfl,⟨rfl,_⟩,rfl⟩:=r;exact aG5 k h w M a
def axM(k:Nat)(a:k<6):dN Tryz.prog 114 none [.int .i64 k] (ak (methods k)) [] [(0,1)]:=by
 refine gu ap2 aJc ⟨rfl,trivial⟩ fun h=> ?_;unfold ap2;obtain rfl|rfl|rfl|rfl|rfl|rfl:k=0\/k=1\/k=2\/k=3\/k=4\/k=5:=by omega
 all_goals
  simp[VC.den,E.den,bg];rfl
def Iw(s:ByteArray)(k:Nat):Bool:=hasB (methods k) s
def jX(s:ByteArray):Int:=match eH (Iw s) 6 with|some k=>k|none=> -1
def agL(s:ByteArray):aG Tryz.prog 152 none [.str s] (.int .i64 (jX s)) []:=by
 refine bZ aoh aHx ⟨trivial,trivial⟩ fun f=> ?_;unfold aoh;refine cU 6 (fun k=>[.int .i64 k]) (fun k=>∀i,i<k->Iw s i=false) rfl (by omega) ?_;intro k c I _;simp only[cA];apply aj<;>intro a<;>simp only[eS]at a
 ·have a:k<6:=by simp at a;omega
  refine aH (axd k a) ?_;refine aH (Zj (methods k) s) ?_;apply aj<;>intro b<;>simp only[eS]at b
  ·refine ay ?_;simp[E.den,jX,yt b I a]
  ·refine cJ a ?_ fun i d=> ?_
   ·simp only[eS];rw[bF];rfl
   ·rcases dO i k with h|h
    ·exact I i h
    ·obtain rfl:i=k:=by omega
     exact b
 ·obtain rfl:k=6:=by simp at a;omega
  exact ay (by simp[E.den,jX,yq I])
def axn(s:ByteArray):aG Tryz.prog 73 none [.str s] (.int .i64 (jX s)) []:=by
 refine bZ ao8 aIn ⟨trivial,trivial⟩ fun f=> ?_;unfold ao8;refine cU 6 (fun k=>[.int .i64 k]) (fun k=>∀i,i<k->Iw s i=false) rfl (by omega) ?_;intro k c I _;simp only[cA];apply aj<;>intro a<;>simp only[eS]at a
 ·have a:k<6:=by simp at a;omega
  refine fD (axM k a) ?_;refine aH (nE (methods k) s) ?_;apply aj<;>intro b<;>simp only[eS]at b
  ·refine ay ?_;simp[E.den,jX,yt b I a]
  ·refine cJ a ?_ fun i d=> ?_
   ·simp only[eS];rw[bF];rfl
   ·rcases dO i k with h|h
    ·exact I i h
    ·obtain rfl:i=k:=by omega
     exact b
 ·obtain rfl:k=6:=by simp at a;omega
  exact ay (by simp[E.den,jX,yq I])
def af6(s:ByteArray):jX s<6:=by
 unfold jX;cases h:eH (Iw s) 6 with
 |none=>simp
 |some k=>have:=(xg h).1;simp;omega
def bY(s:ByteArray):Int:=if jX s<0 then 0 else((2^(jX s).toNat:Nat):Int)
def aud(s:ByteArray):(bY s=0)↔jX s<0:=by
 unfold bY;split
 ·simp[*]
 ·have:=Nat.two_pow_pos (jX s).toNat;constructor<;>intro h<;>omega
def FE(s:ByteArray):aG Tryz.prog 41 none [.str s] (.int .i64 (bY s)) []:=by
 refine bZ apN aIY ⟨trivial,trivial⟩ fun f=> ?_;unfold apN;refine aH (axn s) ?_;apply aj<;>intro h<;>simp only[eS]at h
 ·have h:jX s<0:=by simpa using h
  exact ay (by simp[E.den,bY,h])
 have h:¬jX s<0:=by simpa using h
 have b:=af6 s;refine aQ (fun _=> ?_) (ay ?_)
 ·simp[E.den,bg];omega
 ·have e:=agj ⟨(jX s).toNat,by omega⟩;have a:(((jX s).toNat:Nat):Int)=jX s:=by omega
  rw[a]at e;simp only[eS,e];simp[bY,h]
def gy(c:Call):Bool:= !decide (jX c.method<0)&&(decide (c.text=cL)||decide (c.method=su)) &&
 ((decide (c.method=kX)||decide (c.method=jP))&&kY c.key|| !(decide (c.method=kX)||decide (c.method=jP))&&decide (c.key=cL)) &&
 (decide (c.val=0)||(decide (c.method=jP)||decide (c.method=jD))&&decide (0<c.val)&&decide (c.val<=999))
def ab8:kX≠jP/\kX≠jD/\jP≠jD:=by decide
def Sx(c:Call):aG Tryz.prog 129 none [enc c] (.bool (gy c)) []:=by
 refine bZ apf aIu ⟨Co c,trivial⟩ fun f=> ?_;unfold apf;refine aH (FE c.method) ?_;refine aH (MF c.key) ?_;apply aj<;>intro h<;>simp only[eS,fB]at h
 ·have:=aud c.method;have:=ab8;refine ay ?_;simp only[E.den,D.bool.injEq];unfold gy kX jP jD su cL at *;grind
 have:=aud c.method;have:=ab8;refine ay ?_;simp only[eS,fB];simp only[D.bool.injEq];unfold gy kX jP jD su cL at *;grind
def agM(c:Call):aG Tryz.prog 122 none [enc c] (.bool (gy c)) []:=by
 refine bZ aol aHA ⟨Co c,trivial⟩ fun f=> ?_;have n:=ab8;unfold aol;refine aH (agL c.method) ?_;apply aj<;>intro h<;>simp only[eS,fB]at h
 ·refine ay ?_;simp only[E.den,D.bool.injEq];unfold gy kX jP jD su cL at *;grind
 apply aj<;>intro a<;>simp only[eS,fB]at a
 ·refine aH (I9 c.key) ?_;refine ay ?_;simp only[eS,fB];simp only[D.bool.injEq];unfold gy kX jP jD su cL at *;grind
 apply aj<;>intro b<;>simp only[eS,fB]at b
 ·refine aH (I9 c.key) ?_;refine aH (ME c.val) ?_;refine ay ?_;simp only[eS,fB];simp only[D.bool.injEq];unfold gy kX jP jD su cL gM at *;grind
 apply aj<;>intro d<;>simp only[eS,fB]at d
 ·refine aH (ME c.val) ?_;refine ay ?_;simp only[eS,fB];simp only[D.bool.injEq];unfold gy kX jP jD su cL gM at *;grind
 refine ay ?_;simp only[eS,fB];simp only[D.bool.injEq];unfold gy kX jP jD su cL at *;grind
def nV:Call:=⟨cL,cL,0,cL⟩
def ahW(c:Call):kU [.str c.method,.str c.key,.int .i64 c.val,.str c.text] [.str ⟨#[]⟩,.str ⟨#[]⟩,.int .i64 0,.str ⟨#[]⟩]=decide (c=nV):=azc c nV
def axj(c:Call):aG Tryz.prog 123 none [enc c] (.bool (decide (c=nV))) []:=by refine bZ ao2 aIg ⟨Co c,trivial⟩ fun h=> ?_;unfold ao2;refine ay ?_;simp only[eS,fB,ahW]
def xe(e:Event):Bool:=decide (1<=e.kind)&&decide (e.kind<=5)&&kY e.name&&(decide (e.kind=3)&&gy e.call|| !decide (e.kind=3)&&decide (e.call=nV))&&(decide (e.kind=5)&&jq e.recipe|| !decide (e.kind=5)&&decide (e.recipe.length=0))
def axq(e:Event):aG Tryz.prog 92 none [enc e] (.bool (xe e)) []:=by
 refine bZ apj aIy ⟨Cp e,trivial⟩ fun f=> ?_;unfold apj;refine aH (Dg e.recipe) ?_;refine aH (Sx e.call) ?_;refine aH (MF e.name) ?_;apply aj<;>intro h<;>simp only[eS,tj]at h
 ·refine ay ?_;simp only[E.den,D.bool.injEq];unfold xe;grind
 apply aj<;>intro a<;>simp only[eS,tj,ahW]at a
 ·refine ay ?_;simp only[E.den,D.bool.injEq];unfold xe;grind
 refine ay ?_;simp only[eS,tj];simp only[D.bool.injEq];unfold xe;grind
def awS(e:Event):aG Tryz.prog 82 none [enc e] (.bool (xe e)) []:=by
 refine bZ aop aHE ⟨Cp e,trivial⟩ fun f=> ?_;unfold aop;refine aH (I9 e.name) ?_;apply aj<;>intro h<;>simp only[eS,tj]at h
 ·refine ay ?_;simp only[E.den,D.bool.injEq];unfold xe;grind
 refine aH (agM e.call) ?_;refine aH (axj e.call) ?_;apply aj<;>intro a<;>simp only[eS,tj]at a
 ·refine ay ?_;simp only[E.den,D.bool.injEq];unfold xe;grind
 apply aj<;>intro b<;>simp only[eS,tj]at b
 ·refine aH (Zh e.recipe) ?_;refine ay ?_;simp only[eS,tj];simp only[D.bool.injEq];unfold xe;grind
 refine ay ?_;simp only[eS,tj];simp only[D.bool.injEq];unfold xe;grind
end
variable {sep t x:List UInt8}
section
def jz(n:Nat):List UInt8 :=
 if n<10 then [UInt8.ofNat (48+n)]else if n<100 then [UInt8.ofNat (48+n/10),UInt8.ofNat (48+n%10)]else [UInt8.ofNat (48+n/100),UInt8.ofNat (48+n/10%10),UInt8.ofNat (48+n%10)]
def ahB(h:n<1000):Lib.decDigits n=jz n:=by
 unfold jz;by_cases a:n<10
 ·rw[aD a,Lib.decDigits,dif_pos a]
 ·rw[aw a,Lib.decDigits,dif_neg a];by_cases b:n<100
  ·rw[aD b,Lib.decDigits,dif_pos (by omega)];rfl
  ·rw[aw b,Lib.decDigits,dif_neg (by omega),Lib.decDigits,dif_pos (by omega),show n/10/10=n/100 by omega];rfl
def abS(b:UInt8):Bool:=decide (48<=b.toNat/\b.toNat<=57)
def wB(l:List UInt8):Int:=(l.take 4).foldl (fun n c=>10*n+(c.toNat:Int)-48) 0
def MS:∀n∈List.range 1000,(Lib.atoi (jz n)=some (n:Int)/\wB (jz n)=(n:Int)/\0<(jz n).length/\(jz n).length<=3)/\(jz n).all abS=true:=by decide +kernel
def ahC(h:n<1000):Lib.atoi (jz n)=some (n:Int):=(MS n (om.2 h)).1.1
def ayK(h:n<1000):wB (jz n)=(n:Int):=(MS n (om.2 h)).1.2.1
def ayJ(h:n<1000):0<(jz n).length:=(MS n (om.2 h)).1.2.2.1
def ZH(h:n<1000):(jz n).length<=3:=(MS n (om.2 h)).1.2.2.2
def ayH(h:n<1000):(jz n).all abS=true:=(MS n (om.2 h)).2
def ayI{m:Nat}(b:n<1000)(c:m<1000)(h:jz n=jz m):n=m:=by have a:=ahC b;have d:=ahC c;rw[h,d]at a;simp at a;omega
def zY(l:List UInt8):Option Nat:=(List.range 1000).find? fun n=>decide (jz n=l)
def aci{l:List UInt8}:zY l=some n↔n<1000/\jz n=l:=by
 unfold zY;constructor
 ·intro h;exact⟨om.1 (agf h),by simpa using List.find?_some h⟩
 ·rintro⟨a,b⟩;cases f:(List.range 1000).find? fun n=>decide (jz n=l)with
  |none=>have:=List.find?_eq_none.1 f n (om.2 a);simp[b]at this
  |some m=>
   have c:=om.1 (agf f);have e:jz m=l:=by simpa using List.find?_some f
   rw[ayI c a (e.trans b.symm)]
def alZ{c:UInt8}{l:List UInt8}(h:l.head?≠some c):(c::t).isPrefixOf l=false:=by
 cases l with
 |nil=>rfl
 |cons b r=> have:c≠b:=fun e=>h (by simp[e]);simp[List.isPrefixOf,this]
def index_none'{c:UInt8}{t:List UInt8}:∀{x:List UInt8},c∉x->Lib.index x (c::t)= -1
 |[],_=>rfl
 |b::x,h=>by unfold Lib.index;rw[alZ (by intro e;simp at e;exact h (by simp[e])),index_none' (x:=x) (fun e=>h (by simp[e]))];rfl
def abQ{c:UInt8}{t rest:List UInt8}:∀{x:List UInt8},c∉x->Lib.index (x++((c::t)++rest)) (c::t)=x.length
 |[],_=>by
  simp only[iw,gY,pg];unfold Lib.index;have:(c::t).isPrefixOf (c::(t++rest))=true:=by rw[List.isPrefixOf_iff_prefix];exact⟨rest,rfl⟩
  rw[this];rfl
 |b::x,h=>by have a:c∉x:=fun e=>h (by simp[e]);have ih:=abQ (t:=t) (rest:=rest) a;rw[gY];unfold Lib.index;rw[alZ (by intro e;simp at e;exact h (by simp[e])),ih];simp
def VG{s:List UInt8}(h:Lib.index s sep= -1):Lib.split s sep=[s]:=by unfold Lib.split;rw[Lib.count_miss h];rfl
def ac7{s:List UInt8}{i:Nat}(e:sep≠[])(h:Lib.index s sep=i):Lib.split s sep=s.take i::Lib.split (s.drop (i+sep.length)) sep:=by unfold Lib.split;rw[Lib.count_hit e h,C8 1,Lib.splitK];rw[aw (by rw[h];simp),h];simp
def abV{sep:List UInt8}(p:sep≠[]):∀(n:Nat) (s:List UInt8),s.length<=n->Lib.join (Lib.split s sep) sep=s/\Lib.split s sep≠[]
 |n,s,f=>by
  rcases Lib.index_spec s sep with⟨h,_⟩|⟨i,h,h1,h2,_⟩
  ·rw[VG h];exact⟨Lib.join_one _ _,by simp⟩
  ·rw[ac7 p h];have m:=Lib.index_room s sep (by rw[h];omega);have b:0<sep.length:=Yz.2 p;rw[h]at m;have l:(s.drop (i+sep.length)).length<s.length:=by simp;omega
   cases n with
   |zero=>omega
   |succ n=>
    obtain⟨q1,q2⟩:=abV p n (s.drop (i+sep.length)) (by omega);refine⟨?_,by simp⟩;cases a:Lib.split (s.drop (i+sep.length)) sep with
    |nil=>exact absurd a q2
    |cons y r=>
     rw[a]at q1;have e:Lib.join (s.take i::y::r) sep=s.take i++(sep++Lib.join (y::r) sep):=by rw[Lib.join_cons,Lib.join_cons];simp[Lib.joinTail]
     rw[e,q1];have o:=Lib.occAt_iff_take s sep i (by omega);rw[h2]at o;have c:(s.drop i).take sep.length=sep:=by simpa using o.symm
     have d:s.drop (i+sep.length)=(s.drop i).drop sep.length:=by rw[C5]
     rw[d]
     conv=>lhs;rw[show sep++(s.drop i).drop sep.length=(s.drop i).take sep.length++(s.drop i).drop sep.length by rw[c]]
     rw[Fg,Fg]
def ayl{c:UInt8}{rest:List UInt8}(h:c∉x):Lib.cut (x++((c::t)++rest)) (c::t)=(x,rest,true):=by unfold Lib.cut;rw[abQ h,aD (by omega)];simp
def aym{c:UInt8}(h:c∉x):Lib.cut x (c::t)=(x,[],false):=by unfold Lib.cut;rw[index_none' h];rfl
end
end Go.Proofs.YtoomhbopolalnaaGreatDoor
