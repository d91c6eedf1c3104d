/- Contracts: the reference's cores: cells read, a call of a core (spec.CallCore). -/
import Derived.Test.YtoomhbopolalnabGreatDoorT18
set_option linter.all false
set_option maxRecDepth 100000
namespace Go.Proofs.YtoomhbopolalnabGreatDoor
variable {c1 c2 cs:Array Value}{b cap n:Nat}{I:Nat->List (Nat×Value)->World->Prop}{N N':Nat->Prop}{x:Operand}{p:Part}{P:Program}{A3 T e g m t y:TypeId}{S1 S2 v:Value}{w w':World}
section
open Go.RowKit Go
variable [GC]
def aHZ(l:List (List UInt8)):Co l=aj (l.map bs):=by simp only[Co,aj,Rj];congr 1
def aht(s sep:ByteArray)(a:sep.data.toList≠[])(h1:sep.data.toList.length<=100)(c:s.size<4294967281):dJ az 199 none [.str s,.str sep] (aj (pieces s sep)) [] [(0,1)]:=by have h:=ayt s sep.data.toList a h1 c;rw[aHZ,aho]at h;exact h
def aET(h:n<1000):(61:UInt8)∉jD n:=by intro m;have:=fH.1 (azv h) _ m;simp[acz]at this
def adO{c:UInt8}(s:List UInt8):(Lib.cut s [c]=(s,[],false)/\Lib.split s [c]=[s])\/((Lib.cut s [c]).2.2=true/\Lib.split s [c]=(Lib.cut s [c]).1::Lib.split (Lib.cut s [c]).2.1 [c]):=by
 by_cases h:c∈s
 ·right;obtain⟨a,b,rfl,f⟩:=List.eq_append_cons_of_mem h;have e:a++c::b=a++((c::[])++b):=rfl;rw[e,azb f];refine⟨rfl,?_⟩;rw[adP (by simp) (acx f)];simp
 ·left;exact⟨azc h,Wm (index_none' h)⟩
def aHk{c:UInt8}{s:List UInt8}(h:c∉s):Lib.split s [c]=[s]:=Wm (index_none' h)
def aFo{x:ByteArray}(h:(pieces x zh).length=2):pieces x zh=[pcA x,GN x]/\(Lib.cut x.data.toList [61]).2.2=true:=by
 have e:pieces x zh=(Lib.split x.data.toList [61]).map bs:=rfl;rw[e]at h ⊢;rw[di]at h;rcases adO (c:=61) x.data.toList with⟨f,a⟩|⟨f,a⟩
 ·rw[a]at h;simp at h
 ·rw[a]at h ⊢;simp only[dR]at h;rcases adO (c:=61) (Lib.cut x.data.toList [61]).2.1 with⟨g,c⟩|⟨g,c⟩
  ·rw[c];exact⟨rfl,f⟩
  ·exfalso;rw[c]at h;have:=(acB (sep:=[61]) (by simp) _ (Lib.cut (Lib.cut x.data.toList [61]).2.1 [61]).2.1 (bM _)).2;simp only[dR]at h;exact this (mO (by omega))
def aFn{x:ByteArray}(h:Cg x=true):(pieces x zh).length=2:=by
 have e:pieces x zh=(Lib.split x.data.toList [61]).map bs:=rfl;unfold Cg at h;simp only[aX]at h;obtain⟨n,f,g, -⟩:=aE1 h.2;rw[e,di];rcases adO (c:=61) x.data.toList with⟨a,c⟩|⟨a,c⟩
 ·rw[a]at h;simp at h
 ·rw[c];have z:(Lib.cut x.data.toList [61]).2.1=jD n:=by have:=congrArg (fun b:ByteArray=>b.data.toList) g;simpa[GN,axF]using this
  rw[z,aHk (aET f)];rfl
def ayo(s:ByteArray)(G:s.size<4294967281):dJ az 187 none [.str s] (.aU [aj (pP s).1,.bool (pP s).2]) [] [(0,2)]:=by
 refine gh aqs aJq ⟨trivial,trivial⟩ fun C=> ?_;unfold aqs;refine ai (fun h=>ay ?_) (fun h=> ?_)
 ·simp only[eS,aoc]at h;have h:s=Pp:=by simpa using h
  rw[pP,aC h];rfl
 simp only[eS,aoc]at h;have A:s≠Pp:=by simpa using h
 refine dU (aht s ju (by decide) (by decide) G) ?_ (ha:=by(simp only[gS,aob];try exact rfl));have V:=(amI (s:=s) (sep:=ju) (by decide)).1;have y:∀k,k<(pieces s ju).length->(nth (pieces s ju) k).size<4294967281:=fun k z=>by have:=aFp (s:=s) (sep:=ju) (by decide) z;omega
 have m:∀k,k<(pieces s ju).length->Cg (nth (pieces s ju) k)=false->(.aU [aj (pP s).1,.bool (pP s).2]:D)=.aU [aj ([]:List Cell),.bool false]:=fun k z r=>by
  have H:GM s=false:=by
   cases h:GM s with
   |false=>rfl
   |true=> unfold GM at h;simp only[aX]at h;have:=fH.1 h.1.1 _ (gK z);rw[r]at this;cases this
  rw[pP,aw A,aw (by simp[H])]
 refine cQ (pieces s ju).length (fun k=>[aj (((pieces s ju).take k).map px),.int .i64 k]) (fun k=>∀i,i<k->Cg (nth (pieces s ju) i)=true) rfl (by omega) ?_;intro k z I _;simp only[cA];apply ai<;>intro a<;>simp only[eS]at a
 ·have a:k<(pieces s ju).length:=by simp at a;exact a
  refine eu ?_;refine dU (aht (nth (pieces s ju) k) zh (by decide) (by decide) (y k a)) ?_ (ha:=by(simp only[gS,gZ,eO,gR,Wo];try exact rfl));refine ai (fun c=>ay ?_) (fun c=> ?_)
  ·simp only[eS]at c;have c:(pieces (nth (pieces s ju) k) zh).length≠2:=by simp at c;omega
   rw[m k a (by cases r:Cg (nth (pieces s ju) k)with|false=>rfl|true=>exact absurd (aFn r) c)];rfl
  simp only[eS]at c;have c:(pieces (nth (pieces s ju) k) zh).length=2:=by simp at c;omega
  obtain⟨e,J⟩:=aFo c
  (refine aM (fun t=> ?_) ?_;(focus (simp only[cP,fI,tZ,wU,Dg,A8,eS,e]at t ⊢;(try simp only[D.bool.injEq]at t);(try simp only[D.bool.injEq]);grind)))
  refine FF ?_ (ayp (GN (nth (pieces s ju) k))) (aIU _) ?_
  ·simp only[List.map,E.den,e,gZ,eO,aE6,Z8,iEq,sEq];rfl
  simp only[cA];refine ai (fun f=>ay ?_) (fun f=> ?_)
  ·simp only[eS,GG]at f;have f:Ac (GN (nth (pieces s ju) k))=false:=by simpa using f
   rw[m k a (by unfold Cg;rw[f,YT])];rfl
  ·simp only[eS,GG]at f;have f:Ac (GN (nth (pieces s ju) k))=true:=by simpa using f
   (refine aM (fun t=> ?_) ?_;(focus (simp only[cP,fI,tZ,wU,Dg,A8,eS,e]at t ⊢;(try simp only[D.bool.injEq]at t);(try simp only[D.bool.injEq]);grind)))
   refine aM (fun _=> ?_) ?_
   ·simp only[eS];simp[maxLen];omega
   refine cK a ?_ fun i B=> ?_
   ·simp only[eS,GG,gZ,eO];rw[bC,alR _ a,e,acV];simp[aj,mS,px]
   ·rcases dP i k with h|h
    ·exact I i h
    ·obtain rfl:i=k:=by omega
     unfold Cg;simp[J,f]
 ·obtain rfl:k=(pieces s ju).length:=by simp at a;omega
  have F:(pieces s ju).take (pieces s ju).length=pieces s ju:=uY;have y:GM s=iS (Ce s):=by
   unfold GM;have:(pieces s ju).all Cg=true:=fH.2 fun x O=>by obtain⟨i,B,rfl⟩:=tX O;have:=I i B;simpa[nth,B]using this
   rw[this,oC];cases r:iS (Ce s)with
   |false=>simp
   |true=> have:=yp r;unfold Ce at this;rw[di]at this;simp[this]
  refine aF (ZV (Ce s)) ?_ (ha:=by(simp only[gS,F,Ce];try exact rfl));refine ai (fun g=>ay ?_) (fun g=>ay ?_)
  ·simp only[eS]at g;have g:iS (Ce s)=false:=by simpa using g
   rw[pP,aw A,aw (by rw[y,g];simp)];rfl
  ·simp only[eS]at g;have g:iS (Ce s)=true:=by simpa using g
   rw[pP,aw A,aC (by rw[y,g])];simp only[eS,F];rfl
def Tr(n:Int)(h:gL n=true):aH az 175 none [.int .i64 n] (.int .i64 (jg n)) []:=by
 refine cu aq3 aJY ⟨rfl,trivial⟩ fun f=> ?_;unfold aq3;obtain⟨a,c⟩:=Ab.1 h;have e:jg n=min (n+1) 999:=by unfold jg;rw[wrap_i64 (by omega) (by omega)]
 refine ai (fun g=>ay ?_) (fun g=>ay ?_)
 ·simp only[eS]at g ⊢;have g:999<=n:=by simpa using g
  rw[e];congr 1;omega
 ·simp only[eS]at g ⊢;have g:n<999:=by simpa using g
  rw[bC,e];congr 1;omega
def ayE(p:Core)(x:Call)(B:oK p=true)(H:iB x=true):aH az 186 none [enc p,enc x,.bool ((fR p.kind).testBit 0)] (.aU [enc (keepD p x).1,enc (keepD p x).2]) []:=by
 refine cu aqX aJS ⟨rI p,Cq x,trivial,trivial⟩ fun z=> ?_;unfold aqX;obtain⟨I,t,J,C,O,V⟩:=rY.1 B;have F:=yp t;have a:=amJ (Tw t) x.key;have y:kD p.cells x.key=true->dG p.cells x.key<p.cells.length:=fun h=>(BO.1 h).1;have r:(⟨#[71,101,116]⟩:ByteArray)=kW:=rfl;refine aF (ahK p.cells x.key) ?_;refine ai (fun h=>ay ?_) (fun f=> ?_)
 ·simp only[eS,fK,fF]at h ⊢;have e:keepD p x=(p,rep 2 0 0 0):=by unfold keepD;rw[aC (by simpa using h)]
  rw[e];rfl
 simp only[eS,fK,fF]at f;have f:¬((fR p.kind).testBit 0=true/\p.on=false):=by simpa using f
 refine ai (fun h=>ay ?_) (fun A=> ?_)
 ·simp only[eS,fK,fF,r]at h ⊢;simp only[aX,du]at h;have c:kD p.cells x.key=false:=by
   cases c:kD p.cells x.key with
   |false=>rfl
   |true=>rw[c]at a;simp at a;omega
  have e:keepD p x=(p,rep 4 0 0 0):=by unfold keepD;rw[aw f,aC h.1,c];rfl
  rw[e];rfl
 simp only[eS,fK,fF,r]at A;refine ai (fun h=> ?_) (fun g=> ?_)
 ·simp only[eS,fK,fF,r]at h;have h:x.method=kW:=by simpa using h
  have c:kD p.cells x.key=true:=by
   cases c:kD p.cells x.key with
   |true=>rfl
   |false=>rw[c]at a;simp[h]at A;simp at a;omega
  have X:=y c;rw[c]at a;have a:GP p.cells x.key=((dG p.cells x.key:Nat):Int):=by simpa using a
  rw[a];refine eu ?_;refine ay ?_;simp only[eS,fK,sJ,mS,gR];have e:keepD p x=(p,rep 0 (nth p.cells (dG p.cells x.key)).val 0 0):=by unfold keepD;rw[aw f,aC h,aC c]
  rw[e];rfl
 simp only[eS,fK,fF,r]at g;have g:x.method≠kW:=by simpa using g
 refine ai (fun h=>ay ?_) (fun m=> ?_)
 ·simp only[eS,fK,fF]at h ⊢;simp only[aX,du]at h;have c:kD p.cells x.key=false:=by
   cases c:kD p.cells x.key with
   |false=>rfl
   |true=>rw[c]at a;simp at a;omega
  have e:keepD p x=(p,rep 5 0 0 0):=by unfold keepD;rw[aw f,aw g,aC ⟨c,by have:=h.2;simp at this;omega⟩]
  rw[e];rfl
 simp only[eS,fK,fF]at m;have m:¬(kD p.cells x.key=false/\4<=p.cells.length):=by
  rintro⟨G,Y⟩;rw[G]at a;have a:GP p.cells x.key= -1:=by simpa using a
  rw[a]at m;simp at m;omega
 refine dU (ahL p.cells x.key x.val (Tw t) (by omega)) (hty:=xR _) ?_;refine aF (Tr p.count C) ?_;refine ay ?_;simp only[eS,fK,fF];have e:keepD p x=(⟨p.kind,p.on,p.broken,sD p.cells x.key x.val,jg p.count⟩,rep 0 (sD p.cells x.key x.val).length 0 0):=by unfold keepD;rw[aw f,aw g,aw m]
 rw[e];rfl
def ayF(p:Core)(x:Call)(A:oK p=true)(B:x.method=mStart\/x.method=dY\/x.method=jr)(hb:¬(p.broken=true/\x.method≠jr/\x.method≠jT)):aH az 188 none [enc p,.str x.method] (.aU [enc (fp p x).1,enc (fp p x).2]) []:=by
 refine cu aq1 aJW ⟨rI p,trivial,trivial⟩ fun t=> ?_;unfold aq1;obtain⟨F,G,H,C,I,J⟩:=rY.1 A;have m:(⟨#[72,101,97,108]⟩:ByteArray)=jr:=rfl;have c:(⟨#[83,116,111,112]⟩:ByteArray)=dY:=rfl;refine ai (fun h=>ay ?_) (fun e=> ?_)
 ·simp only[eS,fK,m]at h ⊢;have h:x.method=jr:=by simpa using h
  have a:fp p x=(⟨p.kind,false,false,p.cells,p.count⟩,rep 0 0 0 0):=by unfold fp iB;rw[aw hb];simp only[h];rfl
  rw[a];rfl
 simp only[eS,m]at e;have e:x.method≠jr:=by simpa using e
 refine ai (fun h=>ay ?_) (fun r=> ?_)
 ·simp only[eS,fK,c]at h ⊢;have h:x.method=dY/\p.on=false:=by simpa using h
  obtain⟨h,g⟩:=h;have a:fp p x=(p,rep 2 0 0 0):=by unfold fp;rw[aw hb,aw (show ¬x.method=mStart by rw[h];decide),aC h,aC g]
  rw[a];rfl
 simp only[eS,fK,c]at r;refine ai (fun h=>ay ?_) (fun f=> ?_)
 ·simp only[eS,fK,c]at h ⊢;have h:x.method=dY:=by simpa using h
  have g:¬p.on=false:=by simpa[h]using r
  have a:fp p x=(⟨p.kind,false,p.broken,p.cells,p.count⟩,rep 0 0 0 0):=by unfold fp;rw[aw hb,aw (show ¬x.method=mStart by rw[h];decide),aC h,aw g]
  rw[a];rfl
 simp only[eS,c]at f;have f:x.method≠dY:=by simpa using f
 have y:x.method=mStart:=by rcases B with h|h|h;exact h;exact absurd h f;exact absurd h e
 refine ai (fun h=>ay ?_) (fun z=> ?_)
 ·simp only[eS,fK]at h ⊢;have h:p.on=true:=by simpa using h
  have a:fp p x=(⟨p.kind,false,true,p.cells,p.count⟩,rep 3 0 0 0):=by unfold fp;rw[aw hb,aC y,aC h]
  rw[a];rfl
 simp only[eS,fK]at z;refine aF (Tr p.count C) ?_;refine ay ?_;simp only[eS,fK];have a:fp p x=(⟨p.kind,true,p.broken,p.cells,jg p.count⟩,rep 0 0 0 0):=by unfold fp;rw[aw hb,aC y,aw (by simpa using z)]
 rw[a];rfl
def aK6{x:Call}(hx:gu x=true):∃j:Fin 6,cg x.method=((2^j.val:Nat):Int)/\x.method∈methods j.val:=Vx (MR hx)
def ayD(p:Core)(x:Call)(f:oK p=true)(hx:gu x=true)(Z:x.text.size<4294967281):aH az 174 none [enc p,enc x,.bool ((fR p.kind).testBit 0)] (.aU [enc (fp p x).1,enc (fp p x).2]) []:=by
 refine cu aqW aJR ⟨rI p,Cq x,trivial,trivial⟩ fun H=> ?_;unfold aqW;have a:=f;obtain⟨a,c,e,B,g,m⟩:=rY.1 f;have I:(⟨#[72,101,97,108]⟩:ByteArray)=jr:=rfl;have m:(⟨#[84,101,108,108]⟩:ByteArray)=jT:=rfl;have F:(⟨#[71,101,116]⟩:ByteArray)=kW:=rfl;have J:(⟨#[80,117,116]⟩:ByteArray)=jS:=rfl;have O:(⟨#[72,101,97,114]⟩:ByteArray)=jG:=rfl;have V:(⟨#[83,97,118,101]⟩:ByteArray)=J9:=rfl;have X:(⟨#[76,111,97,100]⟩:ByteArray)=sw:=rfl;refine ai (fun h=>ay ?_) (fun Y=> ?_)
 ·simp only[eS,fK,fF,I,m]at h ⊢;have h:p.broken=true/\x.method≠jr/\x.method≠jT:=by simpa[and_assoc]using h
  have a:fp p x=(p,rep 3 0 0 0):=by unfold fp;rw[aC h]
  rw[a];rfl
 simp only[eS,fK,fF,I,m]at Y;have c:¬(p.broken=true/\x.method≠jr/\x.method≠jT):=by rintro⟨q1,q2,q3⟩;simp[q1,q2,q3]at Y
 have K:iB x=true->fp p x=keepD p x:=fun h=>by obtain⟨r,t,y,e,g⟩:=OB h;unfold fp;rw[aw c,aw e,aw g,aC h]
 have e:iB x=true->aH az 186 none [enc p,enc x,.bool ((fR p.kind).testBit 0)] (.aU [enc (fp p x).1,enc (fp p x).2]) []:=fun h=>by rw[K h];exact ayE p x f h
 refine ai (fun h=> ?_) (fun t=> ?_)
 ·simp only[eS,fK,fF,F]at h;have h:x.method=kW:=by simpa using h
  refine ai (fun _=> ?_) (fun g=> ?_)
  ·refine aF (e (Vg.2 (.inl h))) (hty:=⟨rI _,wC _,trivial⟩) ?_;refine ay ?_;simp only[eS]
  ·simp only[eS,fF,F]at g;simp[h]at g
 simp only[eS,fK,fF,F]at t;have t:x.method≠kW:=by simpa using t
 refine ai (fun h=> ?_) (fun y=> ?_)
 ·simp only[eS,fK,fF,J]at h;have h:x.method=jS:=by simpa using h
  refine aF (e (Vg.2 (.inr h))) (hty:=⟨rI _,wC _,trivial⟩) ?_;refine ay ?_;simp only[eS]
 simp only[eS,fK,fF,J]at y;have y:x.method≠jS:=by simpa using y
 refine ai (fun h=>ay ?_) (fun z=> ?_)
 ·simp only[eS,fK,fF,m]at h ⊢;have h:x.method=jT:=by simpa using h
  have a:fp p x=(p,rep 0 p.count 0 0):=by unfold fp iB;rw[aw c];simp only[h];rfl
  rw[a];rfl
 simp only[eS,fK,fF,m]at z;have z:x.method≠jT:=by simpa using z
 refine ai (fun h=> ?_) (fun A=> ?_)
 ·simp only[eS,fK,fF,O]at h;have h:x.method=jG:=by simpa using h
  refine aF (Tr p.count B) ?_;refine ay ?_;simp only[eS,fK,fF];have a:fp p x=(⟨p.kind,if x.val=0 then false else if x.val=1 then true else p.on,p.broken,p.cells,jg p.count⟩,rep 0 (jg p.count) 0 0):=by unfold fp iB;rw[aw c];simp only[h];rfl
  have e:((x.val==1)||(p.on&&(x.val != 0)))=(if x.val=0 then false else if x.val=1 then true else p.on):=by
   by_cases G:x.val=0
   ·simp[G]
   ·by_cases r:x.val=1
    ·simp[r]
    ·rw[aw G,aw r,show(x.val==1)=false from by simpa using r,show(x.val != 0)=true from by simpa using G];simp
  rw[a,e];rfl
 simp only[eS,fK,fF,O]at A;have A:x.method≠jG:=by simpa using A
 refine ai (fun h=> ?_) (fun B=> ?_)
 ·simp only[eS,fK,fF,V]at h;have h:x.method=J9:=by simpa using h
  refine aF (ahC p.cells) ?_;refine ay ?_;simp only[eS,fK,fF];have a:fp p x=(p,⟨0,0,fmtC p.cells,0,0⟩):=by unfold fp iB;rw[aw c];simp only[h];rfl
  rw[a];rfl
 simp only[eS,fK,fF,V]at B;have B:x.method≠J9:=by simpa using B
 refine ai (fun h=> ?_) (fun C=> ?_)
 ·simp only[eS,fK,fF,X]at h;have h:x.method=sw:=by simpa using h
  have a:fp p x=(if(pP x.text).2=true then(⟨p.kind,p.on,p.broken,(pP x.text).1,p.count⟩,rep 0 (pP x.text).1.length 0 0)else(p,rep 6 0 0 0)):=by unfold fp iB;rw[aw c];simp only[h];rfl
  refine dU (ayo x.text Z) (hty:=⟨xR _,trivial,trivial⟩) ?_;refine ai (fun g=>ay ?_) (fun g=>ay ?_)
  ·simp only[eS,fK]at g ⊢;have g:(pP x.text).2=false:=by simpa using g
   rw[a,g];rfl
  ·simp only[eS,fK]at g ⊢;have g:(pP x.text).2=true:=by simpa using g
   rw[a,aC g];rfl
 simp only[eS,fK,fF,X]at C;have C:x.method≠sw:=by simpa using C
 have a:x.method=mStart\/x.method=dY\/x.method=jr:=by
  obtain⟨j, -,e⟩:=aK6 hx;have g:∀j:Fin 6,∀s:ByteArray,s∈methods j.val->s=mStart\/s=dY\/s=jr\/s=kW\/s=jS\/s=jT\/s=jG\/s=sw\/s=J9:=by decide
  rcases g j _ e with h|h|h|h|h|h|h|h|h
  ·exact .inl h
  ·exact .inr (.inl h)
  ·exact .inr (.inr h)
  ·exact absurd h t
  ·exact absurd h y
  ·exact absurd h z
  ·exact absurd h A
  ·exact absurd h C
  ·exact absurd h B
 refine aF (ayF p x f a c) (hty:=⟨rI _,wC _,trivial⟩) ?_;refine ay ?_;simp only[eS]
def aye(p:Core)(x:Call)(a:oK p=true)(hx:gu x=true)(ho:cw (fR p.kind) (cg x.method)=true)(t:x.text.size<4294967281):aH az 162 none [enc p,enc x] (.aU [enc (fp p x).1,enc (fp p x).2]) []:=by
 refine cu apZ aIY ⟨rI p,Cq x,trivial⟩ fun f=> ?_;unfold apZ;obtain⟨g,c,m,r,y,z⟩:=rY.1 a;have e:=yp c;refine dU (ZZ p (by omega)) (hty:=rI _) ?_;refine aF (ahE p) ?_;refine aF (Tm x) ?_;apply ai<;>intro h
 ·simp only[eS]at h;rw[a,hx]at h;cases h
 refine aF (I5 p.kind) ?_;refine aF (Fy x.method) ?_;refine aF (wW (fR p.kind) (cg x.method)) ?_;apply ai<;>intro h
 ·simp only[eS]at h;rw[ho]at h;cases h
 refine aF (MP (fR p.kind) 0 (DN _) (by omega)) ?_;refine aF (ayD p x a hx t) (hty:=⟨rI _,wC _,trivial⟩) ?_;refine ay ?_;simp only[eS]
structure PV(K N:Nat->Prop)(w:World)(S1 S2:Value)(p:Part):Prop where
 gi:qd w/\NG<=w.heap.size
 kb:∀b,K b->NG<=b
 kn:∀b,K b->N b
 nb:∀b,N b->b<w.heap.size
 cs:R w (fun a=>N a.block) (aj p.core.cells) S1
 ly:∃g,lF K w g S2 (qD p.ak)
 ks:p.core.kind.size<=maxLen
 ct:IntKind.i64.min<=p.core.count/\p.core.count<=IntKind.i64.max
def cell_of_heap{p:Addr}(h:w'.heap[p.block]? =w.heap[p.block]?):w'.cell? p=w.cell? p:=by unfold World.cell?;rw[h]
def alh(h:∀b,¬N b->w'.heap[b]? =w.heap[b]?):bQ w (fun a=>N a.block) w' (fun a=>N a.block) :=
 fun p v e c=>⟨by rw[cell_of_heap (h _ c)];exact e,c⟩
section
variable {K N N':Nat->Prop}{w w':World}{S1 S2:Value}{p:Part}
def PV.cM(h:PV K N w S1 S2 p):ek w (fun a=>N a.block):=⟨fun a c=>h.nb _ c,h.gi.1,h.gi.2⟩
def PV.new(h:PV K N w S1 S2 p)(hb:Below w.heap.size w w')(h1:∀b,N' b->N b\/w.heap.size<=b)(h2:∀b,N b->N' b)(e:∀b,N' b->b<w'.heap.size):PV K N' w' S1 S2 p:=by
 obtain⟨g,c⟩:=h.ly;exact⟨⟨h.gi.1.keep fun k a=>hb.block k (dS a h.gi.2),dK h.gi.2 hb.size⟩,h.kb,fun b a=>h2 b (h.kn b a),e,
  R.keep (bQ.below hb fun q t f=>(h1 _ f).elim id fun m=>by omega) _ _ h.cs,⟨g,c.keep (fun b r=>hb.block b (c.out r).2.2) fun _ h=>h⟩,h.ks,h.ct⟩
def PV.below(h:PV K N w S1 S2 p)(hb:Below w.heap.size w w'):PV K N w' S1 S2 p :=
 h.new hb (fun b a=>.inl a) (fun b a=>a) fun b a=>dS (h.nb b a) hb.size
def PV.less(h:PV K N w S1 S2 p)(h1:∀b,N' b->N b)(h2:∀b,K b->N' b):PV K N' w S1 S2 p :=
 {h with kn:=h2,nb:=fun b a=>h.nb b (h1 b a),cs:=R.less h.cs fun _ c=>h1 _ c}
def PV.one(h:PV K N w S1 S2 p)(ho:bU w w' b)(m:N b)(c:¬K b)(hg:NG<=b):PV K N w' S1 S2 p:=by
 obtain⟨g,f⟩:=h.ly;exact⟨⟨h.gi.1.keep fun k c=>ho.block k (by omega),by rw[ho.size];exact h.gi.2⟩,h.kb,h.kn,fun b r=>by rw[ho.size];exact h.nb b r,
  R.keep (alh fun i a=>ho.block i fun e=>a (e▸m)) _ _ h.cs,⟨g,f.keep (fun i a=>ho.block i fun e=>c (e▸(f.out a).1)) fun _ h=>h⟩,h.ks,h.ct⟩
def PV.len(h:PV K N w S1 S2 p):∃a n c,S1=.slice a n c:=by obtain⟨a,n,c,rfl,_⟩:=h.cs;exact⟨a,n,c,rfl⟩
def PV.iU(h:PV K N w S1 S2 p):∀u∈(dE p S1 S2).toList,u.oneCell'=true:=by obtain⟨a,n,c,rfl⟩:=h.len;obtain⟨g,e⟩:=h.ly;obtain⟨f,m,rfl,_⟩:=e.aD4;exact ac9 _
def PV.lay{o k:Nat}(h:PV K N w S1 (.slice (some ⟨b,o,none⟩) n cap) p)(a:k<p.ak.length) :
  w.cell? ⟨b,o+k*2,none⟩=some (.string (nth p.ak k).name)/\w.cell? ⟨b,o+k*2+1,none⟩=some (.int .i64 (nth p.ak k).count)/\(∀i,w.frozen? ⟨b,i,none⟩=false)/\K b/\n=p.ak.length:=by
 have m:k<(qD p.ak).length:=by rw[Kh];exact a
 obtain⟨g,r⟩:=h.ly;obtain⟨b',A,B,e,t,C,F,c,f,y,G⟩:=r.at m;simp only[fE,aS,kC,yf]at e;obtain⟨⟨rfl,rfl⟩,z,_⟩:=e;rw[amN a]at c f;exact⟨c,f,fun i=>y i none,t,by rw[z,Kh]⟩
def PV.slot{k:Nat}(h:PV K N w S1 S2 p)(a:k<p.ak.length):∃b o cap,S2=.slice (some ⟨b,o,none⟩) p.ak.length cap:=by
 have c:k<(qD p.ak).length:=by rw[Kh];exact a
 obtain⟨g,f⟩:=h.ly;obtain⟨b',m,r,e,_⟩:=f.at c;exact⟨b',m,r,by rw[e,Kh]⟩
def PV.bump{b o n cap k:Nat}(h:PV K N w S1 (.slice (some ⟨b,o,none⟩) n cap) p)(f:k<p.ak.length)(z:IntKind.i64.min<=jg (nth p.ak k).count/\jg (nth p.ak k).count<=IntKind.i64.max) :
  PV K N (w.setCell ⟨b,o+k*2+1,none⟩ (.int .i64 (jg (nth p.ak k).count))) S1 (.slice (some ⟨b,o,none⟩) n cap) (bump p k):=by
 obtain⟨-, -, -,a,A⟩:=h.lay f;subst A;obtain⟨g,y⟩:=h.ly;have m:k<(qD p.ak).length:=by rw[Kh];exact f
 have B:p.ak.length=(qD p.ak).length:=(Kh _).symm;rw[B]at y ⊢;have t:=y.put m z;have c:(qD p.ak).set k ((nth (qD p.ak) k).1,jg (nth p.ak k).count)=qD (Go.Proofs.YtoomhbopolalnabGreatDoor.bump p k).ak:=by rw[amN f];unfold qD Go.Proofs.YtoomhbopolalnabGreatDoor.bump;rw[Rk]
 rw[c]at t;exact⟨giK h.gi (h.kb _ a),h.kb,h.kn,fun i r=>by have:=h.nb i r;simpa using this,
  R.keep (alh fun i r=>aby fun e=>r (e▸h.kn _ a)) _ _ h.cs,⟨g,t⟩,h.ks,h.ct⟩
structure MB(K N:Nat->Prop)(w:World)(b:Nat)(T:TypeId)(cs:Array Value):Prop where
 bl:aA w b T cs
 n:N b
 k:¬K b
 g:NG<=b
def MB.lt(h:MB K N w b T cs):b<w.heap.size:=h.bl.lt
def MB.oM(h:MB K N w b T cs)(f:dr K w w'):MB K N w' b T cs:={h with bl:=h.bl.oM f h.k}
def MB.below(h:MB K N w b T cs)(hb:Below w.heap.size w w'):MB K N w' b T cs:={h with bl:=h.bl.below hb h.bl.lt}
def MB.more(h:MB K N w b T cs)(a:∀b,N b->N' b):MB K N' w b T cs:={h with n:=a _ h.n}
def MB.other{b':Nat}(h:MB K N w b T cs)(ho:bU w w' b')(e:b≠b'):MB K N w' b T cs:={h with bl:=(ho.block _ e).trans h.bl}
def MB.put{cs':Array Value}(h:MB K N w b T cs)(r:aA w' b T cs'):MB K N w' b T cs':={h with bl:=r}
def MB.far(h:MB K N w b T cs){a:Addr}(v:Value)(ha:K a.block):MB K N (w.setCell a v) b T cs:={h with bl:=h.bl.far (fun e=>h.k (e▸ha)) v}
def MB.new(h:PV K N w S1 S2 p)(r:aA w' b T cs)(hb:w.heap.size<=b)(a:N' b):MB K N' w' b T cs :=
 ⟨r,a,fun c=>by have:=h.nb _ (h.kn _ c);omega,dK h.gi.2 hb⟩
end
def aF4{fn:Func}{p u t3:Tmp}{ty:TypeId}(h:fn.results=#[.cell p ty,.cell u y,.tmp t3])(tmps:Array Value)(w:World){g e:Nat}{t t2:TypeId}{cs c:Array Value}(d f:TypeDesc)
  (F:tmps.getD p undef=.pointer (some ⟨g,0,none⟩)) (hg:aA w g t cs) (G:P.underlying ty=some d) (hd:(match d with|.struct _|.array _ _=>true|_=>false)=true) (H:(P.info? ty).map (·.size)=some cs.size)
  (m:tmps.getD u undef=.pointer (some ⟨e,0,none⟩)) (r:aA w e t2 c) (z:P.underlying y=some f) (A:(match f with|.struct _|.array _ _=>true|_=>false)=true) (B:(P.info? y).map (·.size)=some c.size) :
  (results fn tmps).run P w=.ok (.tuple #[.agg cs,.agg c,tmps.getD t3 undef]) w:=by
 have C:tmps[p]?.getD undef=.pointer (some ⟨g,0,none⟩):=by simpa using F
 have a:tmps[u]?.getD undef=.pointer (some ⟨e,0,none⟩):=by simpa using m
 simp[results,h,C,a,asAddr,IU w g t ty cs (0,0) d hg G hd H,IU w e t2 y c (0,0) f r z A B,lS,Result.andThen]
def rN{E:List (Nat×Value)}{fn:Func}{R:Ending->World->Prop}{p u t3:Tmp}{ty:TypeId}{g C:Nat}{t2:TypeId}{c:Array Value}{d f:TypeDesc}(h:fn.results=#[.cell p ty,.cell u y,.tmp t3])(F:lk E t3=some v)(hg:aA w g t cs)(m:aA w C t2 c)(G:P.underlying ty=some d)(r:P.underlying y=some f)(H:(P.info? ty).map (·.size)=some cs.size)(z:(P.info? y).map (·.size)=some c.size)(I:R (.returned (.tuple #[.agg cs,.agg c,v])) w)(J:lk E p=some (.pointer (some ⟨g,0,none⟩)):=by rfl)(A:lk E u=some (.pointer (some ⟨C,0,none⟩)):=by rfl)(hd:(match d with|.struct _|.array _ _=>true|_=>false)=true:=by rfl)(B:(match f with|.struct _|.array _ _=>true|_=>false)=true:=by rfl):NX n (bodyPost P fn R .ret) E w :=
 fun a e=>⟨e.df,_,aF4 h a.tmps w d f (e.at' p _ J) hg G hd H (e.at' u _ A) m r B z,by rw[e.at' t3 _ F];exact I⟩
def aD(ve vp vu vs vl:Value):Array Value:=#[ve,vp,vu,vs,vl]
structure HX(M:Addr->Prop)(N:Nat->Prop)(w:World)(h:Host)(ve vp vs vl:Value):Prop where
 gi:qd w/\NG<=w.heap.size
 mb:∀q,M q->q.block<w.heap.size
 nb:∀x,N x->x<w.heap.size
 e:R w (BM M N) (aj h.entries) ve
 p:OR M N w 87 6 (h.parts.map aB.cells) vp
 s:R w (BM M N) (aj h.shut) vs
 l:OR M N w 33 7 (h.log.map aB.cells) vl
 pl:∀x,vp.ownBlock=some x->vl.ownBlock≠some x
 gp:∀x,vp.ownBlock=some x->NG<=x
 gl:∀x,vl.ownBlock=some x->NG<=x
def KV(vp vl:Value):Nat->Prop:=fun x=>vp.ownBlock=some x\/vl.ownBlock=some x
section
variable {M:Addr->Prop}{N N':Nat->Prop}{w w':World}{h:Host}{ve vp vu vs vl:Value}
def HX.cM(H:HX M N w h ve vp vs vl):ek w (BM M N):=⟨fun q a=>a.elim (H.mb q) (H.nb _),H.gi.1,H.gi.2⟩
def db{d:D}(r:R w (BM M N) d v)(hb:Below w.heap.size w w')(a:∀x,N' x->N x\/w.heap.size<=x):R w' (BM M N') d v :=
 R.keep (BM.below hb a) _ _ r
def HX.new(H:HX M N w h ve vp vs vl)(hb:Below w.heap.size w w')(hN:∀x,N' x->N x\/w.heap.size<=x)(iM:∀x,N x->N' x)(zR:∀x,N' x->x<w'.heap.size):HX M N' w' h ve vp vs vl :=
 {H with
  gi:=⟨H.gi.1.keep fun k hk=>hb.block k (dS hk H.gi.2),dK H.gi.2 hb.size⟩
  mb:=fun q hq=>dS (H.mb q hq) hb.size
  nb:=zR
  e:=db H.e hb hN
  p:=H.p.below hb hN iM
  s:=db H.s hb hN
  l:=H.l.below hb hN iM}
def HX.below(H:HX M N w h ve vp vs vl)(hb:Below w.heap.size w w'):HX M N w' h ve vp vs vl :=
 H.new hb (fun x a=>.inl a) (fun x a=>a) fun x a=>dS (H.nb x a) hb.size
def iC{d:D}{g:Nat}(r:R w (BM M N) d v)(ho:bU w w' g)(hg:N g):R w' (BM M N) d v :=
 R.keep (BM.one ho hg) _ _ r
def HX.one{g:Nat}(H:HX M N w h ve vp vs vl)(ho:bU w w' g)(hg:N g)(hk:¬KV vp vl g)(q9:NG<=g):HX M N w' h ve vp vs vl :=
 {H with
  gi:=⟨H.gi.1.keep fun k hk=>ho.block k (by omega),by rw[ho.size];exact H.gi.2⟩
  mb:=fun q hq=>by rw[ho.size];exact H.mb q hq
  nb:=fun x hx=>by rw[ho.size];exact H.nb x hx
  e:=iC H.e ho hg
  p:=H.p.one ho hg fun e=>hk (.inl e)
  s:=iC H.s ho hg
  l:=H.l.one ho hg fun e=>hk (.inr e)}
def HX.part{i:Nat}(H:HX M N w h ve (.slice (some ⟨b,0,none⟩) h.parts.length cap) vs vl)(hp:OR M N w' 87 6 ((h.parts.map aB.cells).set i (aB.cells p)) (.slice (some ⟨b,0,none⟩) h.parts.length cap))(ho:bU w w' b):HX M N w' {h with parts:=h.parts.set i p} ve (.slice (some ⟨b,0,none⟩) h.parts.length cap) vs vl:=by
 have hb:N b:=(H.p.lt b rfl).1;have q9:=H.gp b rfl;exact {H with
  gi:=⟨H.gi.1.keep fun k hk=>ho.block k (by omega),by rw[ho.size];exact H.gi.2⟩
  mb:=fun q hq=>by rw[ho.size];exact H.mb q hq
  nb:=fun x hx=>by rw[ho.size];exact H.nb x hx
  e:=iC H.e ho hb
  p:=by rw[Rk];exact hp
  s:=iC H.s ho hb
  l:=H.l.one ho hb fun e=>H.pl b rfl e}
def OR.less{T m:Nat}{rows:List (List D)}(h:OR M N w T m rows v)(h1:∀x,N' x->N x)(h2:∀x,v.ownBlock=some x->N' x):OR M N' w T m rows v :=
 h.keep (fun _ _=>rfl) (fun p u a c=>⟨a,fun e=>c (e.imp id (h1 _))⟩) h2
def HX.less(H:HX M N w h ve vp vs vl)(h1:∀x,N' x->N x)(h2:∀x,KV vp vl x->N' x):HX M N' w h ve vp vs vl :=
 {H with
  nb:=fun x a=>H.nb x (h1 x a)
  e:=R.less H.e fun q c=>c.imp id (h1 _)
  p:=H.p.less h1 fun x a=>h2 x (.inl a)
  s:=R.less H.s fun q c=>c.imp id (h1 _)
  l:=H.l.less h1 fun x a=>h2 x (.inr a)}
def HX.grow{row:Option Nat}(H:HX M N w h ve vp vs vl)(hg:w.grownBy w' row)(hr:∀x,row=some x->N x/\¬KV vp vl x/\NG<=x)(hN:∀x,N' x->N x\/w.heap.size<=x)(iM:∀x,N x->N' x)(zR:∀x,N' x->x<w'.heap.size):HX M N' w' h ve vp vs vl:=by
 have kp:bQ w (BM M N) w' (BM M N'):=fun p u hc hn=>by have hpl:=gm hc;have hb:w'.heap[p.block]? =w.heap[p.block]? :=hg.block p.block hpl fun e=>hn (.inr (hr _ e.symm).1);exact⟨by unfold World.cell? at hc ⊢;rw[hb];exact hc,fun h=>h.elim (fun h=>hn (.inl h)) fun h=>(hN _ h).elim (fun h=>hn (.inr h)) fun h=>by omega⟩
 exact {H with
  gi:=⟨H.gi.1.keep fun k hk=>hg.block k (dS hk H.gi.2) fun e=>by have:=(hr _ e.symm).2.2;omega,dK H.gi.2 hg.size⟩
  mb:=fun q hq=>dS (H.mb q hq) hg.size
  nb:=zR
  e:=R.keep kp _ _ H.e
  p:=H.p.keep (fun x hx=>hg.block x (H.p.lt x hx).2 fun e=>(hr _ e.symm).2.1 (.inl hx)) kp fun x hx=>iM x (H.p.lt x hx).1
  s:=R.keep kp _ _ H.s
  l:=H.l.keep (fun x hx=>hg.block x (H.l.lt x hx).2 fun e=>(hr _ e.symm).2.1 (.inr hx)) kp fun x hx=>iM x (H.l.lt x hx).1}
end
section
variable {n:Nat}{P:Program}{Q:Exit->Act->World->Prop}{E:List (Nat×Value)}{w:World}
variable {t0 t1 t2 t3 t4 t5 t6 t7:Nat}{dA:TypeDesc}{o0 o1 o2 o3 o4 o5 o6 o7:Oper}{b' c' k':Nat}{s u s1 u1:ByteArray}
def Pu{O V:Operand}{X Y Z A4:TypeId}{fC:Nat}
  (h0:o0.op=.move O) (g0:o0.guard=none) (d0:o0.dst=some t0)
  (h1:o1.op=.binOp .eql Z (.tmp t0) (.const (.string u)) A3) (g1:o1.guard=none) (d1:o1.dst=some t1)
  (h2:o2.op=.move (.tmp t1)) (g2:o2.guard=none) (g:o2.dst=some t2)
  (h3:o3.op=.fieldAddr X V fC) (g3:o3.guard=some (2,true)) (d3:o3.dst=some t3)
  (h4:o4.op=.load Y (.tmp t3)) (g4:o4.guard=some (2,true)) (d4:o4.dst=some t4)
  (h5:o5.op=.binOp .eql Z (.tmp t4) (.const (.string u1)) A4) (g5:o5.guard=some (2,true)) (d5:o5.dst=some t5)
  (h6:o6.op=.pick (.tmp t2) (.tmp t5) (.const (.bool false))) (g6:o6.guard=none) (d6:o6.dst=some t6)
  (h7:o7.op=.assign (.tmp t6)) (g7:o7.guard=none) (d7:o7.dst=some t7)
  (hn:t0<n/\t1<n/\t2<n/\t3<n/\t4<n/\t5<n/\t6<n/\t7<n)
  (B:∀z0 z1 z2,ev ((t2,z2)::(t1,z1)::(t0,z0)::E) V=some (.pointer (some ⟨b',c',none⟩)))
  (a:t2≠t5/\t2≠t4/\t2≠t3)
  (C:ev E O=some (.string s)) (hA:P.underlying Y=some dA) (G:E4 dA=false)
  (H:mD P X fC=some k') (I:w.cell? ⟨b',c'+k',none⟩=some (.string s1))
  (h:∀E',(∀t,t∉[t0,t1,t2,t3,t4,t5,t6,t7]->lk E' t=lk E t)->lk E' t7=some (.bool (gx .eql s u&&gx .eql s1 u1))->NX n (Q .normal) E' w) :
  WL n P #[o0,o1,o2,o3,o4,o5,o6,o7] Q [o0,o1,o2,o3,o4,o5,o6,o7] E w:=by
 obtain⟨m,r,y,n3,n4,n5,n6,n7⟩:=hn;have c:∀t v (F:List (Nat×Value)),lk ((t,v)::F) t=some v:=fun t v F=>by simp[lk]
 have f:∀{t z v} {F:List (Nat×Value)},t≠z->lk ((z,v)::F) t=lk F t:=fun {t z v F} J=>by
  simp only[lk];cases A:Nat.beq z t with
  |false=>rfl
  |true=>exact absurd (gI A).symm J
 refine fD g0 d0 (aI (ho:=h0) (hx:=C)) m ?_;refine fD g1 d1 (Ci h1 (c _ _ _) rfl) r ?_;refine fD g2 g (aI (ho:=h2) (hx:=(c _ _ _))) y ?_;have m:∀(vs:List (Nat×Value)) (t:Nat),t∉[t0,t1,t2,t3,t4,t5,t6,t7]->(∀p∈vs,p.1∈[t0,t1,t2,t3,t4,t5,t6,t7])->lk (vs++E) t=lk E t:=by
  intro vs t y;induction vs with
  |nil=>intro _;rfl
  |cons p r ih=> intro r;obtain⟨z,J⟩:=p;have h1:z∈[t0,t1,t2,t3,t4,t5,t6,t7]:=r (z,J) (by simp);rw[ia,f (fun e=>y (by rw[e];exact h1))];exact ih fun q z=>r q (by simp[z])
 cases A:gx .eql s u with
 |false=> refine WL.no (b:=false) g3 (by simpa using g) (by rw[c]) d3 n3 ?_;refine WL.no (b:=false) g4 (by simpa using g) (by rw[f a.2.2,c]) d4 n4 ?_;refine WL.no (b:=false) g5 (by simpa using g) (by rw[f a.2.1,f a.2.2,c]) d5 n5 ?_;refine fD g6 d6 (pR h6 (by show lk _ _=_;rw[f a.1,f a.2.1,f a.2.2,c]) rfl) n6 ?_;refine fD g7 d7 (bN (ho:=h7) (hx:=(c _ _ _))) n7 (WL.nil (h _ (fun t y=> ?_) (by rw[c,A];rfl)));exact m [_,_,_,_,_,_,_,_] t y (by simp)
 |true=> refine wO (b:=true) g3 (by simpa using g) (by rw[c]) d3 (br (ho:=h3) (hx:=(B _ _ _)) H) n3 ?_;refine wO (b:=true) g4 (by simpa using g) (by rw[f a.2.2,c]) d4 (bz (ho:=h4) (hx:=(c _ _ _)) hA (hd:=G) I) n4 ?_;refine wO (b:=true) g5 (by simpa using g) (by rw[f a.2.1,f a.2.2,c]) d5 (Ci h5 (c _ _ _) rfl) n5 ?_;refine fD g6 d6 (nu h6 (by show lk _ _=_;rw[f a.1,f a.2.1,f a.2.2,c]) (c _ _ _)) n6 ?_;refine fD g7 d7 (bN (ho:=h7) (hx:=(c _ _ _))) n7 (WL.nil (h _ (fun t y=> ?_) (by rw[c,A,oC])));exact m [_,_,_,_,_,_,_,_] t y (by simp)
def aop{H I:Operand}{J:Bool}{A2:TypeId}
  (h0:o0.op=.move H) (g0:o0.guard=none) (d0:o0.dst=some t0)
  (h1:o1.op=.binOp .eql A2 (.tmp t0) (.const (.string u)) A3) (g1:o1.guard=none) (d1:o1.dst=some t1)
  (h2:o2.op=.move (.tmp t1)) (g2:o2.guard=none) (A:o2.dst=some t2)
  (h3:o3.op=.move I) (g3:o3.guard=some (2,true)) (O:o3.dst=some t3)
  (V:o4.op=.pick (.tmp t2) (.tmp t3) (.const (.bool false))) (X:o4.guard=none) (Y:o4.dst=some t4)
  (Z:o5.op=.assign (.tmp t4)) (g5:o5.guard=none) (d5:o5.dst=some t5)
  (hn:t0<n/\t1<n/\t2<n/\t3<n/\t4<n/\t5<n)
  (B:∀z0 z1 z2,ev ((t2,z2)::(t1,z1)::(t0,z0)::E) I=some (.bool J))
  (c:t2≠t3)
  (C:ev E H=some (.string s))
  (h:∀E',(∀t,t∉[t0,t1,t2,t3,t4,t5]->lk E' t=lk E t)->lk E' t5=some (.bool (gx .eql s u&&J))->NX n (Q .normal) E' w) :
  WL n P #[o0,o1,o2,o3,o4,o5] Q [o0,o1,o2,o3,o4,o5] E w:=by
 obtain⟨g,m,r,n3,n4,n5⟩:=hn;have a:∀t v (F:List (Nat×Value)),lk ((t,v)::F) t=some v:=fun t v F=>by simp[lk]
 have f:∀{t y v} {F:List (Nat×Value)},t≠y->lk ((y,v)::F) t=lk F t:=fun {t y v F} G=>by
  simp only[lk];cases z:Nat.beq y t with
  |false=>rfl
  |true=>exact absurd (gI z).symm G
 refine fD g0 d0 (aI (ho:=h0) (hx:=C)) g ?_;refine fD g1 d1 (Ci h1 (a _ _ _) rfl) m ?_;refine fD g2 A (aI (ho:=h2) (hx:=(a _ _ _))) r ?_;have g:∀(vs:List (Nat×Value)) (t:Nat),t∉[t0,t1,t2,t3,t4,t5]->(∀p∈vs,p.1∈[t0,t1,t2,t3,t4,t5])->lk (vs++E) t=lk E t:=by
  intro vs t m;induction vs with
  |nil=>intro _;rfl
  |cons p r ih=> intro r;obtain⟨y,G⟩:=p;have h1:y∈[t0,t1,t2,t3,t4,t5]:=r (y,G) (by simp);rw[ia,f (fun e=>m (by rw[e];exact h1))];exact ih fun q y=>r q (by simp[y])
 cases z:gx .eql s u with
 |false=> refine WL.no (b:=false) g3 (by simpa using A) (by rw[a]) O n3 ?_;refine fD X Y (pR V (by show lk _ _=_;rw[f c,a]) rfl) n4 ?_;refine fD g5 d5 (bN (ho:=Z) (hx:=(a _ _ _))) n5 (WL.nil (h _ (fun t m=> ?_) (by rw[a,z];rfl)));exact g [_,_,_,_,_,_] t m (by simp)
 |true=> refine wO (b:=true) g3 (by simpa using A) (by rw[a]) O (aI (ho:=h3) (hx:=(B _ _ _))) n3 ?_;refine fD X Y (nu V (by show lk _ _=_;rw[f c,a]) (a _ _ _)) n4 ?_;refine fD g5 d5 (bN (ho:=Z) (hx:=(a _ _ _))) n5 (WL.nil (h _ (fun t m=> ?_) (by rw[a,z,oC])));exact g [_,_,_,_,_,_] t m (by simp)
end
def ahc(w:World)(z:Array Value)(T:TypeId):Below w.heap.size w (w.alloc (.cells z T)):=by go_grown
def PV.alloc{K:Nat->Prop}(h:PV K N w S1 S2 p)(T:TypeId)(z:Array Value) :
  ∃w' N',w'=w.alloc (.cells z T)/\Below w.heap.size w w'/\(∀b,N b->N' b)/\PV K N' w' S1 S2 p/\MB K N' w' w.heap.size T z/\w'.heap.size=w.heap.size+1:=by
 have a:=ahc w z T;have c:(w.alloc (.cells z T)).heap.size=w.heap.size+1:=by simp[gb]
 have f:PV K (fun i=>N i\/i=w.heap.size) (w.alloc (.cells z T)) S1 S2 p:=h.new a (fun b a=>a.imp id fun e=>by omega) (fun b a=>.inl a) fun b a=>by
  rcases a with a|a
  ·have:=h.nb b a;omega
  ·omega
 exact⟨_,_,rfl,a,fun b a=>.inl a,f,MB.new h (aA.new w T z) (bM _) (.inr rfl),c⟩
def Ia(K N:Nat->Prop)(w:World)(S2:Value)(y:Part×gH)(e:Ending)(w':World):Prop :=
 ∃jz,e=.returned (.tuple #[.agg (dE y.1 jz S2),.agg (fN y.2)])/\PV K N w' jz S2 y.1/\dr K w w'
def Ie(k:Nat):Prop:=∀(K N:Nat->Prop) (w:World) (S1 S2:Value) (p:Part) (x:Call),PV K N w S1 S2 p->Ib x->dC p=true->gu x=true->k<=p.ak.length->cw (fP p k) (cg x.method)=true ->
 Calls az 142 #[.agg (dE p S1 S2),.int .i64 ((k:Nat):Int),lJ x] w (Ia K N w S2 (bo k p x))
def tQ(K N:Nat->Prop)(w:World)(S2:Value)(k:Nat)(p:Part)(x:Call)(e:Ending)(w':World):Prop :=
 ∃jz q r own,e=.returned (.tuple #[.agg (dE q jz S2),.agg (fN r),.bool own])/\PV K N w' jz S2 q/\dr K w w'/\(own=true->bo (k+1) p x=(q,r))/\(own=false->q=p/\bo (k+1) p x=bo k p x/\cw (fP p k) (cg x.method)=true)
def agD(k:Nat):Prop:=∀(K N:Nat->Prop) (w:World) (S1 S2:Value) (p:Part) (x:Call),PV K N w S1 S2 p->Ib x->dC p=true->gu x=true->k+1<=p.ak.length->cw (fP p (k+1)) (cg x.method)=true ->
 Calls az 163 #[.agg (dE p S1 S2),.int .i64 ((k+1:Nat):Int),lJ x] w (tQ K N w S2 k p x)
def tQ.mk{K:Nat->Prop}{k:Nat}{q:Part}{x:Call}{r:gH}{own:Bool}{e:Ending}(a:e=.returned (.tuple #[.agg (dE q S1 S2),.agg (fN r),.bool own]))(H:PV K N' w' S1 S2 q)(c:∀b,N b->N' b)(f:∀b,K b->N b)(F:dr K w w')
  (h1:own=true->bo (k+1) p x=(q,r)) (h2:own=false->q=p/\bo (k+1) p x=bo k p x/\cw (fP p k) (cg x.method)=true):tQ K N w S2 k p x e w' :=
 ⟨S1,q,r,own,a,H.less c f,F,h1,h2⟩
def au8{K:Nat->Prop}(h:PV K N w S1 S2 p)(n:Int)(a:gL n=true) :
  Calls az 175 #[.int .i64 n] w fun e w'=>e=.returned (.int .i64 (jg n))/\Below w.heap.size w w':=by
 have c:=Ab.1 a;refine(aH.calls (Tr n a) (vs:=[.int .i64 n]) h.cM ⟨_,[],rfl,⟨rfl,by have:IntKind.i64.min= -9223372036854775808/\IntKind.i64.max=9223372036854775807:=(by decide);omega⟩,rfl⟩).mono ?_;rintro e w' ⟨v,rfl,⟨rfl,g⟩,f⟩;exact⟨rfl,f⟩
def ayz(a b:Int):aH az 176 none [.int .i64 a,.int .i64 b] (.int .i64 (if a<b then a else b)) []:=by
 refine cu aqI aJE ⟨rfl,rfl,trivial⟩ fun f=> ?_;unfold aqI;refine ai (fun h=>ay ?_) (fun h=>ay ?_)
 ·simp only[eS]at h ⊢;have h:a<b:=by simpa using h
  rw[aC h]
 ·simp only[eS]at h ⊢;have h:¬a<b:=by simpa using h
  rw[aw h]
def aKY{K:Nat->Prop}(h:PV K N w S1 S2 p)(a:Int)(ha:IntKind.i64.min<=a/\a<=IntKind.i64.max) :
  Calls az 176 #[.int .i64 a,.int .i64 999] w fun e w'=>e=.returned (.int .i64 (min a 999))/\Below w.heap.size w w':=by
 refine(aH.calls (ayz a 999) (vs:=[.int .i64 a,.int .i64 999]) h.cM ⟨_,_,rfl,⟨rfl,ha⟩,_,[],rfl,⟨rfl,by decide⟩,rfl⟩).mono ?_;rintro e w' ⟨v,rfl,⟨rfl,f⟩,c⟩;refine⟨?_,c⟩;congr 2;split<;>congr 1<;>omega
def aKW{K:Nat->Prop}(h:PV K N w S1 S2 p)(x:Call)(hx:Ib x)(r:dC p=true)(t:gu x=true)(ho:cw (fP p 0) (cg x.method)=true) :
  Calls az 162 #[.agg #[.string p.core.kind,.bool p.core.on,.bool p.core.broken,S1,.int .i64 p.core.count],lJ x] w fun e w'=>
   ∃jz,e=.returned (.tuple #[.agg #[.string (fp p.core x).1.kind,.bool (fp p.core x).1.on,.bool (fp p.core x).1.broken,jz,.int .i64 (fp p.core x).1.count],.agg (fN (fp p.core x).2)])/\PV K N w' jz S2 ⟨(fp p.core x).1,p.ak⟩/\Below w.heap.size w w':=by
 have c:=(pQ.1 r).1;have y:fP p 0=fR p.core.kind:=by unfold fP;rw[aC rfl]
 rw[y]at ho;refine(aH.calls (aye p.core x c t ho hx.text) (vs:=[.agg #[.string p.core.kind,.bool p.core.on,.bool p.core.broken,S1,.int .i64 p.core.count],lJ x]) h.cM ⟨_,_,rfl,⟨_,rfl,_,_,rfl,⟨rfl,h.ks⟩,_,_,rfl,rfl,_,_,rfl,rfl,_,_,rfl,h.cs,_,_,rfl,⟨rfl,h.ct⟩,rfl⟩,_,[],rfl,
  ⟨_,rfl,_,_,rfl,⟨rfl,hx.method⟩,_,_,rfl,⟨rfl,hx.key⟩,_,_,rfl,⟨rfl,hx.val⟩,_,_,rfl,⟨rfl,by have:=hx.text;unfold maxLen;omega⟩,rfl⟩,rfl⟩).mono ?_
 rintro e w' ⟨v,rfl,⟨cs,rfl,v0,r0,z,⟨A,rfl,V,q0,B,⟨rfl,C⟩,X,q1,rfl,rfl,Y,q2,rfl,rfl,F,q3,rfl,G,Z,q4,rfl,⟨rfl,H⟩,rfl⟩,v1,r1,rfl,⟨I,rfl,a,c,J,⟨rfl,_⟩,f,s1,rfl,⟨rfl,_⟩,g,y,rfl,⟨rfl,_⟩,O,s3,rfl,⟨rfl,_⟩,z4,s4,rfl,⟨rfl,_⟩,rfl⟩,rfl⟩,m⟩;have a:A=_:=iX.1 (B.trans (rfl:_=(#[_,_,_,_,_]:Array Value).toList));have f:I=_:=iX.1 (J.trans (rfl:_=(#[_,_,_,_,_]:Array Value).toList));have g:cs=_:=iX.1 (z.trans (rfl:_=(#[_,_]:Array Value).toList));subst a f g;have O:=h.below m;exact⟨F,rfl,{O with cs:=G,ks:=C,ct:=H},m⟩
def Tc(m:ByteArray):uk az 31 [(0,.string m)]=some #[.string m,.string cL,.int .i64 0,.string cL]:=by kernel_rfl
def axB:uk az 102 []=some (fN (rep 0 0 0 0)):=by kernel_rfl
section
variable {n:Nat}{P:Program}{Q:Exit->Act->World->Prop}{E:List (Nat×Value)}{w:World}
def Ys(n:Nat)(I:Nat->List (Nat×Value)->World->Prop)(m:Nat)(a:Act)(w:World):Prop:=∃c E',c<m/\I c E' w/\Env n a E'
def CW.loop{c:Code}(I:Nat->List (Nat×Value)->World->Prop)(r:Nat)(t:I r E w)(round:∀m E w,I m E w->CW n P c (Exit.then (Ys n I m) Q) E w):CW n P (.loop c) Q E w:=fun a y=>
 wp_loop_ghost (fun m a w=>∃E',I m E' w/\Env n a E') r ⟨E,t,y⟩ fun m a w ⟨E',h,g⟩=>by
  refine A9 (round m E' w h a g) ?_;intro e G w' f;cases e with
  |normal=> obtain⟨z,A,B,C,F⟩:=f;exact⟨z,B,A,C,F⟩
  |exit id=>exact f
  |goto l=>exact f
  |ret=>exact f
  |panic H=>exact f
  |outgrown=>exact f
def NX.again{m:Nat}(c:Nat)(E':List (Nat×Value))(h1:c<m)(e:tf E E')(h2:I c E' w):NX n (Exit.then (Ys n I m) Q .normal) E w:=fun a f=>⟨c,E',h1,h2,f.sub e⟩
def NX.ag{m:Nat}{E':List (Nat×Value)}(a:Nat)(h2:I a E' w)(h1:a<m:=by omega)(c:tf E E':=by((repeat refine And.intro rfl ?_);exact trivial)):NX n (Exit.then (Ys n I m) Q .normal) E w:=NX.again a E' h1 c h2
end
section
variable {n:Nat}{P:Program}{ops:Array Oper}{Q:Exit->Act->World->Prop}{S:World->Prop}{s k:Nat}{L L':Array Bool}{E E':List (Nat×Value)}{w w':World}{i j d:Nat}{o:Oper}{v:Value}
def tP(n:Nat)(P:Program)(ops:Array Oper)(Q:Exit->Act->World->Prop)(S:World->Prop)(s k:Nat)(L:Array Bool)(E:List (Nat×Value))(w:World)(i:Nat):Prop:=∀a,Env n a E->wpOp P ops Q i (fun c w'=>(i≠s->S w')/\uf P .any ops Q S s k (L.setIfInBounds i true) c w') a w
def LO(r:Region.ready .any ops L=[i])(h:tP n P ops Q S s k L E w i):AU n P ops Q S s (k+1) L E w:=fun a f=>⟨fun e=>(by rw[r]at e;cases e),fun x c=>by rw[r]at c;cases mQ.1 c;exact h a f⟩
def LP(r:Region.ready .any ops L=[i,j])(h:tP n P ops Q S s k L E w i)(h2:tP n P ops Q S s k L E w j):AU n P ops Q S s (k+1) L E w:=fun a f=>⟨fun e=>(by rw[r]at e;cases e),fun x c=>by
 rw[r]at c;rcases fI.1 c with rfl|c
 ·exact h a f
 ·cases mQ.1 c;exact h2 a f⟩
def Yr(f:ops.toList[i]? =some o)(hg:o.guard=none)(hd:o.dst=some d)(r:eI n P E o w v w')(c:d<n)(g:S w')(h:AU n P ops Q S s k (L.setIfInBounds i true) ((d,v)::E) w'):tP n P ops Q S s k L E w i:=fun a e=>
 Ip.op (by rw[<-sY];exact f) fun t m=>by rw[aC (EL hg _)];unfold Oper.wp;rw[r a e,Mk,hd];exact m _ _ (fun _=>g) fun _=>h _ (e.put c v)
def avl(e:ops.toList[i]? =some o)(hg:o.guard=none)(hd:o.dst=none)(r:CU n P E o w w')(f:i≠s->S w')(h:AU n P ops Q S s k (L.setIfInBounds i true) E w'):tP n P ops Q S s k L E w i:=fun a c=>
 Ip.op (by rw[<-sY];exact e) fun m g=>by rw[aC (EL hg _)];unfold Oper.wp;rw[r a c,Zd,hd];exact g _ _ f fun _=>h _ c
def tP.c{f:FuncId}{args:Array Value}{R:Ending->World->Prop}(m:ops.toList[i]? =some o)(hg:o.guard=none)(hd:o.dst=some d)(r:zx n P E o w f args)(c:d<n)(hC:Calls P f args w R)
  (h:∀e w',R e w'->∃v,e=.returned v/\S w'/\AU n P ops Q S s k (L.setIfInBounds i true) ((d,v)::E) w'):tP n P ops Q S s k L E w i:=fun a g=>
 Ip.op (by rw[<-sY];exact m) fun B t=>by rw[aC (EL hg _)];unfold Oper.wp;rw[r a g];refine hC.mono fun e w' y=> ?_;obtain⟨v,rfl,z,A⟩:=h e w' y;rw[hd];exact t _ _ (fun _=>z) fun _=>A _ (g.put c v)
def QR(c:L=L')(e:tf E E')(h:AU n P ops Q S s k L' E' w):AU n P ops Q S s k L E w:=fun a f=>c▸h a (f.sub e)
def zp(r:eI n P E o w v w')(c:S w')(h:AU n P ops Q S s k (L.setIfInBounds i true) ((d,v)::E) w')(e:ops.toList[i]? =some o:=by kernel_rfl)(hg:o.guard=none:=by kernel_rfl)(hd:o.dst=some d:=by kernel_rfl)(a:d<n:=by decide):tP n P ops Q S s k L E w i:=Yr e hg hd r a c h
def CL{f:FuncId}{args:Array Value}{R:Ending->World->Prop}(r:zx n P E o w f args)(hC:Calls P f args w R)
  (h:∀e w',R e w'->∃v,e=.returned v/\S w'/\AU n P ops Q S s k (L.setIfInBounds i true) ((d,v)::E) w') (c:ops.toList[i]? =some o:=by kernel_rfl) (hg:o.guard=none:=by kernel_rfl) (hd:o.dst=some d:=by kernel_rfl) (a:d<n:=by decide):tP n P ops Q S s k L E w i:=tP.c c hg hd r a hC h
def pE(h:AU n P ops Q S s k L' E' w)(a:L=L':=by kernel_rfl)(c:tf E E':=by((repeat refine And.intro rfl ?_);exact trivial)):AU n P ops Q S s k L E w:=QR a c h
def regs:Code->List (Nat×Array Oper)
 |.region id ops _=>[(id,ops)]
 |.seq a b=>regs a++regs b
 |.cond _ a b=>regs a++regs b
 |.block _ c=>regs c
 |.loop c=>regs c
 |_=>[]
def GY(fn:Func)(id:Nat):Array Oper:=match fn.body with
 |some c=>(((regs c).find? fun p=>Nat.beq p.1 id).map (·.2)).getD #[]
 |none=>#[]
def aES:Oper:={dst:=none,op:=.move (.const (.bool true)),type:=0,pos:= "",after:=#[],guard:=none}
def opAt(ops:Array Oper)(i:Nat):Oper:=(ops.toList[i]?).getD aES
def lz(z:Nat)(l:List Nat):Array Bool:=((List.range z).map fun i=>l.any (Nat.beq i)).toArray
def lb(z i j:Nat)(a b:Bool)(l:List Nat):Array Bool:=lz z (cond a [i] []++(cond b [j] []++l))
def ex(d e:Nat)(x y:Option Nat):List (Nat×Value):=x.elim [] (fun b=>[(d,.pointer (some ⟨b,0,none⟩))])++y.elim [] (fun b=>[(e,.pointer (some ⟨b,0,none⟩))])
def fu(k:Nat):Option Nat->Option Nat->Nat
 |none,none=>k+2
 |none,some _=>k+1
 |some _,none=>k+1
 |some _,some _=>k
structure OA(B:Nat->TypeId->Array Value->Prop)(T1 T2:TypeId)(c1 c2:Array Value)(y z:Option Nat):Prop where
 a:∀b,y=some b->B b T1 c1
 b:∀b,z=some b->B b T2 c2
 ne:∀b,y=some b->z≠some b
def OA.map{B a:Nat->TypeId->Array Value->Prop}{c:TypeId}{y z:Option Nat}(h:OA B c g c1 c2 y z)(f:∀b T cs,B b T cs->a b T cs):OA a c g c1 c2 y z:=⟨fun b e=>f _ _ _ (h.a b e),fun b e=>f _ _ _ (h.b b e),h.ne⟩
def OA.none{B:Nat->TypeId->Array Value->Prop}{a c:TypeId}{c1 c2:Array Value}:OA B a c c1 c2 none none:=⟨fun _ e=>(by cases e),fun _ e=>(by cases e),fun _ e=>(by cases e)⟩
def QQ{l:List Nat}(r:Region.ready .any ops L=l)(c:l≠[])(h:∀x∈l,tP n P ops Q S s k L E w x):AU n P ops Q S s (k+1) L E w:=fun a f=>⟨fun e=>absurd (r.symm.trans e) c,fun x g=>h x (r▸g) a f⟩
def HZ{z e kc:Nat}{base mn:List Nat}{Ec:List (Nat×Value)}(Bx:(Nat->Prop)->World->Nat->TypeId->Array Value->Prop)(G:(Nat->Prop)->World->Prop)(J:∀N w,G N w->S w)
  (B:∀N w cs T,G N w->∃N',G N' (w.alloc (.cells cs T))/\Bx N' (w.alloc (.cells cs T)) w.heap.size T cs/\∀b V cs',Bx N w b V cs'->b<w.heap.size/\Bx N' (w.alloc (.cells cs T)) b V cs')
  (r1:∀(E:List (Nat×Value)) (w:World),eI n P E (opAt ops i) w (.pointer (some ⟨w.heap.size,0,none⟩)) (w.alloc (.cells c1 m))) (r2:∀(E:List (Nat×Value)) (w:World),eI n P E (opAt ops j) w (.pointer (some ⟨w.heap.size,0,none⟩)) (w.alloc (.cells c2 t)))
  (F:∀x y N w,G N w->OA (Bx N w) m t c1 c2 x y->∀k∈mn,tP n P ops Q S s (fu kc x y) (lb z i j x.isSome y.isSome base) (Ec++ex d e x y) w k)
  (A:mn≠[]\/∀a b N w,G N w->OA (Bx N w) m t c1 c2 (some a) (some b)->AU n P ops Q S s (kc+1) (lb z i j true true base) (Ec++ex d e (some a) (some b)) w)
  (H:∀a b,mn≠[]\/(a&&b)=false->Region.ready .any ops (lb z i j a b base)=mn++(cond a [] [i]++cond b [] [j]):=by rintro (_|_) (_|_) h<;>first|(simp at h;done)|kernel_rfl)
  (h3:∀b,(lb z i j false b base).setIfInBounds i true=lb z i j true b base:=by rintro (_|_)<;>kernel_rfl) (h4:∀a,(lb z i j a false base).setIfInBounds j true=lb z i j a true base:=by rintro (_|_)<;>kernel_rfl)
  (hE:∀b y,tf ((d,.pointer (some ⟨b,0,none⟩))::(Ec++ex d e none y)) (Ec++ex d e (some b) y):=by rintro b (_|d)<;>((repeat refine And.intro rfl ?_);exact trivial)) (hF:∀b x,tf ((e,.pointer (some ⟨b,0,none⟩))::(Ec++ex d e x none)) (Ec++ex d e x (some b)):=by rintro b (_|d)<;>((repeat refine And.intro rfl ?_);exact trivial))
  (i1:ops.toList[i]? =some (opAt ops i):=by kernel_rfl) (i2:ops.toList[j]? =some (opAt ops j):=by kernel_rfl) (g1:(opAt ops i).guard=none:=by kernel_rfl) (g2:(opAt ops j).guard=none:=by kernel_rfl) (e1:(opAt ops i).dst=some d:=by kernel_rfl) (e2:(opAt ops j).dst=some e:=by kernel_rfl) (d1:d<n:=by decide) (d2:e<n:=by decide) :
  ∀x y N w,G N w->OA (Bx N w) m t c1 c2 x y->AU n P ops Q S s (fu kc x y+1) (lb z i j x.isSome y.isSome base) (Ec++ex d e x y) w:=by
 have I:∀a b N w,G N w->OA (Bx N w) m t c1 c2 (some a) (some b)->AU n P ops Q S s (kc+1) (lb z i j true true base) (Ec++ex d e (some a) (some b)) w:=by
  rcases A with A|A
  ·exact fun a b N w g O=>QQ (H true true (.inl A)) (by simpa using A) fun k c=>F _ _ _ _ g O k (by simpa using c)
  ·exact A
 have X:∀y,(∀b N w,G N w->OA (Bx N w) m t c1 c2 (some b) y->AU n P ops Q S s (fu kc none y) (lb z i j true y.isSome base) (Ec++ex d e (some b) y) w)->∀N w,G N w->OA (Bx N w) m t c1 c2 none y->tP n P ops Q S s (fu kc none y) (lb z i j false y.isSome base) (Ec++ex d e none y) w i:=by intro y h N w g O;obtain⟨N',C,b',f⟩:=B N w c1 m g;exact Yr i1 g1 e1 (r1 _ _) d1 (J _ _ C) (QR (h3 _) (hE _ _) (h _ _ _ C ⟨fun b q=>by cases q;exact b',fun b q=>(f _ _ _ (O.b b q)).2,fun b q r=>by cases q;exact absurd (f _ _ _ (O.b _ r)).1 (Ru _)⟩))
 have Y:∀x,(∀b N w,G N w->OA (Bx N w) m t c1 c2 x (some b)->AU n P ops Q S s (fu kc x none) (lb z i j x.isSome true base) (Ec++ex d e x (some b)) w)->∀N w,G N w->OA (Bx N w) m t c1 c2 x none->tP n P ops Q S s (fu kc x none) (lb z i j x.isSome false base) (Ec++ex d e x none) w j:=by intro x h N w g O;obtain⟨N',C,b',f⟩:=B N w c2 t g;exact Yr i2 g2 e2 (r2 _ _) d2 (J _ _ C) (QR (h4 _) (hF _ _) (h _ _ _ C ⟨fun b q=>(f _ _ _ (O.a b q)).2,fun b q=>by cases q;exact b',fun b q r=>by cases r;exact absurd (f _ _ _ (O.a _ q)).1 (Ru _)⟩))
 have Z:∀a N w,G N w->OA (Bx N w) m t c1 c2 (some a) none->AU n P ops Q S s (kc+2) (lb z i j true false base) (Ec++ex d e (some a) none) w:=fun a N w g O=>QQ (H true false (.inr rfl)) (by simp) fun k c=>by
  rcases iJ.1 c with c|c
  ·exact F (some a) none _ _ g O k c
  ·obtain rfl:k=j:=by simpa using c
   exact Y (some a) (I a) _ _ g O
 have r:∀b N w,G N w->OA (Bx N w) m t c1 c2 none (some b)->AU n P ops Q S s (kc+2) (lb z i j false true base) (Ec++ex d e none (some b)) w:=fun b N w g O=>QQ (H false true (.inr rfl)) (by simp) fun k c=>by
  rcases iJ.1 c with c|c
  ·exact F none (some b) _ _ g O k c
  ·obtain rfl:k=i:=by simpa using c
   exact X (some b) (fun a=>I a b) _ _ g O
 rintro (_|a) (_|b) N w g O
 ·refine QQ (H false false (.inr rfl)) (by simp) fun k c=> ?_;rcases iJ.1 c with c|c
  ·exact F none none _ _ g O k c
  ·have c:k=i\/k=j:=by simpa using c
   rcases c with rfl|rfl
   ·exact X none Z _ _ g O
   ·exact Y none r _ _ g O
 ·exact r b _ _ g O
 ·exact Z a _ _ g O
 ·exact I a b _ _ g O
def fG{i:Nat}{vs:Array Value}(ho:o.op=.extract x i:=by rfl)(hx:ev E x=some (.tuple vs):=by rfl)(c:vs[i]? =some v:=by rfl):eI n P E o w v w:=fun a e=>by simp[execOp,ho,e.ev hx,Instr.extract,c]
end
abbrev aP:Value:=.slice none 0 0
abbrev PH(b:Nat):Value:=.pointer (some ⟨b,0,none⟩)
def aFD{E:List (Nat×Value)}{o:Oper}{i:TypeInfo}{y:Operand}{s t z:ByteArray}(ho:o.op=.buildSlice T 2 #[(0,x),(1,y)])(hx:ev E x=some (.string s))(m:ev E y=some (.string t))(r:P.underlying T=some (.slice e))(f:P.info? e=some i)(c:i.size=1)(A:i.zero=some (.string z)) :
  eI n P E o w (.slice (some ⟨w.heap.size,0,none⟩) 2 2) (w.alloc (.cells #[.string s,.string t] e)):=fun a g=>by
 have B:Array.range 2=#[0,1]:=rfl;simp[execOp,ho,g.ev hx,g.ev m,Instr.buildSlice,run_underlying r,run_sizeOf f,c,zeroValue,run_typeInfo f,A,Value.cells,Instr.fill,newRow,B]
structure HS(K N:Nat->Prop)(w:World)(S2:Value)(N':Nat->Prop)(W:World)(S1:Value)(q:Part):Prop where
 h:PV K N' W S1 S2 q
 hf:dr K w W
 hn:∀i,N i->N' i
structure BX(K N':Nat->Prop)(W:World)(p:Part)(x:Call)(S1 S2:Value)(lo g3 g5 g6 g7 g15:Nat):Prop where
 m3:MB K N' W g3 87 (dE p S1 S2)
 m5:MB K N' W g5 31 #[.string x.method,.string x.key,.int .i64 x.val,.string x.text]
 m6:MB K N' W g6 87 jK
 m7:MB K N' W g7 102 eW
 m15:MB K N' W g15 87 (dE p S1 S2)
 lt:g3<lo/\g5<lo/\g6<lo/\g7<lo/\g15<lo
section
variable {K N N' CR:Nat->Prop}{w W W':World}{p q:Part}{x:Call}{S1 S2 U:Value}{lo g3 g5 g6 g7 g15:Nat}
def BX.map(h:BX K N' W p x S1 S2 lo g3 g5 g6 g7 g15)(f:∀b T cs,b<lo->MB K N' W b T cs->MB K CR W' b T cs):BX K CR W' p x S1 S2 lo g3 g5 g6 g7 g15 :=
 ⟨f _ _ _ h.lt.1 h.m3,f _ _ _ h.lt.2.1 h.m5,f _ _ _ h.lt.2.2.1 h.m6,f _ _ _ h.lt.2.2.2.1 h.m7,f _ _ _ h.lt.2.2.2.2 h.m15,h.lt⟩
def HS.below(h:HS K N w S2 N' W U q)(hb:Below W.heap.size W W'):HS K N w S2 N' W' U q:=⟨h.h.below hb,h.hf.jv hb,h.hn⟩
def HS.one(h:HS K N w S2 N' W U q){T:TypeId}{cs:Array Value}(m:MB K N' W b T cs)(ho:bU W W' b)(a:w.heap.size<=b):HS K N w S2 N' W' U q:=⟨h.h.one ho m.n m.k m.g,h.hf.one ho (.inr a),h.hn⟩
end
noncomputable def nX:Array Oper:=GY Tryz.f163 22
noncomputable def clH:Go.Call:=match (opAt nX 9).op with
 |.call c=>c
 |_=>{callee:=.value (.const (.bool true)),args:=#[],argTypes:=#[]}
def sH(q:Part)(x:Call)(S1 S2:Value)(g5 g15:Nat):World->Prop:=fun W=>aA W g15 87 (dE q S1 S2)/\aA W g5 31 #[.string x.method,.string x.key,.int .i64 x.val,.string x.text]
def BX.s{K:Nat->Prop}{W:World}{x:Call}{lo g3 g5 g6 g7 g15:Nat}(h:BX K N' W p x S1 S2 lo g3 g5 g6 g7 g15):sH p x S1 S2 g5 g15 W:=⟨h.m15.bl,h.m5.bl⟩
def azZ:vD az 26=some 1:=by kernel_rfl
def aCW:∃i,az.info? 9=some i/\i.size=1/\i.zero=some (.string ⟨#[]⟩):=⟨_,rfl,rfl,rfl⟩
def GH(K N:Nat->Prop)(w:World)(p q:Part)(x:Call)(S1 S2 U:Value)(lo g3 g5 g6 g7 g15:Nat)(C:World->Prop)(N':Nat->Prop)(W:World):Prop:=HS K N w S2 N' W U q/\BX K N' W p x S1 S2 lo g3 g5 g6 g7 g15/\lo<=W.heap.size/\C W
def BH(K:Nat->Prop)(lo:Nat)(N':Nat->Prop)(W:World)(b:Nat)(T:TypeId)(cs:Array Value):Prop:=MB K N' W b T cs/\lo<=b
def Uj{K:Nat->Prop}{q:Part}{x:Call}{U:Value}{lo g3 g5 g6 g7 g15:Nat}{C:World->Prop}(hC:∀W W',Below W.heap.size W W'->C W->C W')(N':Nat->Prop)(W:World)(cs:Array Value)(T:TypeId)(h:GH K N w p q x S1 S2 U lo g3 g5 g6 g7 g15 C N' W):∃CR,GH K N w p q x S1 S2 U lo g3 g5 g6 g7 g15 C CR (W.alloc (.cells cs T))/\BH K lo CR (W.alloc (.cells cs T)) W.heap.size T cs/\∀b e cs',BH K lo N' W b e cs'->b<W.heap.size/\BH K lo CR (W.alloc (.cells cs T)) b e cs':=by obtain⟨H,X,f,c⟩:=h;obtain⟨W',CR,rfl,a,g,m,M,z⟩:=H.h.alloc T cs;exact⟨CR,⟨⟨m,H.hf.jv a,fun i r=>g i (H.hn i r)⟩,X.map fun b T cs _ t=>(t.below a).more g,by omega,hC _ _ a c⟩,⟨M,f⟩,fun b e cs' h=>⟨h.1.lt,(h.1.below a).more g,h.2⟩⟩
set_option maxHeartbeats 8000000 in
def aFT{k:Nat}(IH:Ie k){K N:Nat->Prop}{w:World}{q:Part}{x:Call}{S1 S2:Value}{m:ByteArray}{j lo g3 g5 g6 g7 g15:Nat}{Q:Exit->Act->World->Prop}(G:∀c a t v w,Q (.panic c) (Act.put a t v) w->Q (.panic c) a w)
  (hj:(#[Value.string dY,.string mStart])[j]? =some (.string m)) (hj2:j<2) (vU:x.val=(j:Int)) (hmf:Ib (bK m)) (l5:gu (bK m)=true) (hq:dC q=true) (hk:k<=q.ak.length) (hmo:cw (fP q k) (cg (bK m).method)=true) (hlw:w.heap.size<=lo)
  (fin:∀(N':Nat->Prop) (W:World) (U:Value) (f g:Nat),HS K N w S2 N' W U (bo k q (bK m)).1->BX K N' W q x S1 S2 lo g3 g5 g6 g7 g15->MB K N' W f 87 (dE (bo k q (bK m)).1 U S2)->MB K N' W g 102 (fN (bo k q (bK m)).2)->lo<=f->lo<=g->f≠g->lo<=W.heap.size ->
   NX 235 (Q .normal) [(6,PH g6),(7,PH g7),(16,PH f),(17,PH g)] W)
  (N':Nat->Prop) (W:World) (H:HS K N w S2 N' W S1 q) (X:BX K N' W q x S1 S2 lo g3 g5 g6 g7 g15) (r:lo<=W.heap.size) :
  AU 235 az nX Q (sH q x S1 S2 g5 g15) 16 17 (Array.replicate 17 false) [(1,.int .i64 ((k+1:Nat):Int)),(5,PH g5),(6,PH g6),(7,PH g7),(15,PH g15)] W:=by
 have hw:dL .sub .i64 ((k+1:Nat):Int) 1=(k:Int):=by have:=(pQ.1 hq).2.1;rw[mz];omega
 have s3:=fun U=>HZ (n:=235) (P:=az) (ops:=nX) (Q:=Q) (s:=16) (z:=17) (i:=13) (j:=14) (d:=16) (e:=17) (base:=[0,1,2,3,4,5,6,7,8,9,10,11,12]) (mn:=[]) (kc:=1) (Ec:=[(6,PH g6),(7,PH g7),(177,.agg (dE (bo k q (bK m)).1 U S2)),(178,.agg (fN (bo k q (bK m)).2))]) (BH K lo) (GH K N w q (bo k q (bK m)).1 x S1 S2 U lo g3 g5 g6 g7 g15 (fun _=>True)) (fun _ _ h=>h.2.1.s) (Uj fun _ _ _ h=>h) (fun _ _=>eQ (z:=.agg jK) (by kernel_rfl) rm) (fun _ _=>eQ (z:=.agg eW) (by kernel_rfl) mJ) (fun _ _ _ _ _ _ i I=>by cases I) (.inr fun f g N' W ⟨H,X,r,_⟩ O=>by have B:=O.a f rfl;have J:=O.b g rfl;have A:=B.2;have A:=J.2;have hne:f≠g:=fun e=>O.ne f rfl (e▸rfl);obtain⟨C,F,V,Y,A⟩:=X.lt;refine iQ (o:=opAt nX 15) 15 (by kernel_rfl) (hg:=(by kernel_rfl)) (hd:=(by kernel_rfl)) (T:=87) (x:=.tmp 16) (y:=.tmp 177) (C:=jK) (hop:=(by kernel_rfl)) rfl B.1.bl H.h.iU cy (fun w' A _=>⟨(A.block _ (by omega)).trans X.m15.bl,(A.block _ (by omega)).trans X.m5.bl⟩) fun C F O1=> ?_;have Z:=H.one B.1 O1 (by omega);have X1:=X.map fun b T cs V A=>A.other O1 (by omega);have C:=J.1.other O1 (by omega);have Y:=B.1.put F;refine iQ (o:=opAt nX 16) 16 (by kernel_rfl) (hg:=(by kernel_rfl)) (hd:=(by kernel_rfl)) (T:=102) (x:=.tmp 17) (y:=.tmp 178) (C:=eW) (hop:=(by kernel_rfl)) rfl C.bl (jI _) cz (fun _ _ h=>absurd rfl h) fun F R2 O2=> ?_;have H2:=Z.one C O2 (by omega);have X2:=X1.map fun b T cs V A=>A.other O2 (by omega);have Z:=Y.other O2 (by omega);have F:=C.put R2;refine iH (by kernel_rfl) ?_;exact fun C Y=>fin _ _ _ _ _ H2 X2 Z F B.2 J.2 hne (by have:=O1.size;have:=O2.size;omega) C (Y.sub ⟨rfl,rfl,rfl,rfl,trivial⟩))
 have J:=HZ (n:=235) (P:=az) (ops:=nX) (Q:=Q) (s:=16) (z:=17) (i:=13) (j:=14) (d:=16) (e:=17) (base:=[0,1,2,3,4,5,6,7,8]) (mn:=[9]) (kc:=5) (Ec:=[(6,PH g6),(7,PH g7),(167,.agg (dE q S1 S2)),(169,.int .i64 ((k:Nat):Int)),(175,.agg #[.string m,.string cL,.int .i64 0,.string cL])]) (BH K lo) (GH K N w q q x S1 S2 S1 lo g3 g5 g6 g7 g15 (fun _=>True)) (fun _ _ h=>h.2.1.s) (Uj fun _ _ _ h=>h) (fun _ _=>eQ (z:=.agg jK) (by kernel_rfl) rm) (fun _ _=>eQ (z:=.agg eW) (by kernel_rfl) mJ) (fun y z N' W ⟨H,X,r,c⟩ O i I=>by
  obtain rfl:=mQ.1 I;rcases y with _|b<;>rcases z with _|d<;>(
   refine CL (o:=opAt nX 9) (d:=176) (sE (cl:=clH) (args:=#[.agg (dE q S1 S2),.int .i64 ((k:Nat):Int),.agg #[.string m,.string cL,.int .i64 0,.string cL]]) (by kernel_rfl) (by kernel_rfl) (by kernel_rfl) rfl) (IH K N' W S1 S2 q (bK m) H.h hmf hq l5 hk hmo) ?_;rintro _ W' ⟨U,rfl,Y,B⟩;have X:=X.map fun b T cs _ A=>A.oM B;have C:=B.size;refine⟨_,rfl,X.s,?_⟩;refine lC (o:=opAt nX 10) (d:=166) 10 G (fun W F=>aI (x:=.tmp 176) (ho:=(by kernel_rfl))) X.s ?_;refine lC (o:=opAt nX 11) (d:=177) 11 G (fun W F=>fG (x:=.tmp 166) (i:=0) (ho:=(by kernel_rfl))) X.s ?_;refine lC (o:=opAt nX 12) (d:=178) 12 G (fun W F=>fG (x:=.tmp 166) (i:=1) (ho:=(by kernel_rfl))) X.s ?_;exact pE (s3 U _ _ _ _ ⟨⟨Y,H.hf.Pt B,H.hn⟩,X,by omega,trivial⟩ (O.map fun b T cs A=>⟨A.1.oM B,A.2⟩)))) (.inl (by simp))
 have s1:=fun b3=>HZ (n:=235) (P:=az) (ops:=nX) (Q:=Q) (s:=16) (z:=17) (i:=13) (j:=14) (d:=16) (e:=17) (base:=[0,1,2,3,4,5,6]) (mn:=[7]) (kc:=7) (Ec:=[(6,PH g6),(7,PH g7),(167,.agg (dE q S1 S2)),(169,.int .i64 ((k:Nat):Int)),(173,.pointer (some ⟨b3,j,none⟩))]) (BH K lo) (GH K N w q q x S1 S2 S1 lo g3 g5 g6 g7 g15 (fun W=>W.cell? ⟨b3,j,none⟩=some (.string m))) (fun _ _ h=>h.2.1.s) (Uj fun _ _ V h=>Dl V h) (fun _ _=>eQ (z:=.agg jK) (by kernel_rfl) rm) (fun _ _=>eQ (z:=.agg eW) (by kernel_rfl) mJ) (fun y z N' W ⟨H,X,r,c⟩ O i I=>by
  obtain rfl:=mQ.1 I;rcases y with _|b<;>rcases z with _|d<;>(
   refine zp (o:=opAt nX 7) (d:=174) (bz (T:=9) (x:=.tmp 173) (ho:=(by kernel_rfl)) iz c) X.s ?_;refine lC (o:=opAt nX 8) (d:=175) 8 G (fun W F=>kF (T:=31) (parts:=#[(0,.tmp 174)]) (vs:=[(0,.string m)]) (ho:=(by kernel_rfl)) (Tc _)) X.s ?_;exact pE (J _ _ _ _ ⟨H,X,r,trivial⟩ O))) (.inl (by simp))
 have Y:=HZ (n:=235) (P:=az) (ops:=nX) (Q:=Q) (s:=16) (z:=17) (i:=13) (j:=14) (d:=16) (e:=17) (base:=[0,1,2,4,5]) (mn:=[3]) (kc:=9) (Ec:=[(6,PH g6),(7,PH g7),(167,.agg (dE q S1 S2)),(169,.int .i64 ((k:Nat):Int)),(172,.int .i64 x.val)]) (BH K lo) (GH K N w q q x S1 S2 S1 lo g3 g5 g6 g7 g15 (fun _=>True)) (fun _ _ h=>h.2.1.s) (Uj fun _ _ _ h=>h) (fun _ _=>eQ (z:=.agg jK) (by kernel_rfl) rm) (fun _ _=>eQ (z:=.agg eW) (by kernel_rfl) mJ) (fun y z N' W ⟨H,X,r,c⟩ O i I=>by
  obtain rfl:=mQ.1 I;rcases y with _|b<;>rcases z with _|d<;>(
   have V:=ahc W #[.string dY,.string mStart] 9;have B:(W.alloc (.cells #[.string dY,.string mStart] 9)).cell? ⟨W.heap.size,j,none⟩=some (.string m):=by rw[(aA.new W 9 #[.string dY,.string mStart]).cell];exact hj
   have C:(W.alloc (.cells #[.string dY,.string mStart] 9)).heap.size=W.heap.size+1:=by simp[gb]
   have X:=X.map fun b T cs _ A=>A.below V;have Z:=H.below V;obtain⟨ti,C,I,J⟩:=aCW;refine zp (o:=opAt nX 3) (d:=170) (aFD (e:=9) (x:=.const (.string dY)) (y:=.const (.string mStart)) (s:=dY) (t:=mStart) (by kernel_rfl) rfl rfl eX C I J) X.s ?_;refine lC (o:=opAt nX 6) (d:=173) 6 G (fun W F=>yT (T:=26) (x:=.tmp 170) (i:=.tmp 172) (by kernel_rfl) rfl (show ev _ _=some (.int .i64 x.val)from rfl) (by omega) (by omega) azZ) X.s ?_;exact QR (by kernel_rfl) (by rw[vU];refine⟨rfl,rfl,rfl,rfl,by simp[lk],?_⟩;(repeat refine And.intro rfl ?_);exact trivial) (s1 W.heap.size _ _ _ _ ⟨Z,X,by omega,B⟩ (O.map fun b T cs A=>⟨A.1.below V,A.2⟩)))) (.inl (by simp))
 refine lC (o:=opAt nX 0) (d:=167) 0 G (fun W F=>bF (T:=87) (x:=.tmp 15) (ho:=(by kernel_rfl)) dF F.1 cy) X.s ?_;refine lC (o:=opAt nX 1) (d:=168) 1 G (fun W F=>aI (x:=.tmp 1) (ho:=(by kernel_rfl))) X.s ?_;refine lC (o:=opAt nX 2) (d:=169) 2 G (fun W F=>iE (op:=.sub) (T:=3) (U:=3) (x:=.tmp 168) (y:=.const (.int .i64 1)) (ho:=(by kernel_rfl)) (hb:=hw)) X.s ?_;refine lC (o:=opAt nX 4) (d:=171) 4 G (fun W F=>br (x:=.tmp 5) (ho:=(by kernel_rfl)) aaS) X.s ?_;refine lC (o:=opAt nX 5) (d:=172) 5 G (fun W F=>bz (T:=3) (x:=.tmp 171) (ho:=(by kernel_rfl)) kO ((F.2.cell 2).trans rfl)) X.s ?_;exact pE (Y none none _ _ ⟨H,X,r,trivial⟩ OA.none)
abbrev Bx:=Nat×TypeId×Array Value
structure OX(K N0:Nat->Prop)(w0:World)(N:Nat->Prop)(W:World)(S1 S2:Value)(p:Part)(l:List Bx):Prop where
 h:PV K N W S1 S2 p
 f:dr K w0 W
 n:∀i,N0 i->N i
 m:∀x∈l,MB K N W x.1 x.2.1 x.2.2
 lo:∀x∈l,w0.heap.size<=x.1
 nd:(l.map (·.1)).Nodup
section
variable {K N0 N N':Nat->Prop}{w0 W W':World}{S1 jz S2:Value}{p q:Part}{l:List Bx}{x0 x1 x2 x3 x4 x5 x6 x7 x8:Bx}{b i:Nat}{T:TypeId}{cs cs':Array Value}
def OX.start(h:PV K N0 w0 S1 S2 p):OX K N0 w0 N0 w0 S1 S2 p []:=⟨h,dr.refl K w0,fun _ h=>h,fun x a=>(by cases a),fun x a=>(by cases a),List.nodup_nil⟩
def OX.q0(O:OX K N0 w0 N W S1 S2 p ((b,T,cs)::l)):MB K N W b T cs:=O.m _ (.head _)
def OX.q1(O:OX K N0 w0 N W S1 S2 p (x0::(b,T,cs)::l)):MB K N W b T cs:=O.m _ (.tail _ (.head _))
def OX.q2(O:OX K N0 w0 N W S1 S2 p (x0::x1::(b,T,cs)::l)):MB K N W b T cs:=O.m _ (.tail _ (.tail _ (.head _)))
def OX.q3(O:OX K N0 w0 N W S1 S2 p (x0::x1::x2::(b,T,cs)::l)):MB K N W b T cs:=O.m _ (.tail _ (.tail _ (.tail _ (.head _))))
def OX.q4(O:OX K N0 w0 N W S1 S2 p (x0::x1::x2::x3::(b,T,cs)::l)):MB K N W b T cs:=O.m _ (.tail _ (.tail _ (.tail _ (.tail _ (.head _)))))
def OX.q5(O:OX K N0 w0 N W S1 S2 p (x0::x1::x2::x3::x4::(b,T,cs)::l)):MB K N W b T cs:=O.m _ (.tail _ (.tail _ (.tail _ (.tail _ (.tail _ (.head _))))))
def OX.below(O:OX K N0 w0 N W S1 S2 p l)(hb:Below W.heap.size W W'):OX K N0 w0 N W' S1 S2 p l:={O with h:=O.h.below hb,f:=O.f.jv hb,m:=fun x a=>(O.m x a).below hb}
def OX.al(O:OX K N0 w0 N W S1 S2 p l)(T:TypeId)(cs:Array Value):∃W' N',W'=W.alloc (.cells cs T)/\OX K N0 w0 N' W' S1 S2 p ((W.heap.size,T,cs)::l):=by
 obtain⟨W',N',e,c,f,H,M,r⟩:=O.h.alloc T cs;refine⟨W',N',e,H,O.f.jv c,fun i g=>f i (O.n i g),fun x a=> ?_,fun x a=> ?_,?_⟩
 ·rcases fI.1 a with rfl|a
  ·exact M
  ·exact((O.m x a).below c).more f
 ·rcases fI.1 a with rfl|a
  ·exact O.f.size
  ·exact O.lo x a
 ·rw[jA,Rn];refine⟨fun m=> ?_,O.nd⟩;obtain⟨x,a,e⟩:=fJ.1 m;have:=(O.m x a).lt;have e:x.1=W.heap.size:=e;omega
def OX.kf(O:OX K N0 w0 N W S1 S2 p l)(H:PV K N W' jz S2 q)(f:dr K W W'):OX K N0 w0 N W' jz S2 q l:=⟨H,O.f.Pt f,O.n,fun x a=>(O.m x a).oM f,O.lo,O.nd⟩
def OX.wr(O:OX K N0 w0 N W S1 S2 p l)(c:l[i]? =some (b,T,cs))(o:bU W W' b)(r:aA W' b T cs'):OX K N0 w0 N W' S1 S2 p (l.set i (b,T,cs')):=by
 have a:=(dh.1 c).1;have M:=O.m _ (jB c);refine⟨O.h.one o M.n M.k M.g,O.f.one o (.inr (O.lo _ (jB c))),O.n,fun x m=> ?_,fun x m=> ?_,?_⟩
 ·obtain⟨j,C,e⟩:=Mg.1 m;rw[List.getElem_set]at e;split at e
  ·subst e;exact M.put r
  ·rename_i t;have f:j<l.length:=by simpa using C
   subst e;refine(O.m _ (qj f)).other o fun e=>t (Eq.symm ?_);have z:l[i]=(b,T,cs):=by rw[bX a]at c;exact iR c
   have A:=Iz.1 O.nd;have B:b=l[j].1:=e.symm;rcases dP i j with g|g
   ·have:=A i j (by simpa using a) (by simpa using f) g;simp[z]at this;exact absurd B this
   ·rcases Nat.eq_or_lt_of_le g with y|y
    ·exact y
    ·have:=A j i (by simpa using f) (by simpa using a) y;simp[z]at this;exact absurd B.symm this
 ·rcases sZ m with g|g
  ·exact O.lo x g
  ·rw[g];exact O.lo (b,T,cs) (jB c)
 ·have:(l.set i (b,T,cs')).map (·.1)=l.map (·.1):=by
   rw[Rk];apply zB;intro j;rw[Da];split
   ·rename_i e;subst e;split
    ·rw[iw,c];rfl
    ·rename_i F;exact absurd (by simpa using a) F
   ·rfl
  rw[this];exact O.nd
def OX.r0(O:OX K N0 w0 N W S1 S2 p ((b,T,cs)::l))(o:bU W W' b)(r:aA W' b T cs'):OX K N0 w0 N W' S1 S2 p ((b,T,cs')::l):=O.wr (i:=0) rfl o r
def OX.r1(O:OX K N0 w0 N W S1 S2 p (x0::(b,T,cs)::l))(o:bU W W' b)(r:aA W' b T cs'):OX K N0 w0 N W' S1 S2 p (x0::(b,T,cs')::l):=O.wr (i:=1) rfl o r
def OX.r2(O:OX K N0 w0 N W S1 S2 p (x0::x1::(b,T,cs)::l))(o:bU W W' b)(r:aA W' b T cs'):OX K N0 w0 N W' S1 S2 p (x0::x1::(b,T,cs')::l):=O.wr (i:=2) rfl o r
def OX.r3(O:OX K N0 w0 N W S1 S2 p (x0::x1::x2::(b,T,cs)::l))(o:bU W W' b)(r:aA W' b T cs'):OX K N0 w0 N W' S1 S2 p (x0::x1::x2::(b,T,cs')::l):=O.wr (i:=3) rfl o r
def OX.r4(O:OX K N0 w0 N W S1 S2 p (x0::x1::x2::x3::(b,T,cs)::l))(o:bU W W' b)(r:aA W' b T cs'):OX K N0 w0 N W' S1 S2 p (x0::x1::x2::x3::(b,T,cs')::l):=O.wr (i:=4) rfl o r
def OX.r5(O:OX K N0 w0 N W S1 S2 p (x0::x1::x2::x3::x4::(b,T,cs)::l))(o:bU W W' b)(r:aA W' b T cs'):OX K N0 w0 N W' S1 S2 p (x0::x1::x2::x3::x4::(b,T,cs')::l):=O.wr (i:=5) rfl o r
def OX.iV(O:OX K N0 w0 N W S1 S2 p l){b c:Nat}{T g:TypeId}{cs cs':Array Value}(i j:Nat)(e:l[i]? =some (b,T,cs):=by rfl)(f:l[j]? =some (c,g,cs'):=by rfl)(h:i≠j:=by decide):b≠c:=by
 have key:∀(i j:Nat) (x y:Bx),l[i]? =some x->l[j]? =some y->i<j->x.1≠y.1:=fun i j x y e f h=>by obtain⟨a,m⟩:=dh.1 e;obtain⟨r,t⟩:=dh.1 f;have:=Iz.1 O.nd i j (by simpa using a) (by simpa using r) h;simp only[List.getElem_map,m,t]at this;exact this
 rcases Zb h with a|a
 ·exact key i j _ _ e f a
 ·exact(key j i _ _ f e a).symm
def avR{b1 b2 b3 a:Nat}{r:TypeId}{t y:Array Value}(h:PV K N W S1 S2 p)(f:dr K w0 W)(n:∀i,N0 i->N i)(z:MB K N W b1 e c1)(A:MB K N W b2 g c2)(B:MB K N W b3 m t)(C:MB K N W a r y)(lo:w0.heap.size<=b1/\w0.heap.size<=b2/\w0.heap.size<=b3/\w0.heap.size<=a)(ne:b1≠b2/\b1≠b3/\b1≠a/\b2≠b3/\b2≠a/\b3≠a):OX K N0 w0 N W S1 S2 p [(b1,e,c1),(b2,g,c2),(b3,m,t),(a,r,y)]:=by
 refine⟨h,f,n,fun x c=> ?_,fun x c=> ?_,?_⟩
 ·simp only[fI,tZ,wU]at c;rcases c with rfl|rfl|rfl|rfl<;>assumption
 ·simp only[fI,tZ,wU]at c;rcases c with rfl|rfl|rfl|rfl
  ·exact lo.1
  ·exact lo.2.1
  ·exact lo.2.2.1
  ·exact lo.2.2.2
 ·simp[ne]
def OX.bump{o k:Nat}(O:OX K N0 w0 N W S1 (.slice (some ⟨b,o,none⟩) n cap) p l)(c:k<p.ak.length)(e:IntKind.i64.min<=jg (nth p.ak k).count/\jg (nth p.ak k).count<=IntKind.i64.max):OX K N0 w0 N (W.setCell ⟨b,o+k*2+1,none⟩ (.int .i64 (jg (nth p.ak k).count))) S1 (.slice (some ⟨b,o,none⟩) n cap) (Go.Proofs.YtoomhbopolalnabGreatDoor.bump p k) l:=by obtain⟨-, -, -,a, -⟩:=O.h.lay c;exact⟨O.h.bump c e,O.f.aHT _ (.inl a),O.n,fun x f=>(O.m x f).far (a:=⟨b,o+k*2+1,none⟩) _ a,O.lo,O.nd⟩
end
section
variable {n:Nat}{P:Program}{ops:Array Oper}{Q:Exit->Act->World->Prop}{E:List (Nat×Value)}{o:Oper}{rest:List Oper}{d:Nat}
variable {K N0 N:Nat->Prop}{w0 W:World}{S1 S2:Value}{p:Part}{l:List Bx}{T:TypeId}{cs:Array Value}
def uU(O:OX K N0 w0 N W S1 S2 p l)(z:(P.info? T).bind (·.zero)=some (.agg cs))(h:∀W' N',OX K N0 w0 N' W' S1 S2 p ((W.heap.size,T,cs)::l)->WL n P ops Q rest ((d,.pointer (some ⟨W.heap.size,0,none⟩))::E) W')(ho:o.op=.alloc T:=by rfl)(hg:o.guard=none:=by rfl)(hd:o.dst=some d:=by rfl)(a:d<n:=by decide):WL n P ops Q (o::rest) E W:=by obtain⟨W',N',e,c⟩:=O.al T cs;have:=h W' N' c;rw[e]at this;exact fD hg hd (eQ ho z) a this
def agM(O:OX K N0 w0 N W S1 S2 p l)(h:∀W' N',OX K N0 w0 N' W' S1 S2 p ((W.heap.size,T,cs)::l)->WL n P ops Q rest ((d,.pointer (some ⟨W.heap.size,0,none⟩))::E) W')(ho:o.op=.box T x:=by rfl)(hx:ev E x=some (.agg cs):=by rfl)(hg:o.guard=none:=by rfl)(hd:o.dst=some d:=by rfl)(a:d<n:=by decide):WL n P ops Q (o::rest) E W:=by obtain⟨W',N',e,c⟩:=O.al T cs;have:=h W' N' c;rw[e]at this;exact fD hg hd (uG (ho:=ho) (hx:=hx)) a this
end
end
end Go.Proofs.YtoomhbopolalnabGreatDoor
