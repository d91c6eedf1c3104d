/- Contracts: the reference's cores: cells read, a call of a core (spec.CallCore). -/
import Derived.Test.YtekplmpbkgchfaaGreatDoorE16
import Derived.Test.YtekplmpbkgchfaaGreatDoorE14
import Derived.Test.YtekplmpbkgchfaaGreatDoorE12
import Derived.Test.YtekplmpbkgchfaaGreatDoorE15
import Derived.Test.YtekplmpbkgchfaaGreatDoorE11
import Derived.Deep.LoopGhost
set_option linter.all false
set_option maxRecDepth 100000
namespace Go.Proofs.YtekplmpbkgchfaaGreatDoor
section
open Go.RowKit Go
variable [GC]
def aFv(l:List (List UInt8)):Bs l=ax (l.map bs):=by simp only [Bs,ax,KC];congr 1
def afi(s sep:ByteArray)(h0:sep.data.toList≠[])(h1:sep.data.toList.length<=100)(hs:s.size<4294967281):eA ay 253 none [.str s,.str sep] (ax (pieces s sep)) [] [(0,1)]:=by have h:=avM s sep.data.toList h0 h1 hs;rw [aFv,Ac] at h;exact h
def aCu{n:Nat}(h:n<1000):(61:UInt8)∉fR n:=by intro hm;have:=fO.1 (aw5 h) _ hm;simp [aaq] at this
def abJ{c:UInt8}(s:List UInt8):(Lib.cut s [c]=(s,[],false)/\Lib.split s [c]=[s])\/((Lib.cut s [c]).2.2=true/\Lib.split s [c]=(Lib.cut s [c]).1::Lib.split (Lib.cut s [c]).2.1 [c]):=by
 by_cases h:c∈s
 ·right;obtain ⟨a,b,rfl,hn⟩:=List.eq_append_cons_of_mem h;have e:a++c::b=a++((c::[])++b):=rfl;rw [e,afP hn];refine ⟨rfl,?_⟩;rw [Us (by simp) (Tb hn)];simp
 ·left;exact ⟨afR h,NH (index_none' h)⟩
def aEP{c:UInt8}{s:List UInt8}(h:c∉s):Lib.split s [c]=[s]:=NH (index_none' h)
def aCW{x:ByteArray}(h:(pieces x xZ).length=2):pieces x xZ=[pcA x,F6 x]/\(Lib.cut x.data.toList [61]).2.2=true:=by
 have e:pieces x xZ=(Lib.split x.data.toList [61]).map bs:=rfl;rw [e] at h ⊢;rw [cV] at h;rcases abJ (c:=61) x.data.toList with ⟨h1,h2⟩|⟨h1,h2⟩
 ·rw [h2] at h;simp at h
 ·rw [h2] at h ⊢;simp only [fw] at h;rcases abJ (c:=61) (Lib.cut x.data.toList [61]).2.1 with ⟨k1,k2⟩|⟨k1,k2⟩
  ·rw [k2];exact ⟨rfl,h1⟩
  ·exfalso;rw [k2] at h;have:=(aaw (sep:=[61]) (by simp) _ (Lib.cut (Lib.cut x.data.toList [61]).2.1 [61]).2.1 (bU _)).2;simp only [fw] at h;exact this (oR (by omega))
def aCV{x:ByteArray}(h:Bj x=true):(pieces x xZ).length=2:=by
 have e:pieces x xZ=(Lib.split x.data.toList [61]).map bs:=rfl;unfold Bj at h;simp only [aP] at h;obtain ⟨n,hn,hz, -⟩:=aCz h.2;rw [e,cV];rcases abJ (c:=61) x.data.toList with ⟨h1,h2⟩|⟨h1,h2⟩
 ·rw [h1] at h;simp at h
 ·rw [h2];have hz':(Lib.cut x.data.toList [61]).2.1=fR n:=by have:=congrArg (fun b:ByteArray=>b.data.toList) hz;simpa [F6,Cp] using this
  rw [hz',aEP (aCu hn)];rfl
def avH(s:ByteArray)(hs:s.size<4294967281):eA ay 249 none [.str s] (.aL [ax (oD s).1,.bool (oD s).2]) [] [(0,2)]:=by
 refine iT anM aGD ⟨trivial,trivial⟩ fun hfit=> ?_;unfold anM;refine aq (fun h=>az ?_) (fun h=> ?_)
 ·simp only [eS,alS] at h;have h:s=NK:=by simpa using h
  rw [oD,aA h];rfl
 simp only [eS,alS] at h;have h0:s≠NK:=by simpa using h
 refine fQ (afi s jk (by decide) (by decide) hs) ?_ (ha:=by (simp only [gS,alR];try exact rfl));have hz:=(aba (s:=s) (sep:=jk) (by decide)).1;have hp: ∀k,k<(pieces s jk).length->(nth (pieces s jk) k).size<4294967281:=fun k hk=>by have:=aCX (s:=s) (sep:=jk) (by decide) hk;omega
 have hno: ∀k,k<(pieces s jk).length->Bj (nth (pieces s jk) k)=false->(.aL [ax (oD s).1,.bool (oD s).2]:D)= .aL [ax ([]:List Cell),.bool false]:=fun k hk hb=>by
  have hn:F5 s=false:=by
   cases h:F5 s with
   | false=>rfl
   | true => unfold F5 at h;simp only [aP] at h;have:=fO.1 h.1.1 _ (iC hk);rw [hb] at this;cases this
  rw [oD,ak h0,ak (by simp [hn])]
 refine eZ (pieces s jk).length (fun k=>[ax (((pieces s jk).take k).map pcC),.int .i64 k]) (fun k=> ∀i,i<k->Bj (nth (pieces s jk) i)=true) rfl (by omega) ?_;intro k hk hI _;simp only [cA];apply aq<;>intro h2<;>simp only [eS] at h2
 ·have h2:k<(pieces s jk).length:=by simp at h2;exact h2
  refine fZ ?_;refine fQ (afi (nth (pieces s jk) k) xZ (by decide) (by decide) (hp k h2)) ?_ (ha:=by (simp only [gS,gW,eB,jv,Ut];try exact rfl));refine aq (fun h3=>az ?_) (fun h3=> ?_)
  ·simp only [eS] at h3;have h3:(pieces (nth (pieces s jk) k) xZ).length≠2:=by simp at h3;omega
   rw [hno k h2 (by cases hb:Bj (nth (pieces s jk) k) with|false=>rfl|true=>exact absurd (aCV hb) h3)];rfl
  simp only [eS] at h3;have h3:(pieces (nth (pieces s jk) k) xZ).length=2:=by simp at h3;omega
  obtain ⟨nG,hc⟩:=aCW h3
  (refine aX (fun hg=> ?_) ?_;(focus (simp only [cK,fJ,sV,vT,ES,Cn,eS,nG] at hg ⊢;(try simp only [D.bool.injEq] at hg);(try simp only [D.bool.injEq]);grind)))
  refine Ik ?_ (avI (F6 (nth (pieces s jk) k))) (abY _) ?_
  ·simp only [List.map,E.den,nG,gW,eB,aCF,Yo,iEq,sEq];rfl
  simp only [cA];refine aq (fun h4=>az ?_) (fun h4=> ?_)
  ·simp only [eS,iZ] at h4;have h4:zk (F6 (nth (pieces s jk) k))=false:=by simpa using h4
   rw [hno k h2 (by unfold Bj;rw [h4,Bool.and_false])];rfl
  ·simp only [eS,iZ] at h4;have h4:zk (F6 (nth (pieces s jk) k))=true:=by simpa using h4
   (refine aX (fun hg=> ?_) ?_;(focus (simp only [cK,fJ,sV,vT,ES,Cn,eS,nG] at hg ⊢;(try simp only [D.bool.injEq] at hg);(try simp only [D.bool.injEq]);grind)))
   refine aX (fun _=> ?_) ?_
   ·simp only [eS];simp [maxLen];omega
   refine dK h2 ?_ fun i hi=> ?_
   ·simp only [eS,iZ,gW,eB];rw [bW,ajC _ h2,nG,aaV];simp [ax,lY,pcC]
   ·rcases dY i k with h|h
    ·exact hI i h
    ·obtain rfl:i=k:=by omega
     unfold Bj;simp [hc,h4]
 ·obtain rfl:k=(pieces s jk).length:=by simp at h2;omega
  have hE:(pieces s jk).take (pieces s jk).length=pieces s jk:=vO;have hp:F5 s=iJ (Bg s):=by
   unfold F5;have:(pieces s jk).all Bj=true:=fO.2 fun x hx=>by obtain ⟨i,hi,rfl⟩:=yE hx;have:=hI i hi;simpa [nth,hi] using this
   rw [this,sS];cases hb:iJ (Bg s) with
   | false=>simp
   | true => have:=xy hb;unfold Bg at this;rw [cV] at this;simp [this]
  refine aF (X9 (Bg s)) ?_ (ha:=by (simp only [gS,hE,Bg];try exact rfl));refine aq (fun h6=>az ?_) (fun h6=>az ?_)
  ·simp only [eS] at h6;have h6:iJ (Bg s)=false:=by simpa using h6
   rw [oD,ak h0,ak (by rw [hp,h6];simp)];rfl
  ·simp only [eS] at h6;have h6:iJ (Bg s)=true:=by simpa using h6
   rw [oD,ak h0,aA (by rw [hp,h6])];simp only [eS,hE];rfl
def Q8(n:Int)(h:gH n=true):aH ay 237 none [.int .i64 n] (.int .i64 (jc n)) []:=by
 refine cB aoq aHe ⟨rfl,trivial⟩ fun hfit=> ?_;unfold aoq;obtain ⟨h1,h2⟩:=zj.1 h;have e:jc n=min (n+1) 999:=by unfold jc;rw [wrap_i64 (by omega) (by omega)]
 refine aq (fun g=>az ?_) (fun g=>az ?_)
 ·simp only [eS] at g ⊢;have g:999<=n:=by simpa using g
  rw [e];congr 1;omega
 ·simp only [eS] at g ⊢;have g:n<999:=by simpa using g
  rw [bW,e];congr 1;omega
def avY(p:Core)(x:Call)(hp:nj p=true)(hm:gy x=true):aH ay 248 none [enc p,enc x,.bool ((eI p.kind).testBit 0)] (.aL [enc (keepD p x).1,enc (keepD p x).2]) []:=by
 refine cB aok aG8 ⟨qo p,zz x,trivial,trivial⟩ fun hfit=> ?_;unfold aok;obtain ⟨p1,p2,p3,p4,p5,p6⟩:=qH.1 hp;have MG:=xy p2;have hpl:=akp (Rd p2) x.key;have hil:jV p.cells x.key=true->cX p.cells x.key<p.cells.length:=fun h=>(AY.1 h).1;have hg:(⟨#[71,101,116]⟩:ByteArray)=fH:=rfl;refine aF (afv p.cells x.key) ?_;refine aq (fun h=>az ?_) (fun h1=> ?_)
 ·simp only [eS,eY,bL] at h ⊢;have hE:keepD p x=(p,rep 2 0 0 0):=by unfold keepD;rw [aA (by simpa using h)]
  rw [hE];rfl
 simp only [eS,eY,bL] at h1;have h1: ¬((eI p.kind).testBit 0=true/\p.on=false):=by simpa using h1
 refine aq (fun h=>az ?_) (fun h2=> ?_)
 ·simp only [eS,eY,bL,hg] at h ⊢;simp only [aP,cC] at h;have hk:jV p.cells x.key=false:=by
   cases hk:jV p.cells x.key with
   | false=>rfl
   | true=>rw [hk] at hpl;simp at hpl;omega
  have hE:keepD p x=(p,rep 4 0 0 0):=by unfold keepD;rw [ak h1,aA h.1,hk];rfl
  rw [hE];rfl
 simp only [eS,eY,bL,hg] at h2;refine aq (fun h=> ?_) (fun h3=> ?_)
 ·simp only [eS,eY,bL,hg] at h;have h:x.method=fH:=by simpa using h
  have hk:jV p.cells x.key=true:=by
   cases hk:jV p.cells x.key with
   | true=>rfl
   | false=>rw [hk] at hpl;simp [h] at h2;simp at hpl;omega
  have hi:=hil hk;rw [hk] at hpl;have hpl:F7 p.cells x.key=((cX p.cells x.key:Nat):Int):=by simpa using hpl
  rw [hpl];refine fZ ?_;refine az ?_;simp only [eS,eY,rf,lY,jv];have hE:keepD p x=(p,rep 0 (nth p.cells (cX p.cells x.key)).val 0 0):=by unfold keepD;rw [ak h1,aA h,aA hk]
  rw [hE];rfl
 simp only [eS,eY,bL,hg] at h3;have h3:x.method≠fH:=by simpa using h3
 refine aq (fun h=>az ?_) (fun h4=> ?_)
 ·simp only [eS,eY,bL] at h ⊢;simp only [aP,cC] at h;have hk:jV p.cells x.key=false:=by
   cases hk:jV p.cells x.key with
   | false=>rfl
   | true=>rw [hk] at hpl;simp at hpl;omega
  have hE:keepD p x=(p,rep 5 0 0 0):=by unfold keepD;rw [ak h1,ak h3,aA ⟨hk,by have:=h.2;simp at this;omega⟩]
  rw [hE];rfl
 simp only [eS,eY,bL] at h4;have h4: ¬(jV p.cells x.key=false/\4<=p.cells.length):=by
  rintro ⟨k1,k2⟩;rw [k1] at hpl;have hpl:F7 p.cells x.key= -1:=by simpa using hpl
  rw [hpl] at h4;simp at h4;omega
 refine fQ (afw p.cells x.key x.val (Rd p2) (by omega)) (hty:=yd _) ?_;refine aF (Q8 p.count p4) ?_;refine az ?_;simp only [eS,eY,bL];have hE:keepD p x=(⟨p.kind,p.on,p.broken,qV p.cells x.key x.val,jc p.count⟩,rep 0 (qV p.cells x.key x.val).length 0 0):=by unfold keepD;rw [ak h1,ak h3,ak h4]
 rw [hE];rfl
def avZ(p:Core)(x:Call)(hp:nj p=true)(hm:x.method=mStart\/x.method=cM\/x.method=js)(hb: ¬(p.broken=true/\x.method≠js/\x.method≠jJ)):aH ay 250 none [enc p,.str x.method] (.aL [enc (fc p x).1,enc (fc p x).2]) []:=by
 refine cB aoo aHc ⟨qo p,trivial,trivial⟩ fun hfit=> ?_;unfold aoo;obtain ⟨p1,p2,p3,p4,p5,p6⟩:=qH.1 hp;have hg:(⟨#[72,101,97,108]⟩:ByteArray)=js:=rfl;have hs:(⟨#[83,116,111,112]⟩:ByteArray)=cM:=rfl;refine aq (fun h=>az ?_) (fun h1=> ?_)
 ·simp only [eS,eY,hg] at h ⊢;have h:x.method=js:=by simpa using h
  have hE:fc p x=(⟨p.kind,false,false,p.cells,p.count⟩,rep 0 0 0 0):=by unfold fc gy;rw [ak hb];simp only [h];rfl
  rw [hE];rfl
 simp only [eS,hg] at h1;have h1:x.method≠js:=by simpa using h1
 refine aq (fun h=>az ?_) (fun h2=> ?_)
 ·simp only [eS,eY,hs] at h ⊢;have h:x.method=cM/\p.on=false:=by simpa using h
  obtain ⟨h,ho⟩:=h;have hE:fc p x=(p,rep 2 0 0 0):=by unfold fc;rw [ak hb,ak (show ¬x.method=mStart by rw [h];decide),aA h,aA ho]
  rw [hE];rfl
 simp only [eS,eY,hs] at h2;refine aq (fun h=>az ?_) (fun h3=> ?_)
 ·simp only [eS,eY,hs] at h ⊢;have h:x.method=cM:=by simpa using h
  have ho: ¬p.on=false:=by simpa [h] using h2
  have hE:fc p x=(⟨p.kind,false,p.broken,p.cells,p.count⟩,rep 0 0 0 0):=by unfold fc;rw [ak hb,ak (show ¬x.method=mStart by rw [h];decide),aA h,ak ho]
  rw [hE];rfl
 simp only [eS,hs] at h3;have h3:x.method≠cM:=by simpa using h3
 have hS:x.method=mStart:=by rcases hm with h|h|h;exact h;exact absurd h h3;exact absurd h h1
 refine aq (fun h=>az ?_) (fun h4=> ?_)
 ·simp only [eS,eY] at h ⊢;have h:p.on=true:=by simpa using h
  have hE:fc p x=(⟨p.kind,false,true,p.cells,p.count⟩,rep 3 0 0 0):=by unfold fc;rw [ak hb,aA hS,aA h]
  rw [hE];rfl
 simp only [eS,eY] at h4;refine aF (Q8 p.count p4) ?_;refine az ?_;simp only [eS,eY];have hE:fc p x=(⟨p.kind,true,p.broken,p.cells,jc p.count⟩,rep 0 0 0 0):=by unfold fc;rw [ak hb,aA hS,ak (by simpa using h4)]
 rw [hE];rfl
def aIe{x:Call}(hx:bZ x=true): ∃j:Fin 6,cm x.method=((2^j.val:Nat):Int)/\x.method∈methods j.val:=Tx (LG hx)
def avX(p:Core)(x:Call)(hp:nj p=true)(hx:bZ x=true)(ht:x.text.size<4294967281):aH ay 236 none [enc p,enc x,.bool ((eI p.kind).testBit 0)] (.aL [enc (fc p x).1,enc (fc p x).2]) []:=by
 refine cB aoj aG7 ⟨qo p,zz x,trivial,trivial⟩ fun hfit=> ?_;unfold aoj;have hp':=hp;obtain ⟨p1,p2,p3,p4,p5,p6⟩:=qH.1 hp;have e1:(⟨#[72,101,97,108]⟩:ByteArray)=js:=rfl;have e2:(⟨#[84,101,108,108]⟩:ByteArray)=jJ:=rfl;have e3:(⟨#[71,101,116]⟩:ByteArray)=fH:=rfl;have e4:(⟨#[80,117,116]⟩:ByteArray)=eQ:=rfl;have e5:(⟨#[72,101,97,114]⟩:ByteArray)=eP:=rfl;have e6:(⟨#[83,97,118,101]⟩:ByteArray)=FV:=rfl;have e7:(⟨#[76,111,97,100]⟩:ByteArray)=gN:=rfl;refine aq (fun h=>az ?_) (fun h1=> ?_)
 ·simp only [eS,eY,bL,e1,e2] at h ⊢;have h:p.broken=true/\x.method≠js/\x.method≠jJ:=by simpa [and_assoc] using h
  have hE:fc p x=(p,rep 3 0 0 0):=by unfold fc;rw [aA h]
  rw [hE];rfl
 simp only [eS,eY,bL,e1,e2] at h1;have hb: ¬(p.broken=true/\x.method≠js/\x.method≠jJ):=by rintro ⟨q1,q2,q3⟩;simp [q1,q2,q3] at h1
 have K:gy x=true->fc p x=keepD p x:=fun h=>by obtain ⟨k1,k2,k3,k4,k5⟩:=Nf h;unfold fc;rw [ak hb,ak k4,ak k5,aA h]
 have hkeep:gy x=true->aH ay 248 none [enc p,enc x,.bool ((eI p.kind).testBit 0)] (.aL [enc (fc p x).1,enc (fc p x).2]) []:=fun h=>by rw [K h];exact avY p x hp h
 refine aq (fun h=> ?_) (fun h2=> ?_)
 ·simp only [eS,eY,bL,e3] at h;have h:x.method=fH:=by simpa using h
  refine aq (fun _=> ?_) (fun g=> ?_)
  ·refine aF (hkeep (Te.2 (.inl h))) (hty:=⟨qo _,wV _,trivial⟩) ?_;refine az ?_;simp only [eS]
  ·simp only [eS,bL,e3] at g;simp [h] at g
 simp only [eS,eY,bL,e3] at h2;have h2:x.method≠fH:=by simpa using h2
 refine aq (fun h=> ?_) (fun h3=> ?_)
 ·simp only [eS,eY,bL,e4] at h;have h:x.method=eQ:=by simpa using h
  refine aF (hkeep (Te.2 (.inr h))) (hty:=⟨qo _,wV _,trivial⟩) ?_;refine az ?_;simp only [eS]
 simp only [eS,eY,bL,e4] at h3;have h3:x.method≠eQ:=by simpa using h3
 refine aq (fun h=>az ?_) (fun h4=> ?_)
 ·simp only [eS,eY,bL,e2] at h ⊢;have h:x.method=jJ:=by simpa using h
  have hE:fc p x=(p,rep 0 p.count 0 0):=by unfold fc gy;rw [ak hb];simp only [h];rfl
  rw [hE];rfl
 simp only [eS,eY,bL,e2] at h4;have h4:x.method≠jJ:=by simpa using h4
 refine aq (fun h=> ?_) (fun h5=> ?_)
 ·simp only [eS,eY,bL,e5] at h;have h:x.method=eP:=by simpa using h
  refine aF (Q8 p.count p4) ?_;refine az ?_;simp only [eS,eY,bL];have hE:fc p x=(⟨p.kind,if x.val=0 then false else if x.val=1 then true else p.on,p.broken,p.cells,jc p.count⟩,rep 0 (jc p.count) 0 0):=by unfold fc gy;rw [ak hb];simp only [h];rfl
  have E2:((x.val==1)||(p.on&&(x.val != 0)))=(if x.val=0 then false else if x.val=1 then true else p.on):=by
   by_cases k0:x.val=0
   ·simp [k0]
   ·by_cases k1:x.val=1
    ·simp [k1]
    ·rw [ak k0,ak k1,show (x.val==1)=false from by simpa using k1,show (x.val != 0)=true from by simpa using k0];simp
  rw [hE,E2];rfl
 simp only [eS,eY,bL,e5] at h5;have h5:x.method≠eP:=by simpa using h5
 refine aq (fun h=> ?_) (fun h6=> ?_)
 ·simp only [eS,eY,bL,e6] at h;have h:x.method=FV:=by simpa using h
  refine aF (afn p.cells) ?_;refine az ?_;simp only [eS,eY,bL];have hE:fc p x=(p,⟨0,0,fmtC p.cells,0,0⟩):=by unfold fc gy;rw [ak hb];simp only [h];rfl
  rw [hE];rfl
 simp only [eS,eY,bL,e6] at h6;have h6:x.method≠FV:=by simpa using h6
 refine aq (fun h=> ?_) (fun h7=> ?_)
 ·simp only [eS,eY,bL,e7] at h;have h:x.method=gN:=by simpa using h
  have hE:fc p x=(if (oD x.text).2=true then (⟨p.kind,p.on,p.broken,(oD x.text).1,p.count⟩,rep 0 (oD x.text).1.length 0 0) else (p,rep 6 0 0 0)):=by unfold fc gy;rw [ak hb];simp only [h];rfl
  refine fQ (avH x.text ht) (hty:=⟨yd _,trivial,trivial⟩) ?_;refine aq (fun g=>az ?_) (fun g=>az ?_)
  ·simp only [eS,eY] at g ⊢;have g:(oD x.text).2=false:=by simpa using g
   rw [hE,g];rfl
  ·simp only [eS,eY] at g ⊢;have g:(oD x.text).2=true:=by simpa using g
   rw [hE,aA g];rfl
 simp only [eS,eY,bL,e7] at h7;have h7:x.method≠gN:=by simpa using h7
 have hm:x.method=mStart\/x.method=cM\/x.method=js:=by
  obtain ⟨j, -,hj⟩:=aIe hx;have h0: ∀j:Fin 6,∀s:ByteArray,s∈methods j.val->s=mStart\/s=cM\/s=js\/s=fH\/s=eQ\/s=jJ\/s=eP\/s=gN\/s=FV:=by decide
  rcases h0 j _ hj with h|h|h|h|h|h|h|h|h
  ·exact .inl h
  ·exact .inr (.inl h)
  ·exact .inr (.inr h)
  ·exact absurd h h2
  ·exact absurd h h3
  ·exact absurd h h4
  ·exact absurd h h5
  ·exact absurd h h7
  ·exact absurd h h6
 refine aF (avZ p x hp hm hb) (hty:=⟨qo _,wV _,trivial⟩) ?_;refine az ?_;simp only [eS]
def avx(p:Core)(x:Call)(hp:nj p=true)(hx:bZ x=true)(ho:cG (eI p.kind) (cm x.method)=true)(ht:x.text.size<4294967281):aH ay 220 none [enc p,enc x] (.aL [enc (fc p x).1,enc (fc p x).2]) []:=by
 refine cB ane aF7 ⟨qo p,zz x,trivial⟩ fun hfit=> ?_;unfold ane;obtain ⟨p1,p2,p3,p4,p5,p6⟩:=qH.1 hp;have MG:=xy p2;refine fQ (Ye p (by omega)) (hty:=qo _) ?_;refine aF (afo p) ?_;refine aF (LA x) ?_;apply aq<;>intro h
 ·simp only [eS] at h;rw [hp,hx] at h;cases h
 refine aF (Ih p.kind) ?_;refine aF (EX x.method) ?_;refine aF (vV (eI p.kind) (cm x.method)) ?_;apply aq<;>intro h
 ·simp only [eS] at h;rw [ho] at h;cases h
 refine aF (LD (eI p.kind) 0 (CV _) (by omega)) ?_;refine aF (avX p x hp hx ht) (hty:=⟨qo _,wV _,trivial⟩) ?_;refine az ?_;simp only [eS]
structure PV(K N:Nat->Prop)(w:World)(S1 S2:Value)(p:Part):Prop where
 gi:mT w/\NG<=w.heap.size
 kb: ∀b,K b->NG<=b
 kn: ∀b,K b->N b
 nb: ∀b,N b->b<w.heap.size
 cs:R w (fun a=>N a.block) (ax p.core.cells) S1
 ly: ∃g,kI K w g S2 (pH p.aw)
 ks:p.core.kind.size<=maxLen
 ct:IntKind.i64.min<=p.core.count/\p.core.count<=IntKind.i64.max
def cell_of_heap{w w':World}{p:Addr}(h:w'.heap[p.block]? =w.heap[p.block]?):w'.cell? p=w.cell? p:=by unfold World.cell?;rw [h]
def ai4{w w':World}{N:Nat->Prop}(h: ∀b,¬N b->w'.heap[b]? =w.heap[b]?):bY w (fun a=>N a.block) w' (fun a=>N a.block) :=
 fun p v hc hn=>⟨by rw [cell_of_heap (h _ hn)];exact hc,hn⟩
section
variable {K N N':Nat->Prop}{w w':World}{S1 S2:Value}{p:Part}
def PV.cE(h:PV K N w S1 S2 p):fN w (fun a=>N a.block):=⟨fun a ha=>h.nb _ ha,h.gi.1,h.gi.2⟩
def PV.new(h:PV K N w S1 S2 p)(hb:Below w.heap.size w w')(h1: ∀b,N' b->N b\/w.heap.size<=b)(h2: ∀b,N b->N' b)(h3: ∀b,N' b->b<w'.heap.size):PV K N' w' S1 S2 p:=by
 obtain ⟨g,hl⟩:=h.ly;exact ⟨⟨h.gi.1.keep fun k hk=>hb.block k (dm hk h.gi.2),dq h.gi.2 hb.size⟩,h.kb,fun b hk=>h2 b (h.kn b hk),h3,
  R.keep (bY.below hb fun q hq hn=>(h1 _ hn).elim id fun hq'=>by omega) _ _ h.cs,⟨g,hl.keep (fun b ho=>hb.block b (hl.out ho).2.2) fun _ h=>h⟩,h.ks,h.ct⟩
def PV.below(h:PV K N w S1 S2 p)(hb:Below w.heap.size w w'):PV K N w' S1 S2 p :=
 h.new hb (fun b hn=> .inl hn) (fun b hn=>hn) fun b hn=>dm (h.nb b hn) hb.size
def PV.less(h:PV K N w S1 S2 p)(h1: ∀b,N' b->N b)(h2: ∀b,K b->N' b):PV K N' w S1 S2 p :=
 {h with kn:=h2,nb:=fun b hb=>h.nb b (h1 b hb),cs:=R.less h.cs fun _ hq=>h1 _ hq}
def PV.one{b:Nat}(h:PV K N w S1 S2 p)(ho:bN w w' b)(hn:N b)(hk: ¬K b)(hg:NG<=b):PV K N w' S1 S2 p:=by
 obtain ⟨g,hl⟩:=h.ly;exact ⟨⟨h.gi.1.keep fun k hk=>ho.block k (by omega),by rw [ho.size];exact h.gi.2⟩,h.kb,h.kn,fun b hb=>by rw [ho.size];exact h.nb b hb,
  R.keep (ai4 fun i hi=>ho.block i fun e=>hi (e▸hn)) _ _ h.cs,⟨g,hl.keep (fun i hi=>ho.block i fun e=>hk (e▸(hl.out hi).1)) fun _ h=>h⟩,h.ks,h.ct⟩
def PV.len(h:PV K N w S1 S2 p): ∃a n c,S1= .slice a n c:=by obtain ⟨a,n,c,rfl,_⟩:=h.cs;exact ⟨a,n,c,rfl⟩
def PV.jA(h:PV K N w S1 S2 p): ∀u∈(bX p S1 S2).toList,u.oneCell'=true:=by obtain ⟨a,n,c,rfl⟩:=h.len;obtain ⟨g,hl⟩:=h.ly;obtain ⟨a2,c2,rfl,_⟩:=hl.aBA;exact aa6 _
def PV.lay{b o n cap k:Nat}(h:PV K N w S1 (.slice (some ⟨b,o,none⟩) n cap) p)(hk:k<p.aw.length) :
  w.cell? ⟨b,o+k*2,none⟩=some (.string (nth p.aw k).name)/\w.cell? ⟨b,o+k*2+1,none⟩=some (.int .i64 (nth p.aw k).count)/\(∀i,w.frozen? ⟨b,i,none⟩=false)/\K b/\n=p.aw.length:=by
 have hi:k<(pH p.aw).length:=by rw [Jp];exact hk
 obtain ⟨g,hl⟩:=h.ly;obtain ⟨b',o',cp,e,h1,h2,h3,h4,h5,h6,h7⟩:=hl.at hi;simp only [gF,bg,mC,vR] at e;obtain ⟨⟨rfl,rfl⟩,e2,_⟩:=e;rw [aks hk] at h4 h5;exact ⟨h4,h5,fun i=>h6 i none,h1,by rw [e2,Jp]⟩
def PV.slot{k:Nat}(h:PV K N w S1 S2 p)(hk:k<p.aw.length): ∃b o cap,S2= .slice (some ⟨b,o,none⟩) p.aw.length cap:=by
 have hi:k<(pH p.aw).length:=by rw [Jp];exact hk
 obtain ⟨g,hl⟩:=h.ly;obtain ⟨b',o',cp,e,_⟩:=hl.at hi;exact ⟨b',o',cp,by rw [e,Jp]⟩
def PV.bump{b o n cap k:Nat}(h:PV K N w S1 (.slice (some ⟨b,o,none⟩) n cap) p)(hk:k<p.aw.length)(hv:IntKind.i64.min<=jc (nth p.aw k).count/\jc (nth p.aw k).count<=IntKind.i64.max) :
  PV K N (w.setCell ⟨b,o+k*2+1,none⟩ (.int .i64 (jc (nth p.aw k).count))) S1 (.slice (some ⟨b,o,none⟩) n cap) (bump p k):=by
 obtain ⟨-, -, -,hKb,en⟩:=h.lay hk;subst en;obtain ⟨g,hl⟩:=h.ly;have hil:k<(pH p.aw).length:=by rw [Jp];exact hk
 have e0:p.aw.length=(pH p.aw).length:=(Jp _).symm;rw [e0] at hl ⊢;have hput:=hl.put hil hv;have hset:(pH p.aw).set k ((nth (pH p.aw) k).1,jc (nth p.aw k).count)=pH (Go.Proofs.YtekplmpbkgchfaaGreatDoor.bump p k).aw:=by rw [aks hk];unfold pH Go.Proofs.YtekplmpbkgchfaaGreatDoor.bump;rw [PS]
 rw [hset] at hput;exact ⟨giK h.gi (h.kb _ hKb),h.kb,h.kn,fun i hi=>by have:=h.nb i hi;simpa using this,
  R.keep (ai4 fun i hi=>ZK fun e=>hi (e▸h.kn _ hKb)) _ _ h.cs,⟨g,hput⟩,h.ks,h.ct⟩
structure MB(K N:Nat->Prop)(w:World)(b:Nat)(T:TypeId)(cs:Array Value):Prop where
 bl:aC w b T cs
 n:N b
 k: ¬K b
 g:NG<=b
def MB.lt{b:Nat}{T:TypeId}{cs:Array Value}(h:MB K N w b T cs):b<w.heap.size:=h.bl.lt
def MB.kr{b:Nat}{T:TypeId}{cs:Array Value}(h:MB K N w b T cs)(hf:dF K w w'):MB K N w' b T cs:={h with bl:=h.bl.kr hf h.k}
def MB.below{b:Nat}{T:TypeId}{cs:Array Value}(h:MB K N w b T cs)(hb:Below w.heap.size w w'):MB K N w' b T cs:={h with bl:=h.bl.below hb h.bl.lt}
def MB.more{b:Nat}{T:TypeId}{cs:Array Value}(h:MB K N w b T cs)(hN: ∀b,N b->N' b):MB K N' w b T cs:={h with n:=hN _ h.n}
def MB.other{b b':Nat}{T:TypeId}{cs:Array Value}(h:MB K N w b T cs)(ho:bN w w' b')(hne:b≠b'):MB K N w' b T cs:={h with bl:=(ho.block _ hne).trans h.bl}
def MB.put{b:Nat}{T:TypeId}{cs cs':Array Value}(h:MB K N w b T cs)(hr:aC w' b T cs'):MB K N w' b T cs':={h with bl:=hr}
def MB.far{b:Nat}{T:TypeId}{cs:Array Value}(h:MB K N w b T cs){a:Addr}(v:Value)(ha:K a.block):MB K N (w.setCell a v) b T cs:={h with bl:=h.bl.far (fun e=>h.k (e▸ha)) v}
def MB.new{b:Nat}{T:TypeId}{cs:Array Value}(h:PV K N w S1 S2 p)(hr:aC w' b T cs)(hb:w.heap.size<=b)(hn:N' b):MB K N' w' b T cs :=
 ⟨hr,hn,fun hk=>by have:=h.nb _ (h.kn _ hk);omega,dq h.gi.2 hb⟩
end
def aDB{P:Program}{fn:Func}{p u t3:Tmp}{ty oH:TypeId}(h:fn.results= #[.cell p ty,.cell u oH,.tmp t3])(tmps:Array Value)(w:World){g g2:Nat}{t t2:TypeId}{cs nX:Array Value}(d d2:TypeDesc)
  (hp:tmps.getD p undef= .pointer (some ⟨g,0,none⟩)) (hg:aC w g t cs) (hu:P.underlying ty=some d) (hd:(match d with| .struct _| .array _ _=>true|_=>false)=true) (hi:(P.info? ty).map (·.size)=some cs.size)
  (nG:tmps.getD u undef= .pointer (some ⟨g2,0,none⟩)) (Fw:aC w g2 t2 nX) (qa:P.underlying oH=some d2) (nF:(match d2 with| .struct _| .array _ _=>true|_=>false)=true) (hi2:(P.info? oH).map (·.size)=some nX.size) :
  (results fn tmps).run P w= .ok (.tuple #[.agg cs,.agg nX,tmps.getD t3 undef]) w:=by
 have hp':tmps[p]?.getD undef= .pointer (some ⟨g,0,none⟩):=by simpa using hp
 have Z6:tmps[u]?.getD undef= .pointer (some ⟨g2,0,none⟩):=by simpa using nG
 simp [results,h,hp',Z6,asAddr,Hz w g t ty cs (0,0) d hg hu hd hi,Hz w g2 t2 oH nX (0,0) d2 Fw qa nF hi2,lK,Result.andThen]
def qw{n:Nat}{P:Program}{E:List (Nat×Value)}{w:World}{fn:Func}{R:Ending->World->Prop}{p u t3:Tmp}{ty oH:TypeId}{g g2:Nat}{t t2:TypeId}{cs nX:Array Value}{d d2:TypeDesc}{v:Value}(h:fn.results= #[.cell p ty,.cell u oH,.tmp t3])(hv:lk E t3=some v)(hg:aC w g t cs)(Fw:aC w g2 t2 nX)(hu:P.underlying ty=some d)(qa:P.underlying oH=some d2)(hi:(P.info? ty).map (·.size)=some cs.size)(hi2:(P.info? oH).map (·.size)=some nX.size)(hR:R (.returned (.tuple #[.agg cs,.agg nX,v])) w)(hp:lk E p=some (.pointer (some ⟨g,0,none⟩)):=by rfl)(nG:lk E u=some (.pointer (some ⟨g2,0,none⟩)):=by rfl)(hd:(match d with| .struct _| .array _ _=>true|_=>false)=true:=by rfl)(nF:(match d2 with| .struct _| .array _ _=>true|_=>false)=true:=by rfl):NX n (bodyPost P fn R .ret) E w :=
 fun a hE=>⟨hE.df,_,aDB h a.tmps w d d2 (hE.at' p _ hp) hg hu hd hi (hE.at' u _ nG) Fw qa nF hi2,by rw [hE.at' t3 _ hv];exact hR⟩
def aD(ve vp vu vs vl:Value):Array Value:= #[ve,vp,vu,vs,vl]
structure HX(M:Addr->Prop)(N:Nat->Prop)(w:World)(h:Host)(ve vp vs vl:Value):Prop where
 gi:mT w/\NG<=w.heap.size
 mb: ∀q,M q->q.block<w.heap.size
 nb: ∀x,N x->x<w.heap.size
 e:R w (BM M N) (ax h.entries) ve
 p:OR M N w 58 6 (h.parts.map aE.cells) vp
 s:R w (BM M N) (ax h.shut) vs
 l:OR M N w 28 7 (h.log.map aE.cells) vl
 pl: ∀x,vp.ownBlock=some x->vl.ownBlock≠some x
 gp: ∀x,vp.ownBlock=some x->NG<=x
 gl: ∀x,vl.ownBlock=some x->NG<=x
def KV(vp vl:Value):Nat->Prop:=fun x=>vp.ownBlock=some x\/vl.ownBlock=some x
section
variable {M:Addr->Prop}{N N':Nat->Prop}{w w':World}{h:Host}{ve vp vu vs vl:Value}
def HX.cE(H:HX M N w h ve vp vs vl):fN w (BM M N):=⟨fun q hq=>hq.elim (H.mb q) (H.nb _),H.gi.1,H.gi.2⟩
def da{d:D}{v:Value}(hr:R w (BM M N) d v)(hb:Below w.heap.size w w')(hN: ∀x,N' x->N x\/w.heap.size<=x):R w' (BM M N') d v :=
 R.keep (BM.below hb hN) _ _ hr
def HX.new(H:HX M N w h ve vp vs vl)(hb:Below w.heap.size w w')(hN: ∀x,N' x->N x\/w.heap.size<=x)(iz: ∀x,N x->N' x)(yT: ∀x,N' x->x<w'.heap.size):HX M N' w' h ve vp vs vl :=
 {H with
  gi:=⟨H.gi.1.keep fun k hk=>hb.block k (dm hk H.gi.2),dq H.gi.2 hb.size⟩
  mb:=fun q hq=>dm (H.mb q hq) hb.size
  nb:=yT
  e:=da H.e hb hN
  p:=H.p.below hb hN iz
  s:=da H.s hb hN
  l:=H.l.below hb hN iz}
def HX.below(H:HX M N w h ve vp vs vl)(hb:Below w.heap.size w w'):HX M N w' h ve vp vs vl :=
 H.new hb (fun x hx=> .inl hx) (fun x hx=>hx) fun x hx=>dm (H.nb x hx) hb.size
def gz{d:D}{v:Value}{g:Nat}(hr:R w (BM M N) d v)(ho:bN w w' g)(hg:N g):R w' (BM M N) d v :=
 R.keep (BM.one ho hg) _ _ hr
def HX.one{g:Nat}(H:HX M N w h ve vp vs vl)(ho:bN w w' g)(hg:N g)(hk: ¬KV vp vl g)(uD:NG<=g):HX M N w' h ve vp vs vl :=
 {H with
  gi:=⟨H.gi.1.keep fun k hk=>ho.block k (by omega),by rw [ho.size];exact H.gi.2⟩
  mb:=fun q hq=>by rw [ho.size];exact H.mb q hq
  nb:=fun x hx=>by rw [ho.size];exact H.nb x hx
  e:=gz H.e ho hg
  p:=H.p.one ho hg fun e=>hk (.inl e)
  s:=gz H.s ho hg
  l:=H.l.one ho hg fun e=>hk (.inr e)}
def HX.part{b cap i:Nat}{p:Part}(H:HX M N w h ve (.slice (some ⟨b,0,none⟩) h.parts.length cap) vs vl)(hp:OR M N w' 58 6 ((h.parts.map aE.cells).set i (aE.cells p)) (.slice (some ⟨b,0,none⟩) h.parts.length cap))(ho:bN w w' b):HX M N w' {h with parts:=h.parts.set i p} ve (.slice (some ⟨b,0,none⟩) h.parts.length cap) vs vl:=by
 have hb:N b:=(H.p.lt b rfl).1;have uD:=H.gp b rfl;exact {H with
  gi:=⟨H.gi.1.keep fun k hk=>ho.block k (by omega),by rw [ho.size];exact H.gi.2⟩
  mb:=fun q hq=>by rw [ho.size];exact H.mb q hq
  nb:=fun x hx=>by rw [ho.size];exact H.nb x hx
  e:=gz H.e ho hb
  p:=by rw [PS];exact hp
  s:=gz H.s ho hb
  l:=H.l.one ho hb fun e=>H.pl b rfl e}
def OR.less{T m:Nat}{rows:List (List D)}{v:Value}(h:OR M N w T m rows v)(h1: ∀x,N' x->N x)(h2: ∀x,v.ownBlock=some x->N' x):OR M N' w T m rows v :=
 h.keep (fun _ _=>rfl) (fun p u hp hn=>⟨hp,fun hq=>hn (hq.imp id (h1 _))⟩) h2
def HX.less(H:HX M N w h ve vp vs vl)(h1: ∀x,N' x->N x)(h2: ∀x,KV vp vl x->N' x):HX M N' w h ve vp vs vl :=
 {H with
  nb:=fun x hx=>H.nb x (h1 x hx)
  e:=R.less H.e fun q hq=>hq.imp id (h1 _)
  p:=H.p.less h1 fun x hx=>h2 x (.inl hx)
  s:=R.less H.s fun q hq=>hq.imp id (h1 _)
  l:=H.l.less h1 fun x hx=>h2 x (.inr hx)}
def HX.grow{row:Option Nat}(H:HX M N w h ve vp vs vl)(hg:w.grownBy w' row)(hr: ∀x,row=some x->N x/\ ¬KV vp vl x/\NG<=x)(hN: ∀x,N' x->N x\/w.heap.size<=x)(iz: ∀x,N x->N' x)(yT: ∀x,N' x->x<w'.heap.size):HX M N' w' h ve vp vs vl:=by
 have kp:bY w (BM M N) w' (BM M N'):=fun p u hc hn=>by have hpl:=gR hc;have hb:w'.heap[p.block]? =w.heap[p.block]? :=hg.block p.block hpl fun e=>hn (.inr (hr _ e.symm).1);exact ⟨by unfold World.cell? at hc ⊢;rw [hb];exact hc,fun h=>h.elim (fun h=>hn (.inl h)) fun h=>(hN _ h).elim (fun h=>hn (.inr h)) fun h=>by omega⟩
 exact {H with
  gi:=⟨H.gi.1.keep fun k hk=>hg.block k (dm hk H.gi.2) fun e=>by have:=(hr _ e.symm).2.2;omega,dq H.gi.2 hg.size⟩
  mb:=fun q hq=>dm (H.mb q hq) hg.size
  nb:=yT
  e:=R.keep kp _ _ H.e
  p:=H.p.keep (fun x hx=>hg.block x (H.p.lt x hx).2 fun e=>(hr _ e.symm).2.1 (.inl hx)) kp fun x hx=>iz x (H.p.lt x hx).1
  s:=R.keep kp _ _ H.s
  l:=H.l.keep (fun x hx=>hg.block x (H.l.lt x hx).2 fun e=>(hr _ e.symm).2.1 (.inr hx)) kp fun x hx=>iz x (H.l.lt x hx).1}
end
section
variable {n:Nat}{P:Program}{Q:Exit->Act->World->Prop}{E:List (Nat×Value)}{w:World}
variable {t0 t1 t2 t3 t4 t5 t6 t7:Nat}{dA:TypeDesc}{o0 o1 o2 o3 o4 o5 o6 o7:Oper}{b' c' k':Nat}{s u s1 u1:ByteArray}
def NQ{xl xc:Operand}{TC A1 A2 A3 A4:TypeId}{fC:Nat}
  (h0:o0.op= .move xl) (g0:o0.guard=none) (d0:o0.dst=some t0)
  (h1:o1.op= .binOp .eql A2 (.tmp t0) (.const (.string u)) A3) (g1:o1.guard=none) (d1:o1.dst=some t1)
  (h2:o2.op= .move (.tmp t1)) (g2:o2.guard=none) (d2:o2.dst=some t2)
  (h3:o3.op= .fieldAddr TC xc fC) (g3:o3.guard=some (2,true)) (d3:o3.dst=some t3)
  (h4:o4.op= .load A1 (.tmp t3)) (g4:o4.guard=some (2,true)) (d4:o4.dst=some t4)
  (h5:o5.op= .binOp .eql A2 (.tmp t4) (.const (.string u1)) A4) (g5:o5.guard=some (2,true)) (d5:o5.dst=some t5)
  (h6:o6.op= .pick (.tmp t2) (.tmp t5) (.const (.bool false))) (g6:o6.guard=none) (d6:o6.dst=some t6)
  (h7:o7.op= .assign (.tmp t6)) (g7:o7.guard=none) (d7:o7.dst=some t7)
  (hn:t0<n/\t1<n/\t2<n/\t3<n/\t4<n/\t5<n/\t6<n/\t7<n)
  (MX: ∀z0 z1 z2,ev ((t2,z2)::(t1,z1)::(t0,z0)::E) xc=some (.pointer (some ⟨b',c',none⟩)))
  (il:t2≠t5/\t2≠t4/\t2≠t3)
  (hxl:ev E xl=some (.string s)) (hA:P.underlying A1=some dA) (RM:Kt dA=false)
  (R9:n9 P TC fC=some k') (hc2:w.cell? ⟨b',c'+k',none⟩=some (.string s1))
  (h: ∀E',(∀t,t∉[t0,t1,t2,t3,t4,t5,t6,t7]->lk E' t=lk E t)->lk E' t7=some (.bool (iK .eql s u&&iK .eql s1 u1))->NX n (Q .normal) E' w) :
  WL n P #[o0,o1,o2,o3,o4,o5,o6,o7] Q [o0,o1,o2,o3,o4,o5,o6,o7] E w:=by
 obtain ⟨n0,n1,n2,n3,n4,n5,n6,n7⟩:=hn;have eJ: ∀t v (F:List (Nat×Value)),lk ((t,v)::F) t=some v:=fun t v F=>by simp [lk]
 have ji: ∀{t t' v} {F:List (Nat×Value)},t≠t'->lk ((t',v)::F) t=lk F t:=fun {t t' v F} hne=>by
  simp only [lk];cases hb:Nat.beq t' t with
  | false=>rfl
  | true=>exact absurd (iW hb).symm hne
 refine jN g0 d0 (aN (ho:=h0) (hx:=hxl)) n0 ?_;refine jN g1 d1 (Nv h1 (eJ _ _ _) rfl) n1 ?_;refine jN g2 d2 (aN (ho:=h2) (hx:=(eJ _ _ _))) n2 ?_;have fin: ∀(vs:List (Nat×Value)) (t:Nat),t∉[t0,t1,t2,t3,t4,t5,t6,t7]->(∀p∈vs,p.1∈[t0,t1,t2,t3,t4,t5,t6,t7])->lk (vs++E) t=lk E t:=by
  intro vs t ht;induction vs with
  | nil=>intro _;rfl
  | cons p r ih => intro hp;obtain ⟨pt,pv⟩:=p;have h1:pt∈[t0,t1,t2,t3,t4,t5,t6,t7]:=hp (pt,pv) (by simp);rw [iH,ji (fun e=>ht (by rw [e];exact h1))];exact ih fun q hq=>hp q (by simp [hq])
 cases hb:iK .eql s u with
 | false => refine WL.no (b:=false) g3 (by simpa using d2) (by rw [eJ]) d3 n3 ?_;refine WL.no (b:=false) g4 (by simpa using d2) (by rw [ji il.2.2,eJ]) d4 n4 ?_;refine WL.no (b:=false) g5 (by simpa using d2) (by rw [ji il.2.1,ji il.2.2,eJ]) d5 n5 ?_;refine jN g6 d6 (uV h6 (by show lk _ _=_;rw [ji il.1,ji il.2.1,ji il.2.2,eJ]) rfl) n6 ?_;refine jN g7 d7 (cy (ho:=h7) (hx:=(eJ _ _ _))) n7 (WL.nil (h _ (fun t ht=> ?_) (by rw [eJ,hb];rfl)));exact fin [_,_,_,_,_,_,_,_] t ht (by simp)
 | true => refine Cc (b:=true) g3 (by simpa using d2) (by rw [eJ]) d3 (bD (ho:=h3) (hx:=(MX _ _ _)) R9) n3 ?_;refine Cc (b:=true) g4 (by simpa using d2) (by rw [ji il.2.2,eJ]) d4 (bM (ho:=h4) (hx:=(eJ _ _ _)) hA (hd:=RM) hc2) n4 ?_;refine Cc (b:=true) g5 (by simpa using d2) (by rw [ji il.2.1,ji il.2.2,eJ]) d5 (Nv h5 (eJ _ _ _) rfl) n5 ?_;refine jN g6 d6 (uW h6 (by show lk _ _=_;rw [ji il.1,ji il.2.1,ji il.2.2,eJ]) (eJ _ _ _)) n6 ?_;refine jN g7 d7 (cy (ho:=h7) (hx:=(eJ _ _ _))) n7 (WL.nil (h _ (fun t ht=> ?_) (by rw [eJ,hb,sS])));exact fin [_,_,_,_,_,_,_,_] t ht (by simp)
def al3{xl xb:Operand}{bk:Bool}{A2 A3:TypeId}
  (h0:o0.op= .move xl) (g0:o0.guard=none) (d0:o0.dst=some t0)
  (h1:o1.op= .binOp .eql A2 (.tmp t0) (.const (.string u)) A3) (g1:o1.guard=none) (d1:o1.dst=some t1)
  (h2:o2.op= .move (.tmp t1)) (g2:o2.guard=none) (d2:o2.dst=some t2)
  (h3:o3.op= .move xb) (g3:o3.guard=some (2,true)) (d3:o3.dst=some t3)
  (h4:o4.op= .pick (.tmp t2) (.tmp t3) (.const (.bool false))) (g4:o4.guard=none) (d4:o4.dst=some t4)
  (h5:o5.op= .assign (.tmp t4)) (g5:o5.guard=none) (d5:o5.dst=some t5)
  (hn:t0<n/\t1<n/\t2<n/\t3<n/\t4<n/\t5<n)
  (hxb: ∀z0 z1 z2,ev ((t2,z2)::(t1,z1)::(t0,z0)::E) xb=some (.bool bk))
  (il:t2≠t3)
  (hxl:ev E xl=some (.string s))
  (h: ∀E',(∀t,t∉[t0,t1,t2,t3,t4,t5]->lk E' t=lk E t)->lk E' t5=some (.bool (iK .eql s u&&bk))->NX n (Q .normal) E' w) :
  WL n P #[o0,o1,o2,o3,o4,o5] Q [o0,o1,o2,o3,o4,o5] E w:=by
 obtain ⟨n0,n1,n2,n3,n4,n5⟩:=hn;have eJ: ∀t v (F:List (Nat×Value)),lk ((t,v)::F) t=some v:=fun t v F=>by simp [lk]
 have ji: ∀{t t' v} {F:List (Nat×Value)},t≠t'->lk ((t',v)::F) t=lk F t:=fun {t t' v F} hne=>by
  simp only [lk];cases hb:Nat.beq t' t with
  | false=>rfl
  | true=>exact absurd (iW hb).symm hne
 refine jN g0 d0 (aN (ho:=h0) (hx:=hxl)) n0 ?_;refine jN g1 d1 (Nv h1 (eJ _ _ _) rfl) n1 ?_;refine jN g2 d2 (aN (ho:=h2) (hx:=(eJ _ _ _))) n2 ?_;have fin: ∀(vs:List (Nat×Value)) (t:Nat),t∉[t0,t1,t2,t3,t4,t5]->(∀p∈vs,p.1∈[t0,t1,t2,t3,t4,t5])->lk (vs++E) t=lk E t:=by
  intro vs t ht;induction vs with
  | nil=>intro _;rfl
  | cons p r ih => intro hp;obtain ⟨pt,pv⟩:=p;have h1:pt∈[t0,t1,t2,t3,t4,t5]:=hp (pt,pv) (by simp);rw [iH,ji (fun e=>ht (by rw [e];exact h1))];exact ih fun q hq=>hp q (by simp [hq])
 cases hb:iK .eql s u with
 | false => refine WL.no (b:=false) g3 (by simpa using d2) (by rw [eJ]) d3 n3 ?_;refine jN g4 d4 (uV h4 (by show lk _ _=_;rw [ji il,eJ]) rfl) n4 ?_;refine jN g5 d5 (cy (ho:=h5) (hx:=(eJ _ _ _))) n5 (WL.nil (h _ (fun t ht=> ?_) (by rw [eJ,hb];rfl)));exact fin [_,_,_,_,_,_] t ht (by simp)
 | true => refine Cc (b:=true) g3 (by simpa using d2) (by rw [eJ]) d3 (aN (ho:=h3) (hx:=(hxb _ _ _))) n3 ?_;refine jN g4 d4 (uW h4 (by show lk _ _=_;rw [ji il,eJ]) (eJ _ _ _)) n4 ?_;refine jN g5 d5 (cy (ho:=h5) (hx:=(eJ _ _ _))) n5 (WL.nil (h _ (fun t ht=> ?_) (by rw [eJ,hb,sS])));exact fin [_,_,_,_,_,_] t ht (by simp)
end
def K0(w:World)(z:Array Value)(T:TypeId):Below w.heap.size w (w.alloc (.cells z T)):=by go_grown
def PV.alloc{K N:Nat->Prop}{w:World}{S1 S2:Value}{p:Part}(h:PV K N w S1 S2 p)(T:TypeId)(z:Array Value) :
  ∃w' N',w'=w.alloc (.cells z T)/\Below w.heap.size w w'/\(∀b,N b->N' b)/\PV K N' w' S1 S2 p/\MB K N' w' w.heap.size T z/\w'.heap.size=w.heap.size+1:=by
 have hb:=K0 w z T;have hs:(w.alloc (.cells z T)).heap.size=w.heap.size+1:=by simp [dI]
 have hN:PV K (fun i=>N i\/i=w.heap.size) (w.alloc (.cells z T)) S1 S2 p:=h.new hb (fun b hb=>hb.imp id fun e=>by omega) (fun b hb=> .inl hb) fun b hb=>by
  rcases hb with hb|hb
  ·have:=h.nb b hb;omega
  ·omega
 exact ⟨_,_,rfl,hb,fun b hb=> .inl hb,hN,MB.new h (aC.new w T z) (bU _) (.inr rfl),hs⟩
def GW(K N:Nat->Prop)(w:World)(S2:Value)(y:Part×gJ)(e:Ending)(w':World):Prop :=
 ∃jM,e= .returned (.tuple #[.agg (bX y.1 jM S2),.agg (eC y.2)])/\PV K N w' jM S2 y.1/\dF K w w'
def GZ(k:Nat):Prop:= ∀(K N:Nat->Prop) (w:World) (S1 S2:Value) (p:Part) (x:Call),PV K N w S1 S2 p->GX x->di p=true->bZ x=true->k<=p.aw.length->cG (fS p k) (cm x.method)=true ->
 Calls ay 193 #[.agg (bX p S1 S2),.int .i64 ((k:Nat):Int),oZ x] w (GW K N w S2 (aW k p x))
def sN(K N:Nat->Prop)(w:World)(S2:Value)(k:Nat)(p:Part)(x:Call)(e:Ending)(w':World):Prop :=
 ∃jM q r own,e= .returned (.tuple #[.agg (bX q jM S2),.agg (eC r),.bool own])/\PV K N w' jM S2 q/\dF K w w'/\(own=true->aW (k+1) p x=(q,r))/\(own=false->q=p/\aW (k+1) p x=aW k p x/\cG (fS p k) (cm x.method)=true)
def aeC(k:Nat):Prop:= ∀(K N:Nat->Prop) (w:World) (S1 S2:Value) (p:Part) (x:Call),PV K N w S1 S2 p->GX x->di p=true->bZ x=true->k+1<=p.aw.length->cG (fS p (k+1)) (cm x.method)=true ->
 Calls ay 221 #[.agg (bX p S1 S2),.int .i64 ((k+1:Nat):Int),oZ x] w (sN K N w S2 k p x)
def sN.mk{K N N':Nat->Prop}{w w':World}{S1 S2:Value}{k:Nat}{p q:Part}{x:Call}{r:gJ}{own:Bool}{e:Ending}(he:e= .returned (.tuple #[.agg (bX q S1 S2),.agg (eC r),.bool own]))(H:PV K N' w' S1 S2 q)(hN: ∀b,N b->N' b)(hK: ∀b,K b->N b)(hF:dF K w w')
  (h1:own=true->aW (k+1) p x=(q,r)) (h2:own=false->q=p/\aW (k+1) p x=aW k p x/\cG (fS p k) (cm x.method)=true):sN K N w S2 k p x e w' :=
 ⟨S1,q,r,own,he,H.less hN hK,hF,h1,h2⟩
def asr{K N:Nat->Prop}{w:World}{S1 S2:Value}{p:Part}(h:PV K N w S1 S2 p)(n:Int)(hn:gH n=true) :
  Calls ay 237 #[.int .i64 n] w fun e w'=>e= .returned (.int .i64 (jc n))/\Below w.heap.size w w':=by
 have hn':=zj.1 hn;refine (aH.calls (Q8 n hn) (vs:=[.int .i64 n]) h.cE ⟨_,[],rfl,⟨rfl,by have:IntKind.i64.min= -9223372036854775808/\IntKind.i64.max=9223372036854775807:=(by decide);omega⟩,rfl⟩).mono ?_;rintro e w' ⟨v,rfl,⟨rfl,h1⟩,h3⟩;exact ⟨rfl,h3⟩
def avT(a b:Int):aH ay 238 none [.int .i64 a,.int .i64 b] (.int .i64 (if a<b then a else b)) []:=by
 refine cB an2 aGR ⟨rfl,rfl,trivial⟩ fun hfit=> ?_;unfold an2;refine aq (fun h=>az ?_) (fun h=>az ?_)
 ·simp only [eS] at h ⊢;have h:a<b:=by simpa using h
  rw [aA h]
 ·simp only [eS] at h ⊢;have h: ¬a<b:=by simpa using h
  rw [ak h]
def aIa{K N:Nat->Prop}{w:World}{S1 S2:Value}{p:Part}(h:PV K N w S1 S2 p)(a:Int)(ha:IntKind.i64.min<=a/\a<=IntKind.i64.max) :
  Calls ay 238 #[.int .i64 a,.int .i64 999] w fun e w'=>e= .returned (.int .i64 (min a 999))/\Below w.heap.size w w':=by
 refine (aH.calls (avT a 999) (vs:=[.int .i64 a,.int .i64 999]) h.cE ⟨_,_,rfl,⟨rfl,ha⟩,_,[],rfl,⟨rfl,by decide⟩,rfl⟩).mono ?_;rintro e w' ⟨v,rfl,⟨rfl,h1⟩,h3⟩;refine ⟨?_,h3⟩;congr 2;split<;>congr 1<;>omega
def aH9{K N:Nat->Prop}{w:World}{S1 S2:Value}{p:Part}(h:PV K N w S1 S2 p)(x:Call)(hx:GX x)(hp:di p=true)(hc:bZ x=true)(ho:cG (fS p 0) (cm x.method)=true) :
  Calls ay 220 #[.agg #[.string p.core.kind,.bool p.core.on,.bool p.core.broken,S1,.int .i64 p.core.count],oZ x] w fun e w' =>
   ∃jM,e= .returned (.tuple #[.agg #[.string (fc p.core x).1.kind,.bool (fc p.core x).1.on,.bool (fc p.core x).1.broken,jM,.int .i64 (fc p.core x).1.count],.agg (eC (fc p.core x).2)])/\PV K N w' jM S2 ⟨(fc p.core x).1,p.aw⟩/\Below w.heap.size w w':=by
 have qP:=(oF.1 hp).1;have hk:fS p 0=eI p.core.kind:=by unfold fS;rw [aA rfl]
 rw [hk] at ho;refine (aH.calls (avx p.core x qP hc ho hx.text) (vs:=[.agg #[.string p.core.kind,.bool p.core.on,.bool p.core.broken,S1,.int .i64 p.core.count],oZ x]) h.cE ⟨_,_,rfl,⟨_,rfl,_,_,rfl,⟨rfl,h.ks⟩,_,_,rfl,rfl,_,_,rfl,rfl,_,_,rfl,h.cs,_,_,rfl,⟨rfl,h.ct⟩,rfl⟩,_,[],rfl,
  ⟨_,rfl,_,_,rfl,⟨rfl,hx.method⟩,_,_,rfl,⟨rfl,hx.key⟩,_,_,rfl,⟨rfl,hx.val⟩,_,_,rfl,⟨rfl,by have:=hx.text;unfold maxLen;omega⟩,rfl⟩,rfl⟩).mono ?_
 rintro e w' ⟨v,rfl,⟨cs,rfl,v0,r0,e0,⟨c0,rfl,y0,q0,e1,⟨rfl,k0⟩,y1,q1,rfl,rfl,y2,q2,rfl,rfl,y3,q3,rfl,h3,y4,q4,rfl,⟨rfl,k4⟩,rfl⟩,v1,r1,rfl,⟨c1,rfl,z0,s0,e2,⟨rfl,_⟩,z1,s1,rfl,⟨rfl,_⟩,z2,s2,rfl,⟨rfl,_⟩,z3,s3,rfl,⟨rfl,_⟩,z4,s4,rfl,⟨rfl,_⟩,rfl⟩,rfl⟩,hb⟩;have hc0:c0=_:=kJ.1 (e1.trans (rfl:_=(#[_,_,_,_,_]:Array Value).toList));have hc1:c1=_:=kJ.1 (e2.trans (rfl:_=(#[_,_,_,_,_]:Array Value).toList));have hcs:cs=_:=kJ.1 (e0.trans (rfl:_=(#[_,_]:Array Value).toList));subst hc0 hc1 hcs;have hB:=h.below hb;exact ⟨y3,rfl,{hB with cs:=h3,ks:=k0,ct:=k4},hb⟩
def EU(m:ByteArray):tg ay 25 [(0,.string m)]=some #[.string m,.string aV,.int .i64 0,.string aV]:=by kernel_rfl
def au0:tg ay 111 []=some (eC (rep 0 0 0 0)):=by kernel_rfl
section
variable {n:Nat}{P:Program}{Q:Exit->Act->World->Prop}{E:List (Nat×Value)}{w:World}
def aeg(n:Nat)(I:Nat->List (Nat×Value)->World->Prop)(m:Nat)(a:Act)(w:World):Prop:= ∃m' E',m'<m/\I m' E' w/\Env n a E'
def CW.loop{c:Code}(I:Nat->List (Nat×Value)->World->Prop)(n0:Nat)(h0:I n0 E w)(round: ∀m E w,I m E w->CW n P c (Exit.then (aeg n I m) Q) E w):CW n P (.loop c) Q E w:=fun a hE =>
 wp_loop_ghost (fun m a w=> ∃E',I m E' w/\Env n a E') n0 ⟨E,h0,hE⟩ fun m a w ⟨E',h,hE'⟩=>by
  refine ET (round m E' w h a hE') ?_;intro e a' w' hq;cases e with
  | normal => obtain ⟨m',E2,h1,h2,h3⟩:=hq;exact ⟨m',h1,E2,h2,h3⟩
  | exit id=>exact hq
  | goto l=>exact hq
  | ret=>exact hq
  | panic ch=>exact hq
  | outgrown=>exact hq
def NX.again{I:Nat->List (Nat×Value)->World->Prop}{m:Nat}(m':Nat)(E':List (Nat×Value))(h1:m'<m)(hs:sY E E')(h2:I m' E' w):NX n (Exit.then (aeg n I m) Q .normal) E w:=fun a hE=>⟨m',E',h1,h2,hE.sub hs⟩
end
section
variable {n:Nat}{P:Program}{ops:Array Oper}{Q:Exit->Act->World->Prop}{S:World->Prop}{s k:Nat}{L L':Array Bool}{E E':List (Nat×Value)}{w w':World}{i j d:Nat}{o:Oper}{v:Value}
def vD(n:Nat)(P:Program)(ops:Array Oper)(Q:Exit->Act->World->Prop)(S:World->Prop)(s k:Nat)(L:Array Bool)(E:List (Nat×Value))(w:World)(i:Nat):Prop:= ∀a,Env n a E->wpOp P ops Q i (fun a' w'=>(i≠s->S w')/\qF P .any ops Q S s k (L.setIfInBounds i true) a' w') a w
def tV(hr:Region.ready .any ops L=[i])(h:vD n P ops Q S s k L E w i):AU n P ops Q S s (k+1) L E w:=fun a hE=>⟨fun e=>(by rw [hr] at e;cases e),fun x hx=>by rw [hr] at hx;cases nV.1 hx;exact h a hE⟩
def sL(hr:Region.ready .any ops L=[i,j])(h:vD n P ops Q S s k L E w i)(h2:vD n P ops Q S s k L E w j):AU n P ops Q S s (k+1) L E w:=fun a hE=>⟨fun e=>(by rw [hr] at e;cases e),fun x hx=>by
 rw [hr] at hx;rcases fJ.1 hx with rfl|hx
 ·exact h a hE
 ·cases nV.1 hx;exact h2 a hE⟩
def Pu{l:Nat}(hr:Region.ready .any ops L=[i,j,l])(h:vD n P ops Q S s k L E w i)(h2:vD n P ops Q S s k L E w j)(h3:vD n P ops Q S s k L E w l):AU n P ops Q S s (k+1) L E w:=fun a hE=>⟨fun e=>(by rw [hr] at e;cases e),fun x hx=>by
 rw [hr] at hx;rcases fJ.1 hx with rfl|hx
 ·exact h a hE
 rcases fJ.1 hx with rfl|hx
 ·exact h2 a hE
 ·cases nV.1 hx;exact h3 a hE⟩
def asF(hi:ops.toList[i]? =some o)(hg:o.guard=none)(hd:o.dst=some d)(hrun:fu n P E o w v w')(cT:d<n)(hS:S w')(h:AU n P ops Q S s k (L.setIfInBounds i true) ((d,v)::E) w'):vD n P ops Q S s k L E w i:=fun a hE =>
 Kr.op (by rw [<-yD];exact hi) fun K' hK=>by rw [aA (Kb hg _)];unfold Oper.wp;rw [hrun a hE,KH,hd];exact hK _ _ (fun _=>hS) fun _=>h _ (hE.put cT v)
def vD.c{f:FuncId}{args:Array Value}{R:Ending->World->Prop}(hi:ops.toList[i]? =some o)(hg:o.guard=none)(hd:o.dst=some d)(hrun:yx n P E o w f args)(cT:d<n)(hC:Calls P f args w R)
  (h: ∀e w',R e w'-> ∃v,e= .returned v/\S w'/\AU n P ops Q S s k (L.setIfInBounds i true) ((d,v)::E) w'):vD n P ops Q S s k L E w i:=fun a hE =>
 Kr.op (by rw [<-yD];exact hi) fun K' hK=>by rw [aA (Kb hg _)];unfold Oper.wp;rw [hrun a hE];refine hC.mono fun e w' he=> ?_;obtain ⟨v,rfl,hS,hv⟩:=h e w' he;rw [hd];exact hK _ _ (fun _=>hS) fun _=>hv _ (hE.put cT v)
def Kd(hL:L=L')(hs:sY E E')(h:AU n P ops Q S s k L' E' w):AU n P ops Q S s k L E w:=fun a hE=>hL▸h a (hE.sub hs)
def gu(hrun:fu n P E o w v w')(hS:S w')(h:AU n P ops Q S s k (L.setIfInBounds i true) ((d,v)::E) w')(hi:ops.toList[i]? =some o:=by kernel_rfl)(hg:o.guard=none:=by kernel_rfl)(hd:o.dst=some d:=by kernel_rfl)(cT:d<n:=by decide):vD n P ops Q S s k L E w i:=asF hi hg hd hrun cT hS h
def sM{f:FuncId}{args:Array Value}{R:Ending->World->Prop}(hrun:yx n P E o w f args)(hC:Calls P f args w R)
  (h: ∀e w',R e w'-> ∃v,e= .returned v/\S w'/\AU n P ops Q S s k (L.setIfInBounds i true) ((d,v)::E) w') (hi:ops.toList[i]? =some o:=by kernel_rfl) (hg:o.guard=none:=by kernel_rfl) (hd:o.dst=some d:=by kernel_rfl) (cT:d<n:=by decide):vD n P ops Q S s k L E w i:=vD.c hi hg hd hrun cT hC h
def dM(h:AU n P ops Q S s k L' E' w)(hL:L=L':=by kernel_rfl)(hs:sY E E':=by ((repeat refine And.intro rfl ?_);exact trivial)):AU n P ops Q S s k L E w:=Kd hL hs h
def regs:Code->List (Nat×Array Oper)
 | .region id ops _=>[(id,ops)]
 | .seq a b=>regs a++regs b
 | .cond _ a b=>regs a++regs b
 | .block _ c=>regs c
 | .loop c=>regs c
 | _=>[]
def NA(fn:Func)(id:Nat):Array Oper:=match fn.body with
 | some c=>(((regs c).find? fun p=>Nat.beq p.1 id).map (·.2)).getD #[]
 | none=> #[]
def aCt:Oper:={dst:=none,op:= .move (.const (.bool true)),type:=0,pos:= "",after:= #[],guard:=none}
def opAt(ops:Array Oper)(i:Nat):Oper:=(ops.toList[i]?).getD aCt
def dH{x:Operand}{i:Nat}{vs:Array Value}(ho:o.op= .extract x i:=by rfl)(hx:ev E x=some (.tuple vs):=by rfl)(hv:vs[i]? =some v:=by rfl):fu n P E o w v w:=fun a hE=>by simp [execOp,ho,hE.ev hx,Instr.extract,hv]
end
end
end Go.Proofs.YtekplmpbkgchfaaGreatDoor
