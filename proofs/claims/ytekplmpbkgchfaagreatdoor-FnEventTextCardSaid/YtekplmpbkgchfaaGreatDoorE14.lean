/- What a call does to a part, as data: cores, layers, parts; what calls keep. -/
import Derived.Test.YtekplmpbkgchfaaGreatDoorE13
import Derived.Test.YtekplmpbkgchfaaGreatDoorE0
import Derived.Test.YtekplmpbkgchfaaGreatDoorE12
set_option linter.all false
set_option maxRecDepth 100000
namespace Go.Proofs.YtekplmpbkgchfaaGreatDoor
section
open Go.RowKit Go
variable [GC]
def uJ:ByteArray:=⟨#[108,97,122,121]⟩
def xW:ByteArray:=⟨#[114,101,97,100,115]⟩
def tD:ByteArray:=⟨#[104,101,97,108,115]⟩
def tO:ByteArray:=⟨#[116,119,105,99,101]⟩
def jc(n:Int):Int:=min (IntKind.i64.wrap (n+1)) 999
def JH{n:Int}(h:gH n=true):gH (jc n)=true/\(n<999->jc n=n+1)/\1<=jc n:=by
 unfold gH at h;simp only [aP,cC] at h;have e:jc n=min (n+1) 999:=by unfold jc;rw [wrap_i64 (by omega) (by omega)]
 refine ⟨?_,fun _=>by omega,by omega⟩;unfold gH;simp only [aP,cC];omega
def cX:List Cell->ByteArray->Nat
 | [],_=>0
 | c::r,k=>if cU c.key k=true then cX r k+1 else 0
def KY: ∀(l:List Cell) (k:ByteArray),cX l k<=l.length
 | [],_=>bU _
 | c::r,k=>by
  unfold cX;have:=KY r k;split
  ·simp;exact this
  ·exact fX _
def ajX{α:Type}[Inhabited α](a:α)(l:List α)(i:Nat):nth (a::l) (i+1)=nth l i:=by simp [nth]
def aaV{α:Type}[Inhabited α](a:α)(l:List α):nth (a::l) 0=a:=by simp [nth]
def KZ: ∀{l:List Cell} {k:ByteArray} {i:Nat},i<cX l k->cU (nth l i).key k=true
 | [],_,i,h=>by simp [cX] at h
 | c::r,k,i,h=>by
  unfold cX at h;split at h
  ·rename_i hc;cases i with
   | zero=>rw [aaV];exact hc
   | succ i=>rw [ajX];exact KZ (by omega)
  ·omega
def QV: ∀{l:List Cell} {k:ByteArray},cX l k<l.length->cU (nth l (cX l k)).key k=false
 | [],_,h=>by simp [cX] at h
 | c::r,k,h=>by
  unfold cX at h ⊢;split at h
  ·rename_i hc;rw [aA hc,ajX];exact QV (by simp at h;omega)
  ·rename_i hc;rw [ak hc,aaV];simpa using hc
def jV(l:List Cell)(k:ByteArray):Bool:=decide (cX l k<l.length)&&decide ((nth l (cX l k)).key=k)
def qV(l:List Cell)(k:ByteArray)(v:Int):List Cell:=if jV l k=true then l.set (cX l k) ⟨k,v⟩ else l.take (cX l k)++[⟨k,v⟩]++l.drop (cX l k)
def keepD(p:Core)(x:Call):Core×gJ :=
 if (eI p.kind).testBit 0=true/\p.on=false then (p,rep 2 0 0 0)
 else if x.method=fH then (if jV p.cells x.key=true then (p,rep 0 (nth p.cells (cX p.cells x.key)).val 0 0) else (p,rep 4 0 0 0))
 else if jV p.cells x.key=false/\4<=p.cells.length then (p,rep 5 0 0 0)
 else (⟨p.kind,p.on,p.broken,qV p.cells x.key x.val,jc p.count⟩,rep 0 (qV p.cells x.key x.val).length 0 0)
def gy(x:Call):Bool:=decide (x.method=fH)||decide (x.method=eQ)
def fc(p:Core)(x:Call):Core×gJ :=
 if p.broken=true/\x.method≠js/\x.method≠jJ then (p,rep 3 0 0 0)
 else if x.method=mStart then (if p.on=true then (⟨p.kind,false,true,p.cells,p.count⟩,rep 3 0 0 0) else (⟨p.kind,true,p.broken,p.cells,jc p.count⟩,rep 0 0 0 0))
 else if x.method=cM then (if p.on=false then (p,rep 2 0 0 0) else (⟨p.kind,false,p.broken,p.cells,p.count⟩,rep 0 0 0 0))
 else if gy x=true then keepD p x
 else if x.method=jJ then (p,rep 0 p.count 0 0)
 else if x.method=eP then (⟨p.kind,if x.val=0 then false else if x.val=1 then true else p.on,p.broken,p.cells,jc p.count⟩,rep 0 (jc p.count) 0 0)
 else if x.method=FV then (p,⟨0,0,fmtC p.cells,0,0⟩)
 else if x.method=gN then (if (oD x.text).2=true then (⟨p.kind,p.on,p.broken,(oD x.text).1,p.count⟩,rep 0 (oD x.text).1.length 0 0) else (p,rep 6 0 0 0))
 else if x.method=js then (⟨p.kind,false,false,p.cells,p.count⟩,rep 0 0 0 0)
 else (p,rep 0 0 0 0)
def bump(p:Part)(k:Nat):Part:=⟨p.core,p.aw.set k ⟨(nth p.aw k).name,jc (nth p.aw k).count⟩⟩
def cw(m:ByteArray):Call:=⟨m,aV,0,aV⟩
def NS(r:gJ):gJ:=if r.code=0 then ⟨r.code,min (IntKind.i64.wrap (2*r.val)) 999,r.text,r.want,r.had⟩ else r
def aW:Nat->Part->Call->Part×gJ
 | 0,p,x=>(⟨(fc p.core x).1,p.aw⟩,(fc p.core x).2)
 | k+1,p,x =>
  if (nth p.aw k).name=counts/\x.method=jJ then (p,rep 0 (nth p.aw k).count 0 0)
  else if (nth p.aw k).name=counts/\gy x=true then (bump (aW k p x).1 k,(aW k p x).2)
  else if (nth p.aw k).name=uJ/\gy x=true then
   (if (aW k p x).2.code=2 then aW k (aW k (aW k p x).1 (cw mStart)).1 x else aW k p x)
  else if (nth p.aw k).name=xW/\x.method=eQ then (p,rep 6 0 0 0)
  else if (nth p.aw k).name=l8/\x.method=eP then
   (if x.val=0 then aW k (bump p k) (cw cM) else if x.val=1 then aW k (bump p k) (cw mStart) else (bump p k,rep 0 (nth (bump p k).aw k).count 0 0))
  else if (nth p.aw k).name=tD/\x.method=js then aW k (aW k p (cw cM)).1 (cw mStart)
  else if (nth p.aw k).name=tO then ((aW k p x).1,NS (aW k p x).2)
  else aW k p x
def ig(p:Part)(x:Call):Part×gJ :=
 if di p=false\/bZ x=false then (p,rep 7 0 0 0)
 else if cG (gb p) (cm x.method)=false then (p,rep 1 0 (cm x.method) (gb p))
 else aW p.aw.length p x
def aAZ{s:ByteArray}(h:kindOk s=true): ∃i:Fin 8,s=nth kinds i.val/\eI s=CU.getD i.val 0:=by
 have key: ∃i:Fin 8,s=nth kinds i.val:=by
  unfold kindOk zf at h;by_cases e0:s=nth kinds 0
  ·exact ⟨0,e0⟩
  by_cases e1:s=nth kinds 1
  ·exact ⟨1,e1⟩
  by_cases e2:s=nth kinds 2
  ·exact ⟨2,e2⟩
  by_cases e3:s=nth kinds 3
  ·exact ⟨3,e3⟩
  by_cases e4:s=nth kinds 4
  ·exact ⟨4,e4⟩
  by_cases e5:s=nth kinds 5
  ·exact ⟨5,e5⟩
  by_cases e6:s=nth kinds 6
  ·exact ⟨6,e6⟩
  by_cases e7:s=nth kinds 7
  ·exact ⟨7,e7⟩
  simp [e0,e1,e2,e3,e4,e5,e6,e7] at h
 obtain ⟨i,rfl⟩:=key;refine ⟨i,rfl,?_⟩;unfold eI;rw [ai6 i]
def aA8{s:ByteArray}(h:nK s=true): ∃i:Fin 9,s=nth aw i.val/\mf s=FR.getD i.val 0/\rJ s=Jf.getD i.val 0:=by
 have key: ∃i:Fin 9,s=nth aw i.val:=by
  unfold nK xN at h;by_cases e0:s=nth aw 0
  ·exact ⟨0,e0⟩
  by_cases e1:s=nth aw 1
  ·exact ⟨1,e1⟩
  by_cases e2:s=nth aw 2
  ·exact ⟨2,e2⟩
  by_cases e3:s=nth aw 3
  ·exact ⟨3,e3⟩
  by_cases e4:s=nth aw 4
  ·exact ⟨4,e4⟩
  by_cases e5:s=nth aw 5
  ·exact ⟨5,e5⟩
  by_cases e6:s=nth aw 6
  ·exact ⟨6,e6⟩
  by_cases e7:s=nth aw 7
  ·exact ⟨7,e7⟩
  by_cases e8:s=nth aw 8
  ·exact ⟨8,e8⟩
  simp [e0,e1,e2,e3,e4,e5,e6,e7,e8] at h
 obtain ⟨i,rfl⟩:=key;refine ⟨i,rfl,?_,?_⟩
 ·unfold mf;rw [Tq i]
 ·unfold rJ;rw [Tq i]
def Tx{s:ByteArray}(h: ¬j9 s<0): ∃j:Fin 6,cm s=((2^j.val:Nat):Int)/\s∈methods j.val:=by
 unfold cm;rw [ak h];unfold j9 at h ⊢;cases hf:dG (Er s) 6 with
 | none=>rw [hf] at h;simp at h
 | some k =>
  obtain ⟨h1,h2,_⟩:=ux hf;refine ⟨⟨k,h1⟩,by simp,?_⟩;unfold Er hasB at h2;rw [uf] at h2;obtain ⟨t,ht,e⟩:=h2;have e:t=s:=by simpa using e
  subst e;exact ht
def Jd: ∀(i:Fin 8) (j:Fin 6),cG ((CU.getD i.val 0:Nat):Int) ((2^j.val:Nat):Int)=true->(j.val=0\/j.val=3->(CU.getD i.val 0).testBit 0=true)/\(j.val=1\/j.val=4->(CU.getD i.val 0).testBit 1=true):=by decide +kernel
def aA9: ∀(i:Fin 9) (j:Fin 6) (f:Fin 64),cG ((f.val:Nat):Int) ((FR.getD i.val 0:Nat):Int)=true->cG ((Jf.getD i.val 0:Nat):Int) ((2^j.val:Nat):Int)=true->(i.val=3/\j.val=2)\/(i.val=6/\j.val=3)\/(i.val=7/\j.val=5)\/cG ((f.val:Nat):Int) ((2^j.val:Nat):Int)=true:=by decide +kernel
def aBa: ∀(i:Fin 9) (f:Fin 64),(i.val=4\/i.val=6\/i.val=7)->cG ((f.val:Nat):Int) ((FR.getD i.val 0:Nat):Int)=true->cG ((f.val:Nat):Int) 1=true:=by decide +kernel
def asu:cm mStart=1/\cm cM=1/\cm fH=2/\cm eQ=2/\cm jJ=4/\cm eP=8:=by decide +kernel
def Cr:bZ (cw mStart)=true/\bZ (cw cM)=true/\bZ (cw jJ)=true:=by decide +kernel
def LG{x:Call}(h:bZ x=true): ¬j9 x.method<0:=by unfold bZ at h;simp only [aP,oP,mZ] at h;exact h.1.1.1
def awb{x:Call}(h:bZ x=true)(hm:gy x=true):jj x.key=true:=by unfold bZ gy at *;grind
def afB{x:Call}(h:bZ x=true):gH x.val=true:=by unfold bZ gH at *;grind
def ajf:nth aw 3=counts/\nth aw 4=uJ/\nth aw 6=l8/\nth aw 7=tD:=by decide
def blA: ∀{a b:List UInt8},Op.bytesLess a b=true->Op.bytesLess b a=false
 | [],_::_,_=>by simp [Op.bytesLess]
 | [],[],h=>by simp [Op.bytesLess] at h
 | _::_,[],h=>by simp [Op.bytesLess] at h
 | x::a,y::b,h=>by
  simp only [Op.bytesLess] at h ⊢;by_cases e:x=y
  ·subst e;simp at h ⊢;exact blA h
  ·have e': ¬y=x:=fun h=>e h.symm;simp [e,e'] at h ⊢;exact UInt8.le_of_lt h
def blT: ∀{a b:List UInt8},a≠b->Op.bytesLess a b=false->Op.bytesLess b a=true
 | [],[],h,_=>by simp at h
 | [],_::_,_,h=>by simp [Op.bytesLess] at h
 | _::_,[],_,_=>by simp [Op.bytesLess]
 | x::a,y::b,hn,h=>by
  simp only [Op.bytesLess] at h ⊢;by_cases e:x=y
  ·subst e;simp at h hn ⊢;exact blT hn h
  ·have e': ¬y=x:=fun h=>e h.symm;simp [e,e'] at h ⊢;exact UInt8.lt_of_le_of_ne h e'
def ltA{a b:ByteArray}(h:cU a b=true):cU b a=false:=blA h
def ltT{a b:ByteArray}(hn:a≠b)(h:cU a b=false):cU b a=true :=
 blT (fun e=>hn (by have:=Gq a b;rw [e] at this;simpa using this.symm)) h
def TG{α:Type}[Inhabited α](l:List α)(k i:Nat)(x:α)(hk:k<l.length):nth (l.set k x) i=if i=k then x else nth l i:=by
 by_cases h:i=k
 ·subst h;simp [nth,hk]
 ·rw [ak h];have: ¬k=i:=fun e=>h e.symm;simp [nth,kK,Ew,this]
def ajW{α:Type}[Inhabited α](l:List α)(a i:Nat)(x:α)(ha:a<=l.length):nth (l.take a++[x]++l.drop a) i=if i<a then nth l i else if i=a then x else nth l (i-1):=by
 have hl:(l.take a).length=a:=by simp;omega
 simp only [nth,kK,iG];by_cases h1:i<a
 ·rw [aA h1,mW (by omega),pV,aA h1]
 ·rw [ak h1,oT (by omega),hl];by_cases h2:i=a
  ·subst h2;simp
  ·rw [ak h2];obtain ⟨j,rfl⟩: ∃j,i=a+1+j:=⟨i-a-1,by omega⟩;have:a+1+j-a=j+1:=by omega
   rw [this];simp [xm]
def AY{l:List Cell}{k:ByteArray}:jV l k=true↔cX l k<l.length/\(nth l (cX l k)).key=k:=by unfold jV;simp
def aky(l:List Cell)(k:ByteArray)(v:Int):(qV l k v).length=if jV l k=true then l.length else l.length+1:=by
 unfold qV;have:=KY l k;split
 ·simp
 ·simp;omega
def akE{l:List Cell}{k:ByteArray}{v:Int}(h:iJ l=true)(hk:jj k=true)(hv:gH v=true)(h4: ¬(jV l k=false/\4<=l.length)):iJ (qV l k v)=true:=by
 have hlen:=xy h;have hle:=KY l k;unfold iJ at h;simp only [aP,mD] at h;have hc:=fun i hi=>h.2 i hi;unfold iJ;simp only [aP,cC,mD];refine ⟨?_,fun i hi=> ?_⟩
 ·rw [aky];split
  ·exact hlen
  ·rename_i hn;have hn:jV l k=false:=by simpa using hn
   have: ¬4<=l.length:=fun e=>h4 ⟨hn,e⟩;omega
 rw [aky] at hi;unfold mJ;by_cases hi1:jV l k=true
 ·rw [aA hi1] at hi;have e:qV l k v=l.set (cX l k) ⟨k,v⟩:=by unfold qV;rw [aA hi1]
  obtain ⟨q1,q2⟩:=AY.1 hi1;have IQ:=hc i hi;unfold mJ at IQ;rw [e,TG _ _ _ _ q1,TG _ _ _ _ q1];have key: ∀j,(if j=cX l k then (⟨k,v⟩:Cell) else nth l j).key=(nth l j).key:=fun j=>by
   split
   ·rename_i e;rw [e,q2]
   ·rfl
  have val:gH (if i=cX l k then (⟨k,v⟩:Cell) else nth l i).val=true:=by
   split
   ·exact hv
   ·simp only [aP] at IQ;exact IQ.1.2
  rw [key,key,val];simp only [aP,gK] at IQ ⊢;exact ⟨⟨IQ.1.1,trivial⟩,IQ.2⟩
 ·have hi2:jV l k=false:=by simpa using hi1
  rw [ak hi1] at hi;have e:qV l k v=l.take (cX l k)++[⟨k,v⟩]++l.drop (cX l k):=by unfold qV;rw [ak hi1]
  rw [e,ajW _ _ _ _ hle,ajW _ _ _ _ hle];simp only [aP,gK,um];by_cases c1:i<cX l k
  ·have:=hc i (by omega);unfold mJ at this;simp only [aP,gK,um] at this;rw [aA c1,aA (by omega)];exact this
  rw [ak c1];by_cases c2:i=cX l k
  ·rw [aA c2];refine ⟨⟨hk,hv⟩,?_⟩;by_cases c3:i=0
   ·exact .inl c3
   ·rw [aA (by omega)];exact .inr (KZ (l:=l) (k:=k) (i:=i-1) (by omega))
  rw [ak c2];have:=hc (i-1) (by omega);unfold mJ at this;simp only [aP,gK,um] at this;refine ⟨this.1,.inr ?_⟩;rw [ak (by omega)];by_cases c3:i-1=cX l k
  ·rw [aA c3,c3];have hat:cX l k<l.length:=by omega
   refine ltT (fun e=> ?_) (QV hat);have:jV l k=true:=AY.2 ⟨hat,e⟩;rw [hi2] at this;cases this
  ·rw [ak c3];rcases this.2 with h|h
   ·omega
   ·exact h
def qH{p:Core}:nj p=true↔kindOk p.kind=true/\iJ p.cells=true/\(p.cells.length=0\/(eI p.kind).testBit 1=true)/\gH p.count=true/\ ¬(p.on=true/\p.broken=true)/\((eI p.kind).testBit 0=true\/(p.on=false/\p.broken=false)):=by unfold nj;grind
def aCl{k m:ByteArray}(hk:kindOk k=true)(ho:cG (eI k) (cm m)=true) :
  ((m=mStart\/m=cM\/m=eP)->(eI k).testBit 0=true)/\((m=fH\/m=eQ\/m=gN)->(eI k).testBit 1=true):=by
 obtain ⟨i,_,e⟩:=aAZ hk;rw [e] at ho ⊢;have w0:cm mStart=((2^(0:Fin 6).val:Nat):Int):=by decide +kernel
 have w1:cm cM=((2^(0:Fin 6).val:Nat):Int):=by decide +kernel
 have w2:cm eP=((2^(3:Fin 6).val:Nat):Int):=by decide +kernel
 have w3:cm fH=((2^(1:Fin 6).val:Nat):Int):=by decide +kernel
 have w4:cm eQ=((2^(1:Fin 6).val:Nat):Int):=by decide +kernel
 have w5:cm gN=((2^(4:Fin 6).val:Nat):Int):=by decide +kernel
 constructor
 ·rintro (rfl|rfl|rfl)
  ·rw [w0] at ho;exact (Jd i 0 ho).1 (.inl rfl)
  ·rw [w1] at ho;exact (Jd i 0 ho).1 (.inl rfl)
  ·rw [w2] at ho;exact (Jd i 3 ho).1 (.inr rfl)
 ·rintro (rfl|rfl|rfl)
  ·rw [w3] at ho;exact (Jd i 1 ho).2 (.inl rfl)
  ·rw [w4] at ho;exact (Jd i 1 ho).2 (.inl rfl)
  ·rw [w5] at ho;exact (Jd i 4 ho).2 (.inr rfl)
def Te{x:Call}:gy x=true↔x.method=fH\/x.method=eQ:=by unfold gy;simp
def OkC(p:Core)(y:Core×gJ):Prop:=nj y.1=true/\y.1.kind=p.kind/\y.2.code≠1/\y.2.code≠7/\0<=y.2.val/\y.2.val<=999
def zj{n:Int}:gH n=true↔0<=n/\n<=999:=by unfold gH;simp
def axc{p:Core}{x:Call}(hp:nj p=true)(hx:bZ x=true)(ho:cG (eI p.kind) (cm x.method)=true):OkC p (fc p x):=by
 have hp':=qH.1 hp;obtain ⟨p1,p2,p3,p4,p5,p6⟩:=hp';have nb:=aCl p1 ho;have n4:=zj.1 p4;have n4':=zj.1 (JH p4).1;have hl:=xy p2;have same: ∀c v t w h,c≠1->c≠7->0<=v->v<=999->OkC p (p,⟨c,v,t,w,h⟩):=fun c v t w h h1 h2 h3 h4=>⟨hp,rfl,h1,h2,h3,h4⟩;unfold fc;split
 ·exact same _ _ _ _ _ (by decide) (by decide) (by decide) (by decide)
 split
 ·rename_i hm;have:=nb.1 (.inl hm);split
  ·exact ⟨qH.2 ⟨p1,p2,p3,p4,by simp,.inl this⟩,rfl,by simp [rep],by simp [rep],by simp [rep],by simp [rep]⟩
  ·rename_i hb hon;have Ft:p.broken=false:=by
    have:mStart≠js/\mStart≠jJ:=by decide
    rw [hm] at hb;cases h:p.broken with
    | false=>rfl
    | true=>exact absurd ⟨h,this⟩ hb
   exact ⟨qH.2 ⟨p1,p2,p3,(JH p4).1,by simp [Ft],.inl this⟩,rfl,by simp [rep],by simp [rep],by simp [rep],by simp [rep]⟩
 split
 ·rename_i hm;have:=nb.1 (.inr (.inl hm));split
  ·exact same _ _ _ _ _ (by decide) (by decide) (by decide) (by decide)
  ·exact ⟨qH.2 ⟨p1,p2,p3,p4,by simp,.inl this⟩,rfl,by simp [rep],by simp [rep],by simp [rep],by simp [rep]⟩
 split
 ·rename_i hm;have hb1:=nb.2 (by rcases Te.1 hm with h|h<;>simp [h]);unfold keepD;split
  ·exact same _ _ _ _ _ (by decide) (by decide) (by decide) (by decide)
  split
  ·split
   ·rename_i hc;have:=zj.1 (Re p2 (AY.1 hc).1).2;exact same _ _ _ _ _ (by decide) (by decide) this.1 this.2
   ·exact same _ _ _ _ _ (by decide) (by decide) (by decide) (by decide)
  split
  ·exact same _ _ _ _ _ (by decide) (by decide) (by decide) (by decide)
  ·rename_i hf;have qP:=akE (v:=x.val) p2 (awb hx hm) (afB hx) hf;have:=xy qP;exact ⟨qH.2 ⟨p1,qP,.inr hb1,(JH p4).1,p5,p6⟩,rfl,by simp [rep],by simp [rep],by simp only [rep];omega,by simp only [rep];omega⟩
 split
 ·exact same _ _ _ _ _ (by decide) (by decide) n4.1 n4.2
 split
 ·rename_i hb _ _ _ _ hm;have h0:=nb.1 (.inr (.inr hm));have Ft:p.broken=false:=by
   have:eP≠js/\eP≠jJ:=by decide
   rw [hm] at hb;cases h:p.broken with
   | false=>rfl
   | true=>exact absurd ⟨h,this⟩ hb
  exact ⟨qH.2 ⟨p1,p2,p3,(JH p4).1,by simp [Ft],.inl h0⟩,rfl,by simp [rep],by simp [rep],n4'.1,n4'.2⟩
 split
 ·exact same _ _ _ _ _ (by decide) (by decide) (by decide) (by decide)
 split
 ·rename_i hm;split
  ·rename_i hk;have:=aCT hk;have h5:=xy this;exact ⟨qH.2 ⟨p1,this,.inr (nb.2 (.inr (.inr hm))),p4,p5,p6⟩,rfl,by simp [rep],by simp [rep],by simp only [rep];omega,by simp only [rep];omega⟩
  ·exact same _ _ _ _ _ (by decide) (by decide) (by decide) (by decide)
 split
 ·exact ⟨qH.2 ⟨p1,p2,p3,p4,by simp,.inr ⟨rfl,rfl⟩⟩,rfl,by simp [rep],by simp [rep],by simp [rep],by simp [rep]⟩
 ·exact same _ _ _ _ _ (by decide) (by decide) (by decide) (by decide)
structure j8(p q:Part):Prop where
 kind:q.core.kind=p.core.kind
 names:q.aw.map (·.name)=p.aw.map (·.name)
def j8.refl(p:Part):j8 p p:=⟨rfl,rfl⟩
def j8.trans{p q r:Part}(h:j8 p q)(k:j8 q r):j8 p r:=⟨k.kind.trans h.kind,k.names.trans h.names⟩
def j8.len{p q:Part}(h:j8 p q):q.aw.length=p.aw.length:=by simpa using congrArg List.length h.names
def j8.name{p q:Part}(h:j8 p q){i:Nat}(hi:i<p.aw.length):(nth q.aw i).name=(nth p.aw i).name:=by have h1:=congrArg (·[i]?) h.names;have h2:=h.len;simp only [iI] at h1;rw [cO hi,cO (by omega)] at h1;simp only [jP,bg] at h1;simp [nth,kK,hi,h2,h1]
def j8.kY{p q:Part}(h:j8 p q){i:Nat}(hi:i<=p.aw.length):fS q i=fS p i:=by
 unfold fS;split
 ·rw [h.kind]
 ·rw [h.name (by omega)]
def oF{p:Part}:di p=true↔nj p.core=true/\p.aw.length<=3/\ ∀i,i<p.aw.length->nK (nth p.aw i).name=true/\cG (fS p i) (mf (nth p.aw i).name)=true/\gH (nth p.aw i).count=true/\((nth p.aw i).count=0\/(nth p.aw i).name=counts\/(nth p.aw i).name=l8):=by
 unfold di;simp only [aP,cC,mD,qR,gK];constructor
 ·rintro ⟨⟨h1,h2⟩,h3⟩;exact ⟨h1,h2,fun i hi=>by have:=h3 i hi;exact ⟨this.1.1.1,this.1.1.2,this.1.2,by rcases this.2 with (h|h)|h<;>simp [h]⟩⟩
 ·rintro ⟨h1,h2,h3⟩;exact ⟨⟨h1,h2⟩,fun i hi=>by obtain ⟨a,b,c,d⟩:=h3 i hi;exact ⟨⟨⟨a,b⟩,c⟩,by rcases d with h|h|h<;>simp [h]⟩⟩
def akn{p q:Part}(hp:di p=true)(hs:j8 p q)(hc:nj q.core=true)(hn: ∀i,i<p.aw.length->gH (nth q.aw i).count=true/\((nth q.aw i).count=0\/(nth p.aw i).name=counts\/(nth p.aw i).name=l8)):di q=true:=by obtain ⟨_,h2,h3⟩:=oF.1 hp;refine oF.2 ⟨hc,by rw [hs.len];exact h2,fun i hi=> ?_⟩;rw [hs.len] at hi;obtain ⟨a,b,_,_⟩:=h3 i hi;obtain ⟨c,d⟩:=hn i hi;rw [hs.name hi,hs.kY (by omega)];exact ⟨a,b,c,d⟩
def QZ{p:Part}{k:Nat}(hk:k<p.aw.length):j8 p (bump p k):=by
 refine ⟨rfl,?_⟩;unfold bump;apply zV;intro i;simp only [iI,Ew];split
 ·rename_i e;subst e
  (try rw [aA hk])
  rw [cO hk];simp [nth,kK,hk]
 ·rfl
def au9{p:Part}{k:Nat}(hk:k<p.aw.length)(i:Nat):nth (bump p k).aw i=if i=k then ⟨(nth p.aw k).name,jc (nth p.aw k).count⟩ else nth p.aw i:=TG _ _ _ _ hk
def X0{p:Part}{k:Nat}(hp:di p=true)(hk:k<p.aw.length)(hn:(nth p.aw k).name=counts\/(nth p.aw k).name=l8):di (bump p k)=true:=by
 obtain ⟨h1,h2,h3⟩:=oF.1 hp;refine akn hp (QZ hk) h1 fun i hi=> ?_;rw [au9 hk];obtain ⟨_,_,c,d⟩:=h3 i hi;split
 ·rename_i e;subst e;exact ⟨(JH c).1,.inr hn⟩
 ·exact ⟨c,d⟩
def alQ{nm m:ByteArray}{f:Nat}(hf:f<64)(hl:nK nm=true)(h1:cG f (mf nm)=true)(ha: ¬j9 m<0)(h2:cG (rJ nm) (cm m)=true) :
  (nm=counts/\m=jJ)\/(nm=l8/\m=eP)\/(nm=tD/\m=js)\/cG f (cm m)=true:=by
 obtain ⟨i,e,en,eg⟩:=aA8 hl;obtain ⟨j,ew,hm⟩:=Tx ha;rw [en] at h1;rw [eg,ew] at h2;rw [ew];obtain ⟨e3,e4,e6,e7⟩:=ajf;rcases aA9 i j ⟨f,hf⟩ h1 h2 with ⟨a,b⟩|⟨a,b⟩|⟨a,b⟩|h
 ·rw [a] at e;rw [b] at hm;simp [methods] at hm;exact .inl ⟨by rw [e,e3],hm⟩
 ·rw [a] at e;rw [b] at hm;simp [methods] at hm;exact .inr (.inl ⟨by rw [e,e6],hm⟩)
 ·rw [a] at e;rw [b] at hm;simp [methods] at hm;exact .inr (.inr (.inl ⟨by rw [e,e7],hm⟩))
 ·exact .inr (.inr (.inr h))
def IJ{nm:ByteArray}{f:Nat}(hf:f<64)(h1:cG f (mf nm)=true)(hn:nm=uJ\/nm=l8\/nm=tD):cG f (cm mStart)=true/\cG f (cm cM)=true:=by
 obtain ⟨e3,e4,e6,e7⟩:=ajf;have e: ∃i:Fin 9,nm=nth aw i.val/\(i.val=4\/i.val=6\/i.val=7):=by
  rcases hn with h|h|h
  ·exact ⟨4,by rw [h];exact e4.symm,.inl rfl⟩
  ·exact ⟨6,by rw [h];exact e6.symm,.inr (.inl rfl)⟩
  ·exact ⟨7,by rw [h];exact e7.symm,.inr (.inr rfl)⟩
 obtain ⟨i,rfl,hi⟩:=e;have en:mf (nth aw i.val)=FR.getD i.val 0:=by unfold mf;rw [Tq i]
 rw [en] at h1;rw [asu.1,asu.2.1];have:=aBa i ⟨f,hf⟩ hi h1;exact ⟨this,this⟩
def Kk(p:Part)(y:Part×gJ):Prop:=di y.1=true/\j8 p y.1/\y.2.code≠1/\y.2.code≠7/\0<=y.2.val/\y.2.val<=999
def aCh:counts≠uJ/\counts≠xW/\counts≠l8/\counts≠tD/\counts≠tO/\uJ≠xW/\uJ≠l8/\uJ≠tD/\uJ≠tO/\xW≠l8/\xW≠tD/\xW≠tO/\l8≠tD/\l8≠tO/\tD≠tO:=by decide
def Nf{x:Call}(h:gy x=true):x.method≠jJ/\x.method≠eP/\x.method≠js/\x.method≠mStart/\x.method≠cM:=by rcases Te.1 h with e|e<;>rw [e]<;>decide
def zx: ∀(k:Nat) (p:Part) (x:Call),di p=true->k<=p.aw.length->bZ x=true->cG (fS p k) (cm x.method)=true->Kk p (aW k p x)
 | 0,p,x,hp,_,hx,ho=>by obtain ⟨h1,h2,h3⟩:=oF.1 hp;obtain ⟨a,b,c,d,e,f⟩:=axc h1 hx ho;have hs:j8 p (aW 0 p x).1:=⟨b,rfl⟩;exact ⟨akn hp hs a fun i hi=>⟨(h3 i hi).2.2.1,(h3 i hi).2.2.2⟩,hs,c,d,e,f⟩
 | k+1,p,x,hp,hk,hx,ho=>by
  obtain ⟨h1,h2,h3⟩:=oF.1 hp;obtain ⟨a,b,c,d⟩:=h3 k (by omega);have ho:cG (rJ (nth p.aw k).name) (cm x.method)=true:=by unfold fS at ho;rw [ak (by omega)] at ho;exact ho
  have hsub:=alQ (Aj p k) a b (LG hx) ho;have nc:=zj.1 c;have ne:=aCh;have cs:=Cr;have below:cG (fS p k) (cm x.method)=true->Kk p (aW k p x):=fun h=>zx k p x hp (by omega) hx h;have start: ∀q,di q=true->j8 p q->cG (fS p k) (cm mStart)=true->Kk p (aW k q (cw mStart)):=fun q hq hs h=>by have:=zx k q (cw mStart) hq (by rw [hs.len];omega) cs.1 (by rw [hs.kY (by omega)];exact h);exact ⟨this.1,hs.trans this.2.1,this.2.2⟩
  have stop: ∀q,di q=true->j8 p q->cG (fS p k) (cm cM)=true->Kk p (aW k q (cw cM)):=fun q hq hs h=>by have:=zx k q (cw cM) hq (by rw [hs.len];omega) cs.2.1 (by rw [hs.kY (by omega)];exact h);exact ⟨this.1,hs.trans this.2.1,this.2.2⟩
  rw [aW];split
  ·exact ⟨hp,j8.refl _,by simp [rep],by simp [rep],nc.1,nc.2⟩
  rename_i g1;split
  ·rename_i g2;have kn:=Nf g2.2;have hb:=below (by rcases hsub with h|h|h|h;exact absurd h.2 kn.1;exact absurd h.2 kn.2.1;exact absurd h.2 kn.2.2.1;exact h);have hl:=hb.2.1.len;have hnm:=hb.2.1.name (i:=k) (by omega);exact ⟨X0 hb.1 (by omega) (.inl (by rw [hnm];exact g2.1)),hb.2.1.trans (QZ (by omega)),hb.2.2⟩
  rename_i g2;split
  ·rename_i g3;have kn:=Nf g3.2;have rQ:cG (fS p k) (cm x.method)=true:=by rcases hsub with h|h|h|h;exact absurd h.2 kn.1;exact absurd h.2 kn.2.1;exact absurd h.2 kn.2.2.1;exact h
   have hb:=below rQ;have hr:=IJ (Aj p k) b (.inl g3.1);split
   ·have hs:=start _ hb.1 hb.2.1 hr.1;have:=zx k _ x hs.1 (by rw [hs.2.1.len];omega) hx (by rw [hs.2.1.kY (by omega)];exact rQ);exact ⟨this.1,hs.2.1.trans this.2.1,this.2.2⟩
   ·exact hb
  rename_i g3;split
  ·exact ⟨hp,j8.refl _,by simp [rep],by simp [rep],by simp [rep],by simp [rep]⟩
  rename_i g4;split
  ·rename_i g5;have hr:=IJ (Aj p k) b (.inr (.inl g5.1));have bI:=X0 hp (k:=k) (by omega) (.inr g5.1);have hsh:j8 p (bump p k):=QZ (by omega);split
   ·exact stop _ bI hsh hr.2
   split
   ·exact start _ bI hsh hr.1
   ·refine ⟨bI,hsh,by simp [rep],by simp [rep],?_⟩;have:=zj.1 ((oF.1 bI).2.2 k (by rw [hsh.len];omega)).2.2.1;exact this
  rename_i g5;split
  ·rename_i g6;have hr:=IJ (Aj p k) b (.inr (.inr g6.1));have hs:=stop p hp (j8.refl _) hr.2;exact start _ hs.1 hs.2.1 hr.1
  rename_i g6;have hb:=below (by
   rcases hsub with h|h|h|h
   ·exact absurd h g1
   ·exact absurd h g5
   ·exact absurd h g6
   ·exact h)
  split
  ·refine ⟨hb.1,hb.2.1,?_⟩;unfold NS;split
   ·rename_i h0;obtain ⟨q1,q2⟩:=hb.2.2.2.2;simp only;rw [wrap_i64 (by omega) (by omega)];exact ⟨by simp [h0],by simp [h0],by omega,by omega⟩
   ·exact hb.2.2
  ·exact hb
def Ai(p:Part)(r:List vF):Part:=⟨p.core,p.aw++r⟩
def au8(p:Part)(k:Nat):(bump p k).aw.length=p.aw.length:=by simp [bump]
def ajV{α:Type}[Inhabited α]{l1 l2:List α}{a:Nat}(h:a<l1.length):nth (l1++l2) a=nth l1 a:=by simp [nth,kK,mW h]
def awg{p:Part}{x:Call}(h:di p=false\/bZ x=false):ig p x=(p,rep 7 0 0 0):=by unfold ig;rw [aA h]
def awl{p:Part}{x:Call}(hp:di p=true)(hx:bZ x=true)(ho:cG (gb p) (cm x.method)=false):ig p x=(p,rep 1 0 (cm x.method) (gb p)):=by unfold ig;rw [ak (by simp [hp,hx]),aA ho]
def awo{p:Part}{x:Call}(hp:di p=true)(hx:bZ x=true)(ho:cG (gb p) (cm x.method)=true):ig p x=aW p.aw.length p x:=by unfold ig;rw [ak (by simp [hp,hx]),ak (by simp [ho])]
def awm{p:Part}{x:Call}(hp:di p=true)(hx:bZ x=true)(ho:cG (gb p) (cm x.method)=true):Kk p (ig p x):=by rw [awo hp hx ho];exact zx _ p x hp (bU _) hx ho
def LH{p:Part}(hp:di p=true)(x:Call):di (ig p x).1=true/\j8 p (ig p x).1:=by
 by_cases hx:bZ x=true
 ·by_cases ho:cG (gb p) (cm x.method)=true
  ·have:=awm hp hx ho;exact ⟨this.1,this.2.1⟩
  ·rw [awl hp hx (by simpa using ho)];exact ⟨hp,j8.refl _⟩
 ·rw [awg (.inr (by simpa using hx))];exact ⟨hp,j8.refl _⟩
def aIl{p:Part}{s:ByteArray}(h:(j0 p s).2.code=0):di p=true/\nK s=true/\p.aw.length<3/\cG (gb p) (mf s)=true/\(j0 p s).1=Ai p [⟨s,0⟩]/\di (Ai p [⟨s,0⟩])=true:=by
 unfold j0 at h ⊢;split at h
 ·simp [rep] at h
 rename_i h1;split at h
 ·simp [rep] at h
 rename_i h2;split at h
 ·simp [rep] at h
 rename_i h3;rw [ak h1,ak h2,ak h3];have hp:di p=true:=by grind
 have hs:nK s=true:=by grind
 have ho:cG (gb p) (mf s)=true:=by simpa using h3
 refine ⟨hp,hs,by omega,ho,rfl,?_⟩;obtain ⟨q1,q2,q3⟩:=oF.1 hp;refine oF.2 ⟨q1,by simp [Ai];omega,fun i hi=> ?_⟩;have hi':i<p.aw.length+1:=by simpa [Ai] using hi
 have hf:fS (Ai p [⟨s,0⟩]) i=fS p i:=by
  unfold fS Ai;split
  ·rfl
  ·rw [ajV (by omega)]
 rw [hf];by_cases e:i<p.aw.length
 ·have:nth (Ai p [⟨s,0⟩]).aw i=nth p.aw i:=ajV e;rw [this];exact q3 i e
 ·have e:i=p.aw.length:=by omega
  subst e;have:nth (Ai p [⟨s,0⟩]).aw p.aw.length=⟨s,0⟩:=by simp [Ai,nth]
  rw [this];exact ⟨hs,ho,(by decide:gH 0=true),.inl rfl⟩
end
section
def amD(S:Nat->Nat->Bool)(i j:Nat)(b:Bool):Nat->Nat->Bool:=fun a c=>if a=i/\c=j then b else S a c
def yQ(k i:Nat)(S:Nat->Nat->Bool):Nat->Nat->Nat->Bool
 | 0=>S
 | j+1=>amD (yQ k i S j) i j (yQ k i S j i j||(yQ k i S j i k&&yQ k i S j k j))
def II(n k:Nat)(S:Nat->Nat->Bool):Nat->Nat->Nat->Bool
 | 0=>S
 | i+1=>yQ k i (II n k S i) n
def RJ(n:Nat)(S:Nat->Nat->Bool):Nat->Nat->Nat->Bool
 | 0=>S
 | k+1=>II n k (RJ n S k) n
def Dy(S:Nat->Nat->Bool)(k a b:Nat):Bool:=S a b||(S a k&&S k b)
def Md(k i:Nat)(S:Nat->Nat->Bool): ∀(j a b:Nat),yQ k i S j a b=if a=i/\b<j then Dy S k a b else S a b
 | 0,a,b=>by simp [yQ]
 | j+1,a,b=>by
  have h1:yQ k i S j i k=S i k:=by
   rw [Md k i S j];split
   ·unfold Dy;cases S i k<;>simp
   ·rfl
  have h2: ∀c,yQ k i S j k c=S k c:=by
   intro c;rw [Md k i S j];split
   ·rename_i h;unfold Dy;cases S k c<;>simp
   ·rfl
  simp only [yQ,amD];by_cases h:a=i/\b=j
  ·obtain ⟨rfl,rfl⟩:=h;rw [aA ⟨rfl,rfl⟩,aA ⟨rfl,P0 _⟩,h1,h2,Md k a S b,ak (by omega)];rfl
  ·rw [ak h,Md k i S j];by_cases h3:a=i/\b<j
   ·rw [aA h3,aA ⟨h3.1,by omega⟩]
   ·rw [ak h3,ak (by omega)]
def aHS(S:Nat->Nat->Bool)(k b:Nat):Dy S k k b=S k b:=by unfold Dy;cases S k b<;>simp
def Mc(n k:Nat)(S:Nat->Nat->Bool): ∀(i a b:Nat),II n k S i a b=if a<i/\b<n then Dy S k a b else S a b
 | 0,a,b=>by simp [II]
 | i+1,a,b=>by
  have h2: ∀c,II n k S i k c=S k c:=by
   intro c;rw [Mc n k S i];split
   ·exact aHS S k c
   ·rfl
  simp only [II];rw [Md];by_cases h:a=i/\b<n
  ·obtain ⟨rfl,hb⟩:=h;rw [aA ⟨rfl,hb⟩,aA ⟨P0 _,hb⟩];unfold Dy;rw [h2,Mc n k S a,ak (by omega),Mc n k S a,ak (by omega)]
  ·rw [ak h,Mc n k S i];by_cases h3:a<i/\b<n
   ·rw [aA h3,aA ⟨by omega,h3.2⟩]
   ·rw [ak h3,ak (by omega)]
inductive Way(S:Nat->Nat->Bool)(k:Nat):Nat->Nat->Prop
 | edge {a b:Nat} (h:S a b=true):Way S k a b
 | step {a m b:Nat} (hm:m<k) (h1:Way S k a m) (h2:Way S k m b):Way S k a b
def Way.mono{S:Nat->Nat->Bool}{k k':Nat}(hk:k<=k'){a b:Nat}(h:Way S k a b):Way S k' a b:=by
 induction h with
 | edge h=>exact .edge h
 | step hm _ _ AX FM=>exact .step (by omega) AX FM
def aIf{S:Nat->Nat->Bool}{k a b:Nat}:Way S (k+1) a b↔Way S k a b\/(Way S k a k/\Way S k k b):=by
 constructor
 ·intro h;induction h with
  | edge h=>exact .inl (.edge h)
  | @step a m b hm _ _ AX FM =>
   by_cases e:m=k
   ·subst e;have l:Way S m a m:=AX.elim id fun h=>h.1;have r:Way S m m b:=FM.elim id fun h=>h.2;exact .inr ⟨l,r⟩
   ·have hm':m<k:=by omega
    rcases AX with h1|⟨h1,h1'⟩<;>rcases FM with h2|⟨h2,h2'⟩
    ·exact .inl (.step hm' h1 h2)
    ·exact .inr ⟨.step hm' h1 h2,h2'⟩
    ·exact .inr ⟨h1,.step hm' h1' h2⟩
    ·exact .inr ⟨h1,h2'⟩
 ·rintro (h|⟨h1,h2⟩)
  ·exact h.mono (by omega)
  ·exact .step (P0 k) (h1.mono (by omega)) (h2.mono (by omega))
def aIg{S:Nat->Nat->Bool}{a b:Nat}:Way S 0 a b↔S a b=true:=by
 constructor
 ·intro h;cases h with
  | edge h=>exact h
  | step hm=>omega
 ·exact .edge
def RL(n:Nat)(S:Nat->Nat->Bool): ∀(k:Nat),k<=n-> ∀a b,a<n->b<n->(RJ n S k a b=true↔Way S k a b)
 | 0,_,a,b,_,_=>by rw [aIg];rfl
 | k+1,hk,a,b,ha,hb=>by simp only [RJ];rw [Mc,aA ⟨ha,hb⟩,aIf];unfold Dy;have i1:=RL n S k (by omega) a b ha hb;have i2:=RL n S k (by omega) a k ha (by omega);have i3:=RL n S k (by omega) k b (by omega) hb;simp only [gK,aP,i1,i2,i3]
section
variable {α:Type}[DecidableEq α]
structure Ord(lt:α->α->Bool):Prop where
 Tc: ∀a,lt a a=false
 tr: ∀{a b c},lt a b=true->lt b c=true->lt a c=true
 tot: ∀{a b},lt a b=false->a≠b->lt b a=true
def lH(lt:α->α->Bool)(l:List α):Prop:=l.Pairwise fun a b=>lt a b=true
variable {lt:α->α->Bool}
def QT(ho:Ord lt): ∀{a b:List α},lH lt a->lH lt b->(∀x,x∈a↔x∈b)->a=b
 | [],[],_,_,_=>rfl
 | [],y::b,_,_,h=>by have:=(h y).2 (by simp);simp at this
 | x::a,[],_,_,h=>by have:=(h x).1 (by simp);simp at this
 | x::a,y::b,ha,hb,h=>by
  unfold lH at ha hb;rw [List.pairwise_cons] at ha hb;have hxy:x=y:=by
   refine Xj fun hne=> ?_;have h1:x∈b:=by
    have:=(h x).1 (by simp);rcases fJ.1 this with h|h
    ·exact absurd h hne
    ·exact h
   have h2:y∈a:=by
    have:=(h y).2 (by simp);rcases fJ.1 this with h|h
    ·exact absurd h.symm hne
    ·exact h
   have h3:=ho.tr (ha.1 y h2) (hb.1 x h1);rw [ho.Tc] at h3;cases h3
  subst hxy;rw [QT ho ha.2 hb.2 fun z=> ?_];have hz:=h z;simp only [fJ] at hz;constructor
  ·intro hm;rcases hz.1 (.inr hm) with rfl|h
   ·have:=ha.1 z hm;rw [ho.Tc] at this;cases this
   ·exact h
  ·intro hm;rcases hz.2 (.inr hm) with rfl|h
   ·have:=hb.1 z hm;rw [ho.Tc] at this;cases this
   ·exact h
def HV{l:List α}{x:α}(h:lH lt l)(hx: ∀y∈l,lt y x=true):lH lt (l++[x]):=by unfold lH at *;rw [List.pairwise_append];exact ⟨h,by simp,fun a ha b hb=>by simp at hb;subst hb;exact hx a ha⟩
def QU(ho:Ord lt){l:List α}(h:lH lt l):l.Nodup:=by unfold lH at h;exact h.imp fun {a b} hab e=>by subst e;rw [ho.Tc] at hab;cases hab
variable [Inhabited α]
def gq(lt:α->α->Bool)(l:List α)(s:α):Nat->List α×Bool
 | 0=>([],false)
 | k+1 =>
  if (gq lt l s k).2 then ((gq lt l s k).1++[l.getD k default],true)
  else if lt (l.getD k default) s then ((gq lt l s k).1++[l.getD k default],false)
  else if l.getD k default=s then ((gq lt l s k).1++[l.getD k default],true)
  else ((gq lt l s k).1++[s]++[l.getD k default],true)
def wP(lt:α->α->Bool)(l:List α)(s:α):List α:=if (gq lt l s l.length).2 then (gq lt l s l.length).1 else (gq lt l s l.length).1++[s]
def abb(l:List α)(s:α): ∀k,(gq lt l s k).1.length<=k+(if (gq lt l s k).2 then 1 else 0)
 | 0=>by simp [gq]
 | k+1=>by
  have:=abb l s k;simp only [gq];repeat' split
  all_goals simp_all
  all_goals (try split at this)
  all_goals omega
def akA(l:List α)(s:α):(wP lt l s).length<=l.length+1:=by have:=abb (lt:=lt) l s l.length;unfold wP;split<;>simp_all
def akD(l:List α)(s y:α): ∀k,(y∈(gq lt l s k).1\/y=s)↔(∃i,i<k/\l.getD i default=y)\/y=s
 | 0=>by simp [gq]
 | k+1=>by
  have ih:=akD l s y k;have e:(∃i,i<k+1/\l.getD i default=y)↔(∃i,i<k/\l.getD i default=y)\/l.getD k default=y:=by
   constructor
   ·rintro ⟨i,hi,h⟩;by_cases e:i=k
    ·subst e;exact .inr h
    ·exact .inl ⟨i,by omega,h⟩
   ·rintro (⟨i,hi,h⟩|h)
    ·exact ⟨i,by omega,h⟩
    ·exact ⟨k,by omega,h⟩
  rw [e];clear e;simp only [gq];generalize (∃i,i<k/\l.getD i default=y)=P at *;generalize l.getD k default=z at *;repeat' split
  all_goals simp only [jx,nV]
  all_goals grind
def akC(l:List α)(s:α): ∀k,(gq lt l s k).2=true->s∈(gq lt l s k).1
 | 0,h=>by simp [gq] at h
 | k+1,h=>by
  have ih:=akC l s k;simp only [gq] at h ⊢;repeat' split at h
  all_goals simp_all
def Ga(l:List α)(s y:α):y∈wP lt l s↔y∈l\/y=s:=by
 have h1:=akD (lt:=lt) l s y l.length;have e:(∃i,i<l.length/\l.getD i default=y)↔y∈l:=by
  constructor
  ·rintro ⟨i,hi,rfl⟩;rw [kK,cO hi];simp
  ·intro h;obtain ⟨i,hi,rfl⟩:=yE h;exact ⟨i,hi,by rw [kK,cO hi];simp⟩
 rw [e] at h1;have h2:=akC (lt:=lt) l s l.length;unfold wP;split
 ·rename_i hd;have:=h2 hd;grind
 ·rw [jx,nV];exact h1
def akB(ho:Ord lt){l:List α}(h:lH lt l)(s:α): ∀k,k<=l.length->lH lt (gq lt l s k).1/\(∀y∈(gq lt l s k).1,∀i,k<=i->i<l.length->lt y (l.getD i default)=true)/\((gq lt l s k).2=false-> ∀y∈(gq lt l s k).1,lt y s=true)
 | 0,_=>⟨by simp [gq,lH],by simp [gq],by simp [gq]⟩
 | k+1,hk=>by
  obtain ⟨h1,h2,h3⟩:=akB ho h s k (by omega);have hlt: ∀i,k<i->i<l.length->lt (l.getD k default) (l.getD i default)=true:=by intro i hi hil;have:=Xu.1 h k i (by omega) hil hi;simpa [kK,hil,show k<l.length by omega] using this
  have hk2: ∀y∈(gq lt l s k).1,lt y (l.getD k default)=true:=fun y hy=>h2 y hy k (bU _) (by omega);generalize hz:l.getD k default=z at *;simp only [gq,hz];split
  ·refine ⟨HV h1 hk2,?_,by simp⟩;intro y hy i hi hil;rw [jx,nV] at hy;rcases hy with hy|rfl
   ·exact h2 y hy i (by omega) hil
   ·exact hlt i (by omega) hil
  ·rename_i hd;have hd:(gq lt l s k).2=false:=by simpa using hd
   split
   ·rename_i hzs;refine ⟨HV h1 hk2,?_,?_⟩
    ·intro y hy i hi hil;rw [jx,nV] at hy;rcases hy with hy|rfl
     ·exact h2 y hy i (by omega) hil
     ·exact hlt i (by omega) hil
    ·intro _ y hy;rw [jx,nV] at hy;rcases hy with hy|rfl
     ·exact h3 hd y hy
     ·exact hzs
   ·rename_i hzs;split
    ·refine ⟨HV h1 hk2,?_,by simp⟩;intro y hy i hi hil;rw [jx,nV] at hy;rcases hy with hy|rfl
     ·exact h2 y hy i (by omega) hil
     ·exact hlt i (by omega) hil
    ·rename_i hne;have hsz:lt s z=true:=ho.tot (by simpa using hzs) hne;refine ⟨HV (HV h1 (h3 hd)) ?_,?_,by simp⟩
     ·intro y hy;rw [jx,nV] at hy;rcases hy with hy|rfl
      ·exact hk2 y hy
      ·exact hsz
     ·intro y hy i hi hil;simp only [jx,nV] at hy;rcases hy with (hy|rfl)|rfl
      ·exact h2 y hy i (by omega) hil
      ·exact ho.tr hsz (hlt i (by omega) hil)
      ·exact hlt i (by omega) hil
def akz(ho:Ord lt){l:List α}(h:lH lt l)(s:α):lH lt (wP lt l s):=by
 obtain ⟨h1,h2,h3⟩:=akB ho h s l.length (bU _);unfold wP;split
 ·exact h1
 ·rename_i hd;exact HV h1 (h3 (by simpa using hd))
end
end
section
open Go.RowKit Go
variable [GC]
def rowsOf(f:Nat->D)(n:Nat):List (List D):=(List.range n).map fun a=>[f a]
@[simp] def aJ0 (f:Nat->D) (n:Nat):(rowsOf f n).length=n:=by simp [rowsOf]
def vU(p:Nat->Bool):Nat->Bool
 | 0=>false
 | n+1=>vU p n||p n
def HK{p:Nat->Bool}: ∀{n:Nat},vU p n=true↔ ∃k,k<n/\p k=true
 | 0=>by simp [vU]
 | n+1=>by
  simp only [vU,gK,HK (n:=n)];constructor
  ·rintro (⟨k,hk,h⟩|h)
   ·exact ⟨k,by omega,h⟩
   ·exact ⟨n,by omega,h⟩
  ·rintro ⟨k,hk,h⟩;by_cases e:k=n
   ·subst e;exact .inr h
   ·exact .inl ⟨k,by omega,h⟩
def wO(l:List Entry)(a k:Nat):Option Nat:=Jr l (nth l a).name (nth (nth l a).needs k)
def aaR(l:List Entry)(a j c:Nat):Bool:=vU (fun k=>decide (wO l a k=some c)) j
def Jh(l:List Entry)(a j:Nat):Bool:=vU (fun k=>(wO l a k).isNone) j
def lE(l:List Entry)(a c:Nat):Bool:=aaR l a (nth l a).needs.length c
def pG(l:List Entry)(a:Nat):Bool:=Jh l a (nth l a).needs.length
def jt(l:List Entry):Nat->Nat->Bool:=RJ l.length (lE l) l.length
def mF(l:List Entry)(i a:Nat):Bool:=decide (a<i)&&pG l a
def mG(l:List Entry)(i j a:Nat):Bool:=if a<i then pG l a else if a=i then Jh l i j else false
def TR{l:List Entry}{a k c:Nat}(h:wO l a k=some c):c<l.length:=(ux h).1
def Rj{P:Program}{tab:Nat->List CT}{env:List D}{Q:D->List D->Prop}{L:List (List D->Prop)}{r:List D->Prop}{es:List E}{xs:List D}{p q:Prop}
  (hp:p) (h:es.map (·.den env)=xs) (hq:q):(VC.again 1 es).den P tab env Q (r::(fun ys=>p/\ys=xs/\q)::L):=⟨hp,h,hq⟩
def Entry.fit(e:Entry):Prop:=e.recipe.length<=1048576/\e.needs.length<=1048576
def LC(l:List ByteArray)(h:l.length<=1048576):eA ay 88 none [ax l] (ax l) [] [(0,1)]:=by
 refine iT an7 aGW ⟨lG l,trivial⟩ fun hfit=> ?_;unfold an7;refine aX (fun _=> ?_) (az ?_)
 ·simp [E.den];omega
 ·simp [E.den,ax]
def afy(e:Entry)(h:e.fit):eA ay 149 none [enc e] (enc e) [] [(1,1),(4,4)]:=by
 refine iT aoz aHo ⟨JE e,trivial⟩ fun hfit=> ?_;unfold aoz;refine fQ (LC e.recipe h.1) ?_;have h2:=h.2;refine aX (fun _=> ?_) (az ?_)
 ·simp [E.den,nW];omega
 ·simp [E.den,nW,enc,ax]
def UF{α:Type}[Inhabited α](l:List α){k:Nat}(h:k<l.length):l.take (k+1)=l.take k++[nth l k]:=by rw [Xx h];simp [nth,kK,cO h]
def axq{α:Type}[aE α](l:List α)(x:α):D.sl (l.map aE.cells++[aE.cells x])=ax (l++[x]):=by simp [ax]
def Yh(l:List Entry)(hl:l.length<=1048576)(hf: ∀e∈l,e.fit):eA ay 98 none [ax l] (ax l) [] [(0,5)]:=by
 refine iT aoy aHn ⟨rp l,trivial⟩ fun hfit=> ?_;unfold aoy;refine eZ l.length (fun k=>[ax (l.take k),.int .i64 k]) (fun _=>True) rfl trivial ?_;intro k hk _ _;simp only [cA];apply aq<;>intro h2<;>simp only [eS] at h2
 ·have h2:k<l.length:=by simp at h2;exact h2
  refine fZ ?_;refine fQ (afy (nth l k) (hf _ (iC h2))) (hty:=JE _) ?_;refine aX (fun _=> ?_) ?_
  ·simp [E.den];omega
  refine dK h2 ?_ trivial;simp only [eS,iw];rw [bW,axq, <-UF l h2];rfl
 ·obtain rfl:k=l.length:=by simp at h2;omega
  exact az (by simp [E.den])
def tu(l:List Entry)(s:ByteArray):Option Nat:=dG (fun k=>decide ((nth l k).name=s)) l.length
def dN(l:List Entry)(s:ByteArray):Int:=match tu l s with|some k=>k|none=> -1
def pZ(l:List Entry)(s:ByteArray):aH ay 83 none [ax l,.str s] (.int .i64 (dN l s)) []:=by
 refine cB ani aGd ⟨rp l,trivial,trivial⟩ fun hfit=> ?_;have hl:l.length<=9223372036854775807:=qM hfit.1;unfold ani;refine eZ l.length (fun k=>[.int .i64 k]) (fun k=> ∀i,i<k->decide ((nth l i).name=s)=false) rfl (by omega) ?_;intro k hk hI _;simp only [cA];apply aq<;>intro h2<;>simp only [eS] at h2
 ·have h2:k<l.length:=by simp at h2;exact h2
  refine fZ ?_;apply aq<;>intro h3<;>simp only [eS,uZ,nW] at h3
  ·refine az ?_;simp [E.den,dN,tu,Am (p:=fun k=>decide ((nth l k).name=s)) h3 hI h2]
  ·refine dK h2 ?_ fun i hi=> ?_
   ·simp only [eS];rw [bW];rfl
   ·rcases dY i k with h|h
    ·exact hI i h
    ·obtain rfl:i=k:=by omega
     exact h3
 ·obtain rfl:k=l.length:=by simp at h2;omega
  exact az (by simp [E.den,dN,tu,Al hI])
def ae9: ∀{a b:List UInt8},Op.bytesLess a b=true->Op.bytesLess b a=false
 | [],[],h=>by simp [Op.bytesLess] at h
 | [],_::_,_=>by simp [Op.bytesLess]
 | _::_,[],h=>by simp [Op.bytesLess] at h
 | x::a,y::b,h=>by
  simp only [Op.bytesLess] at h ⊢;by_cases e:x=y
  ·subst e;simp at h ⊢;exact ae9 h
  ·have e': ¬y=x:=fun h=>e h.symm;simp [e,e'] at h ⊢;exact UInt8.le_of_lt h
def afa: ∀{a b:List UInt8},a≠b->Op.bytesLess a b=false->Op.bytesLess b a=true
 | [],[],h,_=>by simp at h
 | [],_::_,_,h=>by simp [Op.bytesLess] at h
 | _::_,[],_,_=>by simp [Op.bytesLess]
 | x::a,y::b,hn,h=>by
  simp only [Op.bytesLess] at h ⊢;by_cases e:x=y
  ·subst e;simp at h hn ⊢;exact afa hn h
  ·have e': ¬y=x:=fun h=>e h.symm;simp [e,e'] at h ⊢;exact UInt8.lt_of_le_of_ne h e'
def aBO{a b:ByteArray}(h:cU a b=true):cU b a=false:=ae9 h
def aBP{a b:ByteArray}(hn:a≠b)(h:cU a b=false):cU b a=true :=
 afa (fun e=>hn (by have:=Gq a b;rw [e] at this;simpa using this.symm)) h
def Y5{p:Nat->Bool}: ∀{n:Nat},dG p n=none-> ∀i,i<n->p i=false
 | 0,_,i,h=>by omega
 | n+1,h,i,hi=>by
  simp only [dG] at h;split at h
  ·cases h
  ·rename_i hn;split at h
   ·cases h
   ·rename_i hp;by_cases e:i=n
    ·subst e;simpa using hp
    ·exact Y5 hn i (by omega)
def yO{l:List Entry}{s:ByteArray}(h:0<=dN l s): ∃i:Nat,dN l s=(i:Int)/\i<l.length/\(nth l i).name=s:=by
 unfold dN at h ⊢;cases hf:tu l s with
 | none=>rw [hf] at h;simp at h
 | some k => obtain ⟨h1,h2,_⟩:=ux hf;exact ⟨k,rfl,h1,by simpa using h2⟩
def ajO{l:List Entry}{a c:Nat}(h:lE l a c=true):c<l.length:=by unfold lE aaR at h;obtain ⟨k,_,hk⟩:=HK.1 h;exact TR (by simpa using hk)
def Dh{l:List Entry}{a b:Nat}(ha:a<l.length)(hb:b<l.length):jt l a b=true↔Way (lE l) l.length a b:=RL _ _ _ (bU _) a b ha hb
def Way.first{S:Nat->Nat->Bool}{n a b:Nat}(h:Way S n a b): ∃c,S a c=true/\(c=b\/Way S n c b):=by
 induction h with
 | @edge a b h=>exact ⟨b,h,.inl rfl⟩
 | @step a m b hm _ h2 AX _ =>
  obtain ⟨c,h1,h3⟩:=AX;rcases h3 with rfl|h3
  ·exact ⟨c,h1,.inr h2⟩
  ·exact ⟨c,h1,.inr (.step hm h3 h2)⟩
def akL{l:List Entry}{a b:Nat}(ha:a<l.length)(hb:b<l.length):jt l a b=true↔ ∃c,c<l.length/\lE l a c=true/\(c=b\/jt l c b=true):=by
 rw [Dh ha hb];constructor
 ·intro h;obtain ⟨c,h1,h2⟩:=h.first;have hc:=ajO h1;exact ⟨c,hc,h1,h2.imp id fun h=>(Dh hc hb).2 h⟩
 ·rintro ⟨c,hc,h1,rfl|h2⟩
  ·exact .edge h1
  ·exact .step hc (.edge h1) ((Dh hc hb).1 h2)
def abh{l:List Entry}{a b c:Nat}(ha:a<l.length)(hb:b<l.length)(hc:c<l.length)(h1:jt l a b=true)(h2:jt l b c=true):jt l a c=true :=
 (Dh ha hc).2 (.step hb ((Dh ha hb).1 h1) ((Dh hb hc).1 h2))
def abg{l:List Entry}{a c:Nat}(ha:a<l.length)(h:lE l a c=true):jt l a c=true:=(Dh ha (ajO h)).2 (.edge h)
def mE(l:List Entry)(j:Nat):Bool:=pG l j||jt l j j
def kE(l:List Entry)(i:Nat):Bool:=mE l i||vU (fun j=>jt l i j&&mE l j) l.length
def NJ{l:List Entry}{i:Nat}:kE l i=true↔mE l i=true\/ ∃j,j<l.length/\jt l i j=true/\mE l j=true:=by unfold kE;rw [gK,HK];simp only [aP]
def abN{l:List Entry}{i:Nat}(hi:i<l.length):kE l i=true↔pG l i=true\/jt l i i=true\/ ∃j,j<l.length/\jt l i j=true/\kE l j=true:=by
 rw [NJ];constructor
 ·rintro (h|⟨j,hj,h1,h2⟩)
  ·unfold mE at h;rw [gK] at h;exact h.imp id .inl
  ·exact .inr (.inr ⟨j,hj,h1,NJ.2 (.inl h2)⟩)
 ·rintro (h|h|⟨j,hj,h1,h2⟩)
  ·exact .inl (by unfold mE;rw [h];rfl)
  ·exact .inl (by unfold mE;rw [h];simp)
  ·rcases NJ.1 h2 with h|⟨k,hk,h3,h4⟩
   ·exact .inr ⟨j,hj,h1,h⟩
   ·exact .inr ⟨k,hk,abh hi hj hk h1 h3,h4⟩
def lS(l:List Entry)(o:List Nat)(i:Nat):Bool:= !o.contains i&& !pG l i&&fz (fun k=> !lE l i k||o.contains k) l.length
def gV(l:List Entry):Nat->List Nat
 | 0=>[]
 | k+1=>match dG (lS l (gV l k)) l.length with
  | some i=>gV l k++[i]
  | none=>gV l k
def qf(l:List Entry):List Nat:=gV l l.length
def TW{l:List Entry}{o:List Nat}{i:Nat}:lS l o i=true↔i∉o/\pG l i=false/\ ∀k,k<l.length->lE l i k=true->k∈o:=by
 unfold lS;simp only [aP,oP,mD,gK,Xm,mZ,cC];constructor
 ·rintro ⟨⟨h1,h2⟩,h3⟩;refine ⟨h1,h2,fun k hk hn=> ?_⟩;rcases h3 k hk with h|h
  ·rw [hn] at h;cases h
  ·exact h
 ·rintro ⟨h1,h2,h3⟩;refine ⟨⟨h1,h2⟩,fun k hk=> ?_⟩;cases hn:lE l i k with
  | false=>exact .inl rfl
  | true=>exact .inr (h3 k hk hn)
def TL{l:List Entry}: ∀{k:Nat} {pre post:List Nat} {i:Nat},gV l k=pre++i::post->dG (lS l pre) l.length=some i
 | 0,pre,post,i,h=>by simp [gV] at h
 | k+1,pre,post,i,h=>by
  simp only [gV] at h;split at h
  ·rename_i j hj;rcases List.eq_nil_or_concat post with rfl|⟨p',x,rfl⟩
   ·have h2:gV l k++[j]=pre++[i]:=h;obtain ⟨e1,e2⟩:=List.append_inj' h2 rfl;simp only [Ev,vR] at e2;rw [<-e1, <-e2];exact hj
   ·have h2:gV l k++[j]=(pre++i::p')++[x]:=by rw [h];simp
    obtain ⟨e1,e2⟩:=List.append_inj' h2 rfl;exact TL e1
  ·exact TL h
def TK(l:List Entry): ∀k,(gV l k).Nodup
 | 0=>by simp [gV]
 | k+1=>by
  simp only [gV];split
  ·rename_i j hj;have h1:=(TW.1 (ux hj).2.1).1;rw [List.nodup_append];refine ⟨TK l k,by simp,fun a ha b hb e=> ?_⟩;simp at hb;subst hb;subst e;exact h1 ha
  ·exact TK l k
def Da{l:List Entry}: ∀{k i:Nat},i∈gV l k->i<l.length
 | 0,i,h=>by simp [gV] at h
 | k+1,i,h=>by
  simp only [gV] at h;split at h
  ·rename_i j hj;rcases jx.1 h with h|h
   ·exact Da h
   ·simp at h;subst h;exact (ux hj).1
  ·exact Da h
def TF: ∀{a b:List Nat},a.Nodup->(∀x∈a,x∈b)->a.length<=b.length
 | [],b,_,_=>by simp
 | x::a,b,hn,hs=>by
  have hx:x∈b:=hs x (by simp);rw [PW] at hn;have:=TF (a:=a) (b:=b.erase x) hn.2 fun y hy=>by have hne:y≠x:=fun e=>hn.1 (e▸hy);exact (List.mem_erase_of_ne hne).2 (hs y (by simp [hy]))
  rw [List.length_erase_of_mem hx] at this;have hp:0<b.length:=List.length_pos_of_mem hx;simp only [fw];omega
def aa3(l:List Entry)(k:Nat):(gV l k).length<=l.length:=by
 have:=TF (b:=List.range l.length) (TK l k) fun x hx=>by simpa using Da hx
 simpa using this
def TM{l:List Entry}{k:Nat}(h:dG (lS l (gV l k)) l.length=none): ∀m,gV l (k+m)=gV l k
 | 0=>rfl
 | m+1=>by show gV l ((k+m)+1)=_;simp only [gV];rw [TM h m,h]
def akf{l:List Entry}: ∀{k:Nat},dG (lS l (gV l k)) l.length≠none->(gV l k).length=k
 | 0,_=>rfl
 | k+1,h=>by
  cases hk:dG (lS l (gV l k)) l.length with
  | none => have e:=TM hk 1;rw [e] at h;exact absurd hk h
  | some i => have:=akf (k:=k) (by rw [hk];simp);simp only [gV,hk,jw,fw,zW,this]
def akd(l:List Entry):dG (lS l (qf l)) l.length=none:=by
 cases h:dG (lS l (qf l)) l.length with
 | none=>rfl
 | some i =>
  have h1:(gV l l.length).length=l.length:=akf (by unfold qf at h;rw [h];simp);have h2:(gV l (l.length+1)).length=l.length+1:=by have h:dG (lS l (gV l l.length)) l.length=some i:=h;simp only [gV,h,jw,fw,zW,h1]
  have:=aa3 l (l.length+1);omega
def aCN{l:List Entry}{k:Nat}(h:dG (lS l (gV l k)) l.length=none):gV l k=qf l:=by
 unfold qf;rcases Nat.le_total k l.length with hk|hk
 ·rw [show l.length=k+(l.length-k) by omega,TM h]
 ·have:=TM (akd l) (k-l.length);rw [show l.length+(k-l.length)=k by omega] at this;exact this
def aa4{l:List Entry}: ∀(m:Nat) {pre post:List Nat} {i c:Nat},pre.length<=m->qf l=pre++i::post->c<l.length->jt l i c=true->c∈pre
 | m,pre,post,i,c,hm,h,hc,hr=>by
  have hi:i<l.length:=Da (k:=l.length) (by show i∈qf l;rw [h];simp);have hf:=(TW.1 (ux (TL h)).2.1).2.2;obtain ⟨d,hd,h1,h2⟩:=(akL hi hc).1 hr;have hdp:=hf d hd h1;rcases h2 with rfl|h2
  ·exact hdp
  ·obtain ⟨p1,p2,rfl⟩:=Xl hdp
   match m,hm with
   | 0,hm=>simp at hm
   | m+1,hm => have:=aa4 m (pre:=p1) (post:=p2++i::post) (i:=d) (c:=c) (by simp at hm;omega) (by rw [h];simp) hc h2;simp [this]
def akg{l:List Entry}{i:Nat}(h:i∈qf l):kE l i=false:=by
 have key: ∀{j:Nat},j∈qf l->mE l j=false:=by
  intro j hj;have hjl:j<l.length:=Da hj;obtain ⟨pre,post,e⟩:=Xl hj;have hr:=TW.1 (ux (TL e)).2.1;unfold mE;rw [hr.2.1,PJ];cases hq:jt l j j with
  | false=>rfl
  | true=>exact absurd (aa4 _ (bU _) e hjl hq) hr.1
 cases hs:kE l i with
 | false=>rfl
 | true =>
  rcases NJ.1 hs with h1|⟨j,hj,h1,h2⟩
  ·rw [key h] at h1;cases h1
  ·obtain ⟨pre,post,e⟩:=Xl h;have:=aa4 _ (bU _) e hj h1;rw [key (by rw [e];simp [this])] at h2;cases h2
def cnt(p:Nat->Bool):Nat->Nat
 | 0=>0
 | n+1=>cnt p n+if p n then 1 else 0
def afM{p q:Nat->Bool}: ∀{n:Nat},(∀i,i<n->p i=true->q i=true)->cnt p n<=cnt q n
 | 0,_=>bU _
 | n+1,h=>by
  simp only [cnt];have:=afM (n:=n) fun i hi=>h i (by omega);have:=h n (by omega);by_cases hp:p n=true
  ·rw [aA hp,aA (this hp)];omega
  ·rw [ak hp];split<;>omega
def afN{p q:Nat->Bool}: ∀{n:Nat},(∀i,i<n->p i=true->q i=true)->(∃i,i<n/\p i=false/\q i=true)->cnt p n<cnt q n
 | 0,_,⟨i,hi,_⟩=>by omega
 | n+1,h,⟨i,hi,h1,h2⟩=>by
  simp only [cnt];by_cases e:i=n
  ·subst e;have:=afM (n:=i) fun j hj=>h j (by omega);rw [h1,h2];simp;omega
  ·have h3:=afN (n:=n) (fun j hj=>h j (by omega)) ⟨i,by omega,h1,h2⟩;have h4:=h n (by omega);by_cases hp:p n=true
   ·rw [aA hp,aA (h4 hp)];omega
   ·rw [ak hp];split<;>omega
def akb{l:List Entry}: ∀(m:Nat) {i:Nat},cnt (jt l i) l.length<=m->i<l.length->kE l i=false->i∈qf l
 | m,i,hm,hi,hs=>by
  by_cases hmem:i∈qf l
  ·exact hmem
  ·exfalso;have hnb:mE l i=false:=by
    cases hb:mE l i with
    | false=>rfl
    | true=>rw [NJ.2 (.inl hb)] at hs;cases hs
   have hnr:=Y5 (akd l) i hi;have azi:pG l i=false:=by unfold mE at hnb;simp at hnb;exact hnb.1
   have: ∃c,c<l.length/\lE l i c=true/\c∉qf l:=by refine Xj fun hno=> ?_;have:lS l (qf l) i=true:=TW.2 ⟨hmem,azi,fun k hk hn=>Xj fun hk2=>hno ⟨k,hk,hn,hk2⟩⟩;rw [this] at hnr;cases hnr
   obtain ⟨c,hc,h1,h2⟩:=this;have ZT:=abg hi h1;have hsc:kE l c=false:=by
    cases hb:kE l c with
    | false=>rfl
    | true=>rw [(abN hi).2 (.inr (.inr ⟨c,hc,ZT,hb⟩))] at hs;cases hs
   have hcc:jt l c c=false:=by
    cases hb:jt l c c with
    | false=>rfl
    | true=>rw [(abN hc).2 (.inr (.inl hb))] at hsc;cases hsc
   have hlt:cnt (jt l c) l.length<cnt (jt l i) l.length:=afN (fun j hj h=>abh hi hc hj ZT h) ⟨c,hc,hcc,ZT⟩
   match m,hm with
   | 0,hm=>omega
   | m+1,hm=>exact h2 (akb m (by omega) hc hsc)
def aCO{l:List Entry}{i:Nat}(hi:i<l.length):i∈qf l↔kE l i=false:=⟨akg,akb _ (bU _) hi⟩
def akc(l:List Entry):(qf l).length+((List.range l.length).filter (kE l)).length=l.length:=by
 have h1:(qf l).length=((List.range l.length).filter fun i=> !kE l i).length:=by
  refine Nat.le_antisymm (TF (TK l _) fun x hx=> ?_) (TF (List.nodup_range.filter _) fun x hx=> ?_)
  ·simp only [Ci,pW];exact ⟨Da hx,by rw [akg hx];rfl⟩
  ·simp only [Ci,pW,oP] at hx;exact (aCO hx.1).2 hx.2
 rw [h1];have:=List.length_eq_countP_add_countP (kE l) (l:=List.range l.length);simp only [List.length_range] at this;rw [<-aeS, <-aeS];have e:List.countP (fun i=> !kE l i) (List.range l.length)=List.countP (fun a=>decide ¬kE l a=true) (List.range l.length):=by congr 1;funext i;simp
 omega
def q9{l:List Entry}(h:cW l=true):l.length<=6/\ ∀k,k<l.length->qL l k=true:=by unfold cW at h;rw [aP,cC,mD] at h;exact h
def afb: ∀{a b c:List UInt8},Op.bytesLess a b=true->Op.bytesLess b c=true->Op.bytesLess a c=true
 | _,[],_,h,_=>by simp [Op.bytesLess] at h
 | _,_::_,[],_,h=>by simp [Op.bytesLess] at h
 | [],_::_,_::_,_,_=>by simp [Op.bytesLess]
 | x::a,y::b,z::c,h1,h2=>by have ih:= @afb a b c;simp only [Op.bytesLess,gK,aP,cC,um] at h1 h2 ⊢;grind
def ajw{a b c:ByteArray}(h1:cU a b=true)(h2:cU b c=true):cU a c=true:=afb h1 h2
def aaJ(a:ByteArray):cU a a=false:=by
 cases h:cU a a with
 | false=>rfl
 | true=>rw [aBO h] at h;cases h
def TX{l:List Entry}(h:cW l=true){i:Nat}: ∀{j:Nat},i<j->j<l.length->cU (nth l i).name (nth l j).name=true
 | 0,hij,_=>by omega
 | j+1,hij,hj=>by
  have h1:=(q9 h).2 (j+1) hj;unfold qL at h1;simp only [aP,gK] at h1;have h2:cU (nth l j).name (nth l (j+1)).name=true:=by
   rcases h1.2 with h|h
   ·simp at h
   ·simpa using h
  rcases dY i j with h3|h3
  ·exact ajw (TX h h3 (by omega)) h2
  ·obtain rfl:i=j:=by omega
   exact h2
def zo{l:List Entry}(h:cW l=true){i j:Nat}(hi:i<l.length)(hj:j<l.length)(e:(nth l i).name=(nth l j).name):i=j:=by
 rcases Hf i j with h1|h1|h1
 ·have:=TX h h1 hj;rw [e,aaJ] at this;cases this
 ·exact h1
 ·have:=TX h h1 hi;rw [e,aaJ] at this;cases this
def uM(l:List Entry)(p:Nat->Bool)(k:Nat):List ByteArray:=((List.range k).filter p).map fun i=>(nth l i).name
def fB(l:List Entry)(p:Nat->Bool):List ByteArray:=uM l p l.length
def ajL(l:List Entry)(p:Nat->Bool)(k:Nat):uM l p (k+1)=if p k=true then uM l p k++[(nth l k).name] else uM l p k:=by unfold uM;rw [Xv,List.filter_append,uj];cases h:p k<;>simp [h]
def ajK(l:List Entry)(p:Nat->Bool)(k:Nat):(uM l p k).length<=k:=by unfold uM;rw [cV];have:=Xr p (List.range k);simpa using this
def Nn{l:List Entry}(h:cW l=true){p:Nat->Bool}{k:Nat}(hk:k<l.length):hasB (fB l p) (nth l k).name=p k:=by
 rw [Eu];unfold hasB fB uM;simp only [uf,gD,Ci,pW,cC];constructor
 ·rintro ⟨t,⟨i,⟨h1,h2⟩,rfl⟩,e⟩;rw [<-zo h h1 hk e];exact h2
 ·intro hp;exact ⟨_,⟨k,⟨hk,hp⟩,rfl⟩,rfl⟩
def Bd:Ord cU:=⟨aaJ,ajw,fun h hn=>aBP hn h⟩
def C5{l:List Entry}{p:Nat->Bool}{x:ByteArray}:x∈fB l p↔ ∃i,i<l.length/\p i=true/\(nth l i).name=x:=by unfold fB uM;simp only [gD,Ci,pW,and_assoc]
def TA{l:List Entry}(h:cW l=true)(p:Nat->Bool):lH cU (fB l p):=by unfold lH fB uM;rw [List.pairwise_map];refine List.Pairwise.imp_of_mem (R:=fun a b=>a<b) ?_ (List.Pairwise.filter _ List.pairwise_lt_range);intro a b ha hb hab;simp only [Ci,pW] at ha hb;exact TX h hab hb.1
def xP{l:List Entry}{p q:Nat->Bool}(h: ∀i,i<l.length->p i=q i):fB l p=fB l q:=by unfold fB uM;congr 1;exact List.filter_congr fun i hi=>h i (by simpa using hi)
def ajM(l:List Entry):fB l (fun _=>false)=[]:=by unfold fB uM;simp
def ajN{l:List Entry}(h:cW l=true){p:Nat->Bool}{i:Nat}(hi:i<l.length):wP cU (fB l p) (nth l i).name=fB l (fun a=>p a||decide (a=i)):=by
 refine QT Bd (akz Bd (TA h p) _) (TA h _) fun x=> ?_;rw [Ga,C5,C5];simp only [gK,cC];constructor
 ·rintro (⟨j,h1,h2,h3⟩|rfl)
  ·exact ⟨j,h1,.inl h2,h3⟩
  ·exact ⟨i,hi,.inr rfl,rfl⟩
 ·rintro ⟨j,h1,h2|rfl,h3⟩
  ·exact .inl ⟨j,h1,h2,h3⟩
  ·exact .inr h3.symm
def zg(l:List Entry)(a k:Nat):Option gY:=(wO l a k).map fun c=>⟨(nth l a).name,(nth l c).name,(nth (nth l a).needs k).kY⟩
def qT(l:List Entry)(a j:Nat):List gY:=(List.range j).filterMap (zg l a)
def xO(l:List Entry)(i:Nat):List gY:=(List.range i).flatMap fun a=>qT l a (nth l a).needs.length
def gf(l:List Entry):List gY:=if cW l then xO l l.length else []
def ajt(l:List Entry)(a j:Nat):qT l a (j+1)=qT l a j++(zg l a j).toList:=by unfold qT;rw [Xv,List.filterMap_append];cases h:zg l a j<;>simp [h]
def aju(l:List Entry)(i:Nat):xO l (i+1)=xO l i++qT l i (nth l i).needs.length:=by unfold xO;rw [Xv,List.flatMap_append];simp
def ajs(l:List Entry)(a j:Nat):(qT l a j).length<=j:=by unfold qT;have:=List.length_filterMap_le (zg l a) (List.range j);simpa using this
def aB9{l:List Entry}{a j:Nat}{x:gY}:x∈qT l a j↔ ∃k,k<j/\zg l a k=some x:=by unfold qT;simp only [List.mem_filterMap,pW]
def aCa{l:List Entry}{i:Nat}{x:gY}:x∈xO l i↔ ∃a k,a<i/\k<(nth l a).needs.length/\zg l a k=some x:=by
 unfold xO;simp only [List.mem_flatMap,pW,aB9];constructor
 ·rintro ⟨a,h1,k,h2,h3⟩;exact ⟨a,k,h1,h2,h3⟩
 ·rintro ⟨a,k,h1,h2,h3⟩;exact ⟨a,h1,k,h2,h3⟩
def NC{l:List Entry}(h:cW l=true){a:Nat}(ha:a<l.length):(nth l a).needs.length<=3:=by have:=(q9 h).2 a ha;unfold qL pj at this;simp only [aP,cC] at this;exact this.1.1.2
def akR{l:List Entry}(h:cW l=true){a:Nat}(ha:a<l.length):(nth l a).name≠aV:=by have:=(q9 h).2 a ha;unfold qL pj at this;simp only [aP,cC] at this;have h2:=this.1.1.1.1.2;intro e;rw [e] at h2;exact absurd h2 (by decide)
def aaI{l:List Entry}(h:cW l=true): ∀i,i<=l.length->(xO l i).length<=3*i
 | 0,_=>by simp [xO]
 | i+1,hi=>by rw [aju,jw];have h1:=aaI h i (by omega);have h2:=ajs l i (nth l i).needs.length;have h3:=NC h (a:=i) (by omega);omega
def aaH(l:List Entry):(gf l).length<=18:=by
 unfold gf;split
 ·rename_i h;have:=aaI h l.length (bU _);have:=(q9 h).1;omega
 ·simp
def aaS{l:List Entry}{a c:Nat}:lE l a c=true↔ ∃k,k<(nth l a).needs.length/\wO l a k=some c:=by unfold lE aaR;rw [HK];simp only [cC]
def aCe{l:List Entry}{a:Nat}:pG l a=true↔ ∃k,k<(nth l a).needs.length/\wO l a k=none:=by unfold pG Jh;rw [HK];simp only [Option.isNone_iff_eq_none]
def wK(x:gY)(back:Bool):ByteArray:=if back then x.to else x.jS
def gU(x:gY)(back:Bool):ByteArray:=if back then x.jS else x.to
def Edge(ls:List gY)(back:Bool)(a b:ByteArray):Prop:= ∃x∈ls,wK x back=a/\gU x back=b
def FU{l:List Entry}(h:cW l=true){a b:ByteArray}:Edge (gf l) false a b↔ ∃i c,i<l.length/\c<l.length/\lE l i c=true/\(nth l i).name=a/\(nth l c).name=b:=by
 unfold Edge gf;rw [aA h];simp only [aCa,wK,gU,xk,xp];constructor
 ·rintro ⟨x,⟨i,k,h1,h2,h3⟩,rfl,rfl⟩;unfold zg at h3;simp only [lJ] at h3;obtain ⟨c,h4,rfl⟩:=h3;exact ⟨i,c,h1,TR h4,aaS.2 ⟨k,h2,h4⟩,rfl,rfl⟩
 ·rintro ⟨i,c,h1,h2,h3,rfl,rfl⟩;obtain ⟨k,h4,h5⟩:=aaS.1 h3;exact ⟨_,⟨i,k,h1,h4,by unfold zg;rw [h5];rfl⟩,rfl,rfl⟩
def agm{ls:List gY}{a b:ByteArray}:Edge ls true a b↔Edge ls false b a:=by
 unfold Edge wK gU;simp only [vS,xk,xp];constructor
 ·rintro ⟨x,h1,h2,h3⟩;exact ⟨x,h1,h3,h2⟩
 ·rintro ⟨x,h1,h2,h3⟩;exact ⟨x,h1,h3,h2⟩
inductive kT(E:ByteArray->ByteArray->Prop):ByteArray->ByteArray->Prop
 | edge {a b:ByteArray} (h:E a b):kT E a b
 | snoc {a b c:ByteArray} (h:kT E a b) (e:E b c):kT E a c
def kT.trans{E:ByteArray->ByteArray->Prop}{a b c:ByteArray}(h:kT E a b)(h':kT E b c):kT E a c:=by
 induction h' with
 | edge e=>exact .snoc h e
 | snoc _ e ih=>exact .snoc ih e
def aeO{E F:ByteArray->ByteArray->Prop}(hEF: ∀{a b},E a b->F b a){a b:ByteArray}(h:kT E a b):kT F b a:=by
 induction h with
 | edge e=>exact .edge (hEF e)
 | snoc _ e ih=>exact .trans (.edge (hEF e)) ih
def WC{l:List Entry}(h:cW l=true){a b:ByteArray}:kT (Edge (gf l) false) a b↔ ∃i c,i<l.length/\c<l.length/\jt l i c=true/\(nth l i).name=a/\(nth l c).name=b:=by
 constructor
 ·intro hw;induction hw with
  | edge e => obtain ⟨i,c,h1,h2,h3,h4,h5⟩:=(FU h).1 e;exact ⟨i,c,h1,h2,abg h1 h3,h4,h5⟩
  | snoc _ e ih => obtain ⟨i,c,h1,h2,h3,h4,h5⟩:=ih;obtain ⟨j,d,h6,h7,h8,h9,h10⟩:=(FU h).1 e;have:j=c:=zo h h6 h2 (by rw [h9,h5]);subst this;exact ⟨i,d,h1,h7,abh h1 h2 h7 h3 (abg h2 h8),h4,h10⟩
 ·rintro ⟨i,c,h1,h2,h3,rfl,rfl⟩;have hw:=(Dh h1 h2).1 h3;clear h3;induction hw with
  | @edge a b hn=>exact .edge ((FU h).2 ⟨a,b,h1,h2,hn,rfl,rfl⟩)
  | @step a m b hm hw1 hw2 AX FM=>exact .trans (AX h1 hm) (FM hm h2)
def agN{l:List Entry}(h:cW l=true){k:Nat}(hk:k<l.length):tu l (nth l k).name=some k:=by unfold tu;refine Am (by simp) (fun i hi=> ?_) hk;rw [mZ];intro e;have:=zo h (by omega) hk e;omega
def agM{l:List Entry}{s:ByteArray}(h:tu l s=none){k:Nat}(hk:k<l.length):(nth l k).name≠s:=by unfold tu at h;have:=Y5 h k hk;simpa using this
def RD{l:List Entry}{s:ByteArray}{k:Nat}(h:tu l s=some k):k<l.length/\(nth l k).name=s:=by obtain ⟨h1,h2,_⟩:=ux h;exact ⟨h1,by simpa using h2⟩
def FW(l:List Entry):List ByteArray:=if cW l then fB l (pG l) else []
def xU(l:List Entry)(s:ByteArray):List ByteArray:=if cW l then match tu l s with|some k=>fB l (jt l k)|none=>[] else []
def qd(l:List Entry)(s:ByteArray):List ByteArray:=if cW l then match tu l s with|some k=>fB l (fun i=>jt l i k)|none=>[] else []
def oG(l:List Entry):List ByteArray:=if cW l then fB l (kE l) else []
def uO(l:List Entry)(o:List Nat):List ByteArray:=o.map fun i=>(nth l i).name
def rZ(l:List Entry):List ByteArray:=if cW l then uO l (qf l) else []
def HU:lH cU []:=List.Pairwise.nil
def ajv{l:List Entry}(h: ¬cW l=true):gf l=[]:=by unfold gf;rw [ak h]
def asx{back:Bool}{a b:ByteArray}: ¬kT (Edge [] back) a b:=by
 intro h;induction h with
 | edge e=>obtain ⟨x,hx,_⟩:=e;simp at hx
 | snoc _ e _=>obtain ⟨x,hx,_⟩:=e;simp at hx
def Jt(l:List Entry)(s:ByteArray):lH cU (xU l s)/\ ∀x,x∈xU l s↔kT (Edge (gf l) false) s x:=by
 unfold xU;split
 ·rename_i h;split
  ·rename_i k hk;obtain ⟨h1,h2⟩:=RD hk;refine ⟨TA h _,fun x=> ?_⟩;rw [C5,WC h];constructor
   ·rintro ⟨i,h3,h4,h5⟩;exact ⟨k,i,h1,h3,h4,h2,h5⟩
   ·rintro ⟨j,i,h3,h4,h5,h6,h7⟩;have:j=k:=zo h h3 h1 (by rw [h6,h2]);subst this;exact ⟨i,h4,h5,h7⟩
  ·rename_i hk;refine ⟨HU,fun x=> ?_⟩;rw [WC h];simp only [sV,false_iff];rintro ⟨j,i,h3,h4,h5,h6,h7⟩;exact agM hk h3 h6
 ·rename_i h;rw [ajv h];exact ⟨HU,fun x=>by simp [asx]⟩
def ajP(l:List Entry)(s:ByteArray):lH cU (qd l s)/\ ∀x,x∈qd l s↔kT (Edge (gf l) true) s x:=by
 have hf: ∀x,kT (Edge (gf l) true) s x↔kT (Edge (gf l) false) x s:=fun x=>⟨aeO fun h=>agm.1 h,aeO fun h=>agm.2 h⟩;unfold qd;split
 ·rename_i h;split
  ·rename_i k hk;obtain ⟨h1,h2⟩:=RD hk;refine ⟨TA h _,fun x=> ?_⟩;rw [hf,C5,WC h];constructor
   ·rintro ⟨i,h3,h4,h5⟩;exact ⟨i,k,h3,h1,h4,h5,h2⟩
   ·rintro ⟨i,j,h3,h4,h5,h6,h7⟩;have:j=k:=zo h h4 h1 (by rw [h7,h2]);subst this;exact ⟨i,h3,h5,h6⟩
  ·rename_i hk;refine ⟨HU,fun x=> ?_⟩;rw [hf,WC h];simp only [sV,false_iff];rintro ⟨i,j,h3,h4,h5,h6,h7⟩;exact agM hk h4 h7
 ·rename_i h;rw [ajv h];exact ⟨HU,fun x=>by simp [asx]⟩
def Dw(e:Entry):Entry:={e with needs:=e.needs.dropLast}
def su(l:List Entry)(k:Nat):List Entry:=l.set k (Dw (nth l k))
def tot(l:List Entry):Nat:=(l.map fun e=>e.needs.length).sum
def vf:Nat->List Entry->List Entry
 | 0,l=>l
 | n+1,l=>match oG l with
  | []=>l
  | s::_=>vf n (su l (dN l s).toNat)
def UI(l:List Entry)(k:Nat):(su l k).length=l.length:=by simp [su]
def aCx{α:Type}[Inhabited α](l:List α)(k i:Nat)(x:α)(hk:k<l.length):nth (l.set k x) i=if i=k then x else nth l i:=by
 unfold nth;simp only [kK,Ew];by_cases e:k=i
 ·subst e;simp [hk]
 ·rw [ak e,ak (fun h=>e h.symm)]
def aaU{l:List Entry}{k i:Nat}(hk:k<l.length):nth (su l k) i=if i=k then Dw (nth l k) else nth l i:=aCx l k i _ hk
def al1{l:List Entry}{k i:Nat}(hk:k<l.length):(nth (su l k) i).name=(nth l i).name:=by
 rw [aaU hk];split
 ·rename_i e;subst e;rfl
 ·rfl
def aCv{α:Type}[Inhabited α](l:List α){i:Nat}(h:i<l.length-1):nth l.dropLast i=nth l i:=by unfold nth;simp only [kK,List.getElem?_dropLast,aA h]
def aFq{e:Entry}(h:pj e=true):pj (Dw e)=true:=by
 unfold pj at *;simp only [aP,cC,mD] at *;obtain ⟨⟨⟨⟨h1,h2⟩,h3⟩,h4⟩,h5⟩:=h;refine ⟨⟨⟨⟨h1,h2⟩,h3⟩,?_⟩,fun k hk=> ?_⟩
 ·show e.needs.dropLast.length<=3;rw [He];omega
 ·have hk':k<e.needs.length-1:=by have:(Dw e).needs.length=e.needs.length-1:=He;omega
  have:=h5 k (by omega);unfold zi at *;show (FX (nth e.needs.dropLast k)&& !decide ((nth e.needs.dropLast k).jS=e.name))=true;rw [aCv _ hk'];exact this
def al2{l:List Entry}(h:cW l=true){k:Nat}(hk:k<l.length):cW (su l k)=true:=by
 have hp:=q9 h;unfold cW;rw [aP,cC,mD,UI];refine ⟨hp.1,fun i hi=> ?_⟩;have h1:=hp.2 i hi;unfold qL at *;rw [al1 hk,al1 hk];simp only [aP] at h1 ⊢;refine ⟨?_,h1.2⟩;rw [aaU hk];split
 ·rename_i e;subst e;exact aFq h1.1
 ·exact h1.1
def alY: ∀(l:List Entry) (k:Nat) (x:Entry),k<l.length->tot (l.set k x)+(nth l k).needs.length=tot l+x.needs.length
 | [],k,x,h=>by simp at h
 | e::l,0,x,_=>by show (x.needs.length+tot l)+e.needs.length=(e.needs.length+tot l)+x.needs.length;omega
 | e::l,k+1,x,h=>by have:=alY l k x (by simpa using h);show (e.needs.length+tot (l.set k x))+(nth l k).needs.length=(e.needs.length+tot l)+x.needs.length;omega
def alZ{l:List Entry}{k:Nat}(hk:k<l.length)(hn:0<(nth l k).needs.length):tot (su l k)+1=tot l:=by have:=alY l k (Dw (nth l k)) hk;have h2:(Dw (nth l k)).needs.length=(nth l k).needs.length-1:=He;unfold su;omega
def aE0{l:List Entry}{i:Nat}(hi:i<l.length)(h:kE l i=true):0<(nth l i).needs.length:=by
 refine Nat.pos_of_ne_zero fun e=> ?_;have hm:pG l i=false:=by
  cases hb:pG l i with
  | false=>rfl
  | true=>obtain ⟨k,hk,_⟩:=aCe.1 hb;omega
 have hr: ∀j,j<l.length->jt l i j=false:=fun j hj=>by
  cases hb:jt l i j with
  | false=>rfl
  | true => obtain ⟨c,_,h1,_⟩:=(akL hi hj).1 hb;obtain ⟨k,hk,_⟩:=aaS.1 h1;omega
 rcases (abN hi).1 h with h1|h1|⟨j,hj,h1,_⟩
 ·rw [hm] at h1;cases h1
 ·rw [hr i hi] at h1;cases h1
 ·rw [hr j hj] at h1;cases h1
def agL{l:List Entry}(h:cW l=true){k:Nat}(hk:k<l.length):dN l (nth l k).name=k:=by unfold dN;rw [agN h hk]
def alO{l:List Entry}(h:cW l=true){s:ByteArray}{r:List ByteArray}(hs:oG l=s::r): ∃k,k<l.length/\dN l s=(k:Int)/\0<(nth l k).needs.length:=by
 unfold oG at hs;rw [aA h] at hs;have:s∈fB l (kE l):=by rw [hs];simp
 obtain ⟨i,h1,h2,rfl⟩:=C5.1 this;exact ⟨i,h1,agL h h1,aE0 h1 h2⟩
def aFs{l:List Entry}(h:cW l=true){s:ByteArray}{r:List ByteArray}(hs:oG l=s::r){k:Nat}(hk:dN l s=(k:Int))(hkl:k<l.length)(hn:0<(nth l k).needs.length) :
  vf (tot l) l=vf (tot (su l k)) (su l k):=by
 have:=alZ hkl hn;rw [<-this]
 conv=>lhs;unfold vf
 rw [hs];show vf _ (su l (dN l s).toNat)=_;rw [hk];rfl
def aFr{l:List Entry}(hs:oG l=[]): ∀n,vf n l=l
 | 0=>rfl
 | n+1=>by unfold vf;rw [hs]
def al0{l:List Entry}: ∀{n:Nat},cW l=true->(∀e∈l,e.recipe.length<=5/\e.needs.length<=3)->cW (vf n l)=true/\(∀e∈vf n l,e.recipe.length<=5/\e.needs.length<=3)
 | 0,h,hf=>⟨h,hf⟩
 | n+1,h,hf=>by
  unfold vf;split
  ·exact ⟨h,hf⟩
  ·rename_i s r hs;obtain ⟨k,h1,h2,h3⟩:=alO h hs;rw [h2,jv];refine al0 (al2 h h1) fun e he=> ?_;rcases sU he with h4|rfl
   ·exact hf e h4
   ·have h4:=hf (nth l k) (iC h1);have h5:(Dw (nth l k)).needs.length=(nth l k).needs.length-1:=He;exact ⟨h4.1,by omega⟩
end
end Go.Proofs.YtekplmpbkgchfaaGreatDoor
