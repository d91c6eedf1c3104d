/- What calls keep: a valid part stays valid, its kind and the names of its layers stay; what lies above the layers that a call meets does not matter. -/
import Derived.Test.YtimickglpboilaaGreatDoorG13
import Derived.Test.YtimickglpboilaaGreatDoorG11
import Derived.WalkKit
import Derived.BigQuiet
import Derived.Handy
import Derived.ArgAppend
import Derived.Deep.RegionLaw
import Derived.Maps.AppendAt
import Derived.RegionTactic
import Derived.Deep.DeepCutAuto
import Derived.Deep.CutBlock
import Derived.ChangeAlike
set_option linter.unusedVariables false
set_option linter.unusedSimpArgs false
set_option maxRecDepth 100000
set_option linter.unusedSectionVars false
namespace Go.Proofs.YtimickglpboilaaGreatDoor
section
open Go.RowKit Go
variable [GC]
theorem JY: ∀{a b:List UInt8},Op.bytesLess a b=true->Op.bytesLess b a=false
 | [],_::_,_=>by simp [Op.bytesLess]
 | [],[],h=>by simp [Op.bytesLess] at h
 | _::_,[],h=>by simp [Op.bytesLess] at h
 | x::a,y::b,h=>by
  simp only [Op.bytesLess] at h ⊢
  by_cases e:x=y
  ·subst e;simp at h ⊢;exact JY h
  ·have e': ¬y=x:=fun h=>e h.symm
   simp [e,e'] at h ⊢
   exact UInt8.le_of_lt h
theorem JZ: ∀{a b:List UInt8},a≠b->Op.bytesLess a b=false->Op.bytesLess b a=true
 | [],[],h,_=>by simp at h
 | [],_::_,_,h=>by simp [Op.bytesLess] at h
 | _::_,[],_,_=>by simp [Op.bytesLess]
 | x::a,y::b,hn,h=>by
  simp only [Op.bytesLess] at h ⊢
  by_cases e:x=y
  ·subst e;simp at h hn ⊢;exact JZ hn h
  ·have e': ¬y=x:=fun h=>e h.symm
   simp [e,e'] at h ⊢
   exact UInt8.lt_of_le_of_ne h e'
theorem ltA{a b:ByteArray}(h:gj a b=true):gj b a=false:=JY h
theorem Oe{a b:ByteArray}(hn:a≠b)(h:gj a b=false):gj b a=true :=
 JZ (fun e=>hn (by have:=wM a b;rw [e] at this;simpa using this.symm)) h
theorem DP{α:Type}[Inhabited α](l:List α)(k i:Nat)(x:α)(hk:k<l.length):nth (l.set k x) i=if i=k then x else nth l i:=by
 by_cases h:i=k
 ·subst h;simp [nth,hk]
 ·rw [if_neg h]
  have: ¬k=i:=fun e=>h e.symm
  simp [nth,List.getD_eq_getElem?_getD,List.getElem?_set,this]
theorem OH{α:Type}[Inhabited α](l:List α)(a i:Nat)(x:α)(ha:a<=l.length):nth (l.take a++[x]++l.drop a) i=if i<a then nth l i else if i=a then x else nth l (i-1):=by
 have hl:(l.take a).length=a:=by simp;omega
 simp only [nth,List.getD_eq_getElem?_getD,List.append_assoc]
 by_cases h1:i<a
 ·rw [if_pos h1,List.getElem?_append_left (by omega),List.getElem?_take,if_pos h1]
 ·rw [if_neg h1,List.getElem?_append_right (by omega),hl]
  by_cases h2:i=a
  ·subst h2;simp
  ·rw [if_neg h2]
   obtain ⟨j,rfl⟩: ∃j,i=a+1+j:=⟨i-a-1,by omega⟩
   have:a+1+j-a=j+1:=by omega
   rw [this]
   simp [List.getElem?_drop]
theorem nP{l:List Cell}{k:ByteArray}:eO l k=true↔bW l k<l.length/\(nth l (bW l k)).key=k:=by
 unfold eO;simp
theorem Pj(l:List Cell)(k:ByteArray)(v:Int):(iD l k v).length=if eO l k=true then l.length else l.length+1:=by
 unfold iD
 have:=uS l k
 split
 ·simp
 ·simp;omega
theorem abV{l:List Cell}{k:ByteArray}{v:Int}(h:fA l=true)(hk:kS k=true)(hv:eU v=true)(h4: ¬(eO l k=false/\4<=l.length)):fA (iD l k v)=true:=by
 have hlen:=oW h
 have hle:=uS l k
 unfold fA at h
 simp only [Bool.and_eq_true,uQ] at h
 have hc:=fun i hi=>h.2 i hi
 unfold fA
 simp only [Bool.and_eq_true,decide_eq_true_eq,uQ]
 refine ⟨?_,fun i hi=> ?_⟩
 ·rw [Pj]
  split
  ·exact hlen
  ·rename_i hn;have hn:eO l k=false:=by simpa using hn
   have: ¬4<=l.length:=fun e=>h4 ⟨hn,e⟩
   omega
 rw [Pj] at hi
 unfold iU
 by_cases hi1:eO l k=true
 ·rw [if_pos hi1] at hi
  have e:iD l k v=l.set (bW l k) ⟨k,v⟩:=by unfold iD;rw [if_pos hi1]
  obtain ⟨q1,q2⟩:=nP.1 hi1
  have yu:=hc i hi
  unfold iU at yu
  rw [e,DP _ _ _ _ q1,DP _ _ _ _ q1]
  have key: ∀j,(if j=bW l k then (⟨k,v⟩:Cell) else nth l j).key=(nth l j).key:=fun j=>by
   split
   ·rename_i e;rw [e,q2]
   ·rfl
  have val:eU (if i=bW l k then (⟨k,v⟩:Cell) else nth l i).val=true:=by
   split
   ·exact hv
   ·simp only [Bool.and_eq_true] at yu;exact yu.1.2
  rw [key,key,val]
  simp only [Bool.and_eq_true,Bool.or_eq_true] at yu ⊢
  exact ⟨⟨yu.1.1,trivial⟩,yu.2⟩
 ·have hi2:eO l k=false:=by simpa using hi1
  rw [if_neg hi1] at hi
  have e:iD l k v=l.take (bW l k)++[⟨k,v⟩]++l.drop (bW l k):=by unfold iD;rw [if_neg hi1]
  rw [e,OH _ _ _ _ hle,OH _ _ _ _ hle]
  simp only [Bool.and_eq_true,Bool.or_eq_true,beq_iff_eq]
  by_cases c1:i<bW l k
  ·have:=hc i (by omega)
   unfold iU at this
   simp only [Bool.and_eq_true,Bool.or_eq_true,beq_iff_eq] at this
   rw [if_pos c1,if_pos (by omega)]
   exact this
  rw [if_neg c1]
  by_cases c2:i=bW l k
  ·rw [if_pos c2]
   refine ⟨⟨hk,hv⟩,?_⟩
   by_cases c3:i=0
   ·exact .inl c3
   ·rw [if_pos (by omega)]
    exact .inr (zM (l:=l) (k:=k) (i:=i-1) (by omega))
  rw [if_neg c2]
  have:=hc (i-1) (by omega)
  unfold iU at this
  simp only [Bool.and_eq_true,Bool.or_eq_true,beq_iff_eq] at this
  refine ⟨this.1,.inr ?_⟩
  rw [if_neg (by omega)]
  by_cases c3:i-1=bW l k
  ·rw [if_pos c3,c3]
   have hat:bW l k<l.length:=by omega
   refine Oe (fun e=> ?_) (Ck hat)
   have:eO l k=true:=nP.2 ⟨hat,e⟩
   rw [hi2] at this;cases this
  ·rw [if_neg c3]
   rcases this.2 with h|h
   ·omega
   ·exact h
theorem nz{p:Core}:jc p=true↔kindOk p.kind=true/\fA p.cells=true/\(p.cells.length=0\/(dO p.kind).testBit 1=true)/\eU p.count=true/\ ¬(p.on=true/\p.broken=true)/\((dO p.kind).testBit 0=true\/(p.on=false/\p.broken=false)):=by
 unfold jc;grind
theorem abo{k m:ByteArray}(hk:kindOk k=true)(ho:cK (dO k) (bI m)=true) :
  ((m=mStart\/m=bZ\/m=eT)->(dO k).testBit 0=true)/\((m=gm\/m=fj\/m=jE)->(dO k).testBit 1=true):=by
 obtain ⟨i,_,e⟩:=Z5 hk
 rw [e] at ho ⊢
 have w0:bI mStart=((2^(0:Fin 6).val:Nat):Int):=by decide +kernel
 have w1:bI bZ=((2^(0:Fin 6).val:Nat):Int):=by decide +kernel
 have w2:bI eT=((2^(3:Fin 6).val:Nat):Int):=by decide +kernel
 have w3:bI gm=((2^(1:Fin 6).val:Nat):Int):=by decide +kernel
 have w4:bI fj=((2^(1:Fin 6).val:Nat):Int):=by decide +kernel
 have w5:bI jE=((2^(4:Fin 6).val:Nat):Int):=by decide +kernel
 constructor
 ·rintro (rfl|rfl|rfl)
  ·rw [w0] at ho;exact (yT i 0 ho).1 (.inl rfl)
  ·rw [w1] at ho;exact (yT i 0 ho).1 (.inl rfl)
  ·rw [w2] at ho;exact (yT i 3 ho).1 (.inr rfl)
 ·rintro (rfl|rfl|rfl)
  ·rw [w3] at ho;exact (yT i 1 ho).2 (.inl rfl)
  ·rw [w4] at ho;exact (yT i 1 ho).2 (.inl rfl)
  ·rw [w5] at ho;exact (yT i 4 ho).2 (.inr rfl)
theorem lU{x:Call}:di x=true↔x.method=gm\/x.method=fj:=by unfold di;simp
def JI(p:Core)(y:Core×da):Prop:=jc y.1=true/\y.1.kind=p.kind/\y.2.code≠1/\y.2.code≠7/\0<=y.2.val/\y.2.val<=999
theorem rS{n:Int}:eU n=true↔0<=n/\n<=999:=by unfold eU;simp
theorem WV{p:Core}{x:Call}(hp:jc p=true)(hx:ek x=true)(ho:cK (dO p.kind) (bI x.method)=true):JI p (bJ p x):=by
 have hp':=nz.1 hp
 obtain ⟨p1,p2,p3,p4,p5,p6⟩:=hp'
 have nb:=abo p1 ho
 have n4:=rS.1 p4
 have OE:=rS.1 (zr p4).1
 have hl:=oW p2
 have same: ∀c v t w h,c≠1->c≠7->0<=v->v<=999->JI p (p,⟨c,v,t,w,h⟩):=fun c v t w h h1 h2 h3 h4=>⟨hp,rfl,h1,h2,h3,h4⟩
 unfold bJ
 split
 ·exact same _ _ _ _ _ (by decide) (by decide) (by decide) (by decide)
 split
 ·rename_i hm
  have:=nb.1 (.inl hm)
  split
  ·exact ⟨nz.2 ⟨p1,p2,p3,p4,by simp,.inl this⟩,rfl,by simp [rep],by simp [rep],by simp [rep],by simp [rep]⟩
  ·rename_i hb hon
   have oD:p.broken=false:=by
    have:mStart≠eS/\mStart≠dP:=by decide
    rw [hm] at hb
    cases h:p.broken with
    | false=>rfl
    | true=>exact absurd ⟨h,this⟩ hb
   exact ⟨nz.2 ⟨p1,p2,p3,(zr p4).1,by simp [oD],.inl this⟩,rfl,by simp [rep],by simp [rep],by simp [rep],by simp [rep]⟩
 split
 ·rename_i hm
  have:=nb.1 (.inr (.inl hm))
  split
  ·exact same _ _ _ _ _ (by decide) (by decide) (by decide) (by decide)
  ·exact ⟨nz.2 ⟨p1,p2,p3,p4,by simp,.inl this⟩,rfl,by simp [rep],by simp [rep],by simp [rep],by simp [rep]⟩
 split
 ·rename_i hm
  have hb1:=nb.2 (by rcases lU.1 hm with h|h<;>simp [h])
  unfold keepD
  split
  ·exact same _ _ _ _ _ (by decide) (by decide) (by decide) (by decide)
  split
  ·split
   ·rename_i hc
    have:=rS.1 (zT p2 (nP.1 hc).1).2
    exact same _ _ _ _ _ (by decide) (by decide) this.1 this.2
   ·exact same _ _ _ _ _ (by decide) (by decide) (by decide) (by decide)
  split
  ·exact same _ _ _ _ _ (by decide) (by decide) (by decide) (by decide)
  ·rename_i hf
   have Ds:=abV (v:=x.val) p2 (Wd hx hm) (Ku hx) hf
   have:=oW Ds
   exact ⟨nz.2 ⟨p1,Ds,.inr hb1,(zr p4).1,p5,p6⟩,rfl,by simp [rep],by simp [rep],by simp only [rep];omega,by simp only [rep];omega⟩
 split
 ·exact same _ _ _ _ _ (by decide) (by decide) n4.1 n4.2
 split
 ·rename_i hb _ _ _ _ hm
  have h0:=nb.1 (.inr (.inr hm))
  have oD:p.broken=false:=by
   have:eT≠eS/\eT≠dP:=by decide
   rw [hm] at hb
   cases h:p.broken with
   | false=>rfl
   | true=>exact absurd ⟨h,this⟩ hb
  exact ⟨nz.2 ⟨p1,p2,p3,(zr p4).1,by simp [oD],.inl h0⟩,rfl,by simp [rep],by simp [rep],OE.1,OE.2⟩
 split
 ·exact same _ _ _ _ _ (by decide) (by decide) (by decide) (by decide)
 split
 ·rename_i hm
  split
  ·rename_i hk
   have:=abO hk
   have h5:=oW this
   exact ⟨nz.2 ⟨p1,this,.inr (nb.2 (.inr (.inr hm))),p4,p5,p6⟩,rfl,by simp [rep],by simp [rep],by simp only [rep];omega,by simp only [rep];omega⟩
  ·exact same _ _ _ _ _ (by decide) (by decide) (by decide) (by decide)
 split
 ·exact ⟨nz.2 ⟨p1,p2,p3,p4,by simp,.inr ⟨rfl,rfl⟩⟩,rfl,by simp [rep],by simp [rep],by simp [rep],by simp [rep]⟩
 ·exact same _ _ _ _ _ (by decide) (by decide) (by decide) (by decide)
structure gP(p q:Part):Prop where
 kind:q.core.kind=p.core.kind
 names:q.af.map (·.name)=p.af.map (·.name)
theorem gP.refl(p:Part):gP p p:=⟨rfl,rfl⟩
theorem gP.trans{p q r:Part}(h:gP p q)(k:gP q r):gP p r:=⟨k.kind.trans h.kind,k.names.trans h.names⟩
theorem gP.len{p q:Part}(h:gP p q):q.af.length=p.af.length:=by simpa using congrArg List.length h.names
theorem gP.name{p q:Part}(h:gP p q){i:Nat}(hi:i<p.af.length):(nth q.af i).name=(nth p.af i).name:=by
 have h1:=congrArg (·[i]?) h.names
 have h2:=h.len
 simp only [List.getElem?_map] at h1
 rw [List.getElem?_eq_getElem hi,List.getElem?_eq_getElem (by omega)] at h1
 simp only [Option.map_some,Option.some.injEq] at h1
 simp [nth,List.getD_eq_getElem?_getD,hi,h2,h1]
theorem gP.qg{p q:Part}(h:gP p q){i:Nat}(hi:i<=p.af.length):eC q i=eC p i:=by
 unfold eC
 split
 ·rw [h.kind]
 ·rw [h.name (by omega)]
theorem nS{p:Part}:eV p=true↔jc p.core=true/\p.af.length<=3/\ ∀i,i<p.af.length->qp (nth p.af i).name=true/\cK (eC p i) (lW (nth p.af i).name)=true/\eU (nth p.af i).count=true/\((nth p.af i).count=0\/(nth p.af i).name=counts\/(nth p.af i).name=gH):=by
 unfold eV
 simp only [Bool.and_eq_true,decide_eq_true_eq,uQ,kR,Bool.or_eq_true]
 constructor
 ·rintro ⟨⟨h1,h2⟩,h3⟩
  exact ⟨h1,h2,fun i hi=>by have:=h3 i hi;exact ⟨this.1.1.1,this.1.1.2,this.1.2,by rcases this.2 with (h|h)|h<;>simp [h]⟩⟩
 ·rintro ⟨h1,h2,h3⟩
  exact ⟨⟨h1,h2⟩,fun i hi=>by obtain ⟨a,b,c,d⟩:=h3 i hi;exact ⟨⟨⟨a,b⟩,c⟩,by rcases d with h|h|h<;>simp [h]⟩⟩
theorem Pb{p q:Part}(hp:eV p=true)(hs:gP p q)(hc:jc q.core=true)(hn: ∀i,i<p.af.length->eU (nth q.af i).count=true/\((nth q.af i).count=0\/(nth p.af i).name=counts\/(nth p.af i).name=gH)):eV q=true:=by
 obtain ⟨_,h2,h3⟩:=nS.1 hp
 refine nS.2 ⟨hc,by rw [hs.len];exact h2,fun i hi=> ?_⟩
 rw [hs.len] at hi
 obtain ⟨a,b,_,_⟩:=h3 i hi
 obtain ⟨c,d⟩:=hn i hi
 rw [hs.name hi,hs.qg (by omega)]
 exact ⟨a,b,c,d⟩
theorem Cq{p:Part}{k:Nat}(hk:k<p.af.length):gP p (bump p k):=by
 refine ⟨rfl,?_⟩
 unfold bump
 apply List.ext_getElem?
 intro i
 simp only [List.getElem?_map,List.getElem?_set]
 split
 ·rename_i e
  subst e
  (try rw [if_pos hk])
  rw [List.getElem?_eq_getElem hk]
  simp [nth,List.getD_eq_getElem?_getD,hk]
 ·rfl
theorem J9{p:Part}{k:Nat}(hk:k<p.af.length)(i:Nat):nth (bump p k).af i=if i=k then ⟨(nth p.af k).name,bR (nth p.af k).count⟩ else nth p.af i:=DP _ _ _ _ hk
theorem EZ{p:Part}{k:Nat}(hp:eV p=true)(hk:k<p.af.length)(hn:(nth p.af k).name=counts\/(nth p.af k).name=gH):eV (bump p k)=true:=by
 obtain ⟨h1,h2,h3⟩:=nS.1 hp
 refine Pb hp (Cq hk) h1 fun i hi=> ?_
 rw [J9 hk]
 obtain ⟨_,_,c,d⟩:=h3 i hi
 split
 ·rename_i e
  subst e
  exact ⟨(zr c).1,.inr hn⟩
 ·exact ⟨c,d⟩
theorem Qq{nm m:ByteArray}{f:Nat}(hf:f<64)(hl:qp nm=true)(h1:cK f (lW nm)=true)(ha: ¬gy m<0)(h2:cK (mB nm) (bI m)=true) :
  (nm=counts/\m=dP)\/(nm=gH/\m=eT)\/(nm=jC/\m=eS)\/cK f (bI m)=true:=by
 obtain ⟨i,e,en,eg⟩:=aaa hl
 obtain ⟨j,ew,hm⟩:=Bp ha
 rw [en] at h1
 rw [eg,ew] at h2
 rw [ew]
 obtain ⟨e3,e4,e6,e7⟩:=NU
 rcases aab i j ⟨f,hf⟩ h1 h2 with ⟨a,b⟩|⟨a,b⟩|⟨a,b⟩|h
 ·rw [a] at e;rw [b] at hm;simp [methods] at hm
  exact .inl ⟨by rw [e,e3],hm⟩
 ·rw [a] at e;rw [b] at hm;simp [methods] at hm
  exact .inr (.inl ⟨by rw [e,e6],hm⟩)
 ·rw [a] at e;rw [b] at hm;simp [methods] at hm
  exact .inr (.inr (.inl ⟨by rw [e,e7],hm⟩))
 ·exact .inr (.inr (.inr h))
theorem xT{nm:ByteArray}{f:Nat}(hf:f<64)(h1:cK f (lW nm)=true)(hn:nm=jR\/nm=gH\/nm=jC):cK f (bI mStart)=true/\cK f (bI bZ)=true:=by
 obtain ⟨e3,e4,e6,e7⟩:=NU
 have e: ∃i:Fin 9,nm=nth af i.val/\(i.val=4\/i.val=6\/i.val=7):=by
  rcases hn with h|h|h
  ·exact ⟨4,by rw [h];exact e4.symm,.inl rfl⟩
  ·exact ⟨6,by rw [h];exact e6.symm,.inr (.inl rfl)⟩
  ·exact ⟨7,by rw [h];exact e7.symm,.inr (.inr rfl)⟩
 obtain ⟨i,rfl,hi⟩:=e
 have en:lW (nth af i.val)=vW.getD i.val 0:=by unfold lW;rw [DH i]
 rw [en] at h1
 rw [SZ.1,SZ.2.1]
 have:=aac i ⟨f,hf⟩ hi h1
 exact ⟨this,this⟩
def zE(p:Part)(y:Part×da):Prop:=eV y.1=true/\gP p y.1/\y.2.code≠1/\y.2.code≠7/\0<=y.2.val/\y.2.val<=999
theorem abn:counts≠jR/\counts≠kU/\counts≠gH/\counts≠jC/\counts≠jJ/\jR≠kU/\jR≠gH/\jR≠jC/\jR≠jJ/\kU≠gH/\kU≠jC/\kU≠jJ/\gH≠jC/\gH≠jJ/\jC≠jJ:=by decide
theorem Bj{x:Call}(h:di x=true):x.method≠dP/\x.method≠eT/\x.method≠eS/\x.method≠mStart/\x.method≠bZ:=by
 rcases lU.1 h with e|e<;>rw [e]<;>decide
theorem pQ: ∀(k:Nat) (p:Part) (x:Call),eV p=true->k<=p.af.length->ek x=true->cK (eC p k) (bI x.method)=true->zE p (aA k p x)
 | 0,p,x,hp,_,hx,ho=>by
  obtain ⟨h1,h2,h3⟩:=nS.1 hp
  obtain ⟨a,b,c,d,e,f⟩:=WV h1 hx ho
  have hs:gP p (aA 0 p x).1:=⟨b,rfl⟩
  exact ⟨Pb hp hs a fun i hi=>⟨(h3 i hi).2.2.1,(h3 i hi).2.2.2⟩,hs,c,d,e,f⟩
 | k+1,p,x,hp,hk,hx,ho=>by
  obtain ⟨h1,h2,h3⟩:=nS.1 hp
  obtain ⟨a,b,c,d⟩:=h3 k (by omega)
  have ho:cK (mB (nth p.af k).name) (bI x.method)=true:=by
   unfold eC at ho;rw [if_neg (by omega)] at ho;exact ho
  have hsub:=Qq (qV p k) a b (xy hx) ho
  have nc:=rS.1 c
  have ne:=abn
  have cs:=tw
  have below:cK (eC p k) (bI x.method)=true->zE p (aA k p x):=fun h=>pQ k p x hp (by omega) hx h
  have start: ∀q,eV q=true->gP p q->cK (eC p k) (bI mStart)=true->zE p (aA k q (br mStart)):=fun q hq hs h=>by
   have:=pQ k q (br mStart) hq (by rw [hs.len];omega) cs.1 (by rw [hs.qg (by omega)];exact h)
   exact ⟨this.1,hs.trans this.2.1,this.2.2⟩
  have stop: ∀q,eV q=true->gP p q->cK (eC p k) (bI bZ)=true->zE p (aA k q (br bZ)):=fun q hq hs h=>by
   have:=pQ k q (br bZ) hq (by rw [hs.len];omega) cs.2.1 (by rw [hs.qg (by omega)];exact h)
   exact ⟨this.1,hs.trans this.2.1,this.2.2⟩
  rw [aA]
  split
  ·exact ⟨hp,gP.refl _,by simp [rep],by simp [rep],nc.1,nc.2⟩
  rename_i g1
  split
  ·rename_i g2
   have kn:=Bj g2.2
   have hb:=below (by rcases hsub with h|h|h|h;exact absurd h.2 kn.1;exact absurd h.2 kn.2.1;exact absurd h.2 kn.2.2.1;exact h)
   have hl:=hb.2.1.len
   have hnm:=hb.2.1.name (i:=k) (by omega)
   exact ⟨EZ hb.1 (by omega) (.inl (by rw [hnm];exact g2.1)),hb.2.1.trans (Cq (by omega)),hb.2.2⟩
  rename_i g2
  split
  ·rename_i g3
   have kn:=Bj g3.2
   have lT:cK (eC p k) (bI x.method)=true:=by rcases hsub with h|h|h|h;exact absurd h.2 kn.1;exact absurd h.2 kn.2.1;exact absurd h.2 kn.2.2.1;exact h
   have hb:=below lT
   have hr:=xT (qV p k) b (.inl g3.1)
   split
   ·have hs:=start _ hb.1 hb.2.1 hr.1
    have:=pQ k _ x hs.1 (by rw [hs.2.1.len];omega) hx (by rw [hs.2.1.qg (by omega)];exact lT)
    exact ⟨this.1,hs.2.1.trans this.2.1,this.2.2⟩
   ·exact hb
  rename_i g3
  split
  ·exact ⟨hp,gP.refl _,by simp [rep],by simp [rep],by simp [rep],by simp [rep]⟩
  rename_i g4
  split
  ·rename_i g5
   have hr:=xT (qV p k) b (.inr (.inl g5.1))
   have q9:=EZ hp (k:=k) (by omega) (.inr g5.1)
   have hsh:gP p (bump p k):=Cq (by omega)
   split
   ·exact stop _ q9 hsh hr.2
   split
   ·exact start _ q9 hsh hr.1
   ·refine ⟨q9,hsh,by simp [rep],by simp [rep],?_⟩
    have:=rS.1 ((nS.1 q9).2.2 k (by rw [hsh.len];omega)).2.2.1
    exact this
  rename_i g5
  split
  ·rename_i g6
   have hr:=xT (qV p k) b (.inr (.inr g6.1))
   have hs:=stop p hp (gP.refl _) hr.2
   exact start _ hs.1 hs.2.1 hr.1
  rename_i g6
  have hb:=below (by
   rcases hsub with h|h|h|h
   ·exact absurd h g1
   ·exact absurd h g5
   ·exact absurd h g6
   ·exact h)
  split
  ·refine ⟨hb.1,hb.2.1,?_⟩
   unfold wO
   split
   ·rename_i h0
    obtain ⟨q1,q2⟩:=hb.2.2.2.2
    simp only
    rw [wrap_i64 (by omega) (by omega)]
    exact ⟨by simp [h0],by simp [h0],by omega,by omega⟩
   ·exact hb.2.2
  ·exact hb
theorem zP(p:Part)(k:Nat):(bump p k).af.length=p.af.length:=by simp [bump]
theorem zn: ∀(k:Nat) (p:Part) (x:Call),(aA k p x).1.af.length=p.af.length
 | 0,p,x=>rfl
 | k+1,p,x=>by
  have ih:=zn k
  rw [aA]
  split
  ·rfl
  split
  ·simp only [zP,ih]
  split
  ·split
   ·simp only [ih]
   ·simp only [ih]
  split
  ·rfl
  split
  ·split
   ·simp only [zP,ih]
   split
   ·simp only [zP,ih]
   ·simp only [zP]
  split
  ·simp only [ih]
  split
  ·simp only [ih]
  ·simp only [ih]
end
section
open Go.RowKit Go
variable [GC]
def cS(l:List Cell):List (ByteArray×Int):=l.map fun c=>(c.key,c.val)
def fR(l:List fV):List (ByteArray×Int):=l.map fun c=>(c.name,c.count)
def jV(x:ByteArray×Int):List D:=[.str x.1,.int .i64 x.2]
theorem wo(l:List Cell):(cS l).map jV=l.map aZ.cells:=by simp [cS,jV,dH,Function.comp_def]
theorem Bz(l:List fV):(fR l).map jV=l.map aZ.cells:=by simp [fR,jV,ju,Function.comp_def]
theorem wm(l:List Cell):(cS l).length=l.length:=by simp [cS]
theorem oJ(l:List fV):(fR l).length=l.length:=by simp [fR]
theorem OI{α β:Type}[Inhabited α][Inhabited β](f:α->β){l:List α}{k:Nat}(h:k<l.length):nth (l.map f) k=f (nth l k):=by
 simp [nth,List.getD_eq_getElem?_getD,h]
theorem Pg{l:List Cell}{k:Nat}(h:k<l.length):nth (cS l) k=((nth l k).key,(nth l k).val):=OI _ h
theorem Bx{l:List fV}{k:Nat}(h:k<l.length):nth (fR l) k=((nth l k).name,(nth l k).count):=OI _ h
def y9(x:ByteArray×Int):Prop:=x.1.size<=maxLen/\IntKind.i64.min<=x.2/\x.2<=IntKind.i64.max
def cu(K:Nat->Prop)(w:World)(g:Nat)(S:Value)(l:List (ByteArray×Int)):Prop :=
 ∃a cap,S= .slice a l.length cap/\l.length<=cap/\cap<=maxLen/\(a=none->cap=0)/\(∀x∈l,y9 x) /\
  ∀b o s,a=some ⟨b,o,s⟩->0<cap->s=none/\K b/\b≠g/\ ∃cells T,w.heap[b]? =some (.cells cells T (0,0))/\o+cap*2<=cells.size /\
   ∀i,i<l.length->cells[o+i*2]? =some (.string (nth l i).1)/\cells[o+i*2+1]? =some (.int .i64 (nth l i).2)
theorem cu.keep{K K':Nat->Prop}{w w':World}{g:Nat}{S:Value}{l:List (ByteArray×Int)}(h:cu K w g S l)(hw: ∀b,bi S b->w'.heap[b]? =w.heap[b]?)(hK: ∀b,K b->K' b):cu K' w' g S l:=by
 obtain ⟨a,cap,rfl,h1,h2,h3,h4,h5⟩:=h
 refine ⟨a,cap,rfl,h1,h2,h3,h4,fun b o s e hc=> ?_⟩
 obtain ⟨q1,q2,q3,cells,T,q4,q5⟩:=h5 b o s e hc
 exact ⟨q1,hK _ q2,q3,cells,T,by rw [hw b ⟨o,s,_,cap,by rw [e],hc⟩];exact q4,q5⟩
theorem cu.out{K:Nat->Prop}{w:World}{g:Nat}{S:Value}{l:List (ByteArray×Int)}(h:cu K w g S l){b:Nat}(hb:bi S b):K b/\b≠g/\b<w.heap.size:=by
 obtain ⟨a,cap,rfl,h1,h2,h3,h4,h5⟩:=h
 obtain ⟨o,s,len,cap',e,hc⟩:=hb
 simp only [Value.slice.injEq] at e
 obtain ⟨rfl,rfl,rfl⟩:=e
 obtain ⟨q1,q2,q3,cells,T,q4,q5⟩:=h5 b o s rfl hc
 exact ⟨q2,q3,(Array.getElem?_eq_some_iff.1 q4).1⟩
theorem cu.at{K:Nat->Prop}{w:World}{g:Nat}{S:Value}{l:List (ByteArray×Int)}(h:cu K w g S l){i:Nat}(hi:i<l.length) :
  ∃b o cap,S= .slice (some ⟨b,o,none⟩) l.length cap/\K b/\b≠g/\bi S b/\w.cell? ⟨b,o+i*2,none⟩=some (.string (nth l i).1)/\w.cell? ⟨b,o+i*2+1,none⟩=some (.int .i64 (nth l i).2)/\(∀x y,w.frozen? ⟨b,x,y⟩=false)/\b<w.heap.size:=by
 have h0:=h
 obtain ⟨a,cap,rfl,h1,h2,h3,h4,h5⟩:=h
 rcases a with _|⟨b,o,s⟩
 ·have:=h3 rfl;omega
 ·have hc:0<cap:=by omega
  obtain ⟨rfl,q2,q3,cells,T,q4,q5,q6⟩:=h5 b o s rfl hc
  refine ⟨b,o,cap,rfl,q2,q3,⟨o,none,_,cap,rfl,hc⟩,?_,?_,fun x y=> ?_,(Array.getElem?_eq_some_iff.1 q4).1⟩
  ·simp only [World.cell?,q4];exact (q6 i hi).1
  ·simp only [World.cell?,q4];exact (q6 i hi).2
  ·unfold World.frozen?;rw [q4];simp
theorem cu.ok{K:Nat->Prop}{w:World}{g:Nat}{S:Value}{l:List (ByteArray×Int)}(h:cu K w g S l){x:ByteArray×Int}(hx:x∈l):y9 x:=by
 obtain ⟨a,cap,rfl,h1,h2,h3,h4,h5⟩:=h
 exact h4 x hx
theorem cu.okn{K:Nat->Prop}{w:World}{g:Nat}{S:Value}{l:List (ByteArray×Int)}(h:cu K w g S l){i:Nat}(hi:i<l.length):y9 (nth l i):=h.ok (uh hi)
theorem cu.qt{K:Nat->Prop}{w:World}{g:Nat}{S:Value}{l:List (ByteArray×Int)}(h:cu K w g S l): ∃a cap,S= .slice a l.length cap/\l.length<=cap/\cap<=maxLen:=by
 obtain ⟨a,cap,rfl,h1,h2,_⟩:=h
 exact ⟨a,cap,rfl,h1,h2⟩
theorem cu.put{K:Nat->Prop}{w:World}{g:Nat}{l:List (ByteArray×Int)}{b o cap:Nat}{s:Option Nat}(h:cu K w g (.slice (some ⟨b,o,s⟩) l.length cap) l){i:Nat}(hi:i<l.length){v:Int}(hv:IntKind.i64.min<=v/\v<=IntKind.i64.max) :
  cu K (w.setCell ⟨b,o+i*2+1,none⟩ (.int .i64 v)) g (.slice (some ⟨b,o,s⟩) l.length cap) (l.set i ((nth l i).1,v)):=by
 obtain ⟨a,cap',e,h1,h2,h3,h4,h5⟩:=h
 cases e
 refine ⟨_,cap,by rw [List.length_set],by rw [List.length_set];exact h1,h2,(fun e=>by cases e),fun x hx=> ?_,fun b' o' s' e hc=> ?_⟩
 ·rcases List.mem_or_eq_of_mem_set hx with hx|rfl
  ·exact h4 x hx
  ·exact ⟨(h4 _ (uh hi)).1,hv⟩
 ·cases e
  obtain ⟨q1,q2,q3,cells,T,q4,q5,q6⟩:=h5 b o s rfl hc
  refine ⟨q1,q2,q3,cells.setIfInBounds (o+i*2+1) (.int .i64 v),T,?_,by simpa using q5,fun j hj=> ?_⟩
  ·unfold World.setCell
   simp [Array.getElem?_modify,q4]
  ·rw [List.length_set] at hj
   obtain ⟨z1,z2⟩:=q6 j hj
   rw [DP _ _ _ _ hi]
   constructor
   ·rw [Array.getElem?_setIfInBounds_ne (by omega),z1]
    split
    ·rename_i e;rw [e]
    ·rfl
   ·by_cases e:j=i
    ·subst e
     have hlt:=(Array.getElem?_eq_some_iff.1 z2).1
     rw [if_pos rfl,Array.getElem?_setIfInBounds_self_of_lt hlt]
    ·rw [if_neg e,Array.getElem?_setIfInBounds_ne (by omega),z2]
theorem cu.of{K:Nat->Prop}{w:World}{M:Addr->Prop}{g B:Nat}{S:Value}{l:List (ByteArray×Int)}(hr:R w M (.sl (l.map jV)) S)(hl:qI B w S 2)(hK: ∀b,B<=b->b<w.heap.size->K b)(hg: ∀b,B<=b->b<w.heap.size->b≠g):cu K w g S l:=by
 have hr0:=hr
 have hn: ∀r∈l.map jV,r.length=2:=fun r hr=>by obtain ⟨x,_,rfl⟩:=List.mem_map.1 hr;rfl
 obtain ⟨a,len,cap,rfl,h1,h2,h3,h4,h5⟩:=hr
 rw [List.length_map] at h1
 subst h1
 refine ⟨a,cap,rfl,h2,h3,h4,fun x hx=> ?_,fun b o s e hc=> ?_⟩
 ·have hf:=R.fits _ _ hr0
  have: ∀(rows:List (List D)),zz rows-> ∀r∈rows,dU r:=by
   intro rows
   induction rows with
   | nil=>intro _ r hr;cases hr
   | cons a t ih=>intro h r hr;rcases List.mem_cons.1 hr with rfl|hr;exact h.1;exact ih h.2 r hr
  have:=this _ hf.2 _ (List.mem_map.2 ⟨x,hx,rfl⟩)
  exact ⟨this.1,this.2.1.1,this.2.1.2⟩
 ·subst e
  obtain ⟨q1,q2,cells,T,q3,q4⟩:=hl b o s _ cap rfl hc
  have hlt:=(Array.getElem?_eq_some_iff.1 q3).1
  refine ⟨q1,hK b q2 hlt,hg b q2 hlt,cells,T,q3,q4,fun i hi=> ?_⟩
  have hrow:(l.map jV)[i]? =some (jV (nth l i)):=by
   rw [List.getElem?_map,List.getElem?_eq_getElem hi];simp [nth,hi]
  obtain ⟨u0,c1,_,c2⟩:=oY hn hr0 hrow (j:=0) rfl
  obtain ⟨u1,d1,_,d2⟩:=oY hn hr0 hrow (j:=1) rfl
  simp only [World.cell?,q3] at c1 d1
  have c3:u0=_:=c2.1
  have d3:u1=_:=d2.1
  subst c3 d3
  exact ⟨by simpa using c1,by simpa using d1⟩
theorem cu.rd{K:Nat->Prop}{w:World}{M:Addr->Prop}{g:Nat}{S:Value}{l:List (ByteArray×Int)}(h:cu K w g S l)(hM: ∀b o cap i,S= .slice (some ⟨b,o,none⟩) l.length cap->K b->i<l.length*2-> ¬M ⟨b,o+i,none⟩):R w M (.sl (l.map jV)) S:=by
 have hn: ∀r∈l.map jV,r.length=2:=fun r hr=>by obtain ⟨x,_,rfl⟩:=List.mem_map.1 hr;rfl
 obtain ⟨a,cap,rfl,h1,h2,h3,h4,h5⟩:=h
 rcases a with _|⟨b,o,s⟩
 ·have:l=[]:=List.eq_nil_of_length_eq_zero (by have:=h3 rfl;omega)
  subst this
  exact ⟨none,_,cap,rfl,rfl,h1,h2,h3,fun b o s e=>by cases e⟩
 ·refine FV hn (by simp) h1 h2 (fun hl=>(h5 b o s rfl (by omega)).1) fun i j r d hi hj=> ?_
  have hil:i<l.length:=by have:=(List.getElem?_eq_some_iff.1 hi).1;simpa using this
  obtain ⟨rfl,q2,q3,cells,T,q4,q5,q6⟩:=h5 b o s rfl (by omega)
  have hx:=h4 _ (uh hil)
  have hr:r=jV (nth l i):=by
   rw [List.getElem?_map,List.getElem?_eq_getElem hil] at hi
   cases hi;simp [nth,hil]
  subst hr
  match j,hj with
  | 0,hj=>cases hj;exact ⟨_,by simp only [World.cell?,q4];exact (q6 i hil).1,hM b o cap (i*2) rfl q2 (by omega),rfl,hx.1⟩
  | 1,hj=>cases hj;exact ⟨_,by simp only [World.cell?,q4];exact (q6 i hil).2,by have:=hM b o cap (i*2+1) rfl q2 (by omega);rwa [<-Nat.add_assoc] at this,rfl,hx.2⟩
theorem cu.owns{K:Nat->Prop}{w:World}{g B:Nat}{T:TypeId}{v:Value}{n:Nat}{xs:List Value}{l:List (ByteArray×Int)}(h:w.ownsRow B T 2 v n xs)(hx:xs=l.flatMap fun x=>[.string x.1,.int .i64 x.2])(hn:n=l.length)(hok: ∀x∈l,y9 x)(hK: ∀b,B<=b->b<w.heap.size->K b)(hg: ∀b,B<=b->b<w.heap.size->b≠g):cu K w g v l:=by
 subst hx hn
 obtain ⟨h0,⟨rfl,hz⟩|⟨g',cap,cur,rfl,h1,h2,h3,h4,h5,h6⟩⟩:=h
 ·have:l=[]:=List.eq_nil_of_length_eq_zero hz
  subst this
  exact ⟨none,0,rfl,Nat.le_refl _,by decide,fun _=>rfl,hok,fun b o s e=>by cases e⟩
 ·have hlt:=(Array.getElem?_eq_some_iff.1 h2).1
  refine ⟨_,cap,rfl,h3,h4,(fun e=>by cases e),hok,fun b o s e hc=> ?_⟩
  cases e
  refine ⟨rfl,hK _ h1 hlt,hg _ h1 hlt,cur,T,h2,by omega,fun i hi=> ?_⟩
  have key: ∀(l:List (ByteArray×Int)) (i:Nat),i<l.length->(l.flatMap fun x=>[Value.string x.1,.int .i64 x.2])[i*2]? =some (.string (nth l i).1)/\(l.flatMap fun x=>[Value.string x.1,.int .i64 x.2])[i*2+1]? =some (.int .i64 (nth l i).2):=by
   intro l
   induction l with
   | nil=>intro i hi;simp at hi
   | cons x r ih =>
    intro i hi
    cases i with
    | zero=>simp [nth]
    | succ i =>
     have:=ih i (by simpa using hi)
     have e1:(i+1)*2=i*2+1+1:=by omega
     rw [y5,e1]
     simpa using this
  obtain ⟨k1,k2⟩:=key l i hi
  rw [<-h6,List.getElem?_take,if_pos (by omega)] at k1 k2
  rw [Nat.zero_add]
  exact ⟨by simpa using k1,by simpa using k2⟩
theorem qj{w:World}{q:Addr}{v:Value}{b:Nat}(h:b≠q.block):(w.setCell q v).heap[b]? =w.heap[b]? :=by
 unfold World.setCell
 simp only [Array.getElem?_modify]
 rw [if_neg (fun e=>h e.symm)]
section
structure PB(K:Nat->Prop)(w:World)(g:Nat)(S2:Value)(p:Part):Prop where
 gi:j6 w/\NG<=w.heap.size
 kb: ∀b,K b->NG<=b/\b<w.heap.size
 kg:K g
 bx: ∃S1,aJ w g 37 #[.string p.core.kind,.bool p.core.on,.bool p.core.broken,S1,.int .i64 p.core.count,S2]/\cu K w g S1 (cS p.core.cells)/\ ∀b,bi S1 b-> ¬bi S2 b
 ly:cu K w g S2 (fR p.af)
 ks:p.core.kind.size<=maxLen
 ct:IntKind.i64.min<=p.core.count/\p.core.count<=IntKind.i64.max
structure dY(K:Nat->Prop)(w w':World):Prop where
 os:w'.os=w.os
 tape:w'.tape=w.tape
 output:w'.output=w.output
 size:w.heap.size<=w'.heap.size
 block: ∀b,b<w.heap.size-> ¬K b->w'.heap[b]? =w.heap[b]?
theorem dY.refl(K:Nat->Prop)(w:World):dY K w w:=⟨rfl,rfl,rfl,Nat.le_refl _,fun _ _ _=>rfl⟩
def Gr(K:Nat->Prop)(w w':World):Nat->Prop:=fun b=>K b\/(w.heap.size<=b/\b<w'.heap.size)
theorem dY.mY{K:Nat->Prop}{a b c:World}(h:dY K a b)(k:dY K b c):dY K a c :=
 ⟨k.os.trans h.os,k.tape.trans h.tape,k.output.trans h.output,Nat.le_trans h.size k.size,fun i hi hn=>(k.block i (Nat.lt_of_lt_of_le hi h.size) hn).trans (h.block i hi hn)⟩
theorem dY.below{K:Nat->Prop}{a b:World}(h:Below a.heap.size a b):dY K a b:=⟨h.os,h.tape,h.output,h.size,fun i hi _=>h.block i hi⟩
theorem dY.jI{K:Nat->Prop}{a b:World}{B:Nat}(h:dY K a b)(hB:B<=a.heap.size)(hK: ∀b,K b->B<=b):Below B a b:=⟨h.os,h.tape,h.output,h.size,fun i hi=>h.block i (Nat.lt_of_lt_of_le hi hB) fun hk=>by have:=hK i hk;omega⟩
section
variable {K K':Nat->Prop}{w w':World}{g:Nat}{S2:Value}{p:Part}
theorem PB.mono(h:PB K w g S2 p)(hK: ∀b,K b->K' b)(hb: ∀b,K' b->NG<=b/\b<w.heap.size):PB K' w g S2 p:=by
 obtain ⟨S1,q1,q2,q3⟩:=h.bx
 exact ⟨h.gi,hb,hK _ h.kg,⟨S1,q1,q2.keep (fun _ _=>rfl) hK,q3⟩,h.ly.keep (fun _ _=>rfl) hK,h.ks,h.ct⟩
theorem PB.vf(h:PB K w g S2 p):g<w.heap.size:=(h.kb _ h.kg).2
theorem PB.below(h:PB K w g S2 p)(hb:Below w.heap.size w w'):PB K w' g S2 p:=by
 obtain ⟨S1,q1,q2,q3⟩:=h.bx
 refine ⟨⟨h.gi.1.keep fun k hk=>hb.block k (Nat.lt_of_lt_of_le hk h.gi.2),Nat.le_trans h.gi.2 hb.size⟩,fun b hk=>⟨(h.kb b hk).1,Nat.lt_of_lt_of_le (h.kb b hk).2 hb.size⟩,h.kg,⟨S1,q1.below hb h.vf,?_,q3⟩,?_,h.ks,h.ct⟩
 ·exact q2.keep (fun b ho=>hb.block b (q2.out ho).2.2) fun _ h=>h
 ·exact h.ly.keep (fun b ho=>hb.block b (h.ly.out ho).2.2) fun _ h=>h
theorem PB.cells(h:PB K w g S2 p): ∃S1 a n cap,S1= .slice a n cap/\n=p.core.cells.length/\n<=cap/\cap<=maxLen/\w.cell? ⟨g,0,none⟩=some (.string p.core.kind)/\w.cell? ⟨g,1,none⟩=some (.bool p.core.on)/\w.cell? ⟨g,2,none⟩=some (.bool p.core.broken)/\w.cell? ⟨g,3,none⟩=some S1/\w.cell? ⟨g,4,none⟩=some (.int .i64 p.core.count)/\w.cell? ⟨g,5,none⟩=some S2 /\
  (∀i,w.frozen? ⟨g,i,none⟩=false)/\cu K w g S1 (cS p.core.cells)/\ ∀b,bi S1 b-> ¬bi S2 b:=by
 obtain ⟨S1,q1,q2,q3⟩:=h.bx
 obtain ⟨a,cap,e,z1,z2⟩:=q2.qt
 rw [wm] at e z1
 exact ⟨S1,a,_,cap,e,rfl,z1,z2,by rw [q1.cell];rfl,by rw [q1.cell];rfl,by rw [q1.cell];rfl,by rw [q1.cell];rfl,by rw [q1.cell];rfl,by rw [q1.cell];rfl,q1.frozen,q2,q3⟩
theorem Af(h:j6 w/\NG<=w.heap.size){q:Addr}{v:Value}(hq:NG<=q.block):j6 (w.setCell q v)/\NG<=(w.setCell q v).heap.size:=by
 refine ⟨h.1.keep fun k hk=> ?_,by simpa using h.2⟩
 exact qj (by omega)
theorem PB.set(h:PB K w g S2 p){i:Nat}{v:Value}{q:Part}(hl:q.af=p.af)(hks:q.core.kind.size<=maxLen)(hct:IntKind.i64.min<=q.core.count/\q.core.count<=IntKind.i64.max)
  (hbx: ∀S1,cu K w g S1 (cS p.core.cells)->(∀b,bi S1 b-> ¬bi S2 b)-> ∃lF,(#[Value.string p.core.kind,.bool p.core.on,.bool p.core.broken,S1,.int .i64 p.core.count,S2].setIfInBounds i v)= #[.string q.core.kind,.bool q.core.on,.bool q.core.broken,lF,.int .i64 q.core.count,S2]/\cu K w g lF (cS q.core.cells)/\ ∀b,bi lF b-> ¬bi S2 b) :
  PB K (w.setCell ⟨g,i,none⟩ v) g S2 q:=by
 obtain ⟨S1,q1,q2,q3⟩:=h.bx
 obtain ⟨lF,z1,z2,z3⟩:=hbx S1 q2 q3
 refine ⟨Af h.gi (h.kb _ h.kg).1,fun b hb=>by have:=h.kb b hb;simpa using this,h.kg,⟨lF,by have:=q1.ux i v;rw [z1] at this;exact this,?_,z3⟩,?_,hks,hct⟩
 ·exact z2.keep (fun b ho=>qj (z2.out ho).2.1) fun _ h=>h
 ·rw [hl];exact h.ly.keep (fun b ho=>qj (h.ly.out ho).2.1) fun _ h=>h
theorem PB.BF(h:PB K w g S2 p)(b:Bool):PB K (w.setCell ⟨g,1,none⟩ (.bool b)) g S2 ⟨⟨p.core.kind,b,p.core.broken,p.core.cells,p.core.count⟩,p.af⟩ :=
 h.set rfl h.ks h.ct fun S1 q2 q3=>⟨S1,rfl,q2,q3⟩
theorem PB.Qj(h:PB K w g S2 p)(b:Bool):PB K (w.setCell ⟨g,2,none⟩ (.bool b)) g S2 ⟨⟨p.core.kind,p.core.on,b,p.core.cells,p.core.count⟩,p.af⟩ :=
 h.set rfl h.ks h.ct fun S1 q2 q3=>⟨S1,rfl,q2,q3⟩
theorem PB.II(h:PB K w g S2 p)(n:Int)(hn:IntKind.i64.min<=n/\n<=IntKind.i64.max):PB K (w.setCell ⟨g,4,none⟩ (.int .i64 n)) g S2 ⟨⟨p.core.kind,p.core.on,p.core.broken,p.core.cells,n⟩,p.af⟩ :=
 h.set rfl h.ks hn fun S1 q2 q3=>⟨S1,rfl,q2,q3⟩
theorem PB.setCells(h:PB K w g S2 p){S1:Value}{l:List Cell}(hr:cu K w g S1 (cS l))(ha: ∀b,bi S1 b-> ¬bi S2 b):PB K (w.setCell ⟨g,3,none⟩ S1) g S2 ⟨⟨p.core.kind,p.core.on,p.core.broken,l,p.core.count⟩,p.af⟩ :=
 h.set rfl h.ks h.ct fun S0 q2 q3=>⟨S1,rfl,hr,ha⟩
theorem PB.abU(h:PB K w g S2 p){b o n cap i:Nat}{s:Option Nat}(hc:w.cell? ⟨g,3,none⟩=some (.slice (some ⟨b,o,s⟩) n cap))(hi:i<p.core.cells.length){v:Int}(hv:IntKind.i64.min<=v/\v<=IntKind.i64.max) :
  PB K (w.setCell ⟨b,o+i*2+1,none⟩ (.int .i64 v)) g S2 ⟨⟨p.core.kind,p.core.on,p.core.broken,p.core.cells.set i ⟨(nth p.core.cells i).key,v⟩,p.core.count⟩,p.af⟩:=by
 obtain ⟨S1,q1,q2,q3⟩:=h.bx
 have e:S1= .slice (some ⟨b,o,s⟩) n cap:=by
  rw [q1.cell] at hc
  simpa using hc
 subst e
 obtain ⟨a,cap',e,z1,z2⟩:=q2.qt
 have en:n=(cS p.core.cells).length:=by cases e;rfl
 subst en
 have hil:i<(cS p.core.cells).length:=by rw [wm];exact hi
 have eE:bi (.slice (some ⟨b,o,s⟩) (cS p.core.cells).length cap) b:=⟨o,s,_,cap,rfl,by cases e;omega⟩
 have hb:=q2.out eE
 have hput:=q2.put hil hv
 have hset:(cS p.core.cells).set i ((nth (cS p.core.cells) i).1,v)=cS (p.core.cells.set i ⟨(nth p.core.cells i).key,v⟩):=by
  rw [Pg hi]
  unfold cS
  rw [List.map_set]
 rw [hset] at hput
 refine ⟨Af h.gi (h.kb _ hb.1).1,fun x hx=>by have:=h.kb x hx;simpa using this,h.kg,⟨_,q1.far (fun e=>hb.2.1 e.symm) _,hput,q3⟩,?_,h.ks,h.ct⟩
 exact h.ly.keep (fun x ho=>qj (fun e=>q3 b eE (by have e:x=b:=e;rw [<-e];exact ho))) fun _ h=>h
theorem PB.Pk{b o n cap i:Nat}{s:Option Nat}(h:PB K w g (.slice (some ⟨b,o,s⟩) n cap) p)(hi:i<p.af.length){v:Int}(hv:IntKind.i64.min<=v/\v<=IntKind.i64.max) :
  PB K (w.setCell ⟨b,o+i*2+1,none⟩ (.int .i64 v)) g (.slice (some ⟨b,o,s⟩) n cap) ⟨p.core,p.af.set i ⟨(nth p.af i).name,v⟩⟩:=by
 obtain ⟨S1,q1,q2,q3⟩:=h.bx
 have nN:=h.ly
 obtain ⟨a,cap',e,z1,z2⟩:=nN.qt
 have en:n=(fR p.af).length:=by cases e;rfl
 subst en
 have hil:i<(fR p.af).length:=by rw [oJ];exact hi
 have eE:bi (.slice (some ⟨b,o,s⟩) (fR p.af).length cap) b:=⟨o,s,_,cap,rfl,by cases e;omega⟩
 have hb:=nN.out eE
 have hput:=nN.put hil hv
 have hset:(fR p.af).set i ((nth (fR p.af) i).1,v)=fR (p.af.set i ⟨(nth p.af i).name,v⟩):=by
  rw [Bx hi]
  unfold fR
  rw [List.map_set]
 rw [hset] at hput
 refine ⟨Af h.gi (h.kb _ hb.1).1,fun x hx=>by have:=h.kb x hx;simpa using this,h.kg,⟨S1,q1.far (fun e=>hb.2.1 e.symm) _,?_,q3⟩,hput,h.ks,h.ct⟩
 exact q2.keep (fun x ho=>qj (fun e=>q3 x ho (by have e:x=b:=e;rw [e];exact eE))) fun _ h=>h
theorem PB.lZ(h:PB K w g S2 p):kf w (fun _=>False):=⟨fun _ h=>h.elim,h.gi.1,h.gi.2⟩
end
end
end
section
open Go.RowKit
theorem Z4{w w1:World}{p:Addr}{v:Value}(hb:Below w.heap.size w w1)(h:w.cell? p=some v):w1.cell? p=some v:=by
 rw [hb.cell (block_lt_of_cell h)];exact h
def jr:List (Addr×Value)->World->Prop
 | [],_=>True
 | p::r,w=>w.cell? p.1=some p.2/\jr r w
theorem jr.keep{w w1:World}(hb:Below w.heap.size w w1): ∀{L:List (Addr×Value)},jr L w->jr L w1
 | [],_=>trivial
 | _::_,h=>⟨Z4 hb h.1,jr.keep hb h.2⟩
theorem jr.drew{w:World}: ∀{L:List (Addr×Value)},jr L w->jr L w.drew
 | [],_=>trivial
 | _::_,h=>⟨h.1,jr.drew h.2⟩
def jM(w0:World)(L:List (Addr×Value))(w:World):Prop:=Below w0.heap.size w0 w/\jr L w
theorem jM.start{w0 w:World}{L:List (Addr×Value)}(h:Below w0.heap.size w0 w)(hc:jr L w):jM w0 L w.drew:=⟨h.drew,hc.drew⟩
section
variable {P:Program}{o:Oper}{a:Act}{C:World->Prop}{K:Act->Prop}
theorem DU{v:Value}(h: ∀w,C w->(execOp a.eval o).run P w= .ok (.value v) w)(hK:K (a.put o.dst v)):o.quiet P a C K :=
 ⟨v,fun w hw=>by unfold Oper.quietAt;rw [h w hw];exact ⟨rfl,rfl⟩,hK⟩
theorem DW{id:Nat}{Q:Exit->Act->World->Prop}{w:World}{l:List Oper}{C:World->Prop}(hm:P.follows .mixedOrders=true)(hB:Region.lexB .any l.toArray=true)(hC:C w.drew)
  (h:wpQuiet P l.toArray C (fun a'=> ∀w',C w'->Q .normal a' w') l a):(Code.region id l.toArray true).wp P Q a w :=
 wp_region_quiet (C:=C) hm hB hC (by simpa using h)
end
end
section
open Go.RowKit Go
variable [GC]
theorem sI:(∀{α:Type} {l:List α} {i:Nat} {a:α},l.toArray.setIfInBounds i a=(l.set i a).toArray)/\(∀{α:Type} {x b:α} {xs:List α},(x::xs).set 0 b=b::xs)/\(∀{α:Type} {x:α} {n:Nat} {xs:List α} {b:α},(x::xs).set (n+1) b=x::xs.set n b):=⟨by intros;simp,by intros;rfl,by intros;rfl⟩
theorem ma{w:World}{b:Nat}{T:TypeId}(h:aJ w b T #[.int .i64 0,.int .i64 0,.string ⟨#[]⟩,.int .i64 0,.int .i64 0]):w.cell? ⟨b,0,none⟩=some (.int .i64 0)/\w.cell? ⟨b,1,none⟩=some (.int .i64 0)/\w.cell? ⟨b,2,none⟩=some (.string ⟨#[]⟩)/\w.cell? ⟨b,3,none⟩=some (.int .i64 0)/\w.cell? ⟨b,4,none⟩=some (.int .i64 0)/\ ∀i,w.frozen? ⟨b,i,none⟩=false:=⟨by rw [h.cell];rfl,by rw [h.cell];rfl,by rw [h.cell];rfl,by rw [h.cell];rfl,by rw [h.cell];rfl,h.frozen⟩
def dL(x:Call):Value:= .agg #[.string x.method,.string x.key,.int .i64 x.val,.string x.text]
def rY(r:da):Value:= .agg #[.int .i64 r.code,.int .i64 r.val,.string r.text,.int .i64 r.want,.int .i64 r.had]
structure ni(x:Call):Prop where
  method:x.method.size<=maxLen
  key:x.key.size<=maxLen
  val:IntKind.i64.min<=x.val/\x.val<=IntKind.i64.max
  text:x.text.size<4294967281
def sB(K:Nat->Prop)(w:World)(g:Nat)(S2:Value)(y:Part×da)(e:Ending)(w':World):Prop :=
  e= .returned (rY y.2)/\PB (Gr K w w') w' g S2 y.1/\dY K w w'
def cC(p:Part)(y:Core×da):Part×da:=(⟨y.1,p.af⟩,y.2)
structure St(K:Nat->Prop)(w:World)(g:Nat)(S2:Value)(K':Nat->Prop)(p:Part)(wi:World):Prop where
  pb:PB K' wi g S2 p
  nb:NG<=w.heap.size
  sub: ∀b,K' b->K b\/(w.heap.size<=b/\b<wi.heap.size)
  fr:dY K w wi
section
variable {K K':Nat->Prop}{w wi wj:World}{g:Nat}{S2:Value}{p q:Part}
theorem St.start(h:PB K w g S2 p):St K w g S2 K p w:=⟨h,h.gi.2,fun b hb=> .inl hb,dY.refl _ _⟩
theorem dY.bQ{a b c:World}(h:dY K a b)(k:Below b.heap.size b c):dY K a c :=
  ⟨k.os.trans h.os,k.tape.trans h.tape,k.output.trans h.output,Nat.le_trans h.size k.size,fun i hi hn=>(k.block i (Nat.lt_of_lt_of_le hi h.size)).trans (h.block i hi hn)⟩
theorem St.below(h:St K w g S2 K' p wi)(hb:Below wi.heap.size wi wj):St K w g S2 K' p wj :=
  ⟨h.pb.below hb,h.nb,fun b hk=>(h.sub b hk).imp id fun h=>⟨h.1,Nat.lt_of_lt_of_le h.2 hb.size⟩,h.fr.bQ hb⟩
theorem PB.far(h:PB K w g S2 p){a:Addr}(v:Value)(ha: ¬K a.block)(hn:NG<=a.block):PB K (w.setCell a v) g S2 p:=by
  obtain ⟨S1,q1,q2,q3⟩:=h.bx
  refine ⟨Af h.gi hn,fun b hb=>by have:=h.kb b hb;simpa using this,h.kg,⟨S1,q1.far (fun e=>ha (by rw [<-e];exact h.kg)) v,?_,q3⟩,?_,h.ks,h.ct⟩
  · exact q2.keep (fun b ho=>qj fun e=>ha (by rw [<-e];exact (q2.out ho).1)) fun _ h=>h
  · exact h.ly.keep (fun b ho=>qj fun e=>ha (by rw [<-e];exact (h.ly.out ho).1)) fun _ h=>h
theorem dY.BM{a b:World}(h:dY K a b){q:Addr}(v:Value)(hq:K q.block\/a.heap.size<=q.block):dY K a (b.setCell q v) :=
  ⟨h.os,h.tape,h.output,by simpa using h.size,fun i hi hn=>(qj (fun e=>by rcases hq with hq|hq;exact hn (e▸hq);omega)).trans (h.block i hi hn)⟩
theorem St.far(h:St K w g S2 K' p wi){a:Addr}(v:Value)(ha: ¬K' a.block)(hw:w.heap.size<=a.block):St K w g S2 K' p (wi.setCell a v) :=
  ⟨h.pb.far v ha (Nat.le_trans h.nb hw),h.nb,fun b hk=>by simpa using h.sub b hk,h.fr.BM v (.inr hw)⟩
theorem St.put(h:St K w g S2 K' p wi){a:Addr}{v:Value}(ha:K' a.block)(hp:PB K' (wi.setCell a v) g S2 q):St K w g S2 K' q (wi.setCell a v) :=
  ⟨hp,h.nb,fun b hk=>by simpa using h.sub b hk,h.fr.BM v ((h.sub _ ha).imp id fun h=>h.1)⟩
theorem St.call(h:St K w g S2 K' p wi)(hp:PB (Gr K' wi wj) wj g S2 q)(hf:dY K' wi wj):St K w g S2 (Gr K' wi wj) q wj :=
  ⟨hp,h.nb,fun b hk=>by
    rcases hk with hk|hk
    · exact (h.sub b hk).imp id fun z=>⟨z.1,Nat.lt_of_lt_of_le z.2 hf.size⟩
    · exact .inr ⟨Nat.le_trans h.fr.size hk.1,hk.2⟩,
   ⟨hf.os.trans h.fr.os,hf.tape.trans h.fr.tape,hf.output.trans h.fr.output,Nat.le_trans h.fr.size hf.size,fun i hi hn=>(hf.block i (Nat.lt_of_lt_of_le hi h.fr.size) fun hk=>by rcases h.sub i hk with hk|hk;exact hn hk;omega).trans (h.fr.block i hi hn)⟩⟩
theorem St.done(h:St K w g S2 K' p wi)(hp:PB K w g S2 q){r:da}:sB K w g S2 (p,r) (.returned (rY r)) wi :=
  ⟨rfl,h.pb.mono h.sub fun b hb=>by
    rcases hb with hb|hb
    · have:=hp.kb b hb;exact ⟨this.1,Nat.lt_of_lt_of_le this.2 h.fr.size⟩
    · exact ⟨Nat.le_trans h.nb hb.1,hb.2⟩,h.fr⟩
end
def aY:Array Value:= #[.int .i64 0,.int .i64 0,.string ⟨#[]⟩,.int .i64 0,.int .i64 0]
theorem iL{K K':Nat->Prop}{w wi:World}{g b:Nat}{S2:Value}{p q:Part}(hS:St K w g S2 K' p wi)(h:PB K w g S2 q)(hR:aJ wi b 39 aY)(hb:w.heap.size<=b)(hk: ¬K' b)(r:da) :
    aJ (((((wi.setCell ⟨b,0,none⟩ (.int .i64 r.code)).setCell ⟨b,1,none⟩ (.int .i64 r.val)).setCell ⟨b,2,none⟩ (.string r.text)).setCell ⟨b,3,none⟩ (.int .i64 r.want)).setCell ⟨b,4,none⟩ (.int .i64 r.had)) b 39 #[.int .i64 r.code,.int .i64 r.val,.string r.text,.int .i64 r.want,.int .i64 r.had] /\
    sB K w g S2 (p,r) (.returned (rY r)) (((((wi.setCell ⟨b,0,none⟩ (.int .i64 r.code)).setCell ⟨b,1,none⟩ (.int .i64 r.val)).setCell ⟨b,2,none⟩ (.string r.text)).setCell ⟨b,3,none⟩ (.int .i64 r.want)).setCell ⟨b,4,none⟩ (.int .i64 r.had)) :=
  ⟨((((hR.ux 0 (.int .i64 r.code)).ux 1 (.int .i64 r.val)).ux 2 (.string r.text)).ux 3 (.int .i64 r.want)).ux 4 (.int .i64 r.had),
   (((((hS.far (a:=⟨b,0,none⟩) _ hk hb).far (a:=⟨b,1,none⟩) _ hk hb).far (a:=⟨b,2,none⟩) _ hk hb).far (a:=⟨b,3,none⟩) _ hk hb).far (a:=⟨b,4,none⟩) _ hk hb).done h⟩
theorem toList_inj{a b:ByteArray}(h:a.toList=b.toList):a=b:=by
  have:=wM a b
  rw [h] at this
  simpa using this.symm
theorem Pt{P:Program}{id:Nat}{Q:Exit->Act->World->Prop}{a:Act}{w:World}{l:List Oper}(hm:P.follows .mixedOrders=true)(hB:Region.lexB .any l.toArray=true)
    (h: ∀wd:World,wd.heap=w.heap->Below w.heap.size w wd->wpStill P l.toArray wd (fun a'=>Q .normal a' wd) l a):(Code.region id l.toArray true).wp P Q a w :=
  wp_region_still_lit hm hB (h _ rfl ⟨rfl,rfl,rfl,Nat.le_refl _,fun _ _=>rfl⟩)
theorem Pu{P:Program}{id:Nat}{Q:Exit->Act->World->Prop}{a:Act}{w:World}{l:List Oper}(n:Nat)(hm:P.follows .mixedOrders=true)(hB:Region.lexTailB .any l.toArray n=true)
    (h: ∀wd:World,wd.heap=w.heap->Below w.heap.size w wd->wpStill P l.toArray wd (fun a'=>wpList P l.toArray Q (l.drop n) a' wd) (l.take n) a):(Code.region id l.toArray true).wp P Q a w :=
  wp_region_still_tail n hm hB (h _ rfl ⟨rfl,rfl,rfl,Nat.le_refl _,fun _ _=>rfl⟩)
theorem UL(n:Nat)(hn:n<64):bits .and .i64 (n:Int) 1=if n.testBit 0 then 1 else 0:=by
  rw [show (1:Int)=((1:Nat):Int) from rfl,Zr n 1 (by omega) (by omega),Nat.and_one_is_mod]
  simp [Nat.testBit_zero]
  split<;>omega
theorem ai0{K:Nat->Prop}{w:World}{g:Nat}{S2:Value}{p:Part}(h:PB K w g S2 p)(s:ByteArray)(hs:s.size<=maxLen)(w0:World)(hb:Below w.heap.size w w0) :
    Calls Tryz.prog 90 #[.string s] w0 fun e w'=>e= .returned (.tuple #[.int .i64 (dO s),.bool (kindOk s)])/\Below w0.heap.size w0 w':=by
  refine (aD.calls (E4 s) (vs:=[.string s]) (h.below hb).lZ ⟨_,[],rfl,⟨rfl,hs⟩,rfl⟩).mono ?_
  rintro e w' ⟨v,rfl,⟨cs,rfl,v1,r1,e1,⟨rfl,_⟩,v2,r2,rfl,rfl,rfl⟩,h3⟩
  have:cs= #[.int .i64 (dO s),.bool (kindOk s)]:=by rw [<-Array.toList_inj,e1]
  subst this
  exact ⟨rfl,h3⟩
theorem BW{K:Nat->Prop}{w:World}{g:Nat}{S2:Value}{p:Part}(h:PB K w g S2 p)(n:Int)(hn:IntKind.i64.min<=n/\n<=IntKind.i64.max) :
    Calls Tryz.prog 74 #[.int .i64 n] w fun e w'=>e= .returned (.int .i64 (bR n))/\Below w.heap.size w w'/\(IntKind.i64.min<=bR n/\bR n<=IntKind.i64.max):=by
  refine (aD.calls (Vq n) (vs:=[.int .i64 n]) h.lZ ⟨_,[],rfl,⟨rfl,hn⟩,rfl⟩).mono ?_
  rintro e w' ⟨v,rfl,⟨rfl,h1⟩,h3⟩
  exact ⟨rfl,h3,h1⟩
def eM(l:List (ByteArray×Int)):List Value:=l.flatMap fun x=>[.string x.1,.int .i64 x.2]
theorem LU(l:List (ByteArray×Int)):(eM l).length=l.length*2:=by
  induction l with
  | nil=>rfl
  | cons a t ih=>simp only [eM,List.flatMap_cons,List.length_append,List.length_cons,List.length_nil] at ih ⊢;rw [ih];omega
theorem tI(l:List (ByteArray×Int)): ∀u∈eM l,u.oneCell'=true:=fun u hu=>by
  obtain ⟨x,_,hx⟩:=List.mem_flatMap.1 hu
  simp at hx
  rcases hx with rfl|rfl<;>rfl
theorem Xn(l m:List (ByteArray×Int)):eM (l++m)=eM l++eM m:=by simp [eM]
theorem LS: ∀(l:List (ByteArray×Int)) (j:Nat) (u:Value),(eM l)[j]? =some u-> ∃i,i<l.length/\((j=i*2/\u= .string (nth l i).1)\/(j=i*2+1/\u= .int .i64 (nth l i).2))
  | [],j,u,h=>by simp [eM] at h
  | x::r,j,u,h=>by
    have e:eM (x::r)= .string x.1:: .int .i64 x.2::eM r:=rfl
    rw [e] at h
    match j,h with
    | 0,h=>simp at h;exact ⟨0,by simp,.inl ⟨rfl,by rw [<-h,vY]⟩⟩
    | 1,h=>simp at h;exact ⟨0,by simp,.inr ⟨rfl,by rw [<-h,vY]⟩⟩
    | j+2,h =>
      obtain ⟨i,hi,h2⟩:=LS r j u (by simpa using h)
      refine ⟨i+1,by simpa using hi,?_⟩
      rw [y5]
      rcases h2 with ⟨a,b⟩|⟨a,b⟩
      · exact .inl ⟨by omega,b⟩
      · exact .inr ⟨by omega,b⟩
theorem cu.flat{K:Nat->Prop}{w:World}{g:Nat}{ad:Addr}{n cap:Nat}{l:List (ByteArray×Int)}(h:cu K w g (.slice (some ad) n cap) l)(k:Nat): ∀j u,(eM (l.drop k))[j]? =some u->w.cell? (ad.add (k*2+j))=some u:=fun j u hu=>by
  obtain ⟨i,hi,h2⟩:=LS _ j u hu
  have hi':k+i<l.length:=by simp at hi;omega
  have hn:nth (l.drop k) i=nth l (k+i):=by simp [nth,List.getD_eq_getElem?_getD]
  obtain ⟨b,o,cp,e,_,_,_,c0,c1,_⟩:=h.at hi'
  simp only [Value.slice.injEq,Option.some.injEq] at e
  obtain ⟨rfl,_,_⟩:=e
  rw [Addr.add_lit]
  rw [hn] at h2
  rcases h2 with ⟨rfl,rfl⟩|⟨rfl,rfl⟩
  · rw [<-c0];congr 2;omega
  · rw [<-c1];congr 2;omega
theorem cu.Xo{K:Nat->Prop}{w:World}{g:Nat}{ad:Addr}{n cap:Nat}{l:List (ByteArray×Int)}(h:cu K w g (.slice (some ad) n cap) l)(k:Nat): ∀j u,(eM (l.take k))[j]? =some u->w.cell? (ad.add j)=some u:=fun j u hu=>by
  have e:eM l=eM (l.take k)++eM (l.drop k):=by rw [<-Xn,List.take_append_drop]
  have:=h.flat 0 j u (by rw [List.drop_zero,e,List.getElem?_append_left (List.getElem?_eq_some_iff.1 hu).1];exact hu)
  simpa using this
theorem UJ(a:Addr)(m j:Nat):(a.add m).add j=a.add (m+j):=by
  obtain ⟨b,o,s⟩:=a
  unfold Addr.add
  by_cases h1:m=0
  · subst h1;simp
  · by_cases h2:j=0
    · subst h2;simp [h1]
    · simp [h1,h2,Nat.add_assoc]
theorem y8{w:World}{B n sz:Nat}{e:TypeId}{v:Value}{xs:List Value}(h:w.ownsRow B e sz v n xs): ∃a c,v= .slice a n c:=by
  obtain ⟨_,⟨rfl,rfl⟩|⟨g',cap,cur,rfl,_⟩⟩:=h
  · exact ⟨_,_,rfl⟩
  · exact ⟨_,_,rfl⟩
theorem qd{w:World}{xs:List Value}{T:TypeId}: ∀(j:Nat) (u:Value),xs[j]? =some u->(w.alloc (.cells xs.toArray T)).cell? ((⟨w.heap.size,0,Option.none⟩:Addr).add j)=some u:=fun j u h=>by
  rw [Addr.add_lit]
  unfold World.cell?
  have:(w.alloc (.cells xs.toArray T)).heap[w.heap.size]? =some (.cells xs.toArray T (0,0)):=heap_alloc_new w _
  simp only [this]
  simpa using h
theorem O3{w w':World}{B n sz:Nat}{e:TypeId}{v:Value}{xs:List Value}(h:w.ownsRow B e sz v n xs)(hb:Below w.heap.size w w'):w'.ownsRow B e sz v n xs:=by
  obtain ⟨h0,h|⟨g',cap,cur,h1,h2,h3,h4⟩⟩:=h
  · exact ⟨h0,.inl h⟩
  · exact ⟨h0,.inr ⟨g',cap,cur,h1,h2,by rw [hb.block g' (Array.getElem?_eq_some_iff.1 h3).1];exact h3,h4⟩⟩
theorem mX{P:Program}{ops:Array Oper}{o:Oper}{a:Act}{w w0:World}{K:Act->World->Prop}{Q:Exit->Act->World->Prop}{E:Prop}
    (hg:o.guard=none) (s x:Operand) (t:TypeId) (hop:o.op=Op.call {callee:=Callee.builtin Builtin.append,args:= #[s,x],argTypes:= #[t,t]})
    (e:TypeId) (i:TypeInfo) (z:Value) (size bytes:Nat) (ht:P.underlying t=some (.slice e)) (hi:P.info? e=some i) (hz:i.zero=some z)
    (hsize:i.size=size) (hby:i.bytes=bytes) (hzs:z.cells.size=size) (hsz:0<size)
    (v:Value) (n:Nat) (xs:List Value) (hs:a.eval s=v) (hown:w.ownsRow w0.heap.size e size v n xs)
    (ad:Addr) (m c:Nat) (news:List Value) (hx:a.eval x= .slice (some ad) m c) (hl:news.length=m*size) (hnews: ∀j u,news[j]? =some u->w.cell? (ad.add j)=some u) (h1: ∀u∈news,u.oneCell'=true)
    (h63:n+m<=maxLen) (hbytes:(n+m)*bytes<=140737488355328) (hb0:Below w0.heap.size w0 w)
    (hK: ∀v' w',w'.ownsRow w0.heap.size e size v' (n+m) (xs++news)->Below w0.heap.size w0 w'->(v.ownBlock=none->Below w.heap.size w w')->K (a.put o.dst v') w') :
    if Region.wanted o (yielded ops a.tmps)=true then Oper.wp P o a w K Q else E:=by
  have hw:Region.wanted o (yielded ops a.tmps)=true:=by simp [Region.wanted,hg]
  rw [if_pos hw]
  obtain ⟨v',w',hr,h2,h3,h4,h5⟩:=run_append_own_at (P:=P) w w0.heap.size t o.type e i z size bytes ht hi hz hsize hby hzs hsz v n xs hown ad m c news hl hnews h1 h63 hbytes hb0.size
  unfold Oper.wp execOp
  simp only [hop,resolve,invoke,builtin,Sem.run_bind,Sem.run_pure,Result.andThen_ok,List.map_toArray,List.map_cons,List.map_nil,hs,hx,hr]
  refine hK _ _ h2 ?_ fun hn=>⟨h3.os,h3.tape,h3.output,h3.size,fun k hk=>h3.block k hk (by rw [hn];simp)⟩
  refine ⟨h3.os.trans hb0.os,h3.tape.trans hb0.tape,h3.output.trans hb0.output,Nat.le_trans hb0.size h3.size,fun k hk=> ?_⟩
  rw [h3.block k (Nat.lt_of_lt_of_le hk hb0.size) (fun e=> ?_)]
  · exact hb0.block k hk
  · obtain ⟨_,⟨rfl,_⟩|⟨g',cap,cur,rfl,hge,_⟩⟩:=hown
    · cases e
    · have e:some k=some g':=e
      cases e;omega
theorem aJ.bV{K:Nat->Prop}{w w':World}{b:Nat}{T:TypeId}{cs:Array Value}(h:aJ w b T cs)(hf:dY K w w')(hk: ¬K b):aJ w' b T cs:=(hf.block b h.lt hk).trans h
def Tu:Prop:= ∀(K:Nat->Prop) (w:World) (g:Nat) (S2:Value) (p:Part) (x:Call),PB K w g S2 p->ni x ->
  Calls Tryz.prog 94 #[.pointer (some ⟨g,0,none⟩),dL x] w (sB K w g S2 (cC p (keepD p.core x)))
def EC:Prop:= ∀(K:Nat->Prop) (w:World) (g:Nat) (S2:Value) (p:Part) (x:Call),PB K w g S2 p->ni x ->
  Calls Tryz.prog 72 #[.pointer (some ⟨g,0,none⟩),dL x] w (sB K w g S2 (cC p (bJ p.core x)))
end
section
open Go.RowKit Go
variable [GC]
theorem PB.lay{K:Nat->Prop}{w:World}{g b o n cap k:Nat}{p:Part}(h:PB K w g (.slice (some ⟨b,o,none⟩) n cap) p)(hk:k<p.af.length) :
    w.cell? ⟨b,o+k*2,none⟩=some (.string (nth p.af k).name)/\w.cell? ⟨b,o+k*2+1,none⟩=some (.int .i64 (nth p.af k).count)/\(∀i,w.frozen? ⟨b,i,none⟩=false)/\K b/\b≠g/\(IntKind.i64.min<=(nth p.af k).count/\(nth p.af k).count<=IntKind.i64.max):=by
  have hi:k<(fR p.af).length:=by rw [oJ];exact hk
  obtain ⟨b',o',cp,e,h1,h2,h3,h4,h5,h6,h7⟩:=h.ly.at hi
  simp only [Value.slice.injEq,Option.some.injEq,Addr.mk.injEq,and_true] at e
  obtain ⟨⟨rfl,rfl⟩,_,_⟩:=e
  rw [Bx hk] at h4 h5
  have:=h.ly.okn hi
  rw [Bx hk] at this
  exact ⟨h4,h5,fun i=>h6 i none,h1,h2,this.2⟩
structure Loc(w:World)(g k:Nat)(x:Call)(K':Nat->Prop)(wi:World):Prop where
  b0:aJ wi w.heap.size 73 #[.pointer (some ⟨g,0,none⟩)]
  b1:aJ wi (w.heap.size+1) 3 #[.int .i64 ((k+1:Nat):Int)]
  b2:aJ wi (w.heap.size+1+1) 43 #[.string x.method,.string x.key,.int .i64 x.val,.string x.text]
  b3:aJ wi (w.heap.size+1+1+1) 39 aY
  n0: ¬K' w.heap.size
  n1: ¬K' (w.heap.size+1)
  n2: ¬K' (w.heap.size+1+1)
  n3: ¬K' (w.heap.size+1+1+1)
theorem Loc.below{w wi wj:World}{g k:Nat}{x:Call}{K':Nat->Prop}(h:Loc w g k x K' wi)(hb:Below wi.heap.size wi wj):Loc w g k x K' wj :=
  {h with b0:=h.b0.below hb h.b0.lt,b1:=h.b1.below hb h.b1.lt,b2:=h.b2.below hb h.b2.lt,b3:=h.b3.below hb h.b3.lt}
theorem Loc.call{w wi wj:World}{g k:Nat}{x:Call}{K':Nat->Prop}(h:Loc w g k x K' wi)(hf:dY K' wi wj):Loc w g k x (Gr K' wi wj) wj :=
  ⟨h.b0.bV hf h.n0,h.b1.bV hf h.n1,h.b2.bV hf h.n2,h.b3.bV hf h.n3,
   fun q=>by rcases q with q|q;exact h.n0 q;have:=h.b0.lt;omega,fun q=>by rcases q with q|q;exact h.n1 q;have:=h.b1.lt;omega,
   fun q=>by rcases q with q|q;exact h.n2 q;have:=h.b2.lt;omega,fun q=>by rcases q with q|q;exact h.n3 q;have:=h.b3.lt;omega⟩
theorem Loc.far{w wi:World}{g k:Nat}{x:Call}{K':Nat->Prop}(h:Loc w g k x K' wi){a:Addr}(v:Value)(ha:a.block<w.heap.size\/w.heap.size+4<=a.block):Loc w g k x K' (wi.setCell a v) :=
  {h with b0:=h.b0.far (by omega) v,b1:=h.b1.far (by omega) v,b2:=h.b2.far (by omega) v,b3:=h.b3.far (by omega) v}
theorem Loc.cells{w wi:World}{g k:Nat}{x:Call}{K':Nat->Prop}(h:Loc w g k x K' wi) :
    wi.cell? ⟨w.heap.size,0,none⟩=some (.pointer (some ⟨g,0,none⟩))/\wi.cell? ⟨w.heap.size+1,0,none⟩=some (.int .i64 ((k+1:Nat):Int)) /\
    wi.cell? ⟨w.heap.size+1+1,0,none⟩=some (.string x.method)/\wi.cell? ⟨w.heap.size+1+1,1,none⟩=some (.string x.key)/\wi.cell? ⟨w.heap.size+1+1,2,none⟩=some (.int .i64 x.val)/\wi.cell? ⟨w.heap.size+1+1,3,none⟩=some (.string x.text):=by
  refine ⟨?_,?_,?_,?_,?_,?_⟩
  · rw [h.b0.cell];rfl
  · rw [h.b1.cell];rfl
  · rw [h.b2.cell];rfl
  · rw [h.b2.cell];rfl
  · rw [h.b2.cell];rfl
  · rw [h.b2.cell];rfl
def dV(r:da):Array Value:= #[.int .i64 r.code,.int .i64 r.val,.string r.text,.int .i64 r.want,.int .i64 r.had]
def xd(k:Nat):Prop:= ∀(K:Nat->Prop) (w:World) (g:Nat) (S2:Value) (p:Part) (x:Call),PB K w g S2 p->ni x->k<=p.af.length ->
  Calls Tryz.prog 41 #[.pointer (some ⟨g,0,none⟩),.int .i64 ((k:Nat):Int),dL x] w (sB K w g S2 (aA k p x))
theorem Bw{m:ByteArray}(h:m.size<=maxLen):ni (br m):=⟨h,show cI.size<=maxLen by unfold maxLen;decide,show IntKind.i64.min<=(0:Int)/\(0:Int)<=IntKind.i64.max by decide,show cI.size<4294967281 by decide⟩
theorem Loc.mine{w wi:World}{g k:Nat}{x:Call}{K':Nat->Prop}(h:Loc w g k x K' wi){a:Addr}(v:Value)(ha:K' a.block):Loc w g k x K' (wi.setCell a v) :=
  {h with b0:=h.b0.far (fun e=>h.n0 (by rw [e];exact ha)) v,b1:=h.b1.far (fun e=>h.n1 (by rw [e];exact ha)) v,b2:=h.b2.far (fun e=>h.n2 (by rw [e];exact ha)) v,b3:=h.b3.far (fun e=>h.n3 (by rw [e];exact ha)) v}
theorem aJ.rep{w:World}{b:Nat}{r:da}(h:aJ w b 39 (dV r)):w.cell? ⟨b,0,none⟩=some (.int .i64 r.code)/\w.cell? ⟨b,1,none⟩=some (.int .i64 r.val)/\w.cell? ⟨b,2,none⟩=some (.string r.text)/\w.cell? ⟨b,3,none⟩=some (.int .i64 r.want)/\w.cell? ⟨b,4,none⟩=some (.int .i64 r.had)/\ ∀i,w.frozen? ⟨b,i,none⟩=false:=by
  refine ⟨?_,?_,?_,?_,?_,h.frozen⟩<;>(rw [h.cell];rfl)
set_option maxHeartbeats 60000000 in
theorem BJ{k:Nat}(IH:xd k){K:Nat->Prop}{w:World}{g:Nat}{S2:Value}{p:Part}(h:PB K w g S2 p)(hk:k<=p.af.length){m:ByteArray}(hm:m.size<=maxLen){b0 b1:Nat}
    (c0:w.cell? ⟨b0,0,none⟩=some (.pointer (some ⟨g,0,none⟩))) (c1:w.cell? ⟨b1,0,none⟩=some (.int .i64 ((k+1:Nat):Int))) :
    Calls Tryz.prog 73 #[.string m,.pointer (some ⟨b0,0,none⟩),.pointer (some ⟨b1,0,none⟩)] w (sB K w g S2 (aA k p (br m))):=by
  have H:=Lib.hid h
  have hB:Below w.heap.size w (w.alloc (.cells aY 39)):=by go_grown
  have d0:=ax hB c0
  have d1:=ax hB c1
  have HS:=Lib.hid ((St.start h).below hB)
  have HR:=Lib.hid (aJ.new w 39 aY)
  have hkr: ¬K w.heap.size:=fun hk=>by have:=(h.kb _ hk).2;omega
  have HC:=Lib.hid (IH K _ g S2 p (br m) HS.out.pb (Bw hm) hk)
  have hw:wrap64 (k:Int)=(k:Int):=by
    obtain ⟨a,cap,_,h1,h2⟩:=h.ly.qt
    rw [oJ] at h1
    unfold maxLen at h2
    unfold wrap64;omega
  unfold dL br at HC
  unfold aY at d0 d1
  clear h hB IH
  go_enter Tryz.func73,Tryz.ntmps73
  go_wp2_with fail
  refine HC.out.mono ?_
  rintro e w5 ⟨rfl,ij,eu⟩
  have A5:=Lib.hid (HS.out.call ij eu)
  have iR:=Lib.hid (HR.out.bV eu hkr)
  have lR: ¬Gr K (w.alloc (.cells aY 39)) w5 w.heap.size:=by rintro (h|h);exact hkr h;have:=HR.out.lt;omega
  clear ij eu
  have fZ:=iR.out;obtain ⟨mR,mS,mT,mU,mV,mW⟩:=ma (w:=w5) (b:=w.heap.size) fZ
  unfold rY
  go_wp2
  obtain ⟨q1,q2⟩:=iL A5.out H.out iR.out (by omega) lR (aA k p (br m)).2
  refine bodyPost_ret (iF rfl _ _ _ rfl q1 Tryz.underlying39 rfl (by kernel_rfl)) rfl q2
end
end Go.Proofs.YtimickglpboilaaGreatDoor
